/- The program's log: Restart. -/
import Derived.Test.YtiojkakmlbfiiaaRw9
namespace Go.Proofs.Ytiojkakmlbfiiaa
open Go.RowKit
open Sp

section
variable {w : World} {bl bd bo bm sz : Nat} {g : Lg} {v : Value} {d : Dv}

theorem framesL_take_le (l : List ByteArray) (k : Nat) : (framesL (l.take k)).length ≤ (framesL l).length := by
  conv => rhs; rw [← List.take_append_drop k l, framesL_append, List.length_append]
  omega

set_option maxHeartbeats 4000000 in
set_option maxRecDepth 100000 in
theorem restart_c (h : LogAt w bl bd bo bm sz g v) (hD : DevAt w bd bo bm d) (hsz : sz = (d.on.length - 2) / 2) (hc : g.count + 1 ≤ 9223372036854775807)
    (pv : Value) (fp : Option Nat) (l : List ByteArray) (hp : SliceAt w pv fp (strVals l)) (hpn : ∀ b, fp = some b → b ≠ bl) (hl : l.length ≤ 1048576) (hls : ∀ s ∈ l, s.size ≤ 9223372036854775807) :
    Calls Try.prog 10 #[.pointer (some ⟨bl, 0, none⟩), pv] w fun e w' => ∃ v', e = .returned (.int .i64 (g.restart d l).2.2) ∧
      LogAt w' bl bd bo bm sz (g.restart d l).1 v' ∧ Moved w v v' ∧ DevAt w' bd bo bm (g.restart d l).2.1 ∧ Fr [bd, bo, bm, bl] w w' := by
  obtain ⟨va, vc, rfl⟩ := own_shape h.own
  obtain ⟨pa, pc, rfl⟩ : ∃ a c, pv = .slice a l.length c := by
    rcases hp with ⟨h1, _, a, c, rfl⟩ | ⟨b, o, c, _, rfl, _⟩
    · refine ⟨a, c, ?_⟩
      have : l = [] := by simpa [strVals] using h1
      rw [this]; rfl
    · exact ⟨some ⟨b, o, none⟩, c, by simp [strVals]⟩
  obtain ⟨RS, hRS⟩ : ∃ RS, g.restart d l = RS := ⟨_, rfl⟩
  rw [hRS]
  have HRS := Lib.hid hRS
  have HH := Lib.hid h
  have HD := Lib.hid hD
  have HP := Lib.hid hp
  have HSZ := Lib.hid hsz
  have hs1 := h.sz1
  have l1 := (raw_cells h.blk).2.1
  have l6 := (raw_cells h.blk).2.2.2.2.2.2.1
  have f6 := h.blk.free 6
  have hblt := h.blk.lt
  have hN : bl ≠ bd ∧ bl ≠ bo ∧ bl ≠ bm := ⟨by have := h.n1; omega, by have := h.n2; omega, by have := h.n3; omega⟩
  have HN := Lib.hid hN
  have hcl := clone_c w (.slice pa l.length pc) fp l hp hl
  have HCL := Lib.hid hcl
  clear h hD hp hRS hsz hcl hN
  go_enter Try.func10, Try.ntmps10
  go_wp2
  go_loop [5, 12] (fun long i => ∃ k : Nat, k ≤ l.length ∧ i = .int .i64 k ∧ long = .int .i64 ((framesL (l.take k)).length : Nat) ∧ Hid (∀ s ∈ l.take k, s.size ≤ 4096)) (fun _ i => l.length - (intOf i).toNat)
  case atStart => exact ⟨0, Nat.zero_le _, rfl, rfl, Lib.hid (by simp)⟩
  case round =>
    obtain ⟨k, hk, rfl, rfl, hS⟩ := hrel
    have hb := framesL_len (l.take k) hS.out
    have hlk : (l.take k).length = k := by rw [List.length_take]; omega
    rw [hlk] at hb
    by_cases hlt : k < l.length
    · obtain ⟨x, hx⟩ : ∃ x, l[k]? = some x := ⟨_, List.getElem?_eq_getElem hlt⟩
      obtain ⟨sb, so, rfl, hcell⟩ : ∃ b o, pa = some ⟨b, o, none⟩ ∧ w.cell? ⟨b, o + k, none⟩ = some (.string x) := by
        rcases HP.out with ⟨h1, _, _⟩ | ⟨b, o, c', _, hv, hcell⟩
        · have h2 : l = [] := by simpa [strVals] using h1
          rw [h2] at hlt; simp at hlt
        · simp only [Value.slice.injEq] at hv
          exact ⟨b, o, hv.1, hcell k _ (by rw [strVals, List.getElem?_map, hx]; rfl)⟩
      have hsn := framesL_snoc l k x hx
      have hxs := hls x (List.mem_of_getElem? hx)
      have hfl := frameL_len x.data.toList
      have hxl : x.data.toList.length = x.size := rfl
      rw [hxl] at hfl
      have HSN : Hid ((framesL (l.take (k + 1))).length = (framesL (l.take k)).length + (x.size + 6)) := Lib.hid (by rw [hsn, List.length_append, hfl])
      by_cases h4 : 4096 < x.size
      · have h4' : (4096 : Int) < (x.size : Int) := by omega
        have HRR : Hid (RS = (g, d, 2)) := Lib.hid (by
          rw [← HRS.out]; unfold Lg.restart
          rw [if_pos (List.any_eq_true.2 ⟨x, List.mem_of_getElem? hx, by simpa using h4⟩)])
        clear hx hsn hfl
        go_wp2
        go_ret
        rw [HRR.out]
        first | exact ⟨_, rfl, HH.out, Or.inl rfl, HD.out, Fr.refl _ _⟩ | exact ⟨rfl, _, HH.out, Or.inl rfl, HD.out, Fr.refl _ _⟩
      · have h4' : (x.size : Int) ≤ 4096 := by omega
        have HS2 : Hid (∀ s ∈ l.take (k + 1), s.size ≤ 4096) := Lib.hid (by
          intro s hs
          have hk2 : l[k]? = some x := hx
          rw [List.take_add_one, hk2] at hs
          rcases List.mem_append.1 hs with h | h
          · exact hS.out s h
          · simp at h; rw [h]; omega)
        clear hx hsn hfl
        generalize (framesL (l.take k)).length = L at *
        go_wp2
        go_round
        case rel => exact ⟨k + 1, by omega, by go_num, by rw [HSN.out]; go_num, HS2⟩
        case measure => simp [intOf]; omega
    · obtain rfl : k = l.length := by omega
      rw [List.take_length] at hb hS ⊢
      have hnl : ¬ (l.any fun t => decide (4096 < t.size)) = true := by
        intro e
        obtain ⟨x, hx, h⟩ := List.any_eq_true.1 e
        have := hS.out x hx
        simp at h; omega
      have har : areaOf d.on.length = 64 * sz := by rw [areaOf, HSZ.out]
      by_cases h5 : 64 * sz < (framesL l).length
      · have HRR : Hid (RS = (g, d, 100)) := Lib.hid (by
          rw [← HRS.out]; unfold Lg.restart
          rw [if_neg hnl, if_pos (by rw [har]; exact h5)])
        have h5' : 64 * (sz : Int) < ((framesL l).length : Int) := by omega
        generalize (framesL l).length = L at *
        go_wp2
        go_ret
        rw [HRR.out]
        first | exact ⟨_, rfl, HH.out, Or.inl rfl, HD.out, Fr.refl _ _⟩ | exact ⟨rfl, _, HH.out, Or.inl rfl, HD.out, Fr.refl _ _⟩
      · obtain ⟨R, hR⟩ : ∃ R, d.settle (1 - g.area) 0 g.count [] (framesL l) = R := ⟨_, rfl⟩
        have HRR : Hid (RS = if R.2 = 0 then ({ count := g.count + 1, area := 1 - g.area, bytes := framesL l, texts := l, many := l.length }, R) else (g, R)) := Lib.hid (by
          rw [← HRS.out]; unfold Lg.restart
          rw [if_neg hnl, if_neg (by rw [har]; exact h5), hR])
        have h5' : ((framesL l).length : Int) ≤ 64 * (sz : Int) := by omega
        have H5 : Hid (¬ 64 * sz < (framesL l).length) := Lib.hid h5
        have h6 := framesL_six l
        have hl2 : l.length ≤ 10912 := by omega
        have HR := Lib.hid hR
        have hL0 : Hid ((framesL l).length = (framesL l).length) := Lib.hid rfl
        obtain ⟨L, hL⟩ : ∃ L, (framesL l).length = L := ⟨_, rfl⟩
        have HL := Lib.hid hL
        rw [hL] at h5' hb ⊢
        clear h5 hnl har h6 hR hL
        have harea := HH.out.wf.area
        have hone := HH.out.wf.one
        by_cases hR0 : R.2 = 0
        · have HR0 := Lib.hid hR0
          clear hR0
          go_wp2_with (go_at_call 21; refine HCL.out.mono ?_; rintro e w1 ⟨nv, rfl, hown, hF1⟩
                       obtain ⟨na, nc, rfl⟩ := own_shape hown
                       have HO := Lib.hid hown
                       have HB1 := Lib.hid (HH.out.blk.fr hF1 (by simp))
                       have l6' := (raw_cells HB1.out).2.2.2.2.2.2.1
                       have f6' := HB1.out.free 6
                       clear hown)
          have HB2 : Hid (Blk (w1.setCell ⟨bl, 6, none⟩ (.slice na l.length nc)) bl (rawLog bd sz g.count g.area g.bytes.length (str g.tail) (.slice na l.length nc) g.many g.waits.length)) := Lib.hid (HB1.out.set 6 (.slice na l.length nc))
          have hF2 : Fr [bl] w (w1.setCell ⟨bl, 6, none⟩ (.slice na l.length nc)) := hF1.any.setCell (Or.inl (by simp)) _
          have HO2 : Hid ((w1.setCell ⟨bl, 6, none⟩ (.slice na l.length nc)).ownsRow w.heap.size 9 1 (.slice na l.length nc) l.length (strVals l)) := Lib.hid (own_fr HO.out ((Fr.refl [bl] w1).setCell (Or.inl (by simp)) _) (by
            intro x hx; have := (own_base HO.out x hx).1; simp; omega))
          have HP2 := Lib.hid (HP.out.fr hF2 (by intro b hb; have := hpn b hb; simpa using this))
          have HD2 := Lib.hid (HD.out.fr hF2 (by have := HN.out.1; simp; exact Ne.symm this) (by have := HN.out.2.1; simp; exact Ne.symm this) (by have := HN.out.2.2; simp; exact Ne.symm this))
          generalize w1.setCell ⟨bl, 6, none⟩ (.slice na l.length nc) = W at *
          clear l6' f6' HB1 HO
          refine wp_region_tail 9 (by kernel_rfl) (by kernel_rfl) ?_
          refine q_val rfl (by intro w' _; go_simp; rfl) ?_
          go_frame
          refine q_val rfl (by intro w' _; go_simp; rfl) ?_
          go_frame
          refine q_val rfl (by intro w' _; go_simp; rfl) ?_
          go_frame
          refine q_val rfl (by intro w' _; go_simp; rfl) ?_
          go_frame
          refine q_val rfl (by intro w' _; go_simp; rfl) ?_
          go_frame
          refine q_val (v := .int .i64 (g.area : Int)) rfl (by intro w' hW; have := (raw_cells (HB2.out.fr hW (by simp))).2.2.2.1; go_simp) ?_
          go_frame
          refine q_val (v := .int .i64 (1 - (g.area : Int))) rfl (by intro w' _; go_simp; exact IntWalk.i64_in _ (by omega)) ?_
          go_frame
          refine q_val rfl (by intro w' _; go_simp; rfl) ?_
          go_frame
          refine q_call (f := 23) (args := #[.slice pa l.length pc]) (v := .string (str (framesL l))) rfl (by intro w'; go_simp; try rfl) (fun w' hW => frames_c w' _ fp l (HP2.out.fr hW (by simp)) (by omega) hS.out) ?_
          go_frame
          refine wpQuiet_nil ?_
          intro w3 hF3
          have hst := settle_x (HD2.out.fr hF3 (by simp) (by simp) (by simp)) (HB2.out.fr hF3 (by simp)) HN.out.1 HN.out.2.1 HN.out.2.2 hs1 HSZ.out (1 - g.area) 0 [] (framesL l) (by omega) (by simp) (by have := H5.out; omega) hc
            (HR.out.trans (show R = (R.1, 0) by rw [← HR0.out])) (1 - (g.area : Int)) 0 (by omega) rfl (⟨#[]⟩ : ByteArray) (str (framesL l)) rfl rfl
          rw [if_pos rfl] at hst
          have HST := Lib.hid hst
          clear hst
          go_wp2_with (go_at_call 22; refine HST.out.mono ?_; rintro e w4 ⟨rfl, hD4, hF4, hB4⟩; have HB4 := Lib.hid hB4; clear hB4)
          go_ret
          have hRS : RS = ({ count := g.count + 1, area := 1 - g.area, bytes := framesL l, texts := l, many := l.length }, R) := by rw [HRR.out, if_pos HR0.out]
          have hF : Fr [bd, bo, bm, bl] w w4 := (hF2.mono (by simp)).trans ((hF3.any).trans hF4)
          have hfresh : ∀ x, Value.ownBlock (.slice na l.length nc) = some x → w.heap.size ≤ x := fun x hx => (own_base HO2.out x hx).1
          have hx1 := HD.out.blk.lt
          have hx2 := HD.out.byt.lt
          have hx3 := HD.out.map.lt
          have hown4 : w4.ownsRow w.heap.size 9 1 (.slice na l.length nc) l.length (strVals l) := by
            refine own_fr (own_fr HO2.out hF3 (by simp)) hF4 (fun x hx => ?_)
            have := hfresh x hx
            simp; omega
          have hlog : LogAt w4 bl bd bo bm sz { count := g.count + 1, area := 1 - g.area, bytes := framesL l, texts := l, many := l.length } (.slice na l.length nc) := by
            refine ⟨⟨by rw [List.take_length], Nat.le_refl _, hS.out, by have := H5.out; show (framesL l).length ≤ _; omega, by show 1 - g.area ≤ 1; omega, by show 1 ≤ g.count + 1; omega⟩, hs1, ?_, own_weak hown4 (by omega), HH.out.n1, HH.out.n2, HH.out.n3⟩
            have := HB4.out
            simp only [Nat.zero_add, List.nil_append] at this
            have e2 : (Lg.waits { count := g.count + 1, area := 1 - g.area, bytes := framesL l, texts := l, many := l.length }).length = 0 := by
              show (framesL (l.drop l.length)).length = 0
              rw [List.drop_length]; rfl
            rw [e2]
            exact this
          rw [hRS]
          have hmv : Moved w (.slice va g.texts.length vc) (.slice na l.length nc) := Or.inr hfresh
          first | exact ⟨_, (by rw [HR0.out]; rfl), hlog, hmv, hD4, hF⟩ | exact ⟨(by rw [HR0.out]; rfl), _, hlog, hmv, hD4, hF⟩
        · have HR0 := Lib.hid hR0
          clear hR0
          go_wp2_with (go_at_call 21; refine HCL.out.mono ?_; rintro e w1 ⟨nv, rfl, hown, hF1⟩
                       obtain ⟨na, nc, rfl⟩ := own_shape hown
                       have HO := Lib.hid hown
                       have HB1 := Lib.hid (HH.out.blk.fr hF1 (by simp))
                       have l6' := (raw_cells HB1.out).2.2.2.2.2.2.1
                       have f6' := HB1.out.free 6
                       clear hown)
          have HB2 : Hid (Blk (w1.setCell ⟨bl, 6, none⟩ (.slice na l.length nc)) bl (rawLog bd sz g.count g.area g.bytes.length (str g.tail) (.slice na l.length nc) g.many g.waits.length)) := Lib.hid (HB1.out.set 6 (.slice na l.length nc))
          have hF2 : Fr [bl] w (w1.setCell ⟨bl, 6, none⟩ (.slice na l.length nc)) := hF1.any.setCell (Or.inl (by simp)) _
          have HO2 : Hid ((w1.setCell ⟨bl, 6, none⟩ (.slice na l.length nc)).ownsRow w.heap.size 9 1 (.slice na l.length nc) l.length (strVals l)) := Lib.hid (own_fr HO.out ((Fr.refl [bl] w1).setCell (Or.inl (by simp)) _) (by
            intro x hx; have := (own_base HO.out x hx).1; simp; omega))
          have HP2 := Lib.hid (HP.out.fr hF2 (by intro b hb; have := hpn b hb; simpa using this))
          have HD2 := Lib.hid (HD.out.fr hF2 (by have := HN.out.1; simp; exact Ne.symm this) (by have := HN.out.2.1; simp; exact Ne.symm this) (by have := HN.out.2.2; simp; exact Ne.symm this))
          generalize w1.setCell ⟨bl, 6, none⟩ (.slice na l.length nc) = W at *
          clear l6' f6' HB1 HO
          refine wp_region_tail 9 (by kernel_rfl) (by kernel_rfl) ?_
          refine q_val rfl (by intro w' _; go_simp; rfl) ?_
          go_frame
          refine q_val rfl (by intro w' _; go_simp; rfl) ?_
          go_frame
          refine q_val rfl (by intro w' _; go_simp; rfl) ?_
          go_frame
          refine q_val rfl (by intro w' _; go_simp; rfl) ?_
          go_frame
          refine q_val rfl (by intro w' _; go_simp; rfl) ?_
          go_frame
          refine q_val (v := .int .i64 (g.area : Int)) rfl (by intro w' hW; have := (raw_cells (HB2.out.fr hW (by simp))).2.2.2.1; go_simp) ?_
          go_frame
          refine q_val (v := .int .i64 (1 - (g.area : Int))) rfl (by intro w' _; go_simp; exact IntWalk.i64_in _ (by omega)) ?_
          go_frame
          refine q_val rfl (by intro w' _; go_simp; rfl) ?_
          go_frame
          refine q_call (f := 23) (args := #[.slice pa l.length pc]) (v := .string (str (framesL l))) rfl (by intro w'; go_simp; try rfl) (fun w' hW => frames_c w' _ fp l (HP2.out.fr hW (by simp)) (by omega) hS.out) ?_
          go_frame
          refine wpQuiet_nil ?_
          intro w3 hF3
          have hst := settle_x (HD2.out.fr hF3 (by simp) (by simp) (by simp)) (HB2.out.fr hF3 (by simp)) HN.out.1 HN.out.2.1 HN.out.2.2 hs1 HSZ.out (1 - g.area) 0 [] (framesL l) (by omega) (by simp) (by have := H5.out; omega) hc
            (HR.out.trans (show R = (R.1, R.2) from rfl)) (1 - (g.area : Int)) 0 (by omega) rfl (⟨#[]⟩ : ByteArray) (str (framesL l)) rfl rfl
          rw [if_neg HR0.out] at hst
          have HST := Lib.hid hst
          have hRS : RS = (g, R) := by rw [HRR.out, if_neg HR0.out]
          have HRS2 := Lib.hid hRS
          have hne : (R.2 != 0) = true := by simpa using HR0.out
          clear hst hRS
          go_wp2_with (go_at_call 22; refine HST.out.mono ?_; rintro e w4 ⟨rfl, hD4, hF4, hB4⟩; have HB4 := Lib.hid hB4; clear hB4; have l6 := (raw_cells HB4.out).2.2.2.2.2.2.1; have f6 := HB4.out.free 6)
          go_ret
          have hF : Fr [bd, bo, bm, bl] w w4 := (hF2.mono (by simp)).trans ((hF3.any).trans hF4)
          have hset : Fr [bl] w4 (w4.setCell ⟨bl, 6, none⟩ (.slice va g.texts.length vc)) := (Fr.refl _ _).setCell (Or.inl (by simp)) _
          have hD5 := hD4.fr hset (by have := HN.out.1; simp; exact Ne.symm this) (by have := HN.out.2.1; simp; exact Ne.symm this) (by have := HN.out.2.2; simp; exact Ne.symm this)
          have hlog : LogAt (w4.setCell ⟨bl, 6, none⟩ (.slice va g.texts.length vc)) bl bd bo bm sz g (.slice va g.texts.length vc) := by
            refine ⟨HH.out.wf, hs1, ?_, own_fr HH.out.own (hF.trans (hset.mono (by simp))) (fun x hx => ?_), HH.out.n1, HH.out.n2, HH.out.n3⟩
            · exact HB4.out.set 6 (.slice va g.texts.length vc)
            · have := (own_base HH.out.own x hx).1
              have h1 := HH.out.n1; have h2 := HH.out.n2; have h3 := HH.out.n3
              simp; omega
          rw [HRS2.out]
          have hF5 : Fr [bd, bo, bm, bl] w (w4.setCell ⟨bl, 6, none⟩ (.slice va g.texts.length vc)) := hF.trans (hset.mono (by simp))
          first | exact ⟨_, rfl, hlog, Or.inl rfl, hD5, hF5⟩ | exact ⟨rfl, _, hlog, Or.inl rfl, hD5, hF5⟩
end

end Go.Proofs.Ytiojkakmlbfiiaa
