/- The document's log: Restart. -/
import Derived.Test.YtiojkakmlbfiiaaGreatM21
/- The document's log: Sync. -/
namespace Go.Proofs.YtiojkakmlbfiiaaGreat
open Go.RowKit
open Sp

section
variable {w : World} {rl rd ro rn co cn sz : Nat} {g : Lg} {v : Value} {d : Dv}

set_option maxHeartbeats 4000000 in
set_option maxRecDepth 100000 in
theorem rSync_c (h : RLogAt w rl rd ro rn sz g v) (hD : RefAt w rd ro rn co cn d) (hsz : sz = (d.on.length - 2) / 2) (h4 : 4 ≤ d.on.length) (hc : g.count + 1 ≤ 9223372036854775807) :
    Calls Tryz.prog 27 #[.pointer (some ⟨rl, 0, none⟩)] w fun e w' => e = .returned (.int .i64 (g.sync d).2.2) ∧
      RLogAt w' rl rd ro rn sz (g.sync d).1 v ∧ RefAt w' rd ro rn co cn (g.sync d).2.1 ∧ Fr [rd, ro, rn, rl] w w' := by
  obtain ⟨va, vc, rfl⟩ := own_shape h.own
  have l4 := (ref_cells h.blk).2.2.2.2.1
  have l5 := (ref_cells h.blk).2.2.2.2.2
  have hcnt := h.wf.count
  have hs1 := h.sz1
  have hmn := h.wf.many
  have HH := Lib.hid h
  have HD := Lib.hid hD
  by_cases hm : g.many = g.texts.length
  · rw [show g.sync d = (g, d, 0) by unfold Lg.sync; rw [if_pos hm]]
    rw [hm] at l5
    clear h hD hm
    go_enter Tryz.func27, Tryz.ntmps27
    go_wp2
    go_quiet (fail)
    go_wp2
    go_ret
    exact ⟨rfl, HH.out.fr0 ((Fr.refl [] _).drewN _), HD.out.fr ((Fr.refl [] _).drewN _) (by simp) (by simp) (by simp), (Fr.refl _ _).drewN _⟩
  · obtain ⟨R, hR⟩ : ∃ R, d.settle g.area g.bytes.length g.count g.tail g.waits = R := ⟨_, rfl⟩
    have hrow := h.wf.room
    have hlen := h.wf.len
    have hn1 := h.n1
    have hn2 := h.n2
    have hn3 := h.n3
    have hwt := fun W' (hW : Fr [] w W') => rWaiting_c (h.fr0 hW)
    have hset := fun W' (hW : Fr [] w W') => rSettle_c (hD.fr hW (by simp) (by simp) (by simp)) (h.blk.fr hW (by simp)) (by omega) (by omega) (by omega) hs1 hsz h4 g.area g.bytes g.waits h.wf.area (by omega) hc
    have htl : g.bytes.drop (64 * (g.bytes.length / 64)) = g.tail := rfl
    simp only [htl, hR] at hset
    have hne : ((g.many : Int) == (g.texts.length : Int)) = false := by simp; omega
    have HR := Lib.hid hR
    have HN := Lib.hid hm
    have HOB := Lib.hid (own_base h.own)
    clear hD hR hrow hlen hcnt hm h hn1 hn2 hn3 htl
    have hdr : ∀ n, Fr [] w (w.drewN n) := fun n => (Fr.refl _ _).drewN _
    have walk : ∀ e0, R.2 = e0 → (e0 = 0 ∨ (e0 != 0) = true) → Calls Tryz.prog 27 #[.pointer (some ⟨rl, 0, none⟩)] w fun e w' => e = .returned (.int .i64 e0) ∧ RefAt w' rd ro rn co cn R.1 ∧ Fr [rd, ro, rn, rl] w w' ∧
        Blk w' rl (if e0 = 0 then rawRef rd (g.count + 1) g.area (str (g.bytes ++ g.waits)) (.slice va g.texts.length vc) g.texts.length else rawRef rd g.count g.area (str g.bytes) (.slice va g.texts.length vc) g.many) := by
      intro e0 he0 hz
      simp only [he0] at hset
      generalize hV : str g.waits = V at *
      generalize hT : str g.bytes = T at *
      rcases hz with rfl | hz
      · simp only [if_true] at hset ⊢
        have HB : Hid (Blk w rl (rawRef rd g.count g.area T (.slice va g.texts.length vc) g.many)) := Lib.hid (by rw [← hT]; exact HH.out.blk)
        clear hV hT he0
        go_enter Tryz.func27, Tryz.ntmps27
        go_wp2
        go_quiet (fail)
        go_wp2
        refine wp_region_tail 11 (by kernel_rfl) (by kernel_rfl) ?_
        refine q_val rfl (by intro w' _; go_simp; rfl) ?_
        go_frame
        refine q_val rfl (by intro w' _; go_simp; rfl) ?_
        go_frame
        refine q_val rfl (by intro w' _; go_simp; rfl) ?_
        go_frame
        refine q_val rfl (by intro w' _; go_simp; rfl) ?_
        go_frame
        refine q_val (v := .int .i64 (g.area : Int)) rfl (by intro w' hW'; have := (ref_cells (HB.out.fr ((hdr _).trans hW') (by simp))).2.2.1; go_simp) ?_
        go_frame
        refine q_val rfl (by intro w' _; go_simp; rfl) ?_
        go_frame
        refine q_val rfl (by intro w' _; go_simp; rfl) ?_
        go_frame
        refine q_val rfl (by intro w' _; go_simp; rfl) ?_
        go_frame
        refine q_val (v := .string T) rfl (by intro w' hW'; have := (ref_cells (HB.out.fr ((hdr _).trans hW') (by simp))).2.2.2.1; go_simp) ?_
        go_frame
        refine q_val rfl (by intro w' _; go_simp; rfl) ?_
        go_frame
        refine q_call (f := 53) (args := #[.pointer (some ⟨rl, 0, none⟩)]) (v := .string V) rfl (by intro w'; go_simp; try rfl) (fun w' hW' => hwt w' ((hdr _).trans hW')) ?_
        go_frame
        refine wpQuiet_nil ?_
        intro w1 hF1
        go_wp2_with (go_at_call 61; refine (hset w1 ((hdr _).trans hF1)).mono ?_; rintro e w2 ⟨rfl, hD2, hF2, hB2⟩
                     have HB2 := Lib.hid hB2
                     have k4 := (ref_cells HB2.out).2.2.2.2.1
                     have k5 := (ref_cells HB2.out).2.2.2.2.2
                     have f5 := HB2.out.free 5
                     clear hB2)
        go_ret
        have hst : Fr [rl] w2 (w2.setCell ⟨rl, 5, none⟩ (.int .i64 (g.texts.length : Int))) := (Fr.refl _ _).setCell (Or.inl (by simp)) _
        have h1 := HH.out.n1; have h2 := HH.out.n2; have h3 := HH.out.n3
        exact ⟨rfl, hD2.fr hst (by simp; omega) (by simp; omega) (by simp; omega), (((hdr _).trans hF1).any.trans hF2).trans (hst.mono (by simp)), HB2.out.set 5 _⟩
      · have HZ : Hid (¬ e0 = 0) := Lib.hid (by simpa using hz)
        simp only [if_neg HZ.out] at hset ⊢
        have HB : Hid (Blk w rl (rawRef rd g.count g.area T (.slice va g.texts.length vc) g.many)) := Lib.hid (by rw [← hT]; exact HH.out.blk)
        clear hV hT he0
        go_enter Tryz.func27, Tryz.ntmps27
        go_wp2
        go_quiet (fail)
        go_wp2
        refine wp_region_tail 11 (by kernel_rfl) (by kernel_rfl) ?_
        refine q_val rfl (by intro w' _; go_simp; rfl) ?_
        go_frame
        refine q_val rfl (by intro w' _; go_simp; rfl) ?_
        go_frame
        refine q_val rfl (by intro w' _; go_simp; rfl) ?_
        go_frame
        refine q_val rfl (by intro w' _; go_simp; rfl) ?_
        go_frame
        refine q_val (v := .int .i64 (g.area : Int)) rfl (by intro w' hW'; have := (ref_cells (HB.out.fr ((hdr _).trans hW') (by simp))).2.2.1; go_simp) ?_
        go_frame
        refine q_val rfl (by intro w' _; go_simp; rfl) ?_
        go_frame
        refine q_val rfl (by intro w' _; go_simp; rfl) ?_
        go_frame
        refine q_val rfl (by intro w' _; go_simp; rfl) ?_
        go_frame
        refine q_val (v := .string T) rfl (by intro w' hW'; have := (ref_cells (HB.out.fr ((hdr _).trans hW') (by simp))).2.2.2.1; go_simp) ?_
        go_frame
        refine q_val rfl (by intro w' _; go_simp; rfl) ?_
        go_frame
        refine q_call (f := 53) (args := #[.pointer (some ⟨rl, 0, none⟩)]) (v := .string V) rfl (by intro w'; go_simp; try rfl) (fun w' hW' => hwt w' ((hdr _).trans hW')) ?_
        go_frame
        refine wpQuiet_nil ?_
        intro w1 hF1
        go_wp2_with (go_at_call 61; refine (hset w1 ((hdr _).trans hF1)).mono ?_; rintro e w2 ⟨rfl, hD2, hF2, hB2⟩
                     have HB2 := Lib.hid hB2
                     clear hB2)
        go_ret
        exact ⟨rfl, hD2, ((hdr _).trans hF1).any.trans hF2, HB2.out⟩
    have hown : ∀ {w' : World}, Fr [rd, ro, rn, rl] w w' → w'.ownsRow (rl + 1) 9 1 (.slice va g.texts.length vc) g.texts.length (strVals g.texts) := by
      intro w' hF
      refine own_fr HH.out.own hF (fun x hx => ?_)
      have := (HOB.out x hx).1
      have h1 := HH.out.n1; have h2 := HH.out.n2; have h3 := HH.out.n3
      simp; omega
    by_cases hR0 : R.2 = 0
    · rw [show g.sync d = ({ g with count := g.count + 1, bytes := g.bytes ++ g.waits, many := g.texts.length }, R) by unfold Lg.sync; rw [if_neg HN.out, HR.out]; simp only [if_pos hR0]]
      refine (walk 0 hR0 (Or.inl rfl)).mono ?_
      rintro e w' ⟨rfl, hD2, hF2, hB2⟩
      rw [if_pos rfl] at hB2
      refine ⟨by rw [hR0], ⟨?_, hs1, hB2, hown hF2, HH.out.n1, HH.out.n2, HH.out.n3⟩, hD2, hF2⟩
      exact ⟨by rw [HH.out.wf.all, List.take_length], Nat.le_refl _, HH.out.wf.small, HH.out.wf.room, HH.out.wf.area, by have := HH.out.wf.one; show 1 ≤ g.count + 1; omega⟩
    · rw [show g.sync d = (g, R) by unfold Lg.sync; rw [if_neg HN.out, HR.out]; simp only [if_neg hR0]]
      refine (walk R.2 rfl (Or.inr (by simpa using hR0))).mono ?_
      rintro e w' ⟨rfl, hD2, hF2, hB2⟩
      rw [if_neg hR0] at hB2
      exact ⟨rfl, ⟨HH.out.wf, hs1, hB2, hown hF2, HH.out.n1, HH.out.n2, HH.out.n3⟩, hD2, hF2⟩

end
end Go.Proofs.YtiojkakmlbfiiaaGreat

/- The document's log: Restart. -/
namespace Go.Proofs.YtiojkakmlbfiiaaGreat
open Go.RowKit
open Sp

section
variable {w : World} {rl rd ro rn co cn sz : Nat} {g : Lg} {v : Value} {d : Dv}

set_option maxHeartbeats 4000000 in
set_option maxRecDepth 100000 in
theorem rRestart_c (h : RLogAt w rl rd ro rn sz g v) (hD : RefAt w rd ro rn co cn d) (hsz : sz = (d.on.length - 2) / 2) (h4 : 4 ≤ d.on.length) (hc : g.count + 1 ≤ 9223372036854775807)
    (pv : Value) (fp : Option Nat) (l : List ByteArray) (hp : SliceAt w pv fp (strVals l)) (hpn : ∀ b, fp = some b → b ∉ [rd, ro, rn, rl]) (hl : l.length ≤ 8796093022208) (hls : ∀ s ∈ l, s.size ≤ 9223372036854775807) :
    Calls Tryz.prog 30 #[.pointer (some ⟨rl, 0, none⟩), pv] w fun e w' => ∃ v', e = .returned (.int .i64 (g.restart d l).2.2) ∧
      RLogAt w' rl rd ro rn sz (g.restart d l).1 v' ∧ Moved w v v' ∧ RefAt w' rd ro rn co cn (g.restart d l).2.1 ∧ Fr [rd, ro, rn, rl] w w' := by
  obtain ⟨va, vc, rfl⟩ := own_shape h.own
  obtain ⟨pa, pc, rfl⟩ := slice_lit_shape hp
  obtain ⟨RS, hRS⟩ : ∃ RS, g.restart d l = RS := ⟨_, rfl⟩
  rw [hRS]
  have HRS := Lib.hid hRS
  have HH := Lib.hid h
  have HD := Lib.hid hD
  have HP := Lib.hid hp
  have HSZ := Lib.hid hsz
  have H4 := Lib.hid h4
  have hs1 := h.sz1
  have HN : Hid (rl ≠ rd ∧ rl ≠ ro ∧ rl ≠ rn) := Lib.hid ⟨by have := h.n1; omega, by have := h.n2; omega, by have := h.n3; omega⟩
  have har := fun W' (hW : RefAt W' rd ro rn co cn d) => rArea_c hW h4
  rw [← hsz] at har
  have HAR := Lib.hid har
  have hareq : areaOf d.on.length = 64 * sz := by rw [areaOf, hsz]
  have HAE := Lib.hid hareq
  clear h hD hp hRS hsz har h4 hareq
  go_enter Tryz.func30, Tryz.ntmps30
  go_wp2
  go_loop [6] (fun i => ∃ k : Nat, k ≤ l.length ∧ i = .int .i64 k ∧ Hid (∀ s ∈ l.take k, s.size ≤ 4096)) (fun i => l.length - (intOf i).toNat)
  case atStart => exact ⟨0, Nat.zero_le _, rfl, Lib.hid (by simp)⟩
  case round =>
    obtain ⟨k, hk, rfl, hS⟩ := hrel
    by_cases hlt : k < l.length
    · obtain ⟨x, hx⟩ : ∃ x, l[k]? = some x := ⟨_, List.getElem?_eq_getElem hlt⟩
      obtain ⟨sb, so, rfl, hcell⟩ := slice_cell HP.out k hlt x hx
      have hxs := hls x (List.mem_of_getElem? hx)
      by_cases h4 : 4096 < x.size
      · have h4' : (4096 : Int) < (x.size : Int) := by omega
        have HRR : Hid (RS = (g, d, 2)) := Lib.hid (by
          rw [← HRS.out]; unfold Lg.restart
          rw [if_pos (List.any_eq_true.2 ⟨x, List.mem_of_getElem? hx, by simpa using h4⟩)])
        clear hx
        go_wp2
        go_ret
        rw [HRR.out]
        first | exact ⟨_, rfl, HH.out, Or.inl rfl, HD.out, Fr.refl _ _⟩ | exact ⟨rfl, _, HH.out, Or.inl rfl, HD.out, Fr.refl _ _⟩
      · have h4' : (x.size : Int) ≤ 4096 := by omega
        have HS2 : Hid (∀ s ∈ l.take (k + 1), s.size ≤ 4096) := Lib.hid (by
          intro s hs
          have hk2 : l[k]? = some x := hx
          rw [List.take_add_one, hk2] at hs
          rcases List.mem_append.1 hs with h | h
          · exact hS.out s h
          · simp at h; rw [h]; omega)
        clear hx
        go_wp2
        go_round
        case rel => exact ⟨k + 1, by omega, by go_num, HS2⟩
        case measure => simp [intOf]; omega
    · obtain rfl : k = l.length := by omega
      rw [List.take_length] at hS
      have hnl : ¬ (l.any fun t => decide (4096 < t.size)) = true := by
        intro e
        obtain ⟨x, hx, h⟩ := List.any_eq_true.1 e
        have := hS.out x hx
        simp at h; omega
      have HNL := Lib.hid hnl
      clear hnl hk
      go_wp2
      go_loopw [5, 7] (fun s i wr => ∃ k : Nat, k ≤ l.length ∧ i = .int .i64 k ∧ s = .string (str (framesL (l.take k))) ∧ (framesL (l.take k)).length ≤ 64 * sz + 4102 ∧ Hid (Fr [] w wr)) (fun _ i _ => l.length - (intOf i).toNat)
      case atStart => exact ⟨0, Nat.zero_le _, rfl, rfl, by simp [framesL], Lib.hid (Fr.refl _ _)⟩
      case round =>
        obtain ⟨k, hk, rfl, rfl, hb, hF⟩ := hrel
        have hsz0 : (str (framesL (l.take k))).size = (framesL (l.take k)).length := str_size _
        have hac := HAR.out wr (HD.out.fr hF.out (by simp) (by simp) (by simp))
        have k0 := (ref_cells (HH.out.fr0 hF.out).blk).1
        by_cases hgo : k < l.length ∧ (framesL (l.take k)).length ≤ 64 * sz
        · obtain ⟨hlt, hle⟩ := hgo
          obtain ⟨x, hx⟩ : ∃ x, l[k]? = some x := ⟨_, List.getElem?_eq_getElem hlt⟩
          obtain ⟨sb, so, rfl, hcell⟩ := slice_cell (HP.out.fr hF.out (by simp)) k hlt x hx
          have hxs := hS.out x (List.mem_of_getElem? hx)
          have hfl := frame_size x
          have HSN : Hid (framesL (l.take (k + 1)) = framesL (l.take k) ++ frameL x.data.toList) := Lib.hid (framesL_snoc l k x hx)
          have hone := fun W' => rOne_c x W' hxs
          have HE : Hid (str (framesL (l.take (k + 1))) = str (framesL (l.take k)) ++ frame x) := Lib.hid (by rw [HSN.out, ← str_append]; rfl)
          have HLN : Hid ((framesL (l.take (k + 1))).length ≤ 64 * sz + 4102) := Lib.hid (by
            rw [HSN.out, List.length_append, frameL_len]; have : x.data.toList.length = x.size := rfl; omega)
          have hsI : ((str (framesL (l.take k))).size : Int) ≤ 64 * (sz : Int) := by omega
          have hss : (str (framesL (l.take k))).size ≤ 65472 := by omega
          have hxx : (frame x).size ≤ 4102 := by omega
          generalize str (framesL (l.take k)) = S at *
          generalize frame x = X at *
          clear hx hfl hsz0 hb hle
          go_wp2_with (first
            | (go_at_call 52; refine hac.mono ?_; rintro e w2 ⟨rfl, rfl⟩; clear hac)
            | (go_at_call 60; refine (hone _).mono ?_; rintro e w3 ⟨rfl, hF3⟩; clear hone))
          go_roundw
          case rel => exact ⟨k + 1, by omega, by go_num, by rw [HE.out], HLN.out, Lib.hid (hF.out.trans hF3)⟩
          case measure => simp [intOf]; omega
        · by_cases hgt : 64 * sz < (framesL (l.take k)).length
          · have HRR : Hid (RS = (g, d, 100)) := Lib.hid (by
              rw [← HRS.out]; unfold Lg.restart
              rw [if_neg HNL.out, if_pos (by rw [HAE.out]; have := framesL_take_le l k; omega)])
            have hsI : 64 * (sz : Int) < ((str (framesL (l.take k))).size : Int) := by omega
            have hss : (str (framesL (l.take k))).size ≤ 69574 := by omega
            generalize str (framesL (l.take k)) = S at *
            clear hgo hsz0 hgt hb
            rcases Nat.lt_or_ge k l.length with hkl | hkl
            all_goals
              go_wp2_with (go_at_call 52; refine hac.mono ?_; rintro e w2 ⟨rfl, rfl⟩)
              go_ret
              rw [HRR.out]
              first | exact ⟨_, rfl, HH.out.fr0 hF.out, Or.inl rfl, HD.out.fr hF.out (by simp) (by simp) (by simp), hF.out.any⟩ | exact ⟨rfl, _, HH.out.fr0 hF.out, Or.inl rfl, HD.out.fr hF.out (by simp) (by simp) (by simp), hF.out.any⟩
          · obtain rfl : k = l.length := by
              rcases Nat.lt_or_ge k l.length with h | h
              · exact absurd ⟨h, by omega⟩ hgo
              · omega
            rw [List.take_length] at *
            obtain ⟨R, hR⟩ : ∃ R, d.settle (1 - g.area) 0 g.count [] (framesL l) = R := ⟨_, rfl⟩
            have HRR : Hid (RS = if R.2 = 0 then ({ count := g.count + 1, area := 1 - g.area, bytes := framesL l, texts := l, many := l.length }, R) else (g, R)) := Lib.hid (by
              rw [← HRS.out]; unfold Lg.restart
              rw [if_neg HNL.out, if_neg (by rw [HAE.out]; exact hgt), hR])
            have h6 := framesL_six l
            have hl2 : l.length ≤ 10912 := by omega
            have HLL : Hid ((framesL l).length ≤ 64 * sz) := Lib.hid (by omega)
            have hsI : ((str (framesL l)).size : Int) ≤ 64 * (sz : Int) := by omega
            have hss : (str (framesL l)).size ≤ 65472 := by omega
            have HHW := Lib.hid (HH.out.fr0 hF.out)
            have HDW := Lib.hid (HD.out.fr hF.out (by simp) (by simp) (by simp))
            have HPW := Lib.hid (HP.out.fr hF.out (by simp))
            have k2 := (ref_cells HHW.out.blk).2.2.1
            have harea := HH.out.wf.area
            have hset := rSettle_c HDW.out HHW.out.blk HN.out.1 HN.out.2.1 HN.out.2.2 hs1 HSZ.out H4.out (1 - g.area) [] (framesL l) (by omega) (by simp; omega) hc
            simp only [List.length_nil, List.drop_nil, hR, List.nil_append, show str [] = (⟨#[]⟩ : ByteArray) from rfl, show ((1 - g.area : Nat) : Int) = 1 - (g.area : Int) by omega] at hset
            have HR := Lib.hid hR
            clear hgo hgt h6 hsz0 hb hR hk
            generalize hSS : str (framesL l) = S at *
            have HSS := Lib.hid hSS
            clear hSS
            by_cases hR0 : R.2 = 0
            · have HR0 := Lib.hid hR0
              rw [hR0, if_pos rfl] at hset
              clear hR0
              obtain ⟨i0, hi, hz0, hz1, hz2⟩ := info_parts strInfo
              have HI := Lib.hid (show _ ∧ _ ∧ _ ∧ _ from ⟨hi, hz0, hz1, hz2⟩)
              have hlen : (strVals l).length = l.length := by simp [strVals]
              have HLN := Lib.hid hlen
              obtain ⟨N, hNN⟩ : ∃ N, w.heap.size = N := ⟨_, rfl⟩
              have hrlN : rl < N := by rw [← hNN]; exact HH.out.blk.lt
              have HNN := Lib.hid hNN
              clear hi hz0 hz1 hz2 hlen hNN
              go_wp2_with (first
                | (go_at_call 52; refine hac.mono ?_; rintro e w2 ⟨rfl, rfl⟩)
                | (go_at_call 61; refine hset.mono ?_; rintro e w4 ⟨rfl, hD4, hF4, hB4⟩; clear hset
                   have HD4 := Lib.hid hD4
                   have HB4 := Lib.hid hB4
                   have HF4 : Hid (Fr [rd, ro, rn, rl] w w4) := Lib.hid (hF.out.any.trans hF4)
                   have HP4 := Lib.hid (HPW.out.fr hF4 hpn)
                   have hle4 : N ≤ w4.heap.size := by rw [← HNN.out]; exact HF4.out.size
                   clear hD4 hB4 hF4)
                | (at_builtin; refine wpList_append_sl _ rfl (.tmp 64) (.tmp 65) 37 rfl N 9 i0 (.string ByteArray.empty) 16 Tryz.underlying37 HI.out.1 HI.out.2.1 HI.out.2.2.1 HI.out.2.2.2 rfl
                     (.slice (some ⟨w4.heap.size, 0, none⟩) 0 0) 0 [] rfl (World.ownsRow_lit w4 #[] 0 (by omega) (by unfold maxLen; omega) rfl) (.slice pa l.length pc) fp (strVals l) rfl (HP4.out.fr (S := []) ((Fr.refl _ _).alloc _) (by simp)) (strVals_one _) (by rw [HLN.out]; unfold maxLen; omega) (by rw [HLN.out]; omega) (by simp; omega) ?_
                   intro v5 w5 hown5 hgr5 _
                   simp only [Nat.zero_add, List.nil_append, HLN.out] at hown5
                   have hF5 : Fr [] w4 w5 := ((Fr.refl _ _).alloc _).grown hgr5 (fun b hb => Or.inr (by simp [Value.ownBlock] at hb; omega))
                   have HF5 := Lib.hid hF5
                   have HO5 := Lib.hid hown5
                   have HB5 := Lib.hid (HB4.out.fr hF5 (by simp))
                   obtain ⟨a1, c1, rfl⟩ := own_shape hown5
                   have k54 := (ref_cells HB5.out).2.2.2.2.1
                   have k55 := (ref_cells HB5.out).2.2.2.2.2
                   have f54 := HB5.out.free 4
                   have f55 := HB5.out.free 5
                   clear hown5 hgr5 hF5))
              go_ret
              have hRS : RS = ({ count := g.count + 1, area := 1 - g.area, bytes := framesL l, texts := l, many := l.length }, R) := by rw [HRR.out, if_pos HR0.out]
              have hst : Fr [rl] w5 ((w5.setCell ⟨rl, 4, none⟩ (.slice a1 l.length c1)).setCell ⟨rl, 5, none⟩ (.int .i64 (l.length : Int))) := ((Fr.refl _ _).setCell (Or.inl (by simp)) _).setCell (Or.inl (by simp)) _
              have hfresh : ∀ x, Value.ownBlock (.slice a1 l.length c1) = some x → N ≤ x := fun x hx => (own_base HO5.out x hx).1
              have hown : World.ownsRow ((w5.setCell ⟨rl, 4, none⟩ (.slice a1 l.length c1)).setCell ⟨rl, 5, none⟩ (.int .i64 (l.length : Int))) (rl + 1) 9 1 (.slice a1 l.length c1) l.length (strVals l) :=
                own_weak (own_fr HO5.out hst (fun x hx => by have := hfresh x hx; simp; omega)) (by omega)
              have hone := HH.out.wf.one
              have hlog : RLogAt ((w5.setCell ⟨rl, 4, none⟩ (.slice a1 l.length c1)).setCell ⟨rl, 5, none⟩ (.int .i64 (l.length : Int))) rl rd ro rn sz { count := g.count + 1, area := 1 - g.area, bytes := framesL l, texts := l, many := l.length } (.slice a1 l.length c1) := by
                refine ⟨⟨by rw [List.take_length], Nat.le_refl _, hS.out, HLL.out, by show 1 - g.area ≤ 1; omega, by show 1 ≤ g.count + 1; omega⟩, hs1, ?_, hown, HH.out.n1, HH.out.n2, HH.out.n3⟩
                rw [HSS.out]
                exact (HB5.out.set 4 _).set 5 _
              rw [hRS]
              have hmv : Moved w (.slice va g.texts.length vc) (.slice a1 l.length c1) := Or.inr (fun x hx => by rw [HNN.out]; exact hfresh x hx)
              have hD5 := (HD4.out.fr HF5.out (by simp) (by simp) (by simp)).fr hst (by have := HN.out.1; simp; exact Ne.symm this) (by have := HN.out.2.1; simp; exact Ne.symm this) (by have := HN.out.2.2; simp; exact Ne.symm this)
              have hFF := (HF4.out.trans HF5.out.any).trans (hst.mono (by simp))
              first | exact ⟨_, (by rw [HR0.out]; rfl), hlog, hmv, hD5, hFF⟩ | exact ⟨(by rw [HR0.out]; rfl), _, hlog, hmv, hD5, hFF⟩
            · have HR0 := Lib.hid hR0
              rw [if_neg hR0] at hset
              have hne : (R.2 != 0) = true := by simpa using hR0
              clear hR0
              go_wp2_with (first
                | (go_at_call 52; refine hac.mono ?_; rintro e w2 ⟨rfl, rfl⟩)
                | (go_at_call 61; refine hset.mono ?_; rintro e w4 ⟨rfl, hD4, hF4, hB4⟩; clear hset))
              go_ret
              have hFF : Fr [rd, ro, rn, rl] w w4 := hF.out.any.trans hF4
              have hlog : RLogAt w4 rl rd ro rn sz g (.slice va g.texts.length vc) := by
                refine ⟨HH.out.wf, hs1, hB4, own_fr HH.out.own hFF (fun x hx => ?_), HH.out.n1, HH.out.n2, HH.out.n3⟩
                have := (own_base HH.out.own x hx).1
                have h1 := HH.out.n1; have h2 := HH.out.n2; have h3 := HH.out.n3
                simp; omega
              have hRS : RS = (g, R) := by rw [HRR.out, if_neg HR0.out]
              rw [hRS]
              first | exact ⟨_, rfl, hlog, Or.inl rfl, hD4, hFF⟩ | exact ⟨rfl, _, hlog, Or.inl rfl, hD4, hFF⟩

end
end Go.Proofs.YtiojkakmlbfiiaaGreat
