/- The program's log: Restart. -/
import Derived.Test.YtiojkakmlbfiiaaGreatM10
/- The program's log: Sync, Restart. -/
namespace Go.Proofs.YtiojkakmlbfiiaaGreat
open Go.RowKit
open Sp

theorem drop_tail (a b : List UInt8) : (a.drop (64 * (a.length / 64)) ++ b).drop (64 * ((a.drop (64 * (a.length / 64)) ++ b).length / 64)) = (a ++ b).drop (64 * ((a ++ b).length / 64)) := by
  have h1 : 64 * (a.length / 64) ≤ a.length := by omega
  rw [← List.drop_append_of_le_length h1, List.drop_drop, List.length_drop, List.length_append]
  congr 1
  omega

section
variable {w : World} {bl bd bo bm sz : Nat} {g : Lg} {v : Value} {d : Dv}

theorem settle_x {count area0 long0 : Nat} {tail0 : ByteArray} {va : Option Addr} {vn vc : Nat} {many waits : Nat}
    (hD : DevAt w bd bo bm d) (h : Blk w bl (rawLog bd sz count area0 long0 tail0 (.slice va vn vc) many waits)) (h1 : bl ≠ bd) (h2 : bl ≠ bo) (h3 : bl ≠ bm)
    (hs : sz ≤ 1023) (hsz : sz = (d.on.length - 2) / 2) (area long : Nat) (tail more : List UInt8) (ha : area ≤ 1) (ht : tail.length = long % 64) (hl : long + more.length ≤ 64 * sz) (hc : count + 1 ≤ 9223372036854775807)
    {r : Dv} {e0 : Int} (hr : d.settle area long count tail more = (r, e0)) (x y : Int) (hx : x = (area : Int)) (hy : y = (long : Int)) (T M : ByteArray) (hT : T = str tail) (hM : M = str more) :
    Calls Tryz.prog 38 #[.pointer (some ⟨bl, 0, none⟩), .int .i64 x, .int .i64 y, .string T, .string M] w fun e w' =>
      e = .returned (.int .i64 e0) ∧ DevAt w' bd bo bm r ∧ Fr [bd, bo, bm, bl] w w' ∧
      Blk w' bl (if e0 = 0 then rawLog bd sz (count + 1) area (long + more.length) (str ((tail ++ more).drop (64 * ((tail ++ more).length / 64)))) (.slice va vn vc) vn 0
        else rawLog bd sz count area0 long0 tail0 (.slice va vn vc) many waits) := by
  subst hx hy hT hM
  have := settle_c hD h h1 h2 h3 hs hsz area long tail more ha ht hl hc
  rw [hr] at this
  exact this

theorem Lg.tail_len (g : Lg) : g.tail.length = g.bytes.length % 64 := by
  unfold Lg.tail; rw [List.length_drop]; omega

theorem slice_drop {w : World} {b c n : Nat} {xs : List Value} {base T : Nat} (h : w.ownsRow base T 1 (.slice (some ⟨b, 0, none⟩) n c) n xs) (k : Nat) (hk : k ≤ n) :
    SliceAt w (.slice (some ⟨b, k, none⟩) (n - k) (c - k)) (some b) (xs.drop k) := by
  have hl : xs.length = n := by rw [h.1]; omega
  rcases h.2 with ⟨hv, _⟩ | ⟨g, cap, cur, hv, hb, hg, hn, _, hsz, ht⟩
  · cases hv
  · simp only [Value.slice.injEq, Option.some.injEq, Addr.mk.injEq] at hv
    obtain ⟨⟨rfl, _, _⟩, _, rfl⟩ := hv
    refine Or.inr ⟨b, k, c - k, rfl, by rw [List.length_drop, hl], fun i x hx => ?_⟩
    rw [List.getElem?_drop] at hx
    have hi : k + i < xs.length := by
      rcases Nat.lt_or_ge (k + i) xs.length with h | h
      · exact h
      · rw [List.getElem?_eq_none h] at hx; cases hx
    simp only [World.cell?, hg]
    rw [← ht, List.getElem?_take] at hx
    split at hx
    · simpa using hx
    · cases hx

set_option maxHeartbeats 4000000 in
set_option maxRecDepth 100000 in
theorem sync_c (h : LogAt w bl bd bo bm sz g v) (hD : DevAt w bd bo bm d) (hsz : sz = (d.on.length - 2) / 2) (hc : g.count + 1 ≤ 9223372036854775807) :
    Calls Tryz.prog 13 #[.pointer (some ⟨bl, 0, none⟩)] w fun e w' => e = .returned (.int .i64 (g.sync d).2.2) ∧
      LogAt w' bl bd bo bm sz (g.sync d).1 v ∧ DevAt w' bd bo bm (g.sync d).2.1 ∧ Fr [bd, bo, bm, bl] w w' := by
  obtain ⟨va, vc, rfl⟩ := own_shape h.own
  have l6 := (raw_cells h.blk).2.2.2.2.2.2.1
  have l7 := (raw_cells h.blk).2.2.2.2.2.2.2.1
  have hcnt := h.wf.count
  have hs1 := h.sz1
  have hmn := h.wf.many
  by_cases hm : g.many = g.texts.length
  · rw [show g.sync d = (g, d, 0) by unfold Lg.sync; rw [if_pos hm]]
    rw [hm] at l7
    have HH := Lib.hid h
    have HD := Lib.hid hD
    clear h hD hm
    go_enter Tryz.func13, Tryz.ntmps13
    go_wp2
    go_quiet (fail)
    go_wp2
    go_ret
    exact ⟨rfl, HH.out.fr ((Fr.refl [] _).drewN _) (by simp) (by simp), HD.out.fr ((Fr.refl [] _).drewN _) (by simp) (by simp) (by simp), (Fr.refl _ _).drewN _⟩
  · obtain ⟨b, rfl⟩ : ∃ b, va = some ⟨b, 0, none⟩ := by
      rcases h.own.2 with ⟨hv, h0⟩ | ⟨b, cap, cur, hv, _⟩
      · omega
      · simp only [Value.slice.injEq] at hv; exact ⟨b, hv.1⟩
    obtain ⟨R, hR⟩ : ∃ R, d.settle g.area g.bytes.length g.count g.tail g.waits = R := ⟨_, rfl⟩
    have hrow := h.wf.room
    have hlen := h.wf.len
    have hn1 := h.n1
    have hn2 := h.n2
    have hn3 := h.n3
    have hbb : bl + 1 ≤ b := (own_base h.own b rfl).1
    have hfr : ∀ W', Fr [] w W' → Calls Tryz.prog 39 #[.slice (some ⟨b, g.many, none⟩) (g.texts.length - g.many) (vc - g.many)] W' fun e w' => e = .returned (.string (str g.waits)) ∧ Fr [] W' w' := by
      intro W' hW
      refine frames_c W' _ (some b) (g.texts.drop g.many) ?_ (by rw [List.length_drop]; omega) (fun s hs => h.wf.small s (List.mem_of_mem_drop hs))
      have := (slice_drop h.own g.many hmn).fr hW (by simp)
      rwa [show (strVals g.texts).drop g.many = strVals (g.texts.drop g.many) by simp [strVals]] at this
    have hcap : (g.texts.length : Int) ≤ (vc : Int) := by
      rcases h.own.2 with ⟨hv, h0⟩ | ⟨b, cap, cur, hv, _, _, hle, _⟩
      · omega
      · simp only [Value.slice.injEq] at hv; omega
    have hset : ∀ W', Fr [] w W' → ∀ e0, R.2 = e0 → Calls Tryz.prog 38 #[.pointer (some ⟨bl, 0, none⟩), .int .i64 (g.area : Int), .int .i64 (g.bytes.length : Int), .string (str g.tail), .string (str g.waits)] W' fun e w' =>
        e = .returned (.int .i64 e0) ∧ DevAt w' bd bo bm R.1 ∧ Fr [bd, bo, bm, bl] W' w' ∧
        Blk w' bl (if e0 = 0 then rawLog bd sz (g.count + 1) g.area (g.bytes.length + g.waits.length) (str ((g.tail ++ g.waits).drop (64 * ((g.tail ++ g.waits).length / 64)))) (.slice (some ⟨b, 0, none⟩) g.texts.length vc) g.texts.length 0
          else rawLog bd sz g.count g.area g.bytes.length (str g.tail) (.slice (some ⟨b, 0, none⟩) g.texts.length vc) g.many g.waits.length) := by
      intro W' hW e0 he0
      exact settle_x (hD.fr hW (by simp) (by simp) (by simp)) (h.blk.fr hW (by simp)) (by omega) (by omega) (by omega) hs1 hsz g.area g.bytes.length g.tail g.waits h.wf.area (Lg.tail_len g) (by omega) hc
        (hR.trans (show R = (R.1, e0) by rw [← he0])) _ _ rfl rfl _ _ rfl rfl
    have hne : ((g.many : Int) == (g.texts.length : Int)) = false := by simp; omega
    have hmlt : (g.many : Int) ≤ (g.texts.length : Int) := by omega
    have HLT : Hid (g.many < g.texts.length) := Lib.hid (by omega)
    have HH := Lib.hid h
    have HR := Lib.hid hR
    have HN := Lib.hid hm
    have HRow : Hid (g.bytes.length + g.waits.length = (framesL g.texts).length ∧ (framesL g.texts).length ≤ 64 * sz) := Lib.hid ⟨hlen, hrow⟩
    have hbw : b ∉ [bd, bo, bm, bl] := by simp; omega
    clear hD hR hrow hlen hcnt hm
    have walk : ∀ e0, R.2 = e0 → Calls Tryz.prog 13 #[.pointer (some ⟨bl, 0, none⟩)] w fun e w' => e = .returned (.int .i64 e0) ∧ DevAt w' bd bo bm R.1 ∧ Fr [bd, bo, bm, bl] w w' ∧
        Blk w' bl (if e0 = 0 then rawLog bd sz (g.count + 1) g.area (g.bytes.length + g.waits.length) (str ((g.tail ++ g.waits).drop (64 * ((g.tail ++ g.waits).length / 64)))) (.slice (some ⟨b, 0, none⟩) g.texts.length vc) g.texts.length 0
          else rawLog bd sz g.count g.area g.bytes.length (str g.tail) (.slice (some ⟨b, 0, none⟩) g.texts.length vc) g.many g.waits.length) := by
      intro e0 he0
      have hset := fun W' hW => hset W' hW e0 he0
      generalize (if e0 = 0 then rawLog bd sz (g.count + 1) g.area (g.bytes.length + g.waits.length) (str ((g.tail ++ g.waits).drop (64 * ((g.tail ++ g.waits).length / 64)))) (.slice (some ⟨b, 0, none⟩) g.texts.length vc) g.texts.length 0
          else rawLog bd sz g.count g.area g.bytes.length (str g.tail) (.slice (some ⟨b, 0, none⟩) g.texts.length vc) g.many g.waits.length) = RL at *
      clear h hc hn1 hn2 hn3 he0
      go_enter Tryz.func13, Tryz.ntmps13
      go_wp2
      go_quiet (fail)
      go_wp2
      have hdr : ∀ n, Fr [] w (w.drewN n) := fun n => (Fr.refl _ _).drewN _
      refine wp_region_tail 25 (by kernel_rfl) (by kernel_rfl) ?_
      refine q_val rfl (by intro w' _; go_simp; rfl) ?_
      go_frame
      refine q_val rfl (by intro w' _; go_simp; rfl) ?_
      go_frame
      refine q_val rfl (by intro w' _; go_simp; rfl) ?_
      go_frame
      refine q_val rfl (by intro w' _; go_simp; rfl) ?_
      go_frame
      refine q_val rfl (by intro w' _; go_simp; rfl) ?_
      go_frame
      refine q_val (v := .int .i64 (g.area : Int)) rfl (by intro w' hW; have := (raw_cells (HH.out.blk.fr ((hdr _).trans hW) (by simp))).2.2.2.1; go_simp) ?_
      go_frame
      refine q_val rfl (by intro w' _; go_simp; rfl) ?_
      go_frame
      refine q_val rfl (by intro w' _; go_simp; rfl) ?_
      go_frame
      refine q_val rfl (by intro w' _; go_simp; rfl) ?_
      go_frame
      refine q_val rfl (by intro w' _; go_simp; rfl) ?_
      go_frame
      refine q_val (v := .int .i64 (g.bytes.length : Int)) rfl (by intro w' hW; have := (raw_cells (HH.out.blk.fr ((hdr _).trans hW) (by simp))).2.2.2.2.1; go_simp) ?_
      go_frame
      refine q_val rfl (by intro w' _; go_simp; rfl) ?_
      go_frame
      refine q_val rfl (by intro w' _; go_simp; rfl) ?_
      go_frame
      refine q_val rfl (by intro w' _; go_simp; rfl) ?_
      go_frame
      refine q_val (v := .string (str g.tail)) rfl (by intro w' hW; have := (raw_cells (HH.out.blk.fr ((hdr _).trans hW) (by simp))).2.2.2.2.2.1; go_simp) ?_
      go_frame
      refine q_val rfl (by intro w' _; go_simp; rfl) ?_
      go_frame
      refine q_val rfl (by intro w' _; go_simp; rfl) ?_
      go_frame
      refine q_val rfl (by intro w' _; go_simp; rfl) ?_
      go_frame
      refine q_val (v := .slice (some ⟨b, 0, none⟩) g.texts.length vc) rfl (by intro w' hW; have := (raw_cells (HH.out.blk.fr ((hdr _).trans hW) (by simp))).2.2.2.2.2.2.1; go_simp) ?_
      go_frame
      refine q_val rfl (by intro w' _; go_simp; rfl) ?_
      go_frame
      refine q_val rfl (by intro w' _; go_simp; rfl) ?_
      go_frame
      refine q_val rfl (by intro w' _; go_simp; rfl) ?_
      go_frame
      refine q_val (v := .int .i64 (g.many : Int)) rfl (by intro w' hW; have := (raw_cells (HH.out.blk.fr ((hdr _).trans hW) (by simp))).2.2.2.2.2.2.2.1; go_simp) ?_
      go_frame
      refine q_val (v := .slice (some ⟨b, g.many, none⟩) (g.texts.length - g.many) (vc - g.many)) rfl (by intro w' hW; go_simp; intro he; have := HLT.out; omega) ?_
      go_frame
      refine q_call (f := 39) (args := #[.slice (some ⟨b, g.many, none⟩) (g.texts.length - g.many) (vc - g.many)]) (v := .string (str g.waits)) rfl (by intro w'; go_simp; try rfl) (fun w' hW => hfr w' ((hdr _).trans hW)) ?_
      go_frame
      refine wpQuiet_nil ?_
      intro w1 hF1
      go_wp2_with (go_at_call 38; refine (hset w1 ((hdr _).trans hF1)).mono ?_; rintro e w2 ⟨rfl, hD2, hF2, hB2⟩)
      go_ret
      exact ⟨rfl, hD2, ((hdr _).trans hF1).any.trans hF2, hB2⟩
    by_cases hR0 : R.2 = 0
    · rw [show g.sync d = ({ g with count := g.count + 1, bytes := g.bytes ++ g.waits, many := g.texts.length }, R) by unfold Lg.sync; rw [if_neg HN.out, HR.out]; simp only [if_pos hR0]]
      refine (walk 0 hR0).mono ?_
      rintro e w' ⟨rfl, hD2, hF2, hB2⟩
      rw [if_pos rfl] at hB2
      refine ⟨by rw [hR0], ⟨?_, hs1, ?_, own_fr HH.out.own hF2 (by intro x hx; simp [Value.ownBlock] at hx; subst hx; exact hbw), HH.out.n1, HH.out.n2, HH.out.n3⟩, hD2, hF2⟩
      · exact ⟨by rw [HH.out.wf.all, List.take_length], Nat.le_refl _, HH.out.wf.small, HH.out.wf.room, HH.out.wf.area, by have := HH.out.wf.one; show 1 ≤ g.count + 1; omega⟩
      · have e1 : (g.tail ++ g.waits).drop (64 * ((g.tail ++ g.waits).length / 64)) = (g.bytes ++ g.waits).drop (64 * ((g.bytes ++ g.waits).length / 64)) := drop_tail _ _
        rw [e1] at hB2
        have e2 : (Lg.waits { g with count := g.count + 1, bytes := g.bytes ++ g.waits, many := g.texts.length }).length = 0 := by
          show (framesL (g.texts.drop g.texts.length)).length = 0
          rw [List.drop_length]; rfl
        rw [e2]
        have e3 : (g.bytes ++ g.waits).length = g.bytes.length + g.waits.length := List.length_append
        show Blk w' bl (rawLog bd sz (g.count + 1) g.area (g.bytes ++ g.waits).length (str ((g.bytes ++ g.waits).drop (64 * ((g.bytes ++ g.waits).length / 64)))) _ g.texts.length 0)
        rw [e3] at hB2 ⊢
        exact hB2
    · rw [show g.sync d = (g, R) by unfold Lg.sync; rw [if_neg HN.out, HR.out]; simp only [if_neg hR0]]
      refine (walk R.2 rfl).mono ?_
      rintro e w' ⟨rfl, hD2, hF2, hB2⟩
      rw [if_neg hR0] at hB2
      exact ⟨rfl, ⟨HH.out.wf, hs1, hB2, own_fr HH.out.own hF2 (by intro x hx; simp [Value.ownBlock] at hx; subst hx; exact hbw), HH.out.n1, HH.out.n2, HH.out.n3⟩, hD2, hF2⟩
end

end Go.Proofs.YtiojkakmlbfiiaaGreat

/- The program's log: Restart. -/
namespace Go.Proofs.YtiojkakmlbfiiaaGreat
open Go.RowKit
open Sp

section
variable {w : World} {bl bd bo bm sz : Nat} {g : Lg} {v : Value} {d : Dv}

theorem framesL_take_le (l : List ByteArray) (k : Nat) : (framesL (l.take k)).length ≤ (framesL l).length := by
  conv => rhs; rw [← List.take_append_drop k l, framesL_append, List.length_append]
  omega

set_option maxHeartbeats 4000000 in
set_option maxRecDepth 100000 in
theorem restart_c (h : LogAt w bl bd bo bm sz g v) (hD : DevAt w bd bo bm d) (hsz : sz = (d.on.length - 2) / 2) (hc : g.count + 1 ≤ 9223372036854775807)
    (pv : Value) (fp : Option Nat) (l : List ByteArray) (hp : SliceAt w pv fp (strVals l)) (hpn : ∀ b, fp = some b → b ≠ bl) (hl : l.length ≤ 8796093022208) (hls : ∀ s ∈ l, s.size ≤ 9223372036854775807) :
    Calls Tryz.prog 29 #[.pointer (some ⟨bl, 0, none⟩), pv] w fun e w' => ∃ v', e = .returned (.int .i64 (g.restart d l).2.2) ∧
      LogAt w' bl bd bo bm sz (g.restart d l).1 v' ∧ Moved w v v' ∧ DevAt w' bd bo bm (g.restart d l).2.1 ∧ Fr [bd, bo, bm, bl] w w' := by
  obtain ⟨va, vc, rfl⟩ := own_shape h.own
  obtain ⟨pa, pc, rfl⟩ : ∃ a c, pv = .slice a l.length c := by
    rcases hp with ⟨h1, _, a, c, rfl⟩ | ⟨b, o, c, _, rfl, _⟩
    · refine ⟨a, c, ?_⟩
      have : l = [] := by simpa [strVals] using h1
      rw [this]; rfl
    · exact ⟨some ⟨b, o, none⟩, c, by simp [strVals]⟩
  obtain ⟨RS, hRS⟩ : ∃ RS, g.restart d l = RS := ⟨_, rfl⟩
  rw [hRS]
  have HRS := Lib.hid hRS
  have HH := Lib.hid h
  have HD := Lib.hid hD
  have HP := Lib.hid hp
  have HSZ := Lib.hid hsz
  have hs1 := h.sz1
  have l1 := (raw_cells h.blk).2.1
  have l6 := (raw_cells h.blk).2.2.2.2.2.2.1
  have f6 := h.blk.free 6
  have hblt := h.blk.lt
  have hN : bl ≠ bd ∧ bl ≠ bo ∧ bl ≠ bm := ⟨by have := h.n1; omega, by have := h.n2; omega, by have := h.n3; omega⟩
  have HN := Lib.hid hN
  have hcl := fun (hh : l.length ≤ 1048576) => clone_c w (.slice pa l.length pc) fp l hp hh
  have HCL := Lib.hid hcl
  clear h hD hp hRS hsz hcl hN
  go_enter Tryz.func29, Tryz.ntmps29
  go_wp2
  go_loop [5, 12] (fun long i => ∃ k : Nat, k ≤ l.length ∧ i = .int .i64 k ∧ long = .int .i64 ((framesL (l.take k)).length : Nat) ∧ Hid (∀ s ∈ l.take k, s.size ≤ 4096)) (fun _ i => l.length - (intOf i).toNat)
  case atStart => exact ⟨0, Nat.zero_le _, rfl, rfl, Lib.hid (by simp)⟩
  case round =>
    obtain ⟨k, hk, rfl, rfl, hS⟩ := hrel
    have hb := framesL_len (l.take k) hS.out
    have hlk : (l.take k).length = k := by rw [List.length_take]; omega
    rw [hlk] at hb
    by_cases hlt : k < l.length
    · obtain ⟨x, hx⟩ : ∃ x, l[k]? = some x := ⟨_, List.getElem?_eq_getElem hlt⟩
      obtain ⟨sb, so, rfl, hcell⟩ : ∃ b o, pa = some ⟨b, o, none⟩ ∧ w.cell? ⟨b, o + k, none⟩ = some (.string x) := by
        rcases HP.out with ⟨h1, _, _⟩ | ⟨b, o, c', _, hv, hcell⟩
        · have h2 : l = [] := by simpa [strVals] using h1
          rw [h2] at hlt; simp at hlt
        · simp only [Value.slice.injEq] at hv
          exact ⟨b, o, hv.1, hcell k _ (by rw [strVals, List.getElem?_map, hx]; rfl)⟩
      have hsn := framesL_snoc l k x hx
      have hxs := hls x (List.mem_of_getElem? hx)
      have hfl := frameL_len x.data.toList
      have hxl : x.data.toList.length = x.size := rfl
      rw [hxl] at hfl
      have HSN : Hid ((framesL (l.take (k + 1))).length = (framesL (l.take k)).length + (x.size + 6)) := Lib.hid (by rw [hsn, List.length_append, hfl])
      by_cases h4 : 4096 < x.size
      · have h4' : (4096 : Int) < (x.size : Int) := by omega
        have HRR : Hid (RS = (g, d, 2)) := Lib.hid (by
          rw [← HRS.out]; unfold Lg.restart
          rw [if_pos (List.any_eq_true.2 ⟨x, List.mem_of_getElem? hx, by simpa using h4⟩)])
        clear hx hsn hfl
        go_wp2
        go_ret
        rw [HRR.out]
        first | exact ⟨_, rfl, HH.out, Or.inl rfl, HD.out, Fr.refl _ _⟩ | exact ⟨rfl, _, HH.out, Or.inl rfl, HD.out, Fr.refl _ _⟩
      · have h4' : (x.size : Int) ≤ 4096 := by omega
        have HS2 : Hid (∀ s ∈ l.take (k + 1), s.size ≤ 4096) := Lib.hid (by
          intro s hs
          have hk2 : l[k]? = some x := hx
          rw [List.take_add_one, hk2] at hs
          rcases List.mem_append.1 hs with h | h
          · exact hS.out s h
          · simp at h; rw [h]; omega)
        clear hx hsn hfl
        generalize (framesL (l.take k)).length = L at *
        go_wp2
        go_round
        case rel => exact ⟨k + 1, by omega, by go_num, by rw [HSN.out]; go_num, HS2⟩
        case measure => simp [intOf]; omega
    · obtain rfl : k = l.length := by omega
      rw [List.take_length] at hb hS ⊢
      have hnl : ¬ (l.any fun t => decide (4096 < t.size)) = true := by
        intro e
        obtain ⟨x, hx, h⟩ := List.any_eq_true.1 e
        have := hS.out x hx
        simp at h; omega
      have har : areaOf d.on.length = 64 * sz := by rw [areaOf, HSZ.out]
      by_cases h5 : 64 * sz < (framesL l).length
      · have HRR : Hid (RS = (g, d, 100)) := Lib.hid (by
          rw [← HRS.out]; unfold Lg.restart
          rw [if_neg hnl, if_pos (by rw [har]; exact h5)])
        have h5' : 64 * (sz : Int) < ((framesL l).length : Int) := by omega
        generalize (framesL l).length = L at *
        go_wp2
        go_ret
        rw [HRR.out]
        first | exact ⟨_, rfl, HH.out, Or.inl rfl, HD.out, Fr.refl _ _⟩ | exact ⟨rfl, _, HH.out, Or.inl rfl, HD.out, Fr.refl _ _⟩
      · obtain ⟨R, hR⟩ : ∃ R, d.settle (1 - g.area) 0 g.count [] (framesL l) = R := ⟨_, rfl⟩
        have HRR : Hid (RS = if R.2 = 0 then ({ count := g.count + 1, area := 1 - g.area, bytes := framesL l, texts := l, many := l.length }, R) else (g, R)) := Lib.hid (by
          rw [← HRS.out]; unfold Lg.restart
          rw [if_neg hnl, if_neg (by rw [har]; exact h5), hR])
        have h5' : ((framesL l).length : Int) ≤ 64 * (sz : Int) := by omega
        have H5 : Hid (¬ 64 * sz < (framesL l).length) := Lib.hid h5
        have h6 := framesL_six l
        have hl2 : l.length ≤ 10912 := by omega
        have HR := Lib.hid hR
        have hL0 : Hid ((framesL l).length = (framesL l).length) := Lib.hid rfl
        obtain ⟨L, hL⟩ : ∃ L, (framesL l).length = L := ⟨_, rfl⟩
        have HL := Lib.hid hL
        rw [hL] at h5' hb ⊢
        clear h5 hnl har h6 hR hL
        have harea := HH.out.wf.area
        have hone := HH.out.wf.one
        by_cases hR0 : R.2 = 0
        · have HR0 := Lib.hid hR0
          clear hR0
          go_wp2_with (go_at_call 44; refine (HCL.out (by omega)).mono ?_; rintro e w1 ⟨nv, rfl, hown, hF1⟩
                       obtain ⟨na, nc, rfl⟩ := own_shape hown
                       have HO := Lib.hid hown
                       have HB1 := Lib.hid (HH.out.blk.fr hF1 (by simp))
                       have l6' := (raw_cells HB1.out).2.2.2.2.2.2.1
                       have f6' := HB1.out.free 6
                       clear hown)
          have HB2 : Hid (Blk (w1.setCell ⟨bl, 6, none⟩ (.slice na l.length nc)) bl (rawLog bd sz g.count g.area g.bytes.length (str g.tail) (.slice na l.length nc) g.many g.waits.length)) := Lib.hid (HB1.out.set 6 (.slice na l.length nc))
          have hF2 : Fr [bl] w (w1.setCell ⟨bl, 6, none⟩ (.slice na l.length nc)) := hF1.any.setCell (Or.inl (by simp)) _
          have HO2 : Hid ((w1.setCell ⟨bl, 6, none⟩ (.slice na l.length nc)).ownsRow w.heap.size 9 1 (.slice na l.length nc) l.length (strVals l)) := Lib.hid (own_fr HO.out ((Fr.refl [bl] w1).setCell (Or.inl (by simp)) _) (by
            intro x hx; have := (own_base HO.out x hx).1; simp; omega))
          have HP2 := Lib.hid (HP.out.fr hF2 (by intro b hb; have := hpn b hb; simpa using this))
          have HD2 := Lib.hid (HD.out.fr hF2 (by have := HN.out.1; simp; exact Ne.symm this) (by have := HN.out.2.1; simp; exact Ne.symm this) (by have := HN.out.2.2; simp; exact Ne.symm this))
          generalize w1.setCell ⟨bl, 6, none⟩ (.slice na l.length nc) = W at *
          clear l6' f6' HB1 HO
          refine wp_region_tail 9 (by kernel_rfl) (by kernel_rfl) ?_
          refine q_val rfl (by intro w' _; go_simp; rfl) ?_
          go_frame
          refine q_val rfl (by intro w' _; go_simp; rfl) ?_
          go_frame
          refine q_val rfl (by intro w' _; go_simp; rfl) ?_
          go_frame
          refine q_val rfl (by intro w' _; go_simp; rfl) ?_
          go_frame
          refine q_val rfl (by intro w' _; go_simp; rfl) ?_
          go_frame
          refine q_val (v := .int .i64 (g.area : Int)) rfl (by intro w' hW; have := (raw_cells (HB2.out.fr hW (by simp))).2.2.2.1; go_simp) ?_
          go_frame
          refine q_val (v := .int .i64 (1 - (g.area : Int))) rfl (by intro w' _; go_simp; exact IntWalk.i64_in _ (by omega)) ?_
          go_frame
          refine q_val rfl (by intro w' _; go_simp; rfl) ?_
          go_frame
          refine q_call (f := 39) (args := #[.slice pa l.length pc]) (v := .string (str (framesL l))) rfl (by intro w'; go_simp; try rfl) (fun w' hW => frames_c w' _ fp l (HP2.out.fr hW (by simp)) (by omega) hS.out) ?_
          go_frame
          refine wpQuiet_nil ?_
          intro w3 hF3
          have hst := settle_x (HD2.out.fr hF3 (by simp) (by simp) (by simp)) (HB2.out.fr hF3 (by simp)) HN.out.1 HN.out.2.1 HN.out.2.2 hs1 HSZ.out (1 - g.area) 0 [] (framesL l) (by omega) (by simp) (by have := H5.out; omega) hc
            (HR.out.trans (show R = (R.1, 0) by rw [← HR0.out])) (1 - (g.area : Int)) 0 (by omega) rfl (⟨#[]⟩ : ByteArray) (str (framesL l)) rfl rfl
          rw [if_pos rfl] at hst
          have HST := Lib.hid hst
          clear hst
          go_wp2_with (go_at_call 38; refine HST.out.mono ?_; rintro e w4 ⟨rfl, hD4, hF4, hB4⟩; have HB4 := Lib.hid hB4; clear hB4)
          go_ret
          have hRS : RS = ({ count := g.count + 1, area := 1 - g.area, bytes := framesL l, texts := l, many := l.length }, R) := by rw [HRR.out, if_pos HR0.out]
          have hF : Fr [bd, bo, bm, bl] w w4 := (hF2.mono (by simp)).trans ((hF3.any).trans hF4)
          have hfresh : ∀ x, Value.ownBlock (.slice na l.length nc) = some x → w.heap.size ≤ x := fun x hx => (own_base HO2.out x hx).1
          have hx1 := HD.out.blk.lt
          have hx2 := HD.out.byt.lt
          have hx3 := HD.out.map.lt
          have hown4 : w4.ownsRow w.heap.size 9 1 (.slice na l.length nc) l.length (strVals l) := by
            refine own_fr (own_fr HO2.out hF3 (by simp)) hF4 (fun x hx => ?_)
            have := hfresh x hx
            simp; omega
          have hlog : LogAt w4 bl bd bo bm sz { count := g.count + 1, area := 1 - g.area, bytes := framesL l, texts := l, many := l.length } (.slice na l.length nc) := by
            refine ⟨⟨by rw [List.take_length], Nat.le_refl _, hS.out, by have := H5.out; show (framesL l).length ≤ _; omega, by show 1 - g.area ≤ 1; omega, by show 1 ≤ g.count + 1; omega⟩, hs1, ?_, own_weak hown4 (by omega), HH.out.n1, HH.out.n2, HH.out.n3⟩
            have := HB4.out
            simp only [Nat.zero_add, List.nil_append] at this
            have e2 : (Lg.waits { count := g.count + 1, area := 1 - g.area, bytes := framesL l, texts := l, many := l.length }).length = 0 := by
              show (framesL (l.drop l.length)).length = 0
              rw [List.drop_length]; rfl
            rw [e2]
            exact this
          rw [hRS]
          have hmv : Moved w (.slice va g.texts.length vc) (.slice na l.length nc) := Or.inr hfresh
          first | exact ⟨_, (by rw [HR0.out]; rfl), hlog, hmv, hD4, hF⟩ | exact ⟨(by rw [HR0.out]; rfl), _, hlog, hmv, hD4, hF⟩
        · have HR0 := Lib.hid hR0
          clear hR0
          go_wp2_with (go_at_call 44; refine (HCL.out (by omega)).mono ?_; rintro e w1 ⟨nv, rfl, hown, hF1⟩
                       obtain ⟨na, nc, rfl⟩ := own_shape hown
                       have HO := Lib.hid hown
                       have HB1 := Lib.hid (HH.out.blk.fr hF1 (by simp))
                       have l6' := (raw_cells HB1.out).2.2.2.2.2.2.1
                       have f6' := HB1.out.free 6
                       clear hown)
          have HB2 : Hid (Blk (w1.setCell ⟨bl, 6, none⟩ (.slice na l.length nc)) bl (rawLog bd sz g.count g.area g.bytes.length (str g.tail) (.slice na l.length nc) g.many g.waits.length)) := Lib.hid (HB1.out.set 6 (.slice na l.length nc))
          have hF2 : Fr [bl] w (w1.setCell ⟨bl, 6, none⟩ (.slice na l.length nc)) := hF1.any.setCell (Or.inl (by simp)) _
          have HO2 : Hid ((w1.setCell ⟨bl, 6, none⟩ (.slice na l.length nc)).ownsRow w.heap.size 9 1 (.slice na l.length nc) l.length (strVals l)) := Lib.hid (own_fr HO.out ((Fr.refl [bl] w1).setCell (Or.inl (by simp)) _) (by
            intro x hx; have := (own_base HO.out x hx).1; simp; omega))
          have HP2 := Lib.hid (HP.out.fr hF2 (by intro b hb; have := hpn b hb; simpa using this))
          have HD2 := Lib.hid (HD.out.fr hF2 (by have := HN.out.1; simp; exact Ne.symm this) (by have := HN.out.2.1; simp; exact Ne.symm this) (by have := HN.out.2.2; simp; exact Ne.symm this))
          generalize w1.setCell ⟨bl, 6, none⟩ (.slice na l.length nc) = W at *
          clear l6' f6' HB1 HO
          refine wp_region_tail 9 (by kernel_rfl) (by kernel_rfl) ?_
          refine q_val rfl (by intro w' _; go_simp; rfl) ?_
          go_frame
          refine q_val rfl (by intro w' _; go_simp; rfl) ?_
          go_frame
          refine q_val rfl (by intro w' _; go_simp; rfl) ?_
          go_frame
          refine q_val rfl (by intro w' _; go_simp; rfl) ?_
          go_frame
          refine q_val rfl (by intro w' _; go_simp; rfl) ?_
          go_frame
          refine q_val (v := .int .i64 (g.area : Int)) rfl (by intro w' hW; have := (raw_cells (HB2.out.fr hW (by simp))).2.2.2.1; go_simp) ?_
          go_frame
          refine q_val (v := .int .i64 (1 - (g.area : Int))) rfl (by intro w' _; go_simp; exact IntWalk.i64_in _ (by omega)) ?_
          go_frame
          refine q_val rfl (by intro w' _; go_simp; rfl) ?_
          go_frame
          refine q_call (f := 39) (args := #[.slice pa l.length pc]) (v := .string (str (framesL l))) rfl (by intro w'; go_simp; try rfl) (fun w' hW => frames_c w' _ fp l (HP2.out.fr hW (by simp)) (by omega) hS.out) ?_
          go_frame
          refine wpQuiet_nil ?_
          intro w3 hF3
          have hst := settle_x (HD2.out.fr hF3 (by simp) (by simp) (by simp)) (HB2.out.fr hF3 (by simp)) HN.out.1 HN.out.2.1 HN.out.2.2 hs1 HSZ.out (1 - g.area) 0 [] (framesL l) (by omega) (by simp) (by have := H5.out; omega) hc
            (HR.out.trans (show R = (R.1, R.2) from rfl)) (1 - (g.area : Int)) 0 (by omega) rfl (⟨#[]⟩ : ByteArray) (str (framesL l)) rfl rfl
          rw [if_neg HR0.out] at hst
          have HST := Lib.hid hst
          have hRS : RS = (g, R) := by rw [HRR.out, if_neg HR0.out]
          have HRS2 := Lib.hid hRS
          have hne : (R.2 != 0) = true := by simpa using HR0.out
          clear hst hRS
          go_wp2_with (go_at_call 38; refine HST.out.mono ?_; rintro e w4 ⟨rfl, hD4, hF4, hB4⟩; have HB4 := Lib.hid hB4; clear hB4; have l6 := (raw_cells HB4.out).2.2.2.2.2.2.1; have f6 := HB4.out.free 6)
          go_ret
          have hF : Fr [bd, bo, bm, bl] w w4 := (hF2.mono (by simp)).trans ((hF3.any).trans hF4)
          have hset : Fr [bl] w4 (w4.setCell ⟨bl, 6, none⟩ (.slice va g.texts.length vc)) := (Fr.refl _ _).setCell (Or.inl (by simp)) _
          have hD5 := hD4.fr hset (by have := HN.out.1; simp; exact Ne.symm this) (by have := HN.out.2.1; simp; exact Ne.symm this) (by have := HN.out.2.2; simp; exact Ne.symm this)
          have hlog : LogAt (w4.setCell ⟨bl, 6, none⟩ (.slice va g.texts.length vc)) bl bd bo bm sz g (.slice va g.texts.length vc) := by
            refine ⟨HH.out.wf, hs1, ?_, own_fr HH.out.own (hF.trans (hset.mono (by simp))) (fun x hx => ?_), HH.out.n1, HH.out.n2, HH.out.n3⟩
            · exact HB4.out.set 6 (.slice va g.texts.length vc)
            · have := (own_base HH.out.own x hx).1
              have h1 := HH.out.n1; have h2 := HH.out.n2; have h3 := HH.out.n3
              simp; omega
          rw [HRS2.out]
          have hF5 : Fr [bd, bo, bm, bl] w (w4.setCell ⟨bl, 6, none⟩ (.slice va g.texts.length vc)) := hF.trans (hset.mono (by simp))
          first | exact ⟨_, rfl, hlog, Or.inl rfl, hD5, hF5⟩ | exact ⟨rfl, _, hlog, Or.inl rfl, hD5, hF5⟩
end

end Go.Proofs.YtiojkakmlbfiiaaGreat
