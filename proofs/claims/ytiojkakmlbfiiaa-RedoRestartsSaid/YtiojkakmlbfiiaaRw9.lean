/- The program's log: Sync, Restart. -/
import Derived.Test.YtiojkakmlbfiiaaRw8
namespace Go.Proofs.Ytiojkakmlbfiiaa
open Go.RowKit
open Sp

theorem drop_tail (a b : List UInt8) : (a.drop (64 * (a.length / 64)) ++ b).drop (64 * ((a.drop (64 * (a.length / 64)) ++ b).length / 64)) = (a ++ b).drop (64 * ((a ++ b).length / 64)) := by
  have h1 : 64 * (a.length / 64) ≤ a.length := by omega
  rw [← List.drop_append_of_le_length h1, List.drop_drop, List.length_drop, List.length_append]
  congr 1
  omega

section
variable {w : World} {bl bd bo bm sz : Nat} {g : Lg} {v : Value} {d : Dv}

theorem settle_x {count area0 long0 : Nat} {tail0 : ByteArray} {va : Option Addr} {vn vc : Nat} {many waits : Nat}
    (hD : DevAt w bd bo bm d) (h : Blk w bl (rawLog bd sz count area0 long0 tail0 (.slice va vn vc) many waits)) (h1 : bl ≠ bd) (h2 : bl ≠ bo) (h3 : bl ≠ bm)
    (hs : sz ≤ 1023) (hsz : sz = (d.on.length - 2) / 2) (area long : Nat) (tail more : List UInt8) (ha : area ≤ 1) (ht : tail.length = long % 64) (hl : long + more.length ≤ 64 * sz) (hc : count + 1 ≤ 9223372036854775807)
    {r : Dv} {e0 : Int} (hr : d.settle area long count tail more = (r, e0)) (x y : Int) (hx : x = (area : Int)) (hy : y = (long : Int)) (T M : ByteArray) (hT : T = str tail) (hM : M = str more) :
    Calls Try.prog 22 #[.pointer (some ⟨bl, 0, none⟩), .int .i64 x, .int .i64 y, .string T, .string M] w fun e w' =>
      e = .returned (.int .i64 e0) ∧ DevAt w' bd bo bm r ∧ Fr [bd, bo, bm, bl] w w' ∧
      Blk w' bl (if e0 = 0 then rawLog bd sz (count + 1) area (long + more.length) (str ((tail ++ more).drop (64 * ((tail ++ more).length / 64)))) (.slice va vn vc) vn 0
        else rawLog bd sz count area0 long0 tail0 (.slice va vn vc) many waits) := by
  subst hx hy hT hM
  have := settle_c hD h h1 h2 h3 hs hsz area long tail more ha ht hl hc
  rw [hr] at this
  exact this

theorem Lg.tail_len (g : Lg) : g.tail.length = g.bytes.length % 64 := by
  unfold Lg.tail; rw [List.length_drop]; omega

theorem slice_drop {w : World} {b c n : Nat} {xs : List Value} {base T : Nat} (h : w.ownsRow base T 1 (.slice (some ⟨b, 0, none⟩) n c) n xs) (k : Nat) (hk : k ≤ n) :
    SliceAt w (.slice (some ⟨b, k, none⟩) (n - k) (c - k)) (some b) (xs.drop k) := by
  have hl : xs.length = n := by rw [h.1]; omega
  rcases h.2 with ⟨hv, _⟩ | ⟨g, cap, cur, hv, hb, hg, hn, _, hsz, ht⟩
  · cases hv
  · simp only [Value.slice.injEq, Option.some.injEq, Addr.mk.injEq] at hv
    obtain ⟨⟨rfl, _, _⟩, _, rfl⟩ := hv
    refine Or.inr ⟨b, k, c - k, rfl, by rw [List.length_drop, hl], fun i x hx => ?_⟩
    rw [List.getElem?_drop] at hx
    have hi : k + i < xs.length := by
      rcases Nat.lt_or_ge (k + i) xs.length with h | h
      · exact h
      · rw [List.getElem?_eq_none h] at hx; cases hx
    simp only [World.cell?, hg]
    rw [← ht, List.getElem?_take] at hx
    split at hx
    · simpa using hx
    · cases hx

set_option maxHeartbeats 4000000 in
set_option maxRecDepth 100000 in
theorem sync_c (h : LogAt w bl bd bo bm sz g v) (hD : DevAt w bd bo bm d) (hsz : sz = (d.on.length - 2) / 2) (hc : g.count + 1 ≤ 9223372036854775807) :
    Calls Try.prog 14 #[.pointer (some ⟨bl, 0, none⟩)] w fun e w' => e = .returned (.int .i64 (g.sync d).2.2) ∧
      LogAt w' bl bd bo bm sz (g.sync d).1 v ∧ DevAt w' bd bo bm (g.sync d).2.1 ∧ Fr [bd, bo, bm, bl] w w' := by
  obtain ⟨va, vc, rfl⟩ := own_shape h.own
  have l6 := (raw_cells h.blk).2.2.2.2.2.2.1
  have l7 := (raw_cells h.blk).2.2.2.2.2.2.2.1
  have hcnt := h.wf.count
  have hs1 := h.sz1
  have hmn := h.wf.many
  by_cases hm : g.many = g.texts.length
  · rw [show g.sync d = (g, d, 0) by unfold Lg.sync; rw [if_pos hm]]
    rw [hm] at l7
    have HH := Lib.hid h
    have HD := Lib.hid hD
    clear h hD hm
    go_enter Try.func14, Try.ntmps14
    go_wp2
    go_quiet (fail)
    go_wp2
    go_ret
    exact ⟨rfl, HH.out.fr ((Fr.refl [] _).drewN _) (by simp) (by simp), HD.out.fr ((Fr.refl [] _).drewN _) (by simp) (by simp) (by simp), (Fr.refl _ _).drewN _⟩
  · obtain ⟨b, rfl⟩ : ∃ b, va = some ⟨b, 0, none⟩ := by
      rcases h.own.2 with ⟨hv, h0⟩ | ⟨b, cap, cur, hv, _⟩
      · omega
      · simp only [Value.slice.injEq] at hv; exact ⟨b, hv.1⟩
    obtain ⟨R, hR⟩ : ∃ R, d.settle g.area g.bytes.length g.count g.tail g.waits = R := ⟨_, rfl⟩
    have hrow := h.wf.room
    have hlen := h.wf.len
    have hn1 := h.n1
    have hn2 := h.n2
    have hn3 := h.n3
    have hbb : bl + 1 ≤ b := (own_base h.own b rfl).1
    have hfr : ∀ W', Fr [] w W' → Calls Try.prog 23 #[.slice (some ⟨b, g.many, none⟩) (g.texts.length - g.many) (vc - g.many)] W' fun e w' => e = .returned (.string (str g.waits)) ∧ Fr [] W' w' := by
      intro W' hW
      refine frames_c W' _ (some b) (g.texts.drop g.many) ?_ (by rw [List.length_drop]; omega) (fun s hs => h.wf.small s (List.mem_of_mem_drop hs))
      have := (slice_drop h.own g.many hmn).fr hW (by simp)
      rwa [show (strVals g.texts).drop g.many = strVals (g.texts.drop g.many) by simp [strVals]] at this
    have hcap : (g.texts.length : Int) ≤ (vc : Int) := by
      rcases h.own.2 with ⟨hv, h0⟩ | ⟨b, cap, cur, hv, _, _, hle, _⟩
      · omega
      · simp only [Value.slice.injEq] at hv; omega
    have hset : ∀ W', Fr [] w W' → ∀ e0, R.2 = e0 → Calls Try.prog 22 #[.pointer (some ⟨bl, 0, none⟩), .int .i64 (g.area : Int), .int .i64 (g.bytes.length : Int), .string (str g.tail), .string (str g.waits)] W' fun e w' =>
        e = .returned (.int .i64 e0) ∧ DevAt w' bd bo bm R.1 ∧ Fr [bd, bo, bm, bl] W' w' ∧
        Blk w' bl (if e0 = 0 then rawLog bd sz (g.count + 1) g.area (g.bytes.length + g.waits.length) (str ((g.tail ++ g.waits).drop (64 * ((g.tail ++ g.waits).length / 64)))) (.slice (some ⟨b, 0, none⟩) g.texts.length vc) g.texts.length 0
          else rawLog bd sz g.count g.area g.bytes.length (str g.tail) (.slice (some ⟨b, 0, none⟩) g.texts.length vc) g.many g.waits.length) := by
      intro W' hW e0 he0
      exact settle_x (hD.fr hW (by simp) (by simp) (by simp)) (h.blk.fr hW (by simp)) (by omega) (by omega) (by omega) hs1 hsz g.area g.bytes.length g.tail g.waits h.wf.area (Lg.tail_len g) (by omega) hc
        (hR.trans (show R = (R.1, e0) by rw [← he0])) _ _ rfl rfl _ _ rfl rfl
    have hne : ((g.many : Int) == (g.texts.length : Int)) = false := by simp; omega
    have hmlt : (g.many : Int) ≤ (g.texts.length : Int) := by omega
    have HLT : Hid (g.many < g.texts.length) := Lib.hid (by omega)
    have HH := Lib.hid h
    have HR := Lib.hid hR
    have HN := Lib.hid hm
    have HRow : Hid (g.bytes.length + g.waits.length = (framesL g.texts).length ∧ (framesL g.texts).length ≤ 64 * sz) := Lib.hid ⟨hlen, hrow⟩
    have hbw : b ∉ [bd, bo, bm, bl] := by simp; omega
    clear hD hR hrow hlen hcnt hm
    have walk : ∀ e0, R.2 = e0 → Calls Try.prog 14 #[.pointer (some ⟨bl, 0, none⟩)] w fun e w' => e = .returned (.int .i64 e0) ∧ DevAt w' bd bo bm R.1 ∧ Fr [bd, bo, bm, bl] w w' ∧
        Blk w' bl (if e0 = 0 then rawLog bd sz (g.count + 1) g.area (g.bytes.length + g.waits.length) (str ((g.tail ++ g.waits).drop (64 * ((g.tail ++ g.waits).length / 64)))) (.slice (some ⟨b, 0, none⟩) g.texts.length vc) g.texts.length 0
          else rawLog bd sz g.count g.area g.bytes.length (str g.tail) (.slice (some ⟨b, 0, none⟩) g.texts.length vc) g.many g.waits.length) := by
      intro e0 he0
      have hset := fun W' hW => hset W' hW e0 he0
      generalize (if e0 = 0 then rawLog bd sz (g.count + 1) g.area (g.bytes.length + g.waits.length) (str ((g.tail ++ g.waits).drop (64 * ((g.tail ++ g.waits).length / 64)))) (.slice (some ⟨b, 0, none⟩) g.texts.length vc) g.texts.length 0
          else rawLog bd sz g.count g.area g.bytes.length (str g.tail) (.slice (some ⟨b, 0, none⟩) g.texts.length vc) g.many g.waits.length) = RL at *
      clear h hc hn1 hn2 hn3 he0
      go_enter Try.func14, Try.ntmps14
      go_wp2
      go_quiet (fail)
      go_wp2
      have hdr : ∀ n, Fr [] w (w.drewN n) := fun n => (Fr.refl _ _).drewN _
      refine wp_region_tail 25 (by kernel_rfl) (by kernel_rfl) ?_
      refine q_val rfl (by intro w' _; go_simp; rfl) ?_
      go_frame
      refine q_val rfl (by intro w' _; go_simp; rfl) ?_
      go_frame
      refine q_val rfl (by intro w' _; go_simp; rfl) ?_
      go_frame
      refine q_val rfl (by intro w' _; go_simp; rfl) ?_
      go_frame
      refine q_val rfl (by intro w' _; go_simp; rfl) ?_
      go_frame
      refine q_val (v := .int .i64 (g.area : Int)) rfl (by intro w' hW; have := (raw_cells (HH.out.blk.fr ((hdr _).trans hW) (by simp))).2.2.2.1; go_simp) ?_
      go_frame
      refine q_val rfl (by intro w' _; go_simp; rfl) ?_
      go_frame
      refine q_val rfl (by intro w' _; go_simp; rfl) ?_
      go_frame
      refine q_val rfl (by intro w' _; go_simp; rfl) ?_
      go_frame
      refine q_val rfl (by intro w' _; go_simp; rfl) ?_
      go_frame
      refine q_val (v := .int .i64 (g.bytes.length : Int)) rfl (by intro w' hW; have := (raw_cells (HH.out.blk.fr ((hdr _).trans hW) (by simp))).2.2.2.2.1; go_simp) ?_
      go_frame
      refine q_val rfl (by intro w' _; go_simp; rfl) ?_
      go_frame
      refine q_val rfl (by intro w' _; go_simp; rfl) ?_
      go_frame
      refine q_val rfl (by intro w' _; go_simp; rfl) ?_
      go_frame
      refine q_val (v := .string (str g.tail)) rfl (by intro w' hW; have := (raw_cells (HH.out.blk.fr ((hdr _).trans hW) (by simp))).2.2.2.2.2.1; go_simp) ?_
      go_frame
      refine q_val rfl (by intro w' _; go_simp; rfl) ?_
      go_frame
      refine q_val rfl (by intro w' _; go_simp; rfl) ?_
      go_frame
      refine q_val rfl (by intro w' _; go_simp; rfl) ?_
      go_frame
      refine q_val (v := .slice (some ⟨b, 0, none⟩) g.texts.length vc) rfl (by intro w' hW; have := (raw_cells (HH.out.blk.fr ((hdr _).trans hW) (by simp))).2.2.2.2.2.2.1; go_simp) ?_
      go_frame
      refine q_val rfl (by intro w' _; go_simp; rfl) ?_
      go_frame
      refine q_val rfl (by intro w' _; go_simp; rfl) ?_
      go_frame
      refine q_val rfl (by intro w' _; go_simp; rfl) ?_
      go_frame
      refine q_val (v := .int .i64 (g.many : Int)) rfl (by intro w' hW; have := (raw_cells (HH.out.blk.fr ((hdr _).trans hW) (by simp))).2.2.2.2.2.2.2.1; go_simp) ?_
      go_frame
      refine q_val (v := .slice (some ⟨b, g.many, none⟩) (g.texts.length - g.many) (vc - g.many)) rfl (by intro w' hW; go_simp; intro he; have := HLT.out; omega) ?_
      go_frame
      refine q_call (f := 23) (args := #[.slice (some ⟨b, g.many, none⟩) (g.texts.length - g.many) (vc - g.many)]) (v := .string (str g.waits)) rfl (by intro w'; go_simp; try rfl) (fun w' hW => hfr w' ((hdr _).trans hW)) ?_
      go_frame
      refine wpQuiet_nil ?_
      intro w1 hF1
      go_wp2_with (go_at_call 22; refine (hset w1 ((hdr _).trans hF1)).mono ?_; rintro e w2 ⟨rfl, hD2, hF2, hB2⟩)
      go_ret
      exact ⟨rfl, hD2, ((hdr _).trans hF1).any.trans hF2, hB2⟩
    by_cases hR0 : R.2 = 0
    · rw [show g.sync d = ({ g with count := g.count + 1, bytes := g.bytes ++ g.waits, many := g.texts.length }, R) by unfold Lg.sync; rw [if_neg HN.out, HR.out]; simp only [if_pos hR0]]
      refine (walk 0 hR0).mono ?_
      rintro e w' ⟨rfl, hD2, hF2, hB2⟩
      rw [if_pos rfl] at hB2
      refine ⟨by rw [hR0], ⟨?_, hs1, ?_, own_fr HH.out.own hF2 (by intro x hx; simp [Value.ownBlock] at hx; subst hx; exact hbw), HH.out.n1, HH.out.n2, HH.out.n3⟩, hD2, hF2⟩
      · exact ⟨by rw [HH.out.wf.all, List.take_length], Nat.le_refl _, HH.out.wf.small, HH.out.wf.room, HH.out.wf.area, by have := HH.out.wf.one; show 1 ≤ g.count + 1; omega⟩
      · have e1 : (g.tail ++ g.waits).drop (64 * ((g.tail ++ g.waits).length / 64)) = (g.bytes ++ g.waits).drop (64 * ((g.bytes ++ g.waits).length / 64)) := drop_tail _ _
        rw [e1] at hB2
        have e2 : (Lg.waits { g with count := g.count + 1, bytes := g.bytes ++ g.waits, many := g.texts.length }).length = 0 := by
          show (framesL (g.texts.drop g.texts.length)).length = 0
          rw [List.drop_length]; rfl
        rw [e2]
        have e3 : (g.bytes ++ g.waits).length = g.bytes.length + g.waits.length := List.length_append
        show Blk w' bl (rawLog bd sz (g.count + 1) g.area (g.bytes ++ g.waits).length (str ((g.bytes ++ g.waits).drop (64 * ((g.bytes ++ g.waits).length / 64)))) _ g.texts.length 0)
        rw [e3] at hB2 ⊢
        exact hB2
    · rw [show g.sync d = (g, R) by unfold Lg.sync; rw [if_neg HN.out, HR.out]; simp only [if_neg hR0]]
      refine (walk R.2 rfl).mono ?_
      rintro e w' ⟨rfl, hD2, hF2, hB2⟩
      rw [if_neg hR0] at hB2
      exact ⟨rfl, ⟨HH.out.wf, hs1, hB2, own_fr HH.out.own hF2 (by intro x hx; simp [Value.ownBlock] at hx; subst hx; exact hbw), HH.out.n1, HH.out.n2, HH.out.n3⟩, hD2, hF2⟩
end

end Go.Proofs.Ytiojkakmlbfiiaa
