/- The program's device, further: Flush. -/
import Derived.Test.YtiojkakmlbfiiaaSw3
namespace Go.Proofs.Ytiojkakmlbfiiaa
open Go.RowKit Go.Maps
open Sp

theorem rangesBlk {w : World} {P : Program} {k : TypeId} {R : Value → Option (DW × List MemPlace)} {b r n : Nat} {D : DW} {left : Lit → Bool} {cnt : Nat}
    (h : w.ranges P k R b r n D left cnt) {w' : World} (h1 : w'.heap[b]? = w.heap[b]?) (h2 : w'.heap[r]? = w.heap[r]?) : w'.ranges P k R b r n D left cnt := by
  obtain ⟨es, clock, since, seen, c0, a1, a2, a3, a4, a5, a6⟩ := h
  exact ⟨es, clock, since, seen, c0, by rw [h1]; exact a1, a2, a3, a4, by rw [h2]; exact a5, a6⟩

theorem rangesLt {w : World} {P : Program} {k : TypeId} {R : Value → Option (DW × List MemPlace)} {b r n : Nat} {D : DW} {left : Lit → Bool} {cnt : Nat}
    (h : w.ranges P k R b r n D left cnt) : b < w.heap.size ∧ r < w.heap.size := by
  obtain ⟨es, clock, since, seen, c0, a1, a2, a3, a4, a5, a6⟩ := h
  exact ⟨lt_of_block a1, lt_of_block a5⟩

theorem bytes_raw {w : World} {bd bo : Nat} {l c n i : Nat} (h0 : w.cell? ⟨bd, 0, none⟩ = some (.slice (some ⟨bo, 0, none⟩) (64 * n) (64 * n))) (hn : n ≤ 2048) (hi : i < n) (hl : l = 64) (hc : c = 64 * n - 64 * i) :
    Calls Try.prog 26 #[.pointer (some ⟨bd, 0, none⟩), .int .i64 (i : Int)] w fun e w' => e = .returned (.slice (some ⟨bo, 64 * i, none⟩) l c) ∧ w = w' := by
  subst hl hc
  go_enter Try.func26, Try.ntmps26
  go_wp2
  go_ret
  exact ⟨ret_slice (by omega) (by omega) (by omega), rfl⟩

theorem DevAt.cleaned {w1 w2 : World} {bd bo bm : Nat} {d : Dv} (h : DevAt w1 bd bo bm d) (hf : Fr [bo, bm] w1 w2) (hb : Blk w2 bo (byteCells (over d.on d.nw)))
    (hc : CacheAt w2 bm (List.replicate d.nw.length none)) : DevAt w2 bd bo bm d.clean := by
  have hl : d.clean.on.length = d.on.length := over_len _ _ h.wf.len
  refine ⟨h.wf.clean, ?_, hb, hc, h.n1, h.n2, h.n3⟩
  rw [hl]
  exact h.blk.fr hf (by have := h.n1; have := h.n2; simp; omega)

set_option maxRecDepth 100000 in
/-- The part of Flush behind the fuse: what is in the cache is on the device. -/
theorem flush_c {w : World} {bd bo bm : Nat} {d : Dv} (h : DevAt w bd bo bm d) :
    Calls Try.prog 32 #[.pointer (some ⟨bd, 0, none⟩)] w fun e w' =>
      e = .returned (.int .i64 d.flush.2) ∧ DevAt w' bd bo bm d.flush.1 ∧ Fr [bd, bo, bm] w w' := by
  obtain ⟨c0, c1, c2, c3⟩ := h.cells
  by_cases hd : d.down = true
  · rw [show d.flush.2 = 90 by simp [Dv.flush, hd], show d.flush.1 = d by simp [Dv.flush, hd]]
    rw [hd] at c3
    have HH := Lib.hid h
    clear h hd c0 c1 c2
    go_enter Try.func32, Try.ntmps32
    go_wp2
    go_ret
    exact ⟨rfl, HH.out, Fr.refl _ _⟩
  rw [Bool.not_eq_true] at hd
  have hb := burn_c h
  by_cases hd2 : d.burn.down = true
  · rw [show d.flush.2 = 90 by simp [Dv.flush, hd, hd2], show d.flush.1 = d.burn by simp [Dv.flush, hd, hd2]]
    rw [hd] at c3
    rw [hd2] at hb
    clear h hd hd2 c0 c1 c2
    go_enter Try.func32, Try.ntmps32
    go_wp2_with (go_at_call 44; refine hb.mono ?_; rintro e w' ⟨rfl, hD, hF⟩)
    go_ret
    exact ⟨rfl, hD, hF.mono (by simp)⟩
  rw [Bool.not_eq_true] at hd2
  rw [show d.flush.2 = 0 by simp [Dv.flush, hd, hd2], show d.flush.1 = d.burn.clean by simp [Dv.flush, hd, hd2]]
  rw [hd] at c3
  rw [hd2] at hb
  clear h hd hd2 c0 c1 c2
  generalize d.burn = d1 at hb ⊢
  go_enter Try.func32, Try.ntmps32
  go_wp2_with (first
    | (go_at_call 44; refine hb.mono ?_; clear hb c3; rintro e w1 ⟨rfl, hD, hF⟩; obtain ⟨D, hown, hC⟩ := hD.map; have c1 := hD.cells.2.1)
    | (at_range; refine wpList_range_own _ rfl _ 40 rfl 3 9 keysLaw Try.underlying40 (plainElem Try.prog 9) bm (Maps.size D) D rfl hown ?_; intro w2 hrg0 hg0 hs0)
    | go_in)
  go_frame
  have h01 : Fr [] w1 w2 := (Fr.refl _ _).grown hg0 (by simp)
  have H0 : Hid (w2.heap.size = w1.heap.size + 1) := hs0
  clear hs0 hg0 c1
  go_loopw [3, 4] (fun _ _ wr => ∃ (on' : List ByteArray) (left : Lit → Bool) (cnt : Nat), wr.ranges Try.prog 3 (plainElem Try.prog 9) bm w1.heap.size (Maps.size D) D left cnt ∧
      Hid (Merged d1.on on' d1.nw left) ∧ Blk wr bo (byteCells on') ∧ Fr [bo] w1 wr)
    (fun _ _ wr => wr.rangeLeft bm w1.heap.size)
  case atStart =>
    refine ⟨d1.on, _, _, hrg0, ⟨rfl, hD.wf.on64, fun _ _ => rfl, fun i s hi hs hl => ?_⟩, hD.byt.fr h01 (by simp), h01.any⟩
    rw [(hC.hit i s hs).1] at hl; cases hl
  case round =>
    obtain ⟨on', left, cnt, hrg, hM, hBo, hFr⟩ := hrel
    have c0 : wr.cell? ⟨bd, 0, none⟩ = some (.slice (some ⟨bo, 0, none⟩) (64 * d1.on.length) (64 * d1.on.length)) := (hD.blk.fr hFr (by simpa using hD.n1)).cell 0
    have c1 : wr.cell? ⟨bd, 1, none⟩ = some (.map (some bm)) := (hD.blk.fr hFr (by simpa using hD.n1)).cell 1
    go_wp2_with (first
      | (at_next; refine wpList_next_ranges_is _ rfl _ rfl 3 9 .i64 keysLaw Try.underlying3 Try.underlying9 bm w1.heap.size (Maps.size D) D _ _ rfl hrg ?_ ?_)
      | go_in)
    · intro _ hl0
      obtain ⟨w5, hcl, hC5, hF5⟩ := CacheAt.clear (⟨D, size_of_owns hrg.owns, hC⟩ : CacheAt wr bm d1.nw) d1.nw.length
      go_wp2
      go_ret
      have e1 := merged_end hM.out hD.wf.len hl0
      rw [e1] at hBo
      have hF6 : Fr [bo, bm] w1 w5 := (hFr.mono (by simp)).trans (hF5.mono (by simp))
      exact ⟨rfl, hD.cleaned hF6 (hBo.fr hF5 (by simpa using hD.n3)) hC5, (hF.mono (by simp)).trans (hF6.mono (by simp))⟩
    · intro x c w3 cnt1 hwx hwc hlx hat hrg1 hlt hg1 hs1 hen
      obtain ⟨k, rfl, hk⟩ := hC.of_at hat
      have hkl : k < d1.on.length := by
        have := hD.wf.len
        rcases Nat.lt_or_ge k d1.nw.length with h | h
        · omega
        · rw [List.getElem?_eq_none h] at hk; cases hk
      have hc64 : c.size = 64 := hD.wf.nw64 c (List.mem_of_getElem? hk)
      have hm := hD.wf.most
      have hlts := rangesLt hrg
      have hbo' : bo ≠ w1.heap.size := by have := hD.byt.lt; omega
      have hF3 : Fr [w1.heap.size] wr w3 := (Fr.refl _ _).grown hg1 (by intro k hk; cases hk; simp)
      have hbd' : bd ≠ w1.heap.size := by have := hD.blk.lt; omega
      have g0 : w3.cell? ⟨bd, 0, none⟩ = some (.slice (some ⟨bo, 0, none⟩) (64 * d1.on.length) (64 * d1.on.length)) := ((hD.blk.fr hFr (by simpa using hD.n1)).fr hF3 (by simpa using hbd')).cell 0
      have hBo3 : Blk w3 bo (byteCells on') := hBo.fr hF3 (by simpa using hbo')
      have hlen : (byteCells on').length = 64 * d1.on.length := by rw [byteCells_len _ hM.out.all, hM.out.len]
      obtain ⟨o, ho⟩ : ∃ o, on'[k]? = some o := ⟨_, List.getElem?_eq_getElem (by rw [hM.out.len]; exact hkl)⟩
      obtain ⟨w4, hcp, hBo4, hF4⟩ := copy_str (off := 64 * k) (dLen := 64) (dCap := 64 * d1.on.length - 64 * k) hBo3 c 64 (by rw [hc64]; rfl) (by rw [hlen]; omega)
      rw [byteCells_torn on' k o c 64 hM.out.all ho (Nat.le_refl _)] at hBo4
      have hM4 := merged_step hM.out k c o hkl hk hc64 ho
      have HBo4 := Lib.hid hBo4
      have HM4 := Lib.hid hM4
      have HF34 := Lib.hid (⟨hF3, hF4⟩ : Fr [w1.heap.size] wr w3 ∧ Fr [bo] w3 w4)
      clear hlen ho hBo4 hM4 hF3 hF4 hBo3 c0 c1 hk hc64
      go_wp2_with (go_at_call 26; refine (bytes_raw g0 hm hkl rfl rfl).mono ?_; rintro e w' ⟨rfl, rfl⟩)
      go_roundw
      case rel =>
        refine ⟨_, _, cnt1, rangesBlk hrg1 (HF34.out.2.block _ ?_ ?_) (HF34.out.2.block _ ?_ ?_), HM4.out, HBo4.out, ?_⟩
        · have := HF34.out.1.size; omega
        · have := hD.n3; simp; omega
        · have := HF34.out.1.size; omega
        · simp; omega
        · exact hFr.then ((HF34.out.1.mono (T := [w1.heap.size, bo]) (by simp)).trans (HF34.out.2.mono (by simp))) (by simp)
      case measure =>
        have e4 : w4.rangeLeft bm w1.heap.size = w3.rangeLeft bm w1.heap.size := by
          unfold World.rangeLeft
          rw [HF34.out.2.block bm (by have := HF34.out.1.size; omega) (by have := hD.n3; simp; omega), HF34.out.2.block w1.heap.size (by have := HF34.out.1.size; omega) (by simp; omega)]
        rw [e4, hrg1.left_eq, hrg.left_eq]; exact hlt

end Go.Proofs.Ytiojkakmlbfiiaa
