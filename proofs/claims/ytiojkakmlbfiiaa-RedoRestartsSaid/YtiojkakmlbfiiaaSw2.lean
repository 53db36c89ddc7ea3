/- The program's device, further: Write, Fuse, up, New. -/
import Derived.Test.YtiojkakmlbfiiaaSw
namespace Go.Proofs.Ytiojkakmlbfiiaa
open Go.RowKit Go.Maps
open Sp

theorem DevAt.put {w w' : World} {bd bo bm : Nat} {d : Dv} (h : DevAt w bd bo bm d) (i : Nat) (s : ByteArray) (hs : s.size = 64) (hc : CacheAt w' bm (d.nw.set i (some s))) (hf : Fr [bm] w w') :
    DevAt w' bd bo bm (d.put i s) :=
  ⟨h.wf.put i s hs, h.blk.fr hf (by simpa using h.n2), h.byt.fr hf (by simpa using h.n3), hc, h.n1, h.n2, h.n3⟩

theorem fr_two {bd bm : Nat} {w w1 w2 : World} (h1 : Fr [bd] w w1) (h2 : Fr [bm] w1 w2) : Fr [bd, bm] w w2 :=
  (h1.mono (by simp)).trans (h2.mono (by simp))

theorem write_c {w : World} {bd bo bm : Nat} {d : Dv} (h : DevAt w bd bo bm d) (i : Int) (s : ByteArray) :
    Calls Try.prog 31 #[.pointer (some ⟨bd, 0, none⟩), .int .i64 i, .string s] w fun e w' =>
      e = .returned (.int .i64 (d.write i s).2) ∧ DevAt w' bd bo bm (d.write i s).1 ∧ Fr [bd, bm] w w' := by
  have hw := wrong_c h i
  by_cases h0 : d.wrong i = 0
  · obtain ⟨_, k, rfl, hk⟩ := wrong_zero h0
    rw [h0] at hw
    by_cases hs : s.size = 64
    · have hb := burn_c h
      by_cases hd : d.burn.down = true
      · rw [show (d.write k s).2 = 90 by simp [Dv.write, h0, hs, hd], show (d.write k s).1 = d.burn by simp [Dv.write, h0, hs, hd]]
        rw [hd] at hb
        clear h h0 hd
        go_enter Try.func31, Try.ntmps31
        go_wp2_with (first
          | (go_at_call 42; refine hw.mono ?_; rintro e w' ⟨rfl, rfl⟩)
          | (go_at_call 44; refine hb.mono ?_; rintro e w' ⟨rfl, hD, hF⟩))
        go_ret
        exact ⟨rfl, hD, hF.mono (by simp)⟩
      · rw [show (d.write k s).2 = 0 by simp [Dv.write, h0, hs, hd], show (d.write k s).1 = d.burn.put k s by simp [Dv.write, h0, hs, hd]]
        rw [Bool.not_eq_true] at hd
        rw [hd] at hb
        have hL : d.burn.nw.length = d.on.length := by
          have := h.wf.burn.len; rw [this]; unfold Dv.burn; split <;> rfl
        have hm := h.wf.most
        have HK := Lib.hid hk
        have HL := Lib.hid hL
        have HS := Lib.hid hs
        have hs' : ((s.size : Int) != 64) = false := by simp [hs]
        clear h h0 hd hL hk hs
        go_enter Try.func31, Try.ntmps31
        go_wp2_with (first
          | (go_at_call 42; refine hw.mono ?_; rintro e w' ⟨rfl, rfl⟩)
          | (go_at_call 44; refine hb.mono ?_; rintro e w' ⟨rfl, hD, hF⟩; have c1 := hD.cells.2.1; obtain ⟨w2, hrun, hC, hF2⟩ := hD.map.store k (by rw [HL.out]; exact HK.out) (by rw [HL.out]; exact hm) s HS.out; clear hb hw))
        go_ret
        exact ⟨rfl, hD.put k s HS.out hC hF2, fr_two hF hF2⟩
    · rw [show (d.write k s).2 = 3 by simp [Dv.write, h0, hs], show (d.write k s).1 = d by simp [Dv.write, h0, hs]]
      have HH := Lib.hid h
      have hs' : ((s.size : Int) != 64) = true := by simp; omega
      clear h h0 hk hs
      go_enter Try.func31, Try.ntmps31
      go_wp2_with (go_at_call 42; refine hw.mono ?_; rintro e w' ⟨rfl, rfl⟩)
      go_ret
      exact ⟨rfl, HH.out, Fr.refl _ _⟩
  · rw [show (d.write i s).2 = d.wrong i by simp [Dv.write, h0], show (d.write i s).1 = d by simp [Dv.write, h0]]
    have hne : (d.wrong i != 0) = true := by simpa using h0
    generalize d.wrong i = x at hw hne ⊢
    have HH := Lib.hid h
    clear h h0
    go_enter Try.func31, Try.ntmps31
    go_wp2_with (go_at_call 42; refine hw.mono ?_; rintro e w' ⟨rfl, rfl⟩)
    go_ret
    exact ⟨rfl, HH.out, Fr.refl _ _⟩

theorem up_c {w : World} {bd bo bm : Nat} {d : Dv} (h : DevAt w bd bo bm d) :
    Calls Try.prog 27 #[.pointer (some ⟨bd, 0, none⟩)] w fun e w' =>
      e = .returned (.tuple #[]) ∧ DevAt w' bd bo bm ⟨d.on, List.replicate d.nw.length none, 0, false⟩ ∧ Fr [bd, bm] w w' := by
  obtain ⟨c0, c1, c2, c3⟩ := h.cells
  obtain ⟨w2, hrun, hC, hF⟩ := h.map.clear d.nw.length
  have hB := h.blk.fr hF (by simpa using h.n2)
  have f2 := hB.free 2
  have f3 := hB.free 3
  have g2 : w2.cell? ⟨bd, 2, none⟩ = some (.int .i64 d.left) := hB.cell 2
  have g3 : w2.cell? ⟨bd, 3, none⟩ = some (.bool d.down) := hB.cell 3
  have HH := Lib.hid h
  have HB := Lib.hid hB
  clear h c0 c2 c3 hB
  go_enter Try.func27, Try.ntmps27
  go_wp2
  go_end0
  have hF2 : Fr [bd] w2 ((w2.setCell ⟨bd, 2, none⟩ (.int .i64 0)).setCell ⟨bd, 3, none⟩ (.bool false)) := ((Fr.refl _ _).setCell (by simp) _).setCell (by simp) _
  have hh := HH.out
  refine ⟨rfl, ⟨⟨by simp [hh.wf.len], hh.wf.on64, by intro s hs; have := List.eq_of_mem_replicate hs; simp at this, by simp, by simp, hh.wf.least, hh.wf.most, by simp⟩, (HB.out.set 2 _).set 3 _,
    (hh.byt.fr hF (by simpa using hh.n3)).fr hF2 (by simpa using hh.n1.symm), hC.fr hF2 (by simpa using hh.n2.symm), hh.n1, hh.n2, hh.n3⟩,
    (hF.mono (by simp)).trans (hF2.mono (by simp))⟩

theorem byteCells_zeros : ∀ n : Nat, byteCells (List.replicate n zeros) = List.replicate (64 * n) (.int .u8 0)
  | 0 => by simp [byteCells]
  | n + 1 => by
    have := byteCells_zeros n
    simp only [byteCells, List.replicate_succ, List.flatMap_cons] at this ⊢
    rw [this, show 64 * (n + 1) = 64 + 64 * n by omega, ← List.replicate_append_replicate]
    congr 1

theorem madeCells_bytes (n : Nat) : madeCells (Value.int .u8 0).cells n = (List.replicate n (.int .u8 0)).toArray := by
  apply Array.toList_inj.1
  apply List.ext_getElem?
  intro i
  simp only [madeCells, Value.cells]
  by_cases h : i < n
  · simp [h, Nat.mod_one]
  · simp [h]

theorem byteInfo : (Try.prog.info? 5).map (fun i => (i.zero, i.size, i.bytes)) = some (some (.int .u8 0), 1, 1) := by kernel_rfl

theorem new_bad (n : Int) (w : World) (h : n < 1 ∨ 2048 < n) :
    Calls Try.prog 4 #[.int .i64 n] w fun e w' => e = .returned (.tuple #[.pointer none, .int .i64 1]) ∧ w = w' := by
  rcases h with h | h
  · go_enter Try.func4, Try.ntmps4
    go_wp2
    go_ret2
    exact ⟨rfl, rfl⟩
  · have h' : ¬ n < 1 := by omega
    go_enter Try.func4, Try.ntmps4
    go_wp2
    go_ret2
    exact ⟨rfl, rfl⟩

set_option maxRecDepth 100000 in
theorem new_c (n : Nat) (w : World) (h1 : 1 ≤ n) (h2 : n ≤ 2048) :
    Calls Try.prog 4 #[.int .i64 (n : Int)] w fun e w' => ∃ bd bo bm, e = .returned (.tuple #[.pointer (some ⟨bd, 0, none⟩), .int .i64 0]) ∧ DevAt w' bd bo bm (Dv.make n) ∧ Fr [] w w' ∧ w.heap.size ≤ bd ∧ w.heap.size ≤ bo ∧ w.heap.size ≤ bm := by
  obtain ⟨i0, hi, hz0, hz1, hz2⟩ := info_parts byteInfo
  have hmk := run_make (P := Try.prog) w 39 5 i0 _ Try.underlying39 hi hz0 .i64 .i64 ((n : Int) * 64) ((n : Int) * 64) (by omega) (by omega) (by rw [hz2]; omega) (by omega)
  rw [show ((n : Int) * 64).toNat = 64 * n by omega, hz1, Nat.mul_one, madeCells_bytes] at hmk
  have hmm := @run_makeMap Try.prog
  clear hi hz0 hz1 hz2
  go_enter Try.func4, Try.ntmps4
  go_wp2
  go_ret2
  refine ⟨w.heap.size + 2, w.heap.size, w.heap.size + 1, rfl, ⟨Dv.wf_make n h1 h2, ?_, ?_, ?_, by omega, by omega, by omega⟩, (((Fr.refl _ _).alloc _).alloc _).alloc _, by omega, by omega, by omega⟩
  · have := Blk.new ((w.alloc (.cells (List.replicate (64 * n) (Value.int .u8 0)).toArray 5)).alloc (.map #[] 0)) [.slice (some ⟨w.heap.size, 0, none⟩) (64 * n) (64 * n), .map (some (w.heap.size + 1)), .int .i64 0, .bool false] 42
    simp only [World.size_alloc] at this
    simpa [Dv.make] using this
  · have := Blk.new w (byteCells (List.replicate n zeros)) 5
    rw [byteCells_zeros] at this
    have h3 := (this.alloc (.map #[] 0)).alloc (.cells #[.slice (some ⟨w.heap.size, 0, none⟩) (64 * n) (64 * n), .map (some (w.heap.size + 1)), .int .i64 0, .bool false] 42)
    show Blk _ _ (byteCells (List.replicate n zeros))
    rw [byteCells_zeros]
    exact h3
  · have := CacheAt.made (w.alloc (.cells (List.replicate (64 * n) (Value.int .u8 0)).toArray 5)) n
    rw [World.size_alloc] at this
    exact this.fr ((Fr.refl [] _).alloc _) (by simp)

end Go.Proofs.Ytiojkakmlbfiiaa
