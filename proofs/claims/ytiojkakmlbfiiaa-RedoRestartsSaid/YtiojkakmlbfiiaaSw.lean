/- The program's device: each of its calls makes of it what the device's words say. -/
import Derived.Test.YtiojkakmlbfiiaaSm
namespace Go.Proofs.Ytiojkakmlbfiiaa
open Go.RowKit Go.Maps
open Sp

def bytesOf (s : ByteArray) : List Value := s.data.toList.map fun b => .int .u8 (b.toNat : Int)
def byteCells (l : List ByteArray) : List Value := l.flatMap bytesOf

theorem bytesOf_len (s : ByteArray) : (bytesOf s).length = s.size := by unfold bytesOf; rw [List.length_map]; rfl

theorem byteCells_len : ∀ (l : List ByteArray), (∀ s ∈ l, s.size = 64) → (byteCells l).length = 64 * l.length
  | [], _ => by simp [byteCells]
  | x :: xs, h => by
    have := byteCells_len xs (fun s hs => h s (by simp [hs]))
    simp only [byteCells, List.flatMap_cons, List.length_append, bytesOf_len, h x (by simp), List.length_cons] at this ⊢
    omega

theorem byteCells_at : ∀ (l : List ByteArray), (∀ s ∈ l, s.size = 64) → ∀ (i j : Nat) (s : ByteArray), l[i]? = some s → j < 64 → (byteCells l)[64 * i + j]? = (bytesOf s)[j]?
  | [], _, i, j, s, h, _ => by simp at h
  | x :: xs, hl, 0, j, s, h, hj => by
    simp at h; subst h
    simp only [byteCells, List.flatMap_cons, Nat.mul_zero, Nat.zero_add]
    rw [List.getElem?_append_left (by rw [bytesOf_len, hl x (by simp)]; exact hj)]
  | x :: xs, hl, i + 1, j, s, h, hj => by
    simp only [byteCells, List.flatMap_cons]
    rw [List.getElem?_append_right (by rw [bytesOf_len, hl x (by simp)]; omega), bytesOf_len, hl x (by simp)]
    have := byteCells_at xs (fun s hs => hl s (by simp [hs])) i j s (by simpa using h) hj
    rw [← this]
    simp only [byteCells]
    congr 1; omega

theorem strOfNums_bytes (s : ByteArray) : strOfNums (s.data.toList.map fun b => (b.toNat : Int)) = s := by
  apply ba_ext
  rw [strOfNums_data, List.map_map]
  conv => rhs; rw [← List.map_id s.data.toList]
  apply List.map_congr_left
  intro b _
  simp

theorem ret_slice {b o o' l l' c c' : Nat} (h1 : o = o') (h2 : l = l') (h3 : c = c') : Ending.returned (.slice (some ⟨b, o, none⟩) l c) = .returned (.slice (some ⟨b, o', none⟩) l' c') := by
  rw [h1, h2, h3]

structure DevAt (w : World) (bd bo bm : Nat) (d : Dv) : Prop where
  wf : d.Wf
  blk : Blk w bd [.slice (some ⟨bo, 0, none⟩) (64 * d.on.length) (64 * d.on.length), .map (some bm), .int .i64 d.left, .bool d.down]
  byt : Blk w bo (byteCells d.on)
  map : CacheAt w bm d.nw
  n1 : bd ≠ bo
  n2 : bd ≠ bm
  n3 : bo ≠ bm

theorem DevAt.fr {w w' : World} {bd bo bm : Nat} {d : Dv} {S : List Nat} (h : DevAt w bd bo bm d) (hf : Fr S w w') (h1 : bd ∉ S) (h2 : bo ∉ S) (h3 : bm ∉ S) : DevAt w' bd bo bm d :=
  ⟨h.wf, h.blk.fr hf h1, h.byt.fr hf h2, h.map.fr hf h3, h.n1, h.n2, h.n3⟩

/-- A device's pointer's four cells. -/
theorem DevAt.cells {w : World} {bd bo bm : Nat} {d : Dv} (h : DevAt w bd bo bm d) :
    w.cell? ⟨bd, 0, none⟩ = some (.slice (some ⟨bo, 0, none⟩) (64 * d.on.length) (64 * d.on.length)) ∧ w.cell? ⟨bd, 1, none⟩ = some (.map (some bm)) ∧
    w.cell? ⟨bd, 2, none⟩ = some (.int .i64 d.left) ∧ w.cell? ⟨bd, 3, none⟩ = some (.bool d.down) :=
  ⟨h.blk.cell 0, h.blk.cell 1, h.blk.cell 2, h.blk.cell 3⟩

theorem size_c {w : World} {bd bo bm : Nat} {d : Dv} (h : DevAt w bd bo bm d) :
    Calls Try.prog 15 #[.pointer (some ⟨bd, 0, none⟩)] w fun e w' => e = .returned (.int .i64 (d.on.length : Int)) ∧ w = w' := by
  obtain ⟨c0, c1, c2, c3⟩ := h.cells
  have hm := h.wf.most
  clear h c1 c2 c3
  go_enter Try.func15, Try.ntmps15
  go_wp2
  go_ret
  refine ⟨?_, rfl⟩
  congr 2

theorem wrong_c {w : World} {bd bo bm : Nat} {d : Dv} (h : DevAt w bd bo bm d) (i : Int) :
    Calls Try.prog 42 #[.pointer (some ⟨bd, 0, none⟩), .int .i64 i] w fun e w' => e = .returned (.int .i64 (d.wrong i)) ∧ w = w' := by
  have hs := size_c h
  obtain ⟨c0, c1, c2, c3⟩ := h.cells
  clear h c0 c1 c2
  by_cases hd : d.down = true
  · rw [show d.wrong i = 90 by simp [Dv.wrong, hd]]
    rw [hd] at c3
    clear hd
    go_enter Try.func42, Try.ntmps42
    go_wp2
    go_ret
    exact ⟨rfl, rfl⟩
  · simp only [Bool.not_eq_true] at hd
    by_cases h0 : i < 0
    · rw [show d.wrong i = 1 by simp [Dv.wrong, hd, h0]]
      rw [hd] at c3
      clear hd
      go_enter Try.func42, Try.ntmps42
      go_wp2
      go_ret
      exact ⟨rfl, rfl⟩
    · by_cases h1 : (d.on.length : Int) ≤ i
      · rw [show d.wrong i = 1 by simp [Dv.wrong, hd, h1]]
        rw [hd] at c3
        clear hd
        go_enter Try.func42, Try.ntmps42
        go_wp2_with (go_at_call 15; refine hs.mono ?_; rintro e w' ⟨rfl, rfl⟩)
        go_ret
        exact ⟨rfl, rfl⟩
      · rw [show d.wrong i = 0 by simp [Dv.wrong, hd, h0, h1]]
        rw [hd] at c3
        clear hd
        go_enter Try.func42, Try.ntmps42
        go_wp2_with (go_at_call 15; refine hs.mono ?_; rintro e w' ⟨rfl, rfl⟩)
        go_ret
        exact ⟨rfl, rfl⟩

theorem bytes_c {w : World} {bd bo bm : Nat} {d : Dv} (h : DevAt w bd bo bm d) (i : Nat) (hi : i < d.on.length) :
    Calls Try.prog 26 #[.pointer (some ⟨bd, 0, none⟩), .int .i64 (i : Int)] w fun e w' => e = .returned (.slice (some ⟨bo, 64 * i, none⟩) 64 (64 * d.on.length - 64 * i)) ∧ w = w' := by
  obtain ⟨c0, c1, c2, c3⟩ := h.cells
  have hm := h.wf.most
  clear h c1 c2 c3
  go_enter Try.func26, Try.ntmps26
  go_wp2
  go_ret
  exact ⟨ret_slice (by omega) (by omega) (by omega), rfl⟩

/-- Bytes in a block are read as a string. -/
theorem conv_bytes {w : World} {b off len cap : Nat} {cs : List Value} (h : Blk w b cs) (s : ByteArray) (hl : s.size = len) (hc : ∀ j, j < len → cs[off + j]? = (bytesOf s)[j]?) :
    (convert 39 9 (.slice (some ⟨b, off, none⟩) len cap)).run Try.prog w = .ok (.string s) w := by
  have hlen : (s.data.toList.map fun b => (b.toNat : Int)).length = len := by rw [List.length_map]; exact hl
  have := run_convert_bytes_arg (P := Try.prog) w 39 5 Try.underlying39 Try.underlying5 b off len cap (s.data.toList.map fun b => (b.toNat : Int)) hlen (by
    intro i hi
    rw [h.cell, hc i hi]
    have hi' : i < s.data.toList.length := by rw [List.length_map] at hlen; omega
    have hx : s.data[i]? = some s.data[i] := Array.getElem?_eq_getElem (by simpa using hi')
    simp [bytesOf, List.getD, hx]) 9 Try.underlying9
  rwa [strOfNums_bytes] at this

theorem wrong_zero {d : Dv} {i : Int} (h : d.wrong i = 0) : d.down = false ∧ ∃ k : Nat, i = k ∧ k < d.on.length := by
  unfold Dv.wrong at h
  split at h
  · omega
  · rename_i hd
    split at h
    · omega
    · rename_i hi
      exact ⟨by simpa using hd, i.toNat, by omega, by omega⟩

theorem read_c {w : World} {bd bo bm : Nat} {d : Dv} (h : DevAt w bd bo bm d) (i : Int) :
    Calls Try.prog 28 #[.pointer (some ⟨bd, 0, none⟩), .int .i64 i] w fun e w' => e = .returned (.tuple #[.string (d.read i).1, .int .i64 (d.read i).2]) ∧ w = w' := by
  have hw := wrong_c h i
  obtain ⟨c0, c1, c2, c3⟩ := h.cells
  by_cases h0 : d.wrong i = 0
  · obtain ⟨_, k, rfl, hk⟩ := wrong_zero h0
    have hb := bytes_c h k hk
    have hl := h.map.look k (by have := h.wf.most; omega)
    rw [h0] at hw
    rw [show (d.read k).2 = 0 by simp [Dv.read, h0], show (d.read k).1 = d.text k by simp [Dv.read, h0]]
    cases hn : d.nw.getD k none with
    | some s =>
      rw [hn] at hl
      rw [show d.text k = s by simp only [Dv.text, hn, Option.getD_some]]
      simp only [Option.getD_some, Option.isSome_some] at hl
      clear h h0 hb hn c0 c2 c3
      go_enter Try.func28, Try.ntmps28
      go_wp2_with (go_at_call 42; refine hw.mono ?_; rintro e w' ⟨rfl, rfl⟩)
      go_ret2
      exact ⟨rfl, rfl⟩
    | none =>
      rw [hn] at hl
      rw [show d.text k = d.on.getD k ByteArray.empty by simp only [Dv.text, hn, Option.getD_none]]
      have hkk : d.on[k]? = some (d.on.getD k ByteArray.empty) := by simp [List.getD, hk]
      have hs : (d.on.getD k ByteArray.empty).size = 64 := h.wf.on64 _ (List.mem_of_getElem? hkk)
      have hcv := conv_bytes (off := 64 * k) (len := 64) (cap := 64 * d.on.length - 64 * k) h.byt (d.on.getD k ByteArray.empty) hs (fun j hj => byteCells_at d.on h.wf.on64 k j _ hkk hj)
      generalize d.on.getD k ByteArray.empty = t at hcv ⊢
      simp only [Option.getD_none, Option.isSome_none] at hl
      clear h h0 hn c0 c2 c3 hkk hs
      go_enter Try.func28, Try.ntmps28
      go_wp2_with (first
        | (go_at_call 42; refine hw.mono ?_; rintro e w' ⟨rfl, rfl⟩)
        | (go_at_call 26; refine hb.mono ?_; rintro e w' ⟨rfl, rfl⟩))
      go_ret2
      exact ⟨rfl, rfl⟩
  · rw [show (d.read i).2 = d.wrong i by simp [Dv.read, h0], show (d.read i).1 = ByteArray.empty by simp [Dv.read, h0]]
    have hne : (d.wrong i != 0) = true := by simpa using h0
    generalize d.wrong i = x at hw hne ⊢
    clear h h0 c0 c1 c2 c3
    go_enter Try.func28, Try.ntmps28
    go_wp2_with (go_at_call 42; refine hw.mono ?_; rintro e w' ⟨rfl, rfl⟩)
    go_ret2
    exact ⟨rfl, rfl⟩

theorem DevAt.four {w : World} {bd bo bm : Nat} {d : Dv} (h : DevAt w bd bo bm d) {w' : World} {x : Int} {y : Bool} (hx : 0 ≤ x) (hx' : x ≤ 1048576) (hy : y = true → x = 0) (hf : Fr [bd] w w')
    (hb : Blk w' bd [.slice (some ⟨bo, 0, none⟩) (64 * d.on.length) (64 * d.on.length), .map (some bm), .int .i64 x, .bool y]) : DevAt w' bd bo bm { d with left := x, down := y } :=
  ⟨⟨h.wf.len, h.wf.on64, h.wf.nw64, hx, hx', h.wf.least, h.wf.most, hy⟩, hb, h.byt.fr hf (by simpa using h.n1.symm), h.map.fr hf (by simpa using h.n2.symm), h.n1, h.n2, h.n3⟩

theorem burn_c {w : World} {bd bo bm : Nat} {d : Dv} (h : DevAt w bd bo bm d) :
    Calls Try.prog 44 #[.pointer (some ⟨bd, 0, none⟩)] w fun e w' => e = .returned (.bool d.burn.down) ∧ DevAt w' bd bo bm d.burn ∧ Fr [bd] w w' := by
  obtain ⟨c0, c1, c2, c3⟩ := h.cells
  have f2 := h.blk.free 2
  have f3 := h.blk.free 3
  have hhi := h.wf.hi
  by_cases hl : 0 < d.left
  · have e1 : d.burn = { d with left := d.left - 1, down := d.left - 1 == 0 } := by simp [Dv.burn, hl]
    rw [e1]
    have HH := Lib.hid h
    clear h e1 c0 c1
    go_enter Try.func44, Try.ntmps44
    go_wp2
    go_ret
    refine ⟨rfl, HH.out.four (by omega) (by omega) (by simp) (((Fr.refl _ _).setCell (by simp) _).setCell (by simp) _) ?_, ((Fr.refl _ _).setCell (by simp) _).setCell (by simp) _⟩
    exact (HH.out.blk.set 2 _).set 3 _
  · have e1 : d.burn = d := by simp [Dv.burn, hl]
    rw [e1]
    have HH := Lib.hid h
    clear h e1 c0 c1
    go_enter Try.func44, Try.ntmps44
    go_wp2
    go_ret
    exact ⟨rfl, HH.out, Fr.refl _ _⟩

end Go.Proofs.Ytiojkakmlbfiiaa
