/- The program's device, further: Flush. -/
import Derived.Test.YtiojkakmlbfiiaaGreatM02
/- The program's device: each of its calls makes of it what the device's words say. -/
namespace Go.Proofs.YtiojkakmlbfiiaaGreat
open Go.RowKit Go.Maps
open Sp

def bytesOf (s : ByteArray) : List Value := s.data.toList.map fun b => .int .u8 (b.toNat : Int)
def byteCells (l : List ByteArray) : List Value := l.flatMap bytesOf

theorem bytesOf_len (s : ByteArray) : (bytesOf s).length = s.size := by unfold bytesOf; rw [List.length_map]; rfl

theorem byteCells_len : ∀ (l : List ByteArray), (∀ s ∈ l, s.size = 64) → (byteCells l).length = 64 * l.length
  | [], _ => by simp [byteCells]
  | x :: xs, h => by
    have := byteCells_len xs (fun s hs => h s (by simp [hs]))
    simp only [byteCells, List.flatMap_cons, List.length_append, bytesOf_len, h x (by simp), List.length_cons] at this ⊢
    omega

theorem byteCells_at : ∀ (l : List ByteArray), (∀ s ∈ l, s.size = 64) → ∀ (i j : Nat) (s : ByteArray), l[i]? = some s → j < 64 → (byteCells l)[64 * i + j]? = (bytesOf s)[j]?
  | [], _, i, j, s, h, _ => by simp at h
  | x :: xs, hl, 0, j, s, h, hj => by
    simp at h; subst h
    simp only [byteCells, List.flatMap_cons, Nat.mul_zero, Nat.zero_add]
    rw [List.getElem?_append_left (by rw [bytesOf_len, hl x (by simp)]; exact hj)]
  | x :: xs, hl, i + 1, j, s, h, hj => by
    simp only [byteCells, List.flatMap_cons]
    rw [List.getElem?_append_right (by rw [bytesOf_len, hl x (by simp)]; omega), bytesOf_len, hl x (by simp)]
    have := byteCells_at xs (fun s hs => hl s (by simp [hs])) i j s (by simpa using h) hj
    rw [← this]
    simp only [byteCells]
    congr 1; omega

theorem strOfNums_bytes (s : ByteArray) : strOfNums (s.data.toList.map fun b => (b.toNat : Int)) = s := by
  apply ba_ext
  rw [strOfNums_data, List.map_map]
  conv => rhs; rw [← List.map_id s.data.toList]
  apply List.map_congr_left
  intro b _
  simp

theorem ret_slice {b o o' l l' c c' : Nat} (h1 : o = o') (h2 : l = l') (h3 : c = c') : Ending.returned (.slice (some ⟨b, o, none⟩) l c) = .returned (.slice (some ⟨b, o', none⟩) l' c') := by
  rw [h1, h2, h3]

structure DevAt (w : World) (bd bo bm : Nat) (d : Dv) : Prop where
  wf : d.Wf
  blk : Blk w bd [.slice (some ⟨bo, 0, none⟩) (64 * d.on.length) (64 * d.on.length), .map (some bm), .int .i64 d.left, .bool d.down]
  byt : Blk w bo (byteCells d.on)
  map : CacheAt w bm d.nw
  n1 : bd ≠ bo
  n2 : bd ≠ bm
  n3 : bo ≠ bm

theorem DevAt.fr {w w' : World} {bd bo bm : Nat} {d : Dv} {S : List Nat} (h : DevAt w bd bo bm d) (hf : Fr S w w') (h1 : bd ∉ S) (h2 : bo ∉ S) (h3 : bm ∉ S) : DevAt w' bd bo bm d :=
  ⟨h.wf, h.blk.fr hf h1, h.byt.fr hf h2, h.map.fr hf h3, h.n1, h.n2, h.n3⟩

/-- A device's pointer's four cells. -/
theorem DevAt.cells {w : World} {bd bo bm : Nat} {d : Dv} (h : DevAt w bd bo bm d) :
    w.cell? ⟨bd, 0, none⟩ = some (.slice (some ⟨bo, 0, none⟩) (64 * d.on.length) (64 * d.on.length)) ∧ w.cell? ⟨bd, 1, none⟩ = some (.map (some bm)) ∧
    w.cell? ⟨bd, 2, none⟩ = some (.int .i64 d.left) ∧ w.cell? ⟨bd, 3, none⟩ = some (.bool d.down) :=
  ⟨h.blk.cell 0, h.blk.cell 1, h.blk.cell 2, h.blk.cell 3⟩

theorem size_c {w : World} {bd bo bm : Nat} {d : Dv} (h : DevAt w bd bo bm d) :
    Calls Tryz.prog 32 #[.pointer (some ⟨bd, 0, none⟩)] w fun e w' => e = .returned (.int .i64 (d.on.length : Int)) ∧ w = w' := by
  obtain ⟨c0, c1, c2, c3⟩ := h.cells
  have hm := h.wf.most
  clear h c1 c2 c3
  go_enter Tryz.func32, Tryz.ntmps32
  go_wp2
  go_ret
  refine ⟨?_, rfl⟩
  congr 2

theorem wrong_c {w : World} {bd bo bm : Nat} {d : Dv} (h : DevAt w bd bo bm d) (i : Int) :
    Calls Tryz.prog 54 #[.pointer (some ⟨bd, 0, none⟩), .int .i64 i] w fun e w' => e = .returned (.int .i64 (d.wrong i)) ∧ w = w' := by
  have hs := size_c h
  obtain ⟨c0, c1, c2, c3⟩ := h.cells
  clear h c0 c1 c2
  by_cases hd : d.down = true
  · rw [show d.wrong i = 90 by simp [Dv.wrong, hd]]
    rw [hd] at c3
    clear hd
    go_enter Tryz.func54, Tryz.ntmps54
    go_wp2
    go_ret
    exact ⟨rfl, rfl⟩
  · simp only [Bool.not_eq_true] at hd
    by_cases h0 : i < 0
    · rw [show d.wrong i = 1 by simp [Dv.wrong, hd, h0]]
      rw [hd] at c3
      clear hd
      go_enter Tryz.func54, Tryz.ntmps54
      go_wp2
      go_ret
      exact ⟨rfl, rfl⟩
    · by_cases h1 : (d.on.length : Int) ≤ i
      · rw [show d.wrong i = 1 by simp [Dv.wrong, hd, h1]]
        rw [hd] at c3
        clear hd
        go_enter Tryz.func54, Tryz.ntmps54
        go_wp2_with (go_at_call 32; refine hs.mono ?_; rintro e w' ⟨rfl, rfl⟩)
        go_ret
        exact ⟨rfl, rfl⟩
      · rw [show d.wrong i = 0 by simp [Dv.wrong, hd, h0, h1]]
        rw [hd] at c3
        clear hd
        go_enter Tryz.func54, Tryz.ntmps54
        go_wp2_with (go_at_call 32; refine hs.mono ?_; rintro e w' ⟨rfl, rfl⟩)
        go_ret
        exact ⟨rfl, rfl⟩

theorem bytes_c {w : World} {bd bo bm : Nat} {d : Dv} (h : DevAt w bd bo bm d) (i : Nat) (hi : i < d.on.length) :
    Calls Tryz.prog 42 #[.pointer (some ⟨bd, 0, none⟩), .int .i64 (i : Int)] w fun e w' => e = .returned (.slice (some ⟨bo, 64 * i, none⟩) 64 (64 * d.on.length - 64 * i)) ∧ w = w' := by
  obtain ⟨c0, c1, c2, c3⟩ := h.cells
  have hm := h.wf.most
  clear h c1 c2 c3
  go_enter Tryz.func42, Tryz.ntmps42
  go_wp2
  go_ret
  exact ⟨ret_slice (by omega) (by omega) (by omega), rfl⟩

/-- Bytes in a block are read as a string. -/
theorem conv_bytes {w : World} {b off len cap : Nat} {cs : List Value} (h : Blk w b cs) (s : ByteArray) (hl : s.size = len) (hc : ∀ j, j < len → cs[off + j]? = (bytesOf s)[j]?) :
    (convert 42 9 (.slice (some ⟨b, off, none⟩) len cap)).run Tryz.prog w = .ok (.string s) w := by
  have hlen : (s.data.toList.map fun b => (b.toNat : Int)).length = len := by rw [List.length_map]; exact hl
  have := run_convert_bytes_arg (P := Tryz.prog) w 42 5 Tryz.underlying42 Tryz.underlying5 b off len cap (s.data.toList.map fun b => (b.toNat : Int)) hlen (by
    intro i hi
    rw [h.cell, hc i hi]
    have hi' : i < s.data.toList.length := by rw [List.length_map] at hlen; omega
    have hx : s.data[i]? = some s.data[i] := Array.getElem?_eq_getElem (by simpa using hi')
    simp [bytesOf, List.getD, hx]) 9 Tryz.underlying9
  rwa [strOfNums_bytes] at this

theorem wrong_zero {d : Dv} {i : Int} (h : d.wrong i = 0) : d.down = false ∧ ∃ k : Nat, i = k ∧ k < d.on.length := by
  unfold Dv.wrong at h
  split at h
  · omega
  · rename_i hd
    split at h
    · omega
    · rename_i hi
      exact ⟨by simpa using hd, i.toNat, by omega, by omega⟩

theorem read_c {w : World} {bd bo bm : Nat} {d : Dv} (h : DevAt w bd bo bm d) (i : Int) :
    Calls Tryz.prog 22 #[.pointer (some ⟨bd, 0, none⟩), .int .i64 i] w fun e w' => e = .returned (.tuple #[.string (d.read i).1, .int .i64 (d.read i).2]) ∧ w = w' := by
  have hw := wrong_c h i
  obtain ⟨c0, c1, c2, c3⟩ := h.cells
  by_cases h0 : d.wrong i = 0
  · obtain ⟨_, k, rfl, hk⟩ := wrong_zero h0
    have hb := bytes_c h k hk
    have hl := h.map.look k (by have := h.wf.most; omega)
    rw [h0] at hw
    rw [show (d.read k).2 = 0 by simp [Dv.read, h0], show (d.read k).1 = d.text k by simp [Dv.read, h0]]
    cases hn : d.nw.getD k none with
    | some s =>
      rw [hn] at hl
      rw [show d.text k = s by simp only [Dv.text, hn, Option.getD_some]]
      simp only [Option.getD_some, Option.isSome_some] at hl
      clear h h0 hb hn c0 c2 c3
      go_enter Tryz.func22, Tryz.ntmps22
      go_wp2_with (go_at_call 54; refine hw.mono ?_; rintro e w' ⟨rfl, rfl⟩)
      go_ret2
      exact ⟨rfl, rfl⟩
    | none =>
      rw [hn] at hl
      rw [show d.text k = d.on.getD k ByteArray.empty by simp only [Dv.text, hn, Option.getD_none]]
      have hkk : d.on[k]? = some (d.on.getD k ByteArray.empty) := by simp [List.getD, hk]
      have hs : (d.on.getD k ByteArray.empty).size = 64 := h.wf.on64 _ (List.mem_of_getElem? hkk)
      have hcv := conv_bytes (off := 64 * k) (len := 64) (cap := 64 * d.on.length - 64 * k) h.byt (d.on.getD k ByteArray.empty) hs (fun j hj => byteCells_at d.on h.wf.on64 k j _ hkk hj)
      generalize d.on.getD k ByteArray.empty = t at hcv ⊢
      simp only [Option.getD_none, Option.isSome_none] at hl
      clear h h0 hn c0 c2 c3 hkk hs
      go_enter Tryz.func22, Tryz.ntmps22
      go_wp2_with (first
        | (go_at_call 54; refine hw.mono ?_; rintro e w' ⟨rfl, rfl⟩)
        | (go_at_call 42; refine hb.mono ?_; rintro e w' ⟨rfl, rfl⟩))
      go_ret2
      exact ⟨rfl, rfl⟩
  · rw [show (d.read i).2 = d.wrong i by simp [Dv.read, h0], show (d.read i).1 = ByteArray.empty by simp [Dv.read, h0]]
    have hne : (d.wrong i != 0) = true := by simpa using h0
    generalize d.wrong i = x at hw hne ⊢
    clear h h0 c0 c1 c2 c3
    go_enter Tryz.func22, Tryz.ntmps22
    go_wp2_with (go_at_call 54; refine hw.mono ?_; rintro e w' ⟨rfl, rfl⟩)
    go_ret2
    exact ⟨rfl, rfl⟩

theorem DevAt.four {w : World} {bd bo bm : Nat} {d : Dv} (h : DevAt w bd bo bm d) {w' : World} {x : Int} {y : Bool} (hx : 0 ≤ x) (hx' : x ≤ 1048576) (hy : y = true → x = 0) (hf : Fr [bd] w w')
    (hb : Blk w' bd [.slice (some ⟨bo, 0, none⟩) (64 * d.on.length) (64 * d.on.length), .map (some bm), .int .i64 x, .bool y]) : DevAt w' bd bo bm { d with left := x, down := y } :=
  ⟨⟨h.wf.len, h.wf.on64, h.wf.nw64, hx, hx', h.wf.least, h.wf.most, hy⟩, hb, h.byt.fr hf (by simpa using h.n1.symm), h.map.fr hf (by simpa using h.n2.symm), h.n1, h.n2, h.n3⟩

theorem burn_c {w : World} {bd bo bm : Nat} {d : Dv} (h : DevAt w bd bo bm d) :
    Calls Tryz.prog 77 #[.pointer (some ⟨bd, 0, none⟩)] w fun e w' => e = .returned (.bool d.burn.down) ∧ DevAt w' bd bo bm d.burn ∧ Fr [bd] w w' := by
  obtain ⟨c0, c1, c2, c3⟩ := h.cells
  have f2 := h.blk.free 2
  have f3 := h.blk.free 3
  have hhi := h.wf.hi
  by_cases hl : 0 < d.left
  · have e1 : d.burn = { d with left := d.left - 1, down := d.left - 1 == 0 } := by simp [Dv.burn, hl]
    rw [e1]
    have HH := Lib.hid h
    clear h e1 c0 c1
    go_enter Tryz.func77, Tryz.ntmps77
    go_wp2
    go_ret
    refine ⟨rfl, HH.out.four (by omega) (by omega) (by simp) (((Fr.refl _ _).setCell (by simp) _).setCell (by simp) _) ?_, ((Fr.refl _ _).setCell (by simp) _).setCell (by simp) _⟩
    exact (HH.out.blk.set 2 _).set 3 _
  · have e1 : d.burn = d := by simp [Dv.burn, hl]
    rw [e1]
    have HH := Lib.hid h
    clear h e1 c0 c1
    go_enter Tryz.func77, Tryz.ntmps77
    go_wp2
    go_ret
    exact ⟨rfl, HH.out, Fr.refl _ _⟩

end Go.Proofs.YtiojkakmlbfiiaaGreat

/- The program's device, further: Write, Fuse, up, New. -/
namespace Go.Proofs.YtiojkakmlbfiiaaGreat
open Go.RowKit Go.Maps
open Sp

theorem DevAt.put {w w' : World} {bd bo bm : Nat} {d : Dv} (h : DevAt w bd bo bm d) (i : Nat) (s : ByteArray) (hs : s.size = 64) (hc : CacheAt w' bm (d.nw.set i (some s))) (hf : Fr [bm] w w') :
    DevAt w' bd bo bm (d.put i s) :=
  ⟨h.wf.put i s hs, h.blk.fr hf (by simpa using h.n2), h.byt.fr hf (by simpa using h.n3), hc, h.n1, h.n2, h.n3⟩

theorem fr_two {bd bm : Nat} {w w1 w2 : World} (h1 : Fr [bd] w w1) (h2 : Fr [bm] w1 w2) : Fr [bd, bm] w w2 :=
  (h1.mono (by simp)).trans (h2.mono (by simp))

theorem write_c {w : World} {bd bo bm : Nat} {d : Dv} (h : DevAt w bd bo bm d) (i : Int) (s : ByteArray) :
    Calls Tryz.prog 57 #[.pointer (some ⟨bd, 0, none⟩), .int .i64 i, .string s] w fun e w' =>
      e = .returned (.int .i64 (d.write i s).2) ∧ DevAt w' bd bo bm (d.write i s).1 ∧ Fr [bd, bm] w w' := by
  have hw := wrong_c h i
  by_cases h0 : d.wrong i = 0
  · obtain ⟨_, k, rfl, hk⟩ := wrong_zero h0
    rw [h0] at hw
    by_cases hs : s.size = 64
    · have hb := burn_c h
      by_cases hd : d.burn.down = true
      · rw [show (d.write k s).2 = 90 by simp [Dv.write, h0, hs, hd], show (d.write k s).1 = d.burn by simp [Dv.write, h0, hs, hd]]
        rw [hd] at hb
        clear h h0 hd
        go_enter Tryz.func57, Tryz.ntmps57
        go_wp2_with (first
          | (go_at_call 54; refine hw.mono ?_; rintro e w' ⟨rfl, rfl⟩)
          | (go_at_call 77; refine hb.mono ?_; rintro e w' ⟨rfl, hD, hF⟩))
        go_ret
        exact ⟨rfl, hD, hF.mono (by simp)⟩
      · rw [show (d.write k s).2 = 0 by simp [Dv.write, h0, hs, hd], show (d.write k s).1 = d.burn.put k s by simp [Dv.write, h0, hs, hd]]
        rw [Bool.not_eq_true] at hd
        rw [hd] at hb
        have hL : d.burn.nw.length = d.on.length := by
          have := h.wf.burn.len; rw [this]; unfold Dv.burn; split <;> rfl
        have hm := h.wf.most
        have HK := Lib.hid hk
        have HL := Lib.hid hL
        have HS := Lib.hid hs
        have hs' : ((s.size : Int) != 64) = false := by simp [hs]
        clear h h0 hd hL hk hs
        go_enter Tryz.func57, Tryz.ntmps57
        go_wp2_with (first
          | (go_at_call 54; refine hw.mono ?_; rintro e w' ⟨rfl, rfl⟩)
          | (go_at_call 77; refine hb.mono ?_; rintro e w' ⟨rfl, hD, hF⟩; have c1 := hD.cells.2.1; obtain ⟨w2, hrun, hC, hF2⟩ := hD.map.store k (by rw [HL.out]; exact HK.out) (by rw [HL.out]; exact hm) s HS.out; clear hb hw))
        go_ret
        exact ⟨rfl, hD.put k s HS.out hC hF2, fr_two hF hF2⟩
    · rw [show (d.write k s).2 = 3 by simp [Dv.write, h0, hs], show (d.write k s).1 = d by simp [Dv.write, h0, hs]]
      have HH := Lib.hid h
      have hs' : ((s.size : Int) != 64) = true := by simp; omega
      clear h h0 hk hs
      go_enter Tryz.func57, Tryz.ntmps57
      go_wp2_with (go_at_call 54; refine hw.mono ?_; rintro e w' ⟨rfl, rfl⟩)
      go_ret
      exact ⟨rfl, HH.out, Fr.refl _ _⟩
  · rw [show (d.write i s).2 = d.wrong i by simp [Dv.write, h0], show (d.write i s).1 = d by simp [Dv.write, h0]]
    have hne : (d.wrong i != 0) = true := by simpa using h0
    generalize d.wrong i = x at hw hne ⊢
    have HH := Lib.hid h
    clear h h0
    go_enter Tryz.func57, Tryz.ntmps57
    go_wp2_with (go_at_call 54; refine hw.mono ?_; rintro e w' ⟨rfl, rfl⟩)
    go_ret
    exact ⟨rfl, HH.out, Fr.refl _ _⟩

theorem fuse_c {w : World} {bd bo bm : Nat} {d : Dv} (h : DevAt w bd bo bm d) (n : Int) :
    Calls Tryz.prog 55 #[.pointer (some ⟨bd, 0, none⟩), .int .i64 n] w fun e w' =>
      e = .returned (.int .i64 (d.setFuse n).2) ∧ DevAt w' bd bo bm (d.setFuse n).1 ∧ Fr [bd] w w' := by
  obtain ⟨c0, c1, c2, c3⟩ := h.cells
  have f2 := h.blk.free 2
  have HH := Lib.hid h
  by_cases hd : d.down = true
  · rw [show (d.setFuse n).2 = 90 by simp [Dv.setFuse, hd], show (d.setFuse n).1 = d by simp [Dv.setFuse, hd]]
    rw [hd] at c3
    clear h c0 c1 c2 hd
    go_enter Tryz.func55, Tryz.ntmps55
    go_wp2
    go_ret
    exact ⟨rfl, HH.out, Fr.refl _ _⟩
  · rw [Bool.not_eq_true] at hd
    rw [hd] at c3
    by_cases hn : n < 0 ∨ 1048576 < n
    · rw [show (d.setFuse n).2 = 1 by simp [Dv.setFuse, hd, hn], show (d.setFuse n).1 = d by simp [Dv.setFuse, hd, hn]]
      clear h c0 c1 c2 hd
      rcases hn with hn | hn
      · go_enter Tryz.func55, Tryz.ntmps55
        go_wp2
        go_ret
        exact ⟨rfl, HH.out, Fr.refl _ _⟩
      · go_enter Tryz.func55, Tryz.ntmps55
        go_wp2
        go_ret
        exact ⟨rfl, HH.out, Fr.refl _ _⟩
    · rw [show (d.setFuse n).2 = 0 by simp [Dv.setFuse, hd, hn], show (d.setFuse n).1 = { d with left := n } by simp [Dv.setFuse, hd, hn]]
      have h1 : 0 ≤ n := by omega
      have h2 : n ≤ 1048576 := by omega
      have HD := Lib.hid hd
      clear h c0 c1 hd hn
      go_enter Tryz.func55, Tryz.ntmps55
      go_wp2
      go_ret
      refine ⟨rfl, ?_, (Fr.refl _ _).setCell (by simp) _⟩
      have := HH.out.four (x := n) (y := d.down) h1 h2 (by rw [HD.out]; simp) (((Fr.refl _ _).setCell (p := ⟨bd, 2, none⟩) (by simp) _)) (HH.out.blk.set 2 _)
      exact this

theorem up_c {w : World} {bd bo bm : Nat} {d : Dv} (h : DevAt w bd bo bm d) :
    Calls Tryz.prog 43 #[.pointer (some ⟨bd, 0, none⟩)] w fun e w' =>
      e = .returned (.tuple #[]) ∧ DevAt w' bd bo bm ⟨d.on, List.replicate d.nw.length none, 0, false⟩ ∧ Fr [bd, bm] w w' := by
  obtain ⟨c0, c1, c2, c3⟩ := h.cells
  obtain ⟨w2, hrun, hC, hF⟩ := h.map.clear d.nw.length
  have hB := h.blk.fr hF (by simpa using h.n2)
  have f2 := hB.free 2
  have f3 := hB.free 3
  have g2 : w2.cell? ⟨bd, 2, none⟩ = some (.int .i64 d.left) := hB.cell 2
  have g3 : w2.cell? ⟨bd, 3, none⟩ = some (.bool d.down) := hB.cell 3
  have HH := Lib.hid h
  have HB := Lib.hid hB
  clear h c0 c2 c3 hB
  go_enter Tryz.func43, Tryz.ntmps43
  go_wp2
  go_end0
  have hF2 : Fr [bd] w2 ((w2.setCell ⟨bd, 2, none⟩ (.int .i64 0)).setCell ⟨bd, 3, none⟩ (.bool false)) := ((Fr.refl _ _).setCell (by simp) _).setCell (by simp) _
  have hh := HH.out
  refine ⟨rfl, ⟨⟨by simp [hh.wf.len], hh.wf.on64, by intro s hs; have := List.eq_of_mem_replicate hs; simp at this, by simp, by simp, hh.wf.least, hh.wf.most, by simp⟩, (HB.out.set 2 _).set 3 _,
    (hh.byt.fr hF (by simpa using hh.n3)).fr hF2 (by simpa using hh.n1.symm), hC.fr hF2 (by simpa using hh.n2.symm), hh.n1, hh.n2, hh.n3⟩,
    (hF.mono (by simp)).trans (hF2.mono (by simp))⟩

theorem byteCells_zeros : ∀ n : Nat, byteCells (List.replicate n zeros) = List.replicate (64 * n) (.int .u8 0)
  | 0 => by simp [byteCells]
  | n + 1 => by
    have := byteCells_zeros n
    simp only [byteCells, List.replicate_succ, List.flatMap_cons] at this ⊢
    rw [this, show 64 * (n + 1) = 64 + 64 * n by omega, ← List.replicate_append_replicate]
    congr 1

theorem madeCells_bytes (n : Nat) : madeCells (Value.int .u8 0).cells n = (List.replicate n (.int .u8 0)).toArray := by
  apply Array.toList_inj.1
  apply List.ext_getElem?
  intro i
  simp only [madeCells, Value.cells]
  by_cases h : i < n
  · simp [h, Nat.mod_one]
  · simp [h]

theorem byteInfo : (Tryz.prog.info? 5).map (fun i => (i.zero, i.size, i.bytes)) = some (some (.int .u8 0), 1, 1) := by kernel_rfl

theorem new_bad (n : Int) (w : World) (h : n < 1 ∨ 2048 < n) :
    Calls Tryz.prog 4 #[.int .i64 n] w fun e w' => e = .returned (.tuple #[.pointer none, .int .i64 1]) ∧ w = w' := by
  rcases h with h | h
  · go_enter Tryz.func4, Tryz.ntmps4
    go_wp2
    go_ret2
    exact ⟨rfl, rfl⟩
  · have h' : ¬ n < 1 := by omega
    go_enter Tryz.func4, Tryz.ntmps4
    go_wp2
    go_ret2
    exact ⟨rfl, rfl⟩

set_option maxRecDepth 100000 in
theorem new_c (n : Nat) (w : World) (h1 : 1 ≤ n) (h2 : n ≤ 2048) :
    Calls Tryz.prog 4 #[.int .i64 (n : Int)] w fun e w' => ∃ bd bo bm, e = .returned (.tuple #[.pointer (some ⟨bd, 0, none⟩), .int .i64 0]) ∧ DevAt w' bd bo bm (Dv.make n) ∧ Fr [] w w' ∧ w.heap.size ≤ bd ∧ w.heap.size ≤ bo ∧ w.heap.size ≤ bm := by
  obtain ⟨i0, hi, hz0, hz1, hz2⟩ := info_parts byteInfo
  have hmk := run_make (P := Tryz.prog) w 42 5 i0 _ Tryz.underlying42 hi hz0 .i64 .i64 ((n : Int) * 64) ((n : Int) * 64) (by omega) (by omega) (by rw [hz2]; omega) (by omega)
  rw [show ((n : Int) * 64).toNat = 64 * n by omega, hz1, Nat.mul_one, madeCells_bytes] at hmk
  have hmm := @run_makeMap Tryz.prog
  clear hi hz0 hz1 hz2
  go_enter Tryz.func4, Tryz.ntmps4
  go_wp2
  go_ret2
  refine ⟨w.heap.size + 2, w.heap.size, w.heap.size + 1, rfl, ⟨Dv.wf_make n h1 h2, ?_, ?_, ?_, by omega, by omega, by omega⟩, (((Fr.refl _ _).alloc _).alloc _).alloc _, by omega, by omega, by omega⟩
  · have := Blk.new ((w.alloc (.cells (List.replicate (64 * n) (Value.int .u8 0)).toArray 5)).alloc (.map #[] 0)) [.slice (some ⟨w.heap.size, 0, none⟩) (64 * n) (64 * n), .map (some (w.heap.size + 1)), .int .i64 0, .bool false] 45
    simp only [World.size_alloc] at this
    simpa [Dv.make] using this
  · have := Blk.new w (byteCells (List.replicate n zeros)) 5
    rw [byteCells_zeros] at this
    have h3 := (this.alloc (.map #[] 0)).alloc (.cells #[.slice (some ⟨w.heap.size, 0, none⟩) (64 * n) (64 * n), .map (some (w.heap.size + 1)), .int .i64 0, .bool false] 45)
    show Blk _ _ (byteCells (List.replicate n zeros))
    rw [byteCells_zeros]
    exact h3
  · have := CacheAt.made (w.alloc (.cells (List.replicate (64 * n) (Value.int .u8 0)).toArray 5)) n
    rw [World.size_alloc] at this
    exact this.fr ((Fr.refl [] _).alloc _) (by simp)

end Go.Proofs.YtiojkakmlbfiiaaGreat

/- The program's device, further: copying into its bytes; Flush. -/
namespace Go.Proofs.YtiojkakmlbfiiaaGreat
open Go.RowKit Go.Maps
open Sp

theorem bytesOf_one (s : ByteArray) (n : Nat) : ∀ v ∈ (bytesOf s).take n, v.oneCell' = true := by
  intro v hv
  have := List.mem_of_mem_take hv
  simp only [bytesOf, List.mem_map] at this
  obtain ⟨b, _, rfl⟩ := this
  rfl

theorem copy_str {w : World} {b off dLen dCap : Nat} {cs : List Value} (h : Blk w b cs) (s : ByteArray) (m : Nat) (hm : m = Nat.min s.size dLen) (hfit : off + m ≤ cs.length) :
    ∃ w', (∀ ty, (Builtin.copy_ #[42, 9] ty #[.slice (some ⟨b, off, none⟩) dLen dCap, .string s]).run Tryz.prog w = .ok (.int .i64 (m : Int)) w') ∧
      Blk w' b (cs.take off ++ (bytesOf s).take m ++ cs.drop (off + m)) ∧ Fr [b] w w' := by
  obtain ⟨T, hb⟩ := h
  have hl : ((bytesOf s).take m).length = m := by rw [List.length_take, bytesOf_len, hm]; exact Nat.min_eq_left (Nat.min_le_left _ _)
  have hst := run_storeCells_at Tryz.prog b off T ((bytesOf s).take m) 0 cs.toArray w hb (by rw [hl]; simpa using hfit) (bytesOf_one s m)
  rw [hl] at hst
  simp only [Nat.add_zero] at hst
  refine ⟨_, ?_, ⟨T, setRow_heap w b cs.toArray _ T _ hb⟩, ⟨rfl, rfl, rfl, by simp [World.setRow], fun k _ hk => setRow_other w b k _ (by simpa using hk)⟩⟩
  intro ty
  have hu : Tryz.prog.underlying 42 = some (.slice 5) := Tryz.underlying42
  obtain ⟨i0, hi, hz0, hz1, hz2⟩ := info_parts byteInfo
  have htk : List.take m (List.map (fun b : UInt8 => Value.int IntKind.u8 (b.toNat : Int)) s.data.toList) = (bytesOf s).take m := rfl
  simp [Builtin.copy_, run_underlying hu, Builtin.lenOf, Builtin.firstCells, sizeOf, typeInfo, hi, hz1, ← hm]
  rw [htk, hst]
  simp [Result.andThen, goInt]

theorem bytesOf_torn (o s : ByteArray) (n : Nat) : bytesOf (tornBy o s n) = (bytesOf s).take n ++ (bytesOf o).drop n := by
  have h1 : (tornBy o s n).data.toList = s.data.toList.take n ++ o.data.toList.drop n := by
    simp only [tornBy, ByteArray.data_append, ByteArray.data_extract, Array.toList_append, Array.toList_extract, List.extract_eq_take_drop, List.drop_zero, Nat.sub_zero]
    congr 1
    rw [List.take_of_length_le]
    rw [List.length_drop]; exact Nat.le_refl _
  simp only [bytesOf, h1, List.map_append, List.map_take, List.map_drop]

theorem byteCells_torn : ∀ (l : List ByteArray) (i : Nat) (o s : ByteArray) (m : Nat), (∀ x ∈ l, x.size = 64) → l[i]? = some o → m ≤ 64 →
    (byteCells l).take (64 * i) ++ (bytesOf s).take m ++ (byteCells l).drop (64 * i + m) = byteCells (l.set i (tornBy o s m))
  | [], i, o, s, m, _, h, _ => by simp at h
  | x :: xs, 0, o, s, m, hl, h, hm => by
    simp at h; subst h
    have hx : (bytesOf x).length = 64 := by rw [bytesOf_len]; exact hl x (by simp)
    simp only [byteCells, List.flatMap_cons, List.set_cons_zero, Nat.mul_zero, List.take_zero, List.nil_append, Nat.zero_add, bytesOf_torn]
    rw [List.drop_append_of_le_length (by omega), List.append_assoc]
  | x :: xs, i + 1, o, s, m, hl, h, hm => by
    have hx : (bytesOf x).length = 64 := by rw [bytesOf_len]; exact hl x (by simp)
    have ih := byteCells_torn xs i o s m (fun y hy => hl y (by simp [hy])) (by simpa using h) hm
    simp only [byteCells, List.flatMap_cons, List.set_cons_succ] at ih ⊢
    rw [← ih, List.take_append, List.drop_append, hx, List.take_of_length_le (by omega), List.drop_of_length_le (by omega)]
    rw [show 64 * (i + 1) - 64 = 64 * i by omega, show 64 * (i + 1) + m - 64 = 64 * i + m by omega]
    simp

theorem torn_all (o s : ByteArray) (ho : o.size = 64) (hs : s.size = 64) : tornBy o s 64 = s := by
  apply ba_ext
  have h1 : (tornBy o s 64).data.toList = s.data.toList.take 64 ++ o.data.toList.drop 64 := by
    simp only [tornBy, ByteArray.data_append, ByteArray.data_extract, Array.toList_append, Array.toList_extract, List.extract_eq_take_drop, List.drop_zero, Nat.sub_zero]
    congr 1
    rw [List.take_of_length_le]
    rw [List.length_drop]; exact Nat.le_refl _
  have e1 : s.data.toList.length = 64 := hs
  have e2 : o.data.toList.length = 64 := ho
  rw [h1, List.take_of_length_le (by omega), List.drop_of_length_le (by omega), List.append_nil]

/-- Sectors, of which those that are not left have what is in the cache. -/
structure Merged (on on' : List ByteArray) (nw : List (Option ByteArray)) (left : Lit → Bool) : Prop where
  len : on'.length = on.length
  all : ∀ s ∈ on', s.size = 64
  was : ∀ (i : Nat), (∀ s, nw[i]? = some (some s) → left (kI i) = true) → on'[i]? = on[i]?
  now : ∀ (i : Nat) s, i < on.length → nw[i]? = some (some s) → left (kI i) = false → on'[i]? = some s

theorem merged_end {on on' : List ByteArray} {nw : List (Option ByteArray)} {left : Lit → Bool} (h : Merged on on' nw left) (hl : nw.length = on.length) (h0 : ∀ k, left k = false) : on' = over on nw := by
  apply List.ext_getElem?
  intro i
  simp only [over, List.getElem?_zipWith]
  by_cases hi : i < on.length
  · have h1 : on[i]? = some on[i] := List.getElem?_eq_getElem hi
    have h2 : nw[i]? = some nw[i] := List.getElem?_eq_getElem (by omega)
    rw [h1, h2]
    cases hn : nw[i] with
    | none => rw [h.was i (by intro s hs; rw [h2, hn] at hs; simp at hs), h1]; rfl
    | some s => rw [h.now i s hi (by rw [h2, hn]) (h0 _)]; rfl
  · rw [List.getElem?_eq_none (by rw [h.len]; omega), List.getElem?_eq_none (show on.length ≤ i by omega)]

theorem sameKey_kI {i j : Int} : (kI i).sameKey (kI j) = decide (i = j) := by
  by_cases h : i = j
  · subst h; simp [Lit.sameKey]
  · simp [Lit.sameKey, h]

theorem merged_step {on on' : List ByteArray} {nw : List (Option ByteArray)} {left : Lit → Bool} (h : Merged on on' nw left) (k : Nat) (s o : ByteArray) (hk : k < on.length) (hs : nw[k]? = some (some s)) (h64 : s.size = 64)
    (ho : on'[k]? = some o) : Merged on (on'.set k (tornBy o s 64)) nw (fun z => left z && !z.sameKey (kI k)) := by
  have ho64 : o.size = 64 := h.all o (List.mem_of_getElem? ho)
  rw [torn_all o s ho64 h64]
  refine ⟨by simp [h.len], ?_, ?_, ?_⟩
  · intro x hx
    rcases List.mem_or_eq_of_mem_set hx with h' | h'
    · exact h.all x h'
    · rw [h']; exact h64
  · intro i hi
    by_cases hik : k = i
    · subst hik
      have := hi s hs
      simp [sameKey_kI] at this
    · rw [List.getElem?_set_ne hik]
      refine h.was i (fun s' hs' => ?_)
      have := hi s' hs'
      simp only [Bool.and_eq_true] at this
      exact this.1
  · intro i s' hi hs' hl
    by_cases hik : k = i
    · subst hik
      rw [hs] at hs'
      cases hs'
      rw [List.getElem?_set_self (by rw [h.len]; exact hk)]
    · rw [List.getElem?_set_ne hik]
      refine h.now i s' hi hs' ?_
      simp only [sameKey_kI, Bool.and_eq_false_iff, Bool.not_eq_false', decide_eq_true_eq] at hl
      rcases hl with hl | hl
      · exact hl
      · omega

theorem has_of_at {D : DW} {kl : Lit} {x : DW} (h : ∀ z, D.atKey kl z = x) : Maps.has D kl = true := Maps.has_true_of_atKey h

theorem CacheIs.of_at {D : DW} {nw : List (Option ByteArray)} (h : CacheIs D nw) {x : Int} {c : ByteArray} (hat : ∀ z, D.atKey (kI x) z = sD c) : ∃ k : Nat, x = k ∧ nw[k]? = some (some c) := by
  by_cases hx : ∃ (k : Nat) (s : ByteArray), x = k ∧ nw[k]? = some (some s)
  · obtain ⟨k, s, rfl, hs⟩ := hx
    refine ⟨k, rfl, ?_⟩
    have := (h.hit k s hs).2 (sD c)
    rw [hat] at this
    simp only [sD, DataW.lit.injEq, Lit.string.injEq] at this
    rw [hs, ba_ext this.symm]
  · have := h.miss x (fun k s hk hs => hx ⟨k, s, hk, hs⟩)
    rw [has_of_at hat] at this
    cases this

end Go.Proofs.YtiojkakmlbfiiaaGreat

/- The program's device, further: Flush. -/
namespace Go.Proofs.YtiojkakmlbfiiaaGreat
open Go.RowKit Go.Maps
open Sp

theorem rangesBlk {w : World} {P : Program} {k : TypeId} {R : Value → Option (DW × List MemPlace)} {b r n : Nat} {D : DW} {left : Lit → Bool} {cnt : Nat}
    (h : w.ranges P k R b r n D left cnt) {w' : World} (h1 : w'.heap[b]? = w.heap[b]?) (h2 : w'.heap[r]? = w.heap[r]?) : w'.ranges P k R b r n D left cnt := by
  obtain ⟨es, clock, since, seen, c0, a1, a2, a3, a4, a5, a6⟩ := h
  exact ⟨es, clock, since, seen, c0, by rw [h1]; exact a1, a2, a3, a4, by rw [h2]; exact a5, a6⟩

theorem rangesLt {w : World} {P : Program} {k : TypeId} {R : Value → Option (DW × List MemPlace)} {b r n : Nat} {D : DW} {left : Lit → Bool} {cnt : Nat}
    (h : w.ranges P k R b r n D left cnt) : b < w.heap.size ∧ r < w.heap.size := by
  obtain ⟨es, clock, since, seen, c0, a1, a2, a3, a4, a5, a6⟩ := h
  exact ⟨lt_of_block a1, lt_of_block a5⟩

theorem bytes_raw {w : World} {bd bo : Nat} {l c n i : Nat} (h0 : w.cell? ⟨bd, 0, none⟩ = some (.slice (some ⟨bo, 0, none⟩) (64 * n) (64 * n))) (hn : n ≤ 2048) (hi : i < n) (hl : l = 64) (hc : c = 64 * n - 64 * i) :
    Calls Tryz.prog 42 #[.pointer (some ⟨bd, 0, none⟩), .int .i64 (i : Int)] w fun e w' => e = .returned (.slice (some ⟨bo, 64 * i, none⟩) l c) ∧ w = w' := by
  subst hl hc
  go_enter Tryz.func42, Tryz.ntmps42
  go_wp2
  go_ret
  exact ⟨ret_slice (by omega) (by omega) (by omega), rfl⟩

theorem DevAt.cleaned {w1 w2 : World} {bd bo bm : Nat} {d : Dv} (h : DevAt w1 bd bo bm d) (hf : Fr [bo, bm] w1 w2) (hb : Blk w2 bo (byteCells (over d.on d.nw)))
    (hc : CacheAt w2 bm (List.replicate d.nw.length none)) : DevAt w2 bd bo bm d.clean := by
  have hl : d.clean.on.length = d.on.length := over_len _ _ h.wf.len
  refine ⟨h.wf.clean, ?_, hb, hc, h.n1, h.n2, h.n3⟩
  rw [hl]
  exact h.blk.fr hf (by have := h.n1; have := h.n2; simp; omega)

set_option maxRecDepth 100000 in
/-- The part of Flush behind the fuse: what is in the cache is on the device. -/
theorem flush_c {w : World} {bd bo bm : Nat} {d : Dv} (h : DevAt w bd bo bm d) :
    Calls Tryz.prog 58 #[.pointer (some ⟨bd, 0, none⟩)] w fun e w' =>
      e = .returned (.int .i64 d.flush.2) ∧ DevAt w' bd bo bm d.flush.1 ∧ Fr [bd, bo, bm] w w' := by
  obtain ⟨c0, c1, c2, c3⟩ := h.cells
  by_cases hd : d.down = true
  · rw [show d.flush.2 = 90 by simp [Dv.flush, hd], show d.flush.1 = d by simp [Dv.flush, hd]]
    rw [hd] at c3
    have HH := Lib.hid h
    clear h hd c0 c1 c2
    go_enter Tryz.func58, Tryz.ntmps58
    go_wp2
    go_ret
    exact ⟨rfl, HH.out, Fr.refl _ _⟩
  rw [Bool.not_eq_true] at hd
  have hb := burn_c h
  by_cases hd2 : d.burn.down = true
  · rw [show d.flush.2 = 90 by simp [Dv.flush, hd, hd2], show d.flush.1 = d.burn by simp [Dv.flush, hd, hd2]]
    rw [hd] at c3
    rw [hd2] at hb
    clear h hd hd2 c0 c1 c2
    go_enter Tryz.func58, Tryz.ntmps58
    go_wp2_with (go_at_call 77; refine hb.mono ?_; rintro e w' ⟨rfl, hD, hF⟩)
    go_ret
    exact ⟨rfl, hD, hF.mono (by simp)⟩
  rw [Bool.not_eq_true] at hd2
  rw [show d.flush.2 = 0 by simp [Dv.flush, hd, hd2], show d.flush.1 = d.burn.clean by simp [Dv.flush, hd, hd2]]
  rw [hd] at c3
  rw [hd2] at hb
  clear h hd hd2 c0 c1 c2
  generalize d.burn = d1 at hb ⊢
  go_enter Tryz.func58, Tryz.ntmps58
  go_wp2_with (first
    | (go_at_call 77; refine hb.mono ?_; clear hb c3; rintro e w1 ⟨rfl, hD, hF⟩; obtain ⟨D, hown, hC⟩ := hD.map; have c1 := hD.cells.2.1)
    | (at_range; refine wpList_range_own _ rfl _ 43 rfl 3 9 keysLaw Tryz.underlying43 (plainElem Tryz.prog 9) bm (Maps.size D) D rfl hown ?_; intro w2 hrg0 hg0 hs0)
    | go_in)
  go_frame
  have h01 : Fr [] w1 w2 := (Fr.refl _ _).grown hg0 (by simp)
  have H0 : Hid (w2.heap.size = w1.heap.size + 1) := hs0
  clear hs0 hg0 c1
  go_loopw [3, 4] (fun _ _ wr => ∃ (on' : List ByteArray) (left : Lit → Bool) (cnt : Nat), wr.ranges Tryz.prog 3 (plainElem Tryz.prog 9) bm w1.heap.size (Maps.size D) D left cnt ∧
      Hid (Merged d1.on on' d1.nw left) ∧ Blk wr bo (byteCells on') ∧ Fr [bo] w1 wr)
    (fun _ _ wr => wr.rangeLeft bm w1.heap.size)
  case atStart =>
    refine ⟨d1.on, _, _, hrg0, ⟨rfl, hD.wf.on64, fun _ _ => rfl, fun i s hi hs hl => ?_⟩, hD.byt.fr h01 (by simp), h01.any⟩
    rw [(hC.hit i s hs).1] at hl; cases hl
  case round =>
    obtain ⟨on', left, cnt, hrg, hM, hBo, hFr⟩ := hrel
    have c0 : wr.cell? ⟨bd, 0, none⟩ = some (.slice (some ⟨bo, 0, none⟩) (64 * d1.on.length) (64 * d1.on.length)) := (hD.blk.fr hFr (by simpa using hD.n1)).cell 0
    have c1 : wr.cell? ⟨bd, 1, none⟩ = some (.map (some bm)) := (hD.blk.fr hFr (by simpa using hD.n1)).cell 1
    go_wp2_with (first
      | (at_next; refine wpList_next_ranges_is _ rfl _ rfl 3 9 .i64 keysLaw Tryz.underlying3 Tryz.underlying9 bm w1.heap.size (Maps.size D) D _ _ rfl hrg ?_ ?_)
      | go_in)
    · intro _ hl0
      obtain ⟨w5, hcl, hC5, hF5⟩ := CacheAt.clear (⟨D, size_of_owns hrg.owns, hC⟩ : CacheAt wr bm d1.nw) d1.nw.length
      go_wp2
      go_ret
      have e1 := merged_end hM.out hD.wf.len hl0
      rw [e1] at hBo
      have hF6 : Fr [bo, bm] w1 w5 := (hFr.mono (by simp)).trans (hF5.mono (by simp))
      exact ⟨rfl, hD.cleaned hF6 (hBo.fr hF5 (by simpa using hD.n3)) hC5, (hF.mono (by simp)).trans (hF6.mono (by simp))⟩
    · intro x c w3 cnt1 hwx hwc hlx hat hrg1 hlt hg1 hs1 hen
      obtain ⟨k, rfl, hk⟩ := hC.of_at hat
      have hkl : k < d1.on.length := by
        have := hD.wf.len
        rcases Nat.lt_or_ge k d1.nw.length with h | h
        · omega
        · rw [List.getElem?_eq_none h] at hk; cases hk
      have hc64 : c.size = 64 := hD.wf.nw64 c (List.mem_of_getElem? hk)
      have hm := hD.wf.most
      have hlts := rangesLt hrg
      have hbo' : bo ≠ w1.heap.size := by have := hD.byt.lt; omega
      have hF3 : Fr [w1.heap.size] wr w3 := (Fr.refl _ _).grown hg1 (by intro k hk; cases hk; simp)
      have hbd' : bd ≠ w1.heap.size := by have := hD.blk.lt; omega
      have g0 : w3.cell? ⟨bd, 0, none⟩ = some (.slice (some ⟨bo, 0, none⟩) (64 * d1.on.length) (64 * d1.on.length)) := ((hD.blk.fr hFr (by simpa using hD.n1)).fr hF3 (by simpa using hbd')).cell 0
      have hBo3 : Blk w3 bo (byteCells on') := hBo.fr hF3 (by simpa using hbo')
      have hlen : (byteCells on').length = 64 * d1.on.length := by rw [byteCells_len _ hM.out.all, hM.out.len]
      obtain ⟨o, ho⟩ : ∃ o, on'[k]? = some o := ⟨_, List.getElem?_eq_getElem (by rw [hM.out.len]; exact hkl)⟩
      obtain ⟨w4, hcp, hBo4, hF4⟩ := copy_str (off := 64 * k) (dLen := 64) (dCap := 64 * d1.on.length - 64 * k) hBo3 c 64 (by rw [hc64]; rfl) (by rw [hlen]; omega)
      rw [byteCells_torn on' k o c 64 hM.out.all ho (Nat.le_refl _)] at hBo4
      have hM4 := merged_step hM.out k c o hkl hk hc64 ho
      have HBo4 := Lib.hid hBo4
      have HM4 := Lib.hid hM4
      have HF34 := Lib.hid (⟨hF3, hF4⟩ : Fr [w1.heap.size] wr w3 ∧ Fr [bo] w3 w4)
      clear hlen ho hBo4 hM4 hF3 hF4 hBo3 c0 c1 hk hc64
      go_wp2_with (go_at_call 42; refine (bytes_raw g0 hm hkl rfl rfl).mono ?_; rintro e w' ⟨rfl, rfl⟩)
      go_roundw
      case rel =>
        refine ⟨_, _, cnt1, rangesBlk hrg1 (HF34.out.2.block _ ?_ ?_) (HF34.out.2.block _ ?_ ?_), HM4.out, HBo4.out, ?_⟩
        · have := HF34.out.1.size; omega
        · have := hD.n3; simp; omega
        · have := HF34.out.1.size; omega
        · simp; omega
        · exact hFr.then ((HF34.out.1.mono (T := [w1.heap.size, bo]) (by simp)).trans (HF34.out.2.mono (by simp))) (by simp)
      case measure =>
        have e4 : w4.rangeLeft bm w1.heap.size = w3.rangeLeft bm w1.heap.size := by
          unfold World.rangeLeft
          rw [HF34.out.2.block bm (by have := HF34.out.1.size; omega) (by have := hD.n3; simp; omega), HF34.out.2.block w1.heap.size (by have := HF34.out.1.size; omega) (by simp; omega)]
        rw [e4, hrg1.left_eq, hrg.left_eq]; exact hlt

end Go.Proofs.YtiojkakmlbfiiaaGreat
