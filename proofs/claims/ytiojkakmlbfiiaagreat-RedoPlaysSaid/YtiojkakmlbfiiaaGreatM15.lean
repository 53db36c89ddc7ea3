/- The document's device: Flush. -/
import Derived.Test.YtiojkakmlbfiiaaGreatM04
import Derived.Test.YtiojkakmlbfiiaaGreatM10
import Derived.Test.YtiojkakmlbfiiaaGreatM05
import Derived.Test.YtiojkakmlbfiiaaGreatM01
/- The document's device as an object; its calls Read, burns, Write, Fuse. -/
namespace Go.Proofs.YtiojkakmlbfiiaaGreat
open Go.RowKit
open Sp

theorem own_cell {w : World} {base T n b c : Nat} {xs : List Value} (h : w.ownsRow base T 1 (.slice (some ⟨b, 0, none⟩) n c) n xs) (i : Nat) (x : Value) (hx : xs[i]? = some x) :
    w.cell? ⟨b, i, none⟩ = some x ∧ w.frozen? ⟨b, i, none⟩ = false := by
  rcases h.2 with ⟨hv, _⟩ | ⟨g, cap, cur, hv, hb, hg, hn, _, hsz, ht⟩
  · cases hv
  · simp only [Value.slice.injEq, Option.some.injEq, Addr.mk.injEq] at hv
    obtain ⟨⟨rfl, _, _⟩, _, rfl⟩ := hv
    constructor
    · simp only [World.cell?, hg]
      rw [← ht, List.getElem?_take] at hx
      split at hx
      · simpa using hx
      · cases hx
    · simp [World.frozen?, hg]

theorem own_set {w : World} {base T n b c : Nat} {xs : List Value} (h : w.ownsRow base T 1 (.slice (some ⟨b, 0, none⟩) n c) n xs) (i : Nat) (v : Value) :
    (w.setCell ⟨b, i, none⟩ v).ownsRow base T 1 (.slice (some ⟨b, 0, none⟩) n c) n (xs.set i v) := by
  refine ⟨by rw [List.length_set]; exact h.1, ?_⟩
  rcases h.2 with ⟨hv, _⟩ | ⟨g, cap, cur, hv, hb, hg, hn, hm, hsz, ht⟩
  · cases hv
  · simp only [Value.slice.injEq, Option.some.injEq, Addr.mk.injEq] at hv
    obtain ⟨⟨rfl, _, _⟩, _, rfl⟩ := hv
    refine Or.inr ⟨b, c, cur.setIfInBounds i v, rfl, hb, ?_, hn, hm, by simpa using hsz, ?_⟩
    · show (w.heap.modify b _)[b]? = _
      rw [Array.getElem?_modify, if_pos rfl, hg]; simp
    · rw [← ht, Array.toList_setIfInBounds, List.take_set]

def nwVals (l : List (Option ByteArray)) : List Value := l.map fun o => Value.string (o.getD ByteArray.empty)

structure RefAt (w : World) (rd ro rn co cn : Nat) (d : Dv) : Prop where
  wf : d.Wf
  blk : Blk w rd [.slice (some ⟨ro, 0, none⟩) d.on.length co, .slice (some ⟨rn, 0, none⟩) d.on.length cn, .int .i64 d.left, .bool d.down]
  on : w.ownsRow 0 9 1 (.slice (some ⟨ro, 0, none⟩) d.on.length co) d.on.length (strVals d.on)
  nw : w.ownsRow 0 9 1 (.slice (some ⟨rn, 0, none⟩) d.on.length cn) d.on.length (nwVals d.nw)
  n1 : rd ≠ ro
  n2 : rd ≠ rn
  n3 : ro ≠ rn

theorem RefAt.fr {w w' : World} {rd ro rn co cn : Nat} {d : Dv} {S : List Nat} (h : RefAt w rd ro rn co cn d) (hf : Fr S w w') (h1 : rd ∉ S) (h2 : ro ∉ S) (h3 : rn ∉ S) : RefAt w' rd ro rn co cn d :=
  ⟨h.wf, h.blk.fr hf h1, own_fr h.on hf (by intro b hb; simp [Value.ownBlock] at hb; subst hb; exact h2), own_fr h.nw hf (by intro b hb; simp [Value.ownBlock] at hb; subst hb; exact h3), h.n1, h.n2, h.n3⟩

theorem RefAt.cells {w : World} {rd ro rn co cn : Nat} {d : Dv} (h : RefAt w rd ro rn co cn d) :
    w.cell? ⟨rd, 0, none⟩ = some (.slice (some ⟨ro, 0, none⟩) d.on.length co) ∧ w.cell? ⟨rd, 1, none⟩ = some (.slice (some ⟨rn, 0, none⟩) d.on.length cn) ∧
    w.cell? ⟨rd, 2, none⟩ = some (.int .i64 d.left) ∧ w.cell? ⟨rd, 3, none⟩ = some (.bool d.down) :=
  ⟨h.blk.cell 0, h.blk.cell 1, h.blk.cell 2, h.blk.cell 3⟩

theorem nw_at {d : Dv} (hw : d.Wf) (i : Nat) (hi : i < d.on.length) : (nwVals d.nw)[i]? = some (.string ((d.nw.getD i none).getD ByteArray.empty)) := by
  have h : i < d.nw.length := by rw [hw.len]; exact hi
  rw [nwVals, List.getElem?_map, List.getElem?_eq_getElem h, List.getD_eq_getElem?_getD, List.getElem?_eq_getElem h]; rfl
theorem on_at {d : Dv} (i : Nat) (hi : i < d.on.length) : (strVals d.on)[i]? = some (.string (d.on.getD i ByteArray.empty)) := by
  rw [strVals, List.getElem?_map, List.getElem?_eq_getElem hi, List.getD_eq_getElem?_getD, List.getElem?_eq_getElem hi]; rfl

section
variable {w : World} {rd ro rn co cn : Nat} {d : Dv}

theorem rRead_c (h : RefAt w rd ro rn co cn d) (i : Int) :
    Calls Tryz.prog 23 #[.pointer (some ⟨rd, 0, none⟩), .int .i64 i] w fun e w' => e = .returned (.tuple #[.string (d.read i).1, .int .i64 (d.read i).2]) ∧ w = w' := by
  obtain ⟨c0, c1, c2, c3⟩ := h.cells
  by_cases hdn : d.down = true
  · have hq : d.read i = (ByteArray.empty, 90) := by
      have : d.wrong i = 90 := by unfold Dv.wrong; rw [if_pos hdn]
      unfold Dv.read; rw [this]; rfl
    rw [hq]
    rw [hdn] at c3
    clear h hq hdn
    go_enter Tryz.func23, Tryz.ntmps23
    go_wp2
    go_ret2
    exact ⟨rfl, rfl⟩
  rw [Bool.not_eq_true] at hdn
  by_cases hi : i < 0 ∨ (d.on.length : Int) ≤ i
  · have hq : d.read i = (ByteArray.empty, 1) := by
      have : d.wrong i = 1 := by unfold Dv.wrong; rw [if_neg (by rw [hdn]; simp), if_pos hi]
      unfold Dv.read; rw [this]; rfl
    rw [hq]
    rw [hdn] at c3
    generalize d.on.length = n at *
    clear h hq hdn
    rcases Int.lt_or_le i 0 with h0 | h0
    · go_enter Tryz.func23, Tryz.ntmps23
      go_wp2
      go_ret2
      exact ⟨rfl, rfl⟩
    · have h1 : (n : Int) ≤ i := by omega
      clear hi
      go_enter Tryz.func23, Tryz.ntmps23
      go_wp2
      go_ret2
      exact ⟨rfl, rfl⟩
  · obtain ⟨k, rfl⟩ := Int.eq_ofNat_of_zero_le (show 0 ≤ i by omega)
    have hk : k < d.on.length := by omega
    have hwr : d.wrong (k : Int) = 0 := by unfold Dv.wrong; rw [if_neg (by rw [hdn]; simp), if_neg hi]
    have hcn := (own_cell h.nw k _ (nw_at h.wf k hk)).1
    have hco := (own_cell h.on k _ (on_at k hk)).1
    rw [hdn] at c3
    cases hx : d.nw.getD k none with
    | none =>
      have hq : d.read (k : Int) = (d.on.getD k ByteArray.empty, 0) := by
        unfold Dv.read; rw [if_pos hwr]; show (Dv.text d k, (0 : Int)) = _; unfold Dv.text; rw [hx]; rfl
      rw [hq]
      rw [hx] at hcn
      simp only [Option.getD_none] at hcn
      generalize d.on.getD k ByteArray.empty = s at *
      generalize d.on.length = n at *
      clear h hq hdn hx hwr hi
      go_enter Tryz.func23, Tryz.ntmps23
      go_wp2
      go_ret2
      exact ⟨rfl, rfl⟩
    | some s =>
      have hq : d.read (k : Int) = (s, 0) := by
        unfold Dv.read; rw [if_pos hwr]; show (Dv.text d k, (0 : Int)) = _; unfold Dv.text; rw [hx]; rfl
      rw [hq]
      rw [hx] at hcn
      simp only [Option.getD_some] at hcn
      have hs64 : s.size = 64 := h.wf.nw64 s (by
        have hkn : k < d.nw.length := by rw [h.wf.len]; exact hk
        rw [List.getD_eq_getElem?_getD, List.getElem?_eq_getElem hkn] at hx
        simp at hx
        rw [← hx]; exact List.getElem_mem hkn)
      have hne : s.toList.isEmpty = false := by
        rw [Lib.toList_data]
        cases hl : s.data.toList with
        | nil =>
          have : s.size = 0 := by show s.data.toList.length = 0; rw [hl]; rfl
          omega
        | cons a b => rfl
      generalize d.on.length = n at *
      clear h hq hdn hx hwr hi
      go_enter Tryz.func23, Tryz.ntmps23
      go_wp2
      go_ret2
      exact ⟨rfl, rfl⟩

theorem RefAt.four (h : RefAt w rd ro rn co cn d) {w' : World} {x : Int} {y : Bool} (hx : 0 ≤ x) (hx' : x ≤ 1048576) (hy : y = true → x = 0) (hf : Fr [rd] w w')
    (hb : Blk w' rd [.slice (some ⟨ro, 0, none⟩) d.on.length co, .slice (some ⟨rn, 0, none⟩) d.on.length cn, .int .i64 x, .bool y]) : RefAt w' rd ro rn co cn { d with left := x, down := y } :=
  ⟨⟨h.wf.len, h.wf.on64, h.wf.nw64, hx, hx', h.wf.least, h.wf.most, hy⟩, hb, own_fr h.on hf (by intro b hb; simp [Value.ownBlock] at hb; subst hb; simpa using Ne.symm h.n1),
   own_fr h.nw hf (by intro b hb; simp [Value.ownBlock] at hb; subst hb; simpa using Ne.symm h.n2), h.n1, h.n2, h.n3⟩

theorem rBurns_c (h : RefAt w rd ro rn co cn d) (hdn : d.down = false) :
    Calls Tryz.prog 74 #[.pointer (some ⟨rd, 0, none⟩)] w fun e w' => e = .returned (.bool d.burn.down) ∧ RefAt w' rd ro rn co cn d.burn ∧ Fr [rd] w w' := by
  obtain ⟨c0, c1, c2, c3⟩ := h.cells
  have f2 := h.blk.free 2
  have f3 := h.blk.free 3
  have hlo := h.wf.lo
  have hhi := h.wf.hi
  by_cases h0 : d.left = 0
  · have hb : d.burn = d := by unfold Dv.burn; rw [if_neg (by omega)]
    rw [hb, hdn]
    rw [h0] at c2
    have HH := Lib.hid h
    clear h hb hdn h0
    go_enter Tryz.func74, Tryz.ntmps74
    go_wp2
    go_ret
    exact ⟨rfl, HH.out, Fr.refl _ _⟩
  · have hb : d.burn = { d with left := d.left - 1, down := d.left - 1 == 0 } := by unfold Dv.burn; rw [if_pos (by omega)]
    rw [hb]
    have hne : (d.left == 0) = false := by simpa using h0
    have HH := Lib.hid h
    have HB := Lib.hid h.blk
    have hl1 : 1 ≤ d.left := by omega
    rw [hdn] at c3
    clear h hb hdn h0
    obtain ⟨x, hx⟩ : ∃ x, d.left = x := ⟨_, rfl⟩
    simp only [hx] at *
    go_enter Tryz.func74, Tryz.ntmps74
    go_wp2
    go_ret
    refine ⟨rfl, ?_, ((Fr.refl _ _).setCell (Or.inl (by simp)) _).setCell (Or.inl (by simp)) _⟩
    refine HH.out.four (by omega) (by omega) (by intro h; simpa using h) (((Fr.refl _ _).setCell (Or.inl (by simp)) _).setCell (Or.inl (by simp)) _) ?_
    exact (HB.out.set 2 _).set 3 _

theorem nw_set {d : Dv} (i : Nat) (s : ByteArray) : (nwVals d.nw).set i (.string s) = nwVals (d.nw.set i (some s)) := by
  rw [nwVals, nwVals, List.map_set]; rfl

theorem rWrite_c (h : RefAt w rd ro rn co cn d) (i : Int) (s : ByteArray) :
    Calls Tryz.prog 46 #[.pointer (some ⟨rd, 0, none⟩), .int .i64 i, .string s] w fun e w' =>
      e = .returned (.int .i64 (d.write i s).2) ∧ RefAt w' rd ro rn co cn (d.write i s).1 ∧ Fr [rd, rn] w w' := by
  have hr := rRead_c h i
  by_cases h0 : d.wrong i = 0
  · obtain ⟨hdn, k, rfl, hk⟩ := wrong_zero h0
    have hq : (d.read (k : Int)).2 = 0 := by unfold Dv.read; rw [if_pos h0]
    rw [hq] at hr
    by_cases hs : s.size = 64
    · have hb := rBurns_c h hdn
      by_cases hd : d.burn.down = true
      · rw [show (d.write k s) = (d.burn, 90) by unfold Dv.write; rw [if_pos h0, if_pos hs, if_pos hd]]
        rw [hd] at hb
        clear h h0 hd hq hdn
        go_enter Tryz.func46, Tryz.ntmps46
        go_wp2_with (first
          | (go_at_call 23; refine hr.mono ?_; clear hr; rintro e w' ⟨rfl, rfl⟩)
          | (go_at_call 74; refine hb.mono ?_; clear hb; rintro e w' ⟨rfl, hD, hF⟩))
        go_ret
        exact ⟨rfl, hD, hF.mono (by simp)⟩
      · rw [show (d.write k s) = (d.burn.put k s, 0) by unfold Dv.write; rw [if_pos h0, if_pos hs, if_neg hd]; rfl]
        rw [Bool.not_eq_true] at hd
        rw [hd] at hb
        have hL : d.burn.on.length = d.on.length := by unfold Dv.burn; split <;> rfl
        have HK := Lib.hid hk
        have HL := Lib.hid hL
        have HS := Lib.hid hs
        have hs' : ((s.size : Int) != 64) = false := by simp [hs]
        clear h h0 hd hL hk hs hq hdn
        generalize d.burn = d2 at *
        go_enter Tryz.func46, Tryz.ntmps46
        go_wp2_with (first
          | (go_at_call 23; refine hr.mono ?_; clear hr; rintro e w' ⟨rfl, rfl⟩)
          | (go_at_call 74; refine hb.mono ?_; clear hb; rintro e w2 ⟨rfl, hD, hF⟩
             have HD := Lib.hid hD
             have c1 := hD.cells.2.1
             have hk2 : k < d2.on.length := by rw [HL.out]; exact HK.out
             obtain ⟨x1, x2⟩ := own_cell hD.nw k _ (nw_at hD.wf k hk2)
             clear hD))
        go_ret
        refine ⟨rfl, ?_, (hF.mono (by simp)).setCell (Or.inl (by simp)) _⟩
        have hset : Fr [rn] w2 (w2.setCell ⟨rn, k, none⟩ (.string s)) := (Fr.refl _ _).setCell (Or.inl (by simp)) _
        refine ⟨HD.out.wf.put k s HS.out, HD.out.blk.fr hset (by simpa using HD.out.n2), own_fr HD.out.on hset (by intro b hb; simp [Value.ownBlock] at hb; subst hb; simpa using HD.out.n3), ?_, HD.out.n1, HD.out.n2, HD.out.n3⟩
        have := own_set HD.out.nw k (.string s)
        rw [nw_set] at this
        exact this
    · rw [show (d.write k s) = (d, 3) by unfold Dv.write; rw [if_pos h0, if_neg hs]]
      have HH := Lib.hid h
      have hs' : ((s.size : Int) != 64) = true := by simp; omega
      clear h h0 hk hs hq hdn
      go_enter Tryz.func46, Tryz.ntmps46
      go_wp2_with (go_at_call 23; refine hr.mono ?_; rintro e w' ⟨rfl, rfl⟩)
      go_ret
      exact ⟨rfl, HH.out, Fr.refl _ _⟩
  · rw [show (d.write i s) = (d, d.wrong i) by unfold Dv.write; rw [if_neg h0]]
    have hq : (d.read i).2 = d.wrong i := by unfold Dv.read; rw [if_neg h0]
    rw [hq] at hr
    have hne : (d.wrong i != 0) = true := by simpa using h0
    generalize d.wrong i = x at hr hne ⊢
    have HH := Lib.hid h
    clear h h0 hq
    go_enter Tryz.func46, Tryz.ntmps46
    go_wp2_with (go_at_call 23; refine hr.mono ?_; rintro e w' ⟨rfl, rfl⟩)
    go_ret
    exact ⟨rfl, HH.out, Fr.refl _ _⟩

theorem rFuse_c (h : RefAt w rd ro rn co cn d) (n : Int) :
    Calls Tryz.prog 56 #[.pointer (some ⟨rd, 0, none⟩), .int .i64 n] w fun e w' =>
      e = .returned (.int .i64 (d.setFuse n).2) ∧ RefAt w' rd ro rn co cn (d.setFuse n).1 ∧ Fr [rd] w w' := by
  obtain ⟨c0, c1, c2, c3⟩ := h.cells
  have f2 := h.blk.free 2
  have HH := Lib.hid h
  have HB := Lib.hid h.blk
  by_cases hdn : d.down = true
  · rw [show d.setFuse n = (d, 90) by unfold Dv.setFuse; rw [if_pos hdn]]
    rw [hdn] at c3
    clear h hdn
    go_enter Tryz.func56, Tryz.ntmps56
    go_wp2
    go_ret
    exact ⟨rfl, HH.out, Fr.refl _ _⟩
  have HDN := Lib.hid hdn
  rw [Bool.not_eq_true] at hdn
  rw [hdn] at c3
  by_cases hn : n < 0 ∨ 1048576 < n
  · rw [show d.setFuse n = (d, 1) by unfold Dv.setFuse; rw [if_neg HDN.out, if_pos hn]]
    clear h hdn
    rcases Int.lt_or_le n 0 with h0 | h0
    · clear hn
      go_enter Tryz.func56, Tryz.ntmps56
      go_wp2
      go_ret
      exact ⟨rfl, HH.out, Fr.refl _ _⟩
    · have h1 : 1048576 < n := by omega
      clear hn
      go_enter Tryz.func56, Tryz.ntmps56
      go_wp2
      go_ret
      exact ⟨rfl, HH.out, Fr.refl _ _⟩
  · rw [show d.setFuse n = ({ d with left := n }, 0) by unfold Dv.setFuse; rw [if_neg HDN.out, if_neg hn]]
    have h0 : 0 ≤ n := by omega
    have h1 : n ≤ 1048576 := by omega
    have HDW := Lib.hid hdn
    clear h hdn hn
    go_enter Tryz.func56, Tryz.ntmps56
    go_wp2
    go_ret
    refine ⟨rfl, ?_, (Fr.refl _ _).setCell (Or.inl (by simp)) _⟩
    have := HH.out.four (x := n) (y := d.down) h0 h1 (by rw [HDW.out]; simp) (((Fr.refl _ _).setCell (p := ⟨rd, 2, none⟩) (Or.inl (by simp)) _)) (HB.out.set 2 _)
    exact this
end

end Go.Proofs.YtiojkakmlbfiiaaGreat

/- The document's device: Flush. -/
namespace Go.Proofs.YtiojkakmlbfiiaaGreat
open Go.RowKit
open Sp

theorem nw_none {d : Dv} (i : Nat) : (nwVals d.nw).set i (.string ⟨#[]⟩) = nwVals (d.nw.set i none) := by
  rw [nwVals, nwVals, List.map_set]; rfl
theorem str_set (l : List ByteArray) (i : Nat) (s : ByteArray) : (strVals l).set i (.string s) = strVals (l.set i s) := by
  rw [strVals, strVals, List.map_set]

section
variable {w : World} {rd ro rn co cn : Nat} {d : Dv}

theorem RefAt.both (h : RefAt w rd ro rn co cn d) (i : Nat) (s : ByteArray) (hs : s.size = 64) :
    RefAt ((w.setCell ⟨ro, i, none⟩ (.string s)).setCell ⟨rn, i, none⟩ (.string ⟨#[]⟩)) rd ro rn co cn { d with on := d.on.set i s, nw := d.nw.set i none } := by
  have f1 : Fr [ro] w (w.setCell ⟨ro, i, none⟩ (.string s)) := (Fr.refl _ _).setCell (Or.inl (by simp)) _
  have f2 : Fr [rn] (w.setCell ⟨ro, i, none⟩ (.string s)) ((w.setCell ⟨ro, i, none⟩ (.string s)).setCell ⟨rn, i, none⟩ (.string ⟨#[]⟩)) := (Fr.refl _ _).setCell (Or.inl (by simp)) _
  have ho := own_set h.on i (.string s)
  rw [str_set] at ho
  have hn0 := own_fr h.nw f1 (by intro b hb; simp [Value.ownBlock] at hb; subst hb; simpa using Ne.symm h.n3)
  have hn := own_set hn0 i (.string ⟨#[]⟩)
  rw [nw_none] at hn
  refine ⟨⟨by simpa using h.wf.len, ?_, ?_, h.wf.lo, h.wf.hi, by simpa using h.wf.least, by simpa using h.wf.most, h.wf.down0⟩, ?_, ?_, ?_, h.n1, h.n2, h.n3⟩
  · intro x hx
    rcases List.mem_or_eq_of_mem_set hx with h' | h'
    · exact h.wf.on64 x h'
    · rw [h']; exact hs
  · intro x hx
    rcases List.mem_or_eq_of_mem_set hx with h' | h'
    · exact h.wf.nw64 x h'
    · cases h'
  · have := (h.blk.fr f1 (by simpa using h.n1)).fr f2 (by simpa using h.n2)
    simpa using this
  · have := own_fr ho f2 (by intro b hb; simp [Value.ownBlock] at hb; subst hb; simpa using h.n3)
    simpa using this
  · simpa using hn

theorem drop_at {α : Type} (l : List α) (i : Nat) (x : α) (h : l[i]? = some x) : l.drop i = x :: l.drop (i + 1) := by
  have hi : i < l.length := by
    rcases Nat.lt_or_ge i l.length with h' | h'
    · exact h'
    · rw [List.getElem?_eq_none h'] at h; cases h
  rw [List.drop_eq_getElem_cons hi]
  rw [List.getElem?_eq_getElem hi] at h
  cases h; rfl

theorem set_done {α : Type} (done l : List α) (i : Nat) (x y : α) (hd : done.length = i) (h : l[i]? = some x) : (done ++ l.drop i).set i y = (done ++ [y]) ++ l.drop (i + 1) := by
  rw [drop_at l i x h, List.set_append_right _ _ (by omega), hd, Nat.sub_self, List.set_cons_zero]; simp

theorem keep_done {α : Type} (done l : List α) (i : Nat) (x : α) (h : l[i]? = some x) : done ++ l.drop i = (done ++ [x]) ++ l.drop (i + 1) := by
  rw [drop_at l i x h]; simp

theorem done_at {α : Type} (done l : List α) (i : Nat) (hd : done.length = i) : (done ++ l.drop i)[i]? = l[i]? := by
  rw [List.getElem?_append_right (by omega), hd, Nat.sub_self, List.getElem?_drop, Nat.add_zero]

set_option maxHeartbeats 2000000 in
set_option maxRecDepth 100000 in
theorem rFlush_c (h : RefAt w rd ro rn co cn d) :
    Calls Tryz.prog 48 #[.pointer (some ⟨rd, 0, none⟩)] w fun e w' =>
      e = .returned (.int .i64 d.flush.2) ∧ RefAt w' rd ro rn co cn d.flush.1 ∧ Fr [rd, ro, rn] w w' := by
  obtain ⟨c0, c1, c2, c3⟩ := h.cells
  by_cases hdn : d.down = true
  · rw [show d.flush = (d, 90) by unfold Dv.flush; rw [if_pos hdn]]
    rw [hdn] at c3
    have HH := Lib.hid h
    clear h hdn
    go_enter Tryz.func48, Tryz.ntmps48
    go_wp2
    go_ret
    exact ⟨rfl, HH.out, Fr.refl _ _⟩
  have HDN := Lib.hid hdn
  rw [Bool.not_eq_true] at hdn
  rw [hdn] at c3
  have hb := rBurns_c h hdn
  by_cases hd : d.burn.down = true
  · rw [show d.flush = (d.burn, 90) by unfold Dv.flush; rw [if_neg HDN.out, if_pos hd]]
    rw [hd] at hb
    clear h hdn hd
    go_enter Tryz.func48, Tryz.ntmps48
    go_wp2_with (go_at_call 74; refine hb.mono ?_; rintro e w2 ⟨rfl, hD, hF⟩)
    go_ret
    exact ⟨rfl, hD, hF.mono (by simp)⟩
  · rw [show d.flush = (d.burn.clean, 0) by unfold Dv.flush; rw [if_neg HDN.out, if_neg hd]]
    rw [Bool.not_eq_true] at hd
    rw [hd] at hb
    clear h hdn hd
    generalize d.burn = d1 at *
    have HB := Lib.hid hb
    clear hb
    go_enter Tryz.func48, Tryz.ntmps48
    go_wp2_with (go_at_call 74; refine HB.out.mono ?_; rintro e w2 ⟨rfl, hD, hF⟩)
    have hwf := hD.wf
    have hn := hwf.most
    have hlen := hwf.len
    obtain ⟨n, hnn⟩ : ∃ n, d1.on.length = n := ⟨_, rfl⟩
    rw [hnn] at hn hlen
    go_loopw [3] (fun i wr => ∃ (k : Nat) (done : List ByteArray), k ≤ n ∧ done.length = k ∧ i = .int .i64 (k : Int) ∧ Hid (RefAt wr rd ro rn co cn { d1 with on := done ++ d1.on.drop k, nw := List.replicate k none ++ d1.nw.drop k }) ∧
        Hid (over d1.on d1.nw = done ++ over (d1.on.drop k) (d1.nw.drop k)) ∧ Hid (Fr [rd, ro, rn] w wr)) (fun i _ => n - (intOf i).toNat)
    case atStart => exact ⟨0, [], Nat.zero_le _, rfl, rfl, Lib.hid (by simpa using hD), Lib.hid (by simp), Lib.hid (hF.mono (by simp))⟩
    case round =>
      obtain ⟨k, done, hk, hdl, rfl, hR, hO, hFr⟩ := hrel
      have hnl : (done ++ d1.on.drop k).length = n := by rw [List.length_append, List.length_drop, hdl, hnn]; omega
      have hc := hR.out.cells
      simp only [hnl] at hc
      obtain ⟨c0, c1, -, -⟩ := hc
      clear hD hF
      by_cases hlt : k < n
      · obtain ⟨o, ho⟩ : ∃ o, d1.on[k]? = some o := ⟨_, List.getElem?_eq_getElem (by omega)⟩
        obtain ⟨x, hx⟩ : ∃ x, d1.nw[k]? = some x := ⟨_, List.getElem?_eq_getElem (by omega)⟩
        have hrep : (List.replicate k (none : Option ByteArray)).length = k := by simp
        have hnwk : (List.replicate k none ++ d1.nw.drop k)[k]? = some x := by rw [done_at _ _ _ hrep, hx]
        have hcell := own_cell hR.out.nw k (.string (x.getD ByteArray.empty)) (by show (nwVals (List.replicate k none ++ d1.nw.drop k))[k]? = _; rw [nwVals, List.getElem?_map, hnwk]; rfl)
        have hcello := own_cell hR.out.on k (.string o) (by show (strVals (done ++ d1.on.drop k))[k]? = _; rw [strVals, List.getElem?_map, done_at _ _ _ hdl, ho]; rfl)
        have hov : over (d1.on.drop k) (d1.nw.drop k) = x.getD o :: over (d1.on.drop (k + 1)) (d1.nw.drop (k + 1)) := by
          rw [drop_at _ _ _ ho, drop_at _ _ _ hx]; rfl
        cases x with
        | none =>
          have HR2 : Hid (RefAt wr rd ro rn co cn { d1 with on := (done ++ [o]) ++ d1.on.drop (k + 1), nw := List.replicate (k + 1) none ++ d1.nw.drop (k + 1) }) := Lib.hid (by
            rw [List.replicate_succ', ← keep_done done d1.on k o ho, ← keep_done _ d1.nw k none hx]; exact hR.out)
          have HO2 : Hid (over d1.on d1.nw = (done ++ [o]) ++ over (d1.on.drop (k + 1)) (d1.nw.drop (k + 1))) := Lib.hid (by rw [hO.out, hov]; simp)
          have h1 := hcell.1
          simp only [Option.getD_none] at h1
          clear hcell hcello ho hx hnwk hov hrep
          go_wp2
          go_roundw
          case rel => exact ⟨k + 1, done ++ [o], by omega, by simp [hdl], by go_num, HR2, HO2, hFr⟩
          case measure => simp [intOf]; omega
        | some s =>
          have hs64 : s.size = 64 := hwf.nw64 s (List.mem_of_getElem? hx)
          have HR2 : Hid (∀ w4, Fr [] wr w4 → Hid (RefAt ((w4.setCell ⟨ro, k, none⟩ (.string s)).setCell ⟨rn, k, none⟩ (.string ⟨#[]⟩)) rd ro rn co cn { d1 with on := (done ++ [s]) ++ d1.on.drop (k + 1), nw := List.replicate (k + 1) none ++ d1.nw.drop (k + 1) })) := Lib.hid (fun w4 hF4 => Lib.hid (by
            have := (hR.out.fr hF4 (by simp) (by simp) (by simp)).both k s hs64
            simp only [set_done done d1.on k o s hdl ho, set_done (List.replicate k none) d1.nw k (some s) none hrep hx] at this
            rw [List.replicate_succ']; exact this))
          have HO2 : Hid (over d1.on d1.nw = (done ++ [s]) ++ over (d1.on.drop (k + 1)) (d1.nw.drop (k + 1))) := Lib.hid (by rw [hO.out, hov]; simp)
          have h1 := hcell.1
          have h2 := hcell.2
          have h3 := hcello.2
          simp only [Option.getD_some] at h1
          have hne : s.toList.isEmpty = false := by
            rw [Lib.toList_data]
            cases hl : s.data.toList with
            | nil =>
              have : s.size = 0 := by show s.data.toList.length = 0; rw [hl]; rfl
              omega
            | cons a b => rfl
          have hn1 := hR.out.n1
          have hn2 := hR.out.n2
          have hn3 := hR.out.n3
          have h4 := hcello.1
          have HX : ∀ w4, Fr [] wr w4 → w4.cell? ⟨ro, k, none⟩ = some (.string o) ∧ w4.frozen? ⟨ro, k, none⟩ = false ∧ w4.cell? ⟨rn, k, none⟩ = some (.string s) ∧ w4.frozen? ⟨rn, k, none⟩ = false := by
            intro w4 hF4
            have hR4 := hR.out.fr hF4 (by simp) (by simp) (by simp)
            have a1 := own_cell hR4.on k (.string o) (by show (strVals (done ++ d1.on.drop k))[k]? = _; rw [strVals, List.getElem?_map, done_at _ _ _ hdl, ho]; rfl)
            have a2 := own_cell hR4.nw k (.string s) (by show (nwVals (List.replicate k none ++ d1.nw.drop k))[k]? = _; rw [nwVals, List.getElem?_map, hnwk]; rfl)
            exact ⟨a1.1, a1.2, a2.1, a2.2⟩
          have HC : ∀ w4, Fr [] wr w4 → w4.cell? ⟨rd, 0, none⟩ = some (.slice (some ⟨ro, 0, none⟩) n co) ∧ w4.cell? ⟨rd, 1, none⟩ = some (.slice (some ⟨rn, 0, none⟩) n cn) ∧ w4.cell? ⟨rn, k, none⟩ = some (.string s) := by
            intro w4 hF4
            have hc4 := (hR.out.fr hF4 (by simp) (by simp) (by simp)).cells
            simp only [hnl] at hc4
            exact ⟨hc4.1, hc4.2.1, (HX w4 hF4).2.2.1⟩
          clear hcell hcello ho hx hnwk hov hrep
          go_wp2
          refine wp_region_tail 12 (by kernel_rfl) (by kernel_rfl) ?_
          refine q_val rfl (by intro w' _; go_simp; rfl) ?_
          go_frame
          refine q_val rfl (by intro w' _; go_simp; rfl) ?_
          go_frame
          refine q_val rfl (by intro w' _; go_simp; rfl) ?_
          go_frame
          refine q_val (v := .slice (some ⟨ro, 0, none⟩) n co) rfl (by intro w' hW; have := (HC w' hW).1; go_simp) ?_
          go_frame
          refine q_val rfl (by intro w' _; go_simp; rfl) ?_
          go_frame
          refine q_val rfl (by intro w' _; go_simp; rfl) ?_
          go_frame
          refine q_val rfl (by intro w' _; go_simp; rfl) ?_
          go_frame
          refine q_val rfl (by intro w' _; go_simp; rfl) ?_
          go_frame
          refine q_val (v := .slice (some ⟨rn, 0, none⟩) n cn) rfl (by intro w' hW; have := (HC w' hW).2.1; go_simp) ?_
          go_frame
          refine q_val rfl (by intro w' _; go_simp; rfl) ?_
          go_frame
          refine q_val (v := .pointer (some ⟨rn, k, none⟩)) rfl (by intro w' hW; go_simp) ?_
          go_frame
          refine q_val (v := .string s) rfl (by intro w' hW; have := (HC w' hW).2.2; go_simp) ?_
          go_frame
          refine wpQuiet_nil ?_
          intro w4 hF4
          have HR4 := Lib.hid (hR.out.fr hF4 (by simp) (by simp) (by simp))
          have hc4 := HR4.out.cells
          simp only [hnl] at hc4
          obtain ⟨e0, e1, -, -⟩ := hc4
          have h5 := (HX w4 hF4)
          clear c0 c1 h1 h2 h3 h4
          obtain ⟨g1, g2, g3, g4⟩ := h5
          go_wp2
          go_roundw
          case rel => exact ⟨k + 1, done ++ [s], by omega, by simp [hdl], by go_num, HR2.out w4 hF4, HO2, Lib.hid (((hFr.out.trans hF4.any).setCell (Or.inl (by simp)) _).setCell (Or.inl (by simp)) _)⟩
          case measure => simp [intOf]; omega
      · obtain rfl : k = n := by omega
        have hfin : Hid ({ d1 with on := done ++ d1.on.drop k, nw := List.replicate k none ++ d1.nw.drop k } = d1.clean) := Lib.hid (by
          have e1 : d1.on.drop k = [] := List.drop_eq_nil_of_le (by omega)
          have e2 : d1.nw.drop k = [] := List.drop_eq_nil_of_le (by omega)
          have e3 : over d1.on d1.nw = done := by rw [hO.out, e1]; simp [over]
          unfold Dv.clean
          rw [e1, e2, e3, hlen, List.append_nil, List.append_nil])
        go_wp2
        go_ret
        refine ⟨rfl, ?_, hFr.out⟩
        rw [← hfin.out]
        exact hR.out
end

end Go.Proofs.YtiojkakmlbfiiaaGreat
