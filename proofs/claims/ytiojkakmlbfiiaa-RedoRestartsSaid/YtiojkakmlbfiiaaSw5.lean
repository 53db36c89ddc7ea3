/- The program's device, further: the cache's numbers in order; Crash. -/
import Derived.Test.YtiojkakmlbfiiaaSw4
import Derived.Test.YtiojkakmlbfiiaaIter
namespace Go.Proofs.Ytiojkakmlbfiiaa
open Go.RowKit Go.Maps Go.Shelf
open Sp

/-- The sectors that are in the cache, rising. -/
def dirty (nw : List (Option ByteArray)) : List Nat := (List.range nw.length).filter fun i => (nw.getD i none).isSome

theorem dirty_sorted (nw : List (Option ByteArray)) : (dirty nw).Pairwise (· < ·) := List.Pairwise.filter _ List.pairwise_lt_range

theorem mem_dirty {nw : List (Option ByteArray)} {i : Nat} : i ∈ dirty nw ↔ ∃ s, nw[i]? = some (some s) := by
  simp only [dirty, List.mem_filter, List.mem_range, List.getD_eq_getElem?_getD]
  constructor
  · rintro ⟨hi, h⟩
    rw [List.getElem?_eq_getElem hi] at h ⊢
    cases hx : nw[i] with
    | none => rw [hx] at h; simp at h
    | some s => exact ⟨s, rfl⟩
  · rintro ⟨s, h⟩
    refine ⟨?_, by rw [h]; rfl⟩
    rcases Nat.lt_or_ge i nw.length with h' | h'
    · exact h'
    · rw [List.getElem?_eq_none h'] at h; cases h

theorem dirty_perm {w : World} {b : Nat} {D : DW} {nw : List (Option ByteArray)} (ho : w.ownsMap Try.prog 3 (plainElem Try.prog 9) b (Maps.size D) D) (hc : CacheIs D nw) :
    ((dirty nw).map fun i : Nat => (i : Int)).Perm (intKeys D) := by
  have htidy := ho.tidy keysLaw
  obtain ⟨es, rfl, hap⟩ := htidy
  refine perm_intKeys hap ?_ ?_ ?_
  · obtain ⟨es0, clock, hb, F, _, hD⟩ := ho
    cases hD
    intro p hp
    obtain ⟨x, hx, rfl⟩ := List.mem_map.1 (mem_sorted.1 hp)
    obtain ⟨y, hy⟩ := F.reads x hx
    rw [Go.WideElems.rg_of hy]
    obtain ⟨a, _, ha, _⟩ := Maps.keyOf_i64 Try.underlying3 (Go.WideElems.rd_key hy)
    exact ⟨a, ha⟩
  · refine List.pairwise_map.2 ((dirty_sorted nw).imp ?_)
    intro a b h; omega
  · intro x
    rw [List.mem_map]
    constructor
    · rintro ⟨i, hi, rfl⟩
      obtain ⟨s, hs⟩ := mem_dirty.1 hi
      exact (hc.hit i s hs).1
    · intro h
      by_cases hx : ∃ (k : Nat) (s : ByteArray), x = k ∧ nw[k]? = some (some s)
      · obtain ⟨k, s, rfl, hs⟩ := hx
        exact ⟨k, mem_dirty.2 ⟨s, hs⟩, rfl⟩
      · rw [hc.miss x (fun k s hk hs => hx ⟨k, s, hk, hs⟩)] at h
        cases h

theorem sorted_of_perm {nw : List (Option ByteArray)} {ss : List Int} {D : DW} (h : ss.Perm (intKeys D)) (h2 : ((dirty nw).map fun i : Nat => (i : Int)).Perm (intKeys D)) :
    ss.mergeSort (fun x y => decide (x ≤ y)) = (dirty nw).map fun i : Nat => (i : Int) := by
  have e := mergeSort_of_perm_i (h.trans h2.symm)
  show ss.mergeSort leI = _
  rw [e]
  refine List.mergeSort_of_pairwise (List.pairwise_map.2 ((dirty_sorted nw).imp ?_))
  intro a b h; simp only [leI, decide_eq_true_eq]; omega

theorem sortsA (m : Nat) : AnyZI.SortsIn Try.prog Try.sortedA_ren Fence.wide m :=
  ⟨fun blk off cap ss W hH hblk hsz => callsIn_wide.2 (AnyM.slices_Sort_int Try.sortA blk off cap ss W hH hblk hsz),
   fun p cap W => callsIn_wide.2 (AnyM.slices_Sort_int_none Try.sortA p cap W)⟩

theorem keys_c (mb : Option Nat) (W : World) : Calls Try.prog 25 #[.map mb] W fun e w' =>
    e = .returned (.func (.func 41) #[] #[.pointer (some ⟨W.heap.size, 0, none⟩)]) ∧ w' = W.alloc (.cells #[.map mb] 40) :=
  (callsIn_wide (n := 5)).1 (AnyZI.keys_in Try.keysA Fence.wide 5 trivial rfl mb W)

theorem sorted_c {w : World} {b : Nat} {nw : List (Option ByteArray)} (h : CacheAt w b nw) (hl : nw.length ≤ 2048) :
    Calls Try.prog 24 #[.func (.func 41) #[] #[.pointer (some ⟨w.heap.size, 0, none⟩)]] (w.alloc (.cells #[.map (some b)] 40)) fun e w' =>
      ∃ v, e = .returned v ∧ w'.ownsRow w.heap.size 3 1 v (dirty nw).length ((dirty nw).map fun i : Nat => Value.int .i64 (i : Int)) ∧ Fr [] w w' := by
  have hbl := h.lt
  obtain ⟨D, hown, hc⟩ := h
  have hp := dirty_perm hown hc
  have hle : Maps.size D ≤ 2048 := by rw [hc.size]; exact Nat.le_trans List.countP_le_length hl
  have hseq : SeqGives Fence.wide 2 Try.prog 41 #[.pointer (some ⟨w.heap.size, 0, none⟩)] encZ (fun ss => ss.Perm (intKeys D)) (Maps.size D) (w.alloc (.cells #[.map (some b)] 40)) :=
    AnyZI.keys_gives (ρ := Try.keysA_ren) { Try.keysA with } Fence.wide _ trivial rfl (by omega) w.heap.size b (Maps.size D) D _ (by simp) (by simp) (by
      obtain ⟨es, clock, hb, Ft, hs, hD⟩ := hown
      exact ⟨es, clock, (Below.heap_alloc _ _ b hbl).trans hb, Ft, hs, hD⟩)
  have cS := AnyZI.sorted_in Try.sortedA Fence.wide 5 trivial trivial trivial trivial rfl (by omega) (sortsA _) (enters_of Try.func40 (by kernel_rfl) rfl) 41 #[.pointer (some ⟨w.heap.size, 0, none⟩)] trivial (enters_of Try.func41 (by kernel_rfl) rfl) _ _ (by unfold maxLen; omega) (by omega) _ hseq
  change CallsIn _ _ Try.prog 24 _ _ _ at cS
  refine (callsIn_wide.1 cS).mono ?_
  rintro e w' ⟨v, ss, rfl, hS, hrow, _, hb⟩
  have e1 := sorted_of_perm hS hp
  rw [e1, List.map_map] at hrow
  have e2 : ss.length = (dirty nw).length := by rw [hS.length_eq, ← hp.length_eq, List.length_map]
  rw [e2] at hrow
  refine ⟨v, rfl, ?_, ((Fr.refl [] w).alloc _).trans (Fr.of_below hb)⟩
  exact ownsRow_base_a hrow (by simp)

end Go.Proofs.Ytiojkakmlbfiiaa
