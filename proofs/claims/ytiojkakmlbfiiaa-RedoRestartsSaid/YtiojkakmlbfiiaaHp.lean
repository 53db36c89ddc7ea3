/- The heap's words that all my walks use: what a call may have changed, blocks known whole. -/
import Derived.WalkKit
import Derived.KernelRfl
import Derived.Lib.Hide
import Derived.Deep.LoopGhost
import Derived.Deep.QuietTactic
import Derived.BigQuiet
import Derived.Laws.CopyOwn
import Derived.Maps.RangeWalk
import Derived.Maps.OwnOps
import Derived.Maps.OwnSet
import Derived.Maps.StringElems
namespace Go.Proofs.Ytiojkakmlbfiiaa
open Go.RowKit

/-- Of the blocks that there were, those on S alone may have changed. -/
structure Fr (S : List Nat) (w w' : World) : Prop where
  os : w'.os = w.os
  tape : w'.tape = w.tape
  output : w'.output = w.output
  size : w.heap.size ≤ w'.heap.size
  block : ∀ k, k < w.heap.size → k ∉ S → w'.heap[k]? = w.heap[k]?

theorem Fr.refl (S : List Nat) (w : World) : Fr S w w := ⟨rfl, rfl, rfl, Nat.le_refl _, fun _ _ _ => rfl⟩
theorem Fr.trans {S : List Nat} {a b c : World} (h : Fr S a b) (k : Fr S b c) : Fr S a c :=
  ⟨k.os.trans h.os, k.tape.trans h.tape, k.output.trans h.output, Nat.le_trans h.size k.size,
   fun i hi hs => (k.block i (Nat.lt_of_lt_of_le hi h.size) hs).trans (h.block i hi hs)⟩
theorem Fr.then {S T : List Nat} {a b c : World} (h : Fr S a b) (k : Fr T b c) (hT : ∀ x ∈ T, x ∈ S ∨ a.heap.size ≤ x) : Fr S a c :=
  ⟨k.os.trans h.os, k.tape.trans h.tape, k.output.trans h.output, Nat.le_trans h.size k.size,
   fun i hi hs => (k.block i (Nat.lt_of_lt_of_le hi h.size) (fun hx => by rcases hT i hx with h' | h'; exact hs h'; omega)).trans (h.block i hi hs)⟩
theorem Fr.mono {S T : List Nat} {a b : World} (h : Fr S a b) (hS : ∀ x ∈ S, x ∈ T) : Fr T a b :=
  ⟨h.os, h.tape, h.output, h.size, fun i hi hs => h.block i hi (fun hx => hs (hS i hx))⟩
theorem Fr.any {T : List Nat} {a b : World} (h : Fr [] a b) : Fr T a b := h.mono (fun _ hx => by cases hx)
theorem Fr.drew {S : List Nat} {a w : World} (h : Fr S a w) : Fr S a w.drew := ⟨h.os, h.tape, h.output, h.size, h.block⟩
theorem Fr.drewN {S : List Nat} {a w : World} (h : Fr S a w) (n : Nat) : Fr S a (w.drewN n) := ⟨h.os, h.tape, h.output, h.size, h.block⟩
theorem Fr.alloc {S : List Nat} {a w : World} (h : Fr S a w) (o : Obj) : Fr S a (w.alloc o) :=
  h.trans ⟨rfl, rfl, rfl, by simp, fun k hk _ => Below.heap_alloc _ _ _ hk⟩
theorem Fr.setCell {S : List Nat} {a w : World} (h : Fr S a w) {p : Addr} (hp : p.block ∈ S ∨ a.heap.size ≤ p.block) (u : Value) : Fr S a (w.setCell p u) :=
  ⟨h.os, h.tape, h.output, by simpa using h.size, fun k hk hs => by
    rw [Below.heap_setCell _ _ _ _ (fun e => by subst e; rcases hp with h' | h'; exact hs h'; omega)]; exact h.block k hk hs⟩
theorem Fr.of_below {S : List Nat} {a b : World} (h : Below a.heap.size a b) : Fr S a b := ⟨h.os, h.tape, h.output, h.size, fun k hk _ => h.block k hk⟩
theorem Fr.to_below {a b : World} (h : Fr [] a b) : Below a.heap.size a b := ⟨h.os, h.tape, h.output, h.size, fun k hk => h.block k hk (by simp)⟩
theorem Fr.grown {S : List Nat} {a w w' : World} {row : Option Nat} (h : Fr S a w) (hg : w.grownBy w' row) (hr : ∀ k, row = some k → k ∈ S ∨ a.heap.size ≤ k) : Fr S a w' :=
  ⟨hg.os.trans h.os, hg.tape.trans h.tape, hg.output.trans h.output, Nat.le_trans h.size hg.size, fun i hi hs => by
    rw [hg.block i (Nat.lt_of_lt_of_le hi h.size) (fun e => by rcases hr i e.symm with h' | h'; exact hs h'; omega)]; exact h.block i hi hs⟩

/-- Block b holds just these cells, and may be written. -/
def Blk (w : World) (b : Nat) (cs : List Value) : Prop := ∃ T, w.heap[b]? = some (.cells cs.toArray T (0, 0))

theorem Blk.lt {w : World} {b : Nat} {cs : List Value} (h : Blk w b cs) : b < w.heap.size := by obtain ⟨T, h⟩ := h; exact lt_of_block h
theorem Blk.cell {w : World} {b : Nat} {cs : List Value} (h : Blk w b cs) (i : Nat) : w.cell? ⟨b, i, none⟩ = cs[i]? := by
  obtain ⟨T, h⟩ := h; simp [World.cell?, h]
theorem Blk.free {w : World} {b : Nat} {cs : List Value} (h : Blk w b cs) (i : Nat) : w.frozen? ⟨b, i, none⟩ = false := by
  obtain ⟨T, h⟩ := h; simp [World.frozen?, h]
theorem Blk.fr {w w' : World} {b : Nat} {cs : List Value} {S : List Nat} (h : Blk w b cs) (hf : Fr S w w') (hb : b ∉ S) : Blk w' b cs := by
  have hl := h.lt; obtain ⟨T, h⟩ := h; exact ⟨T, by rw [hf.block b hl hb]; exact h⟩
theorem Blk.set {w : World} {b : Nat} {cs : List Value} (h : Blk w b cs) (i : Nat) (v : Value) : Blk (w.setCell ⟨b, i, none⟩ v) b (cs.set i v) := by
  have hl := h.lt; obtain ⟨T, h⟩ := h
  refine ⟨T, ?_⟩
  show (w.heap.modify b _)[b]? = _
  rw [Array.getElem?_modify, if_pos rfl, h]; simp
theorem Blk.set_ne {w : World} {b : Nat} {cs : List Value} (h : Blk w b cs) {a : Addr} (hn : b ≠ a.block) (v : Value) : Blk (w.setCell a v) b cs := by
  obtain ⟨T, h⟩ := h; exact ⟨T, by rw [Below.heap_setCell _ _ _ _ hn]; exact h⟩
theorem Blk.alloc {w : World} {b : Nat} {cs : List Value} (h : Blk w b cs) (o : Obj) : Blk (w.alloc o) b cs := by
  have hl := h.lt; obtain ⟨T, h⟩ := h; exact ⟨T, by rw [Below.heap_alloc _ _ _ hl]; exact h⟩
theorem Blk.drew {w : World} {b : Nat} {cs : List Value} (h : Blk w b cs) : Blk w.drew b cs := h
theorem Blk.new (w : World) (cs : List Value) (T : TypeId) : Blk (w.alloc (.cells cs.toArray T (0, 0))) w.heap.size cs :=
  ⟨T, by show (w.heap.push _)[w.heap.size]? = _; simp⟩
theorem Blk.of {w : World} {b : Nat} {cs : List Value} {T : TypeId} (h : w.heap[b]? = some (.cells cs.toArray T (0, 0))) : Blk w b cs := ⟨T, h⟩

theorem ba_ext {a b : ByteArray} (h : a.data.toList = b.data.toList) : a = b := by
  cases a; cases b; congr 1; exact Array.toList_inj.1 h

theorem ret_int {k : IntKind} {a b : Int} (h : a = b) : Ending.returned (.int k a) = .returned (.int k b) := by rw [h]

/-- A slice of one-cell elements: its block (none: it has no element). -/
def SliceAt (w : World) (v : Value) (fp : Option Nat) (xs : List Value) : Prop :=
  (xs = [] ∧ fp = none ∧ ∃ a c, v = .slice a 0 c) ∨ ∃ b o c, fp = some b ∧ v = .slice (some ⟨b, o, none⟩) xs.length c ∧ ∀ i x, xs[i]? = some x → w.cell? ⟨b, o + i, none⟩ = some x

theorem SliceAt.fr {w w' : World} {v : Value} {fp : Option Nat} {xs : List Value} {S : List Nat} (h : SliceAt w v fp xs) (hf : Fr S w w') (hb : ∀ b, fp = some b → b ∉ S) : SliceAt w' v fp xs := by
  rcases h with h | ⟨b, o, c, rfl, rfl, hc⟩
  · exact Or.inl h
  · refine Or.inr ⟨b, o, c, rfl, rfl, fun i x hx => ?_⟩
    have h1 := hc i x hx
    rw [World.cell?_of_block (w := w) (hf.block b (World.block_lt_of_cell? w ⟨b, o + i, none⟩ h1) (hb b rfl))]
    exact h1

theorem SliceAt.of_row {w : World} {base e : Nat} {v : Value} {n : Nat} {xs : List Value} (h : w.ownsRow base e 1 v n xs) : ∃ fp, SliceAt w v fp xs ∧ (∀ b, fp = some b → base ≤ b ∧ b < w.heap.size) := by
  obtain ⟨h1, ⟨rfl, rfl⟩ | ⟨g, cap, cur, rfl, hb, hg, hn, _, hsz, ht⟩⟩ := h
  · exact ⟨none, Or.inl ⟨List.eq_nil_of_length_eq_zero (by simpa using h1), rfl, _, _, rfl⟩, by simp⟩
  · refine ⟨some g, Or.inr ⟨g, 0, cap, rfl, by rw [h1, Nat.mul_one], fun i x hx => ?_⟩, ?_⟩
    · have hi : i < xs.length := by
        rcases Nat.lt_or_ge i xs.length with h | h
        · exact h
        · rw [List.getElem?_eq_none h] at hx; cases hx
      simp only [World.cell?, hg, Nat.zero_add]
      rw [← ht] at hx
      rw [List.getElem?_take] at hx
      split at hx
      · simpa using hx
      · cases hx
    · intro b hb'; cases hb'; exact ⟨hb, lt_of_block hg⟩


theorem own_fr {w w' : World} {base T size : Nat} {v : Value} {n : Nat} {xs : List Value} {S : List Nat} (h : w.ownsRow base T size v n xs) (hf : Fr S w w') (hb : ∀ b, v.ownBlock = some b → b ∉ S) : w'.ownsRow base T size v n xs := by
  refine ⟨h.1, ?_⟩
  rcases h.2 with h2 | ⟨g, cap, cur, hv, hg, hh, r⟩
  · exact Or.inl h2
  · subst hv
    exact Or.inr ⟨g, cap, cur, rfl, hg, by rw [hf.block g (lt_of_block hh) (hb g rfl)]; exact hh, r⟩

theorem own_shape {w : World} {base T size : Nat} {v : Value} {n : Nat} {xs : List Value} (h : w.ownsRow base T size v n xs) : ∃ a c, v = .slice a n c := by
  rcases h.2 with ⟨rfl, rfl⟩ | ⟨g, cap, cur, rfl, _⟩
  · exact ⟨_, _, rfl⟩
  · exact ⟨_, _, rfl⟩

theorem own_base {w : World} {base T size : Nat} {v : Value} {n : Nat} {xs : List Value} (h : w.ownsRow base T size v n xs) : ∀ b, v.ownBlock = some b → base ≤ b ∧ b < w.heap.size := by
  rcases h.2 with ⟨rfl, rfl⟩ | ⟨g, cap, cur, rfl, hg, hh, _⟩
  · intro b hb; simp [Value.ownBlock] at hb
  · intro b hb; simp [Value.ownBlock] at hb; subst hb; exact ⟨hg, lt_of_block hh⟩

end Go.Proofs.Ytiojkakmlbfiiaa
