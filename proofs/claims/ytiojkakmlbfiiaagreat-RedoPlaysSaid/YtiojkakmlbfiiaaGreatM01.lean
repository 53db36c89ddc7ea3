/- Regions that draw their order, in general: each operation leaves what it is said to leave, whatever came ahead of it; memory only grows. -/
import Derived.WalkKit
import Derived.KernelRfl
import Derived.Lib.Hide
import Derived.Deep.LoopGhost
import Derived.Deep.QuietTactic
import Derived.BigQuiet
import Derived.Laws.CopyOwn
import Derived.Maps.RangeWalk
import Derived.Maps.OwnOps
import Derived.Maps.OwnSet
import Derived.Maps.StringElems
import Derived.StillTail
/- The heap's words that all my walks use: what a call may have changed, blocks known whole. -/
namespace Go.Proofs.YtiojkakmlbfiiaaGreat
open Go.RowKit

/-- Of the blocks that there were, those on S alone may have changed. -/
structure Fr (S : List Nat) (w w' : World) : Prop where
  os : w'.os = w.os
  tape : w'.tape = w.tape
  output : w'.output = w.output
  size : w.heap.size ≤ w'.heap.size
  block : ∀ k, k < w.heap.size → k ∉ S → w'.heap[k]? = w.heap[k]?

theorem Fr.refl (S : List Nat) (w : World) : Fr S w w := ⟨rfl, rfl, rfl, Nat.le_refl _, fun _ _ _ => rfl⟩
theorem Fr.trans {S : List Nat} {a b c : World} (h : Fr S a b) (k : Fr S b c) : Fr S a c :=
  ⟨k.os.trans h.os, k.tape.trans h.tape, k.output.trans h.output, Nat.le_trans h.size k.size,
   fun i hi hs => (k.block i (Nat.lt_of_lt_of_le hi h.size) hs).trans (h.block i hi hs)⟩
theorem Fr.then {S T : List Nat} {a b c : World} (h : Fr S a b) (k : Fr T b c) (hT : ∀ x ∈ T, x ∈ S ∨ a.heap.size ≤ x) : Fr S a c :=
  ⟨k.os.trans h.os, k.tape.trans h.tape, k.output.trans h.output, Nat.le_trans h.size k.size,
   fun i hi hs => (k.block i (Nat.lt_of_lt_of_le hi h.size) (fun hx => by rcases hT i hx with h' | h'; exact hs h'; omega)).trans (h.block i hi hs)⟩
theorem Fr.mono {S T : List Nat} {a b : World} (h : Fr S a b) (hS : ∀ x ∈ S, x ∈ T) : Fr T a b :=
  ⟨h.os, h.tape, h.output, h.size, fun i hi hs => h.block i hi (fun hx => hs (hS i hx))⟩
theorem Fr.any {T : List Nat} {a b : World} (h : Fr [] a b) : Fr T a b := h.mono (fun _ hx => by cases hx)
theorem Fr.drew {S : List Nat} {a w : World} (h : Fr S a w) : Fr S a w.drew := ⟨h.os, h.tape, h.output, h.size, h.block⟩
theorem Fr.drewN {S : List Nat} {a w : World} (h : Fr S a w) (n : Nat) : Fr S a (w.drewN n) := ⟨h.os, h.tape, h.output, h.size, h.block⟩
theorem Fr.alloc {S : List Nat} {a w : World} (h : Fr S a w) (o : Obj) : Fr S a (w.alloc o) :=
  h.trans ⟨rfl, rfl, rfl, by simp, fun k hk _ => Below.heap_alloc _ _ _ hk⟩
theorem Fr.setCell {S : List Nat} {a w : World} (h : Fr S a w) {p : Addr} (hp : p.block ∈ S ∨ a.heap.size ≤ p.block) (u : Value) : Fr S a (w.setCell p u) :=
  ⟨h.os, h.tape, h.output, by simpa using h.size, fun k hk hs => by
    rw [Below.heap_setCell _ _ _ _ (fun e => by subst e; rcases hp with h' | h'; exact hs h'; omega)]; exact h.block k hk hs⟩
theorem Fr.of_below {S : List Nat} {a b : World} (h : Below a.heap.size a b) : Fr S a b := ⟨h.os, h.tape, h.output, h.size, fun k hk _ => h.block k hk⟩
theorem Fr.to_below {a b : World} (h : Fr [] a b) : Below a.heap.size a b := ⟨h.os, h.tape, h.output, h.size, fun k hk => h.block k hk (by simp)⟩
theorem Fr.grown {S : List Nat} {a w w' : World} {row : Option Nat} (h : Fr S a w) (hg : w.grownBy w' row) (hr : ∀ k, row = some k → k ∈ S ∨ a.heap.size ≤ k) : Fr S a w' :=
  ⟨hg.os.trans h.os, hg.tape.trans h.tape, hg.output.trans h.output, Nat.le_trans h.size hg.size, fun i hi hs => by
    rw [hg.block i (Nat.lt_of_lt_of_le hi h.size) (fun e => by rcases hr i e.symm with h' | h'; exact hs h'; omega)]; exact h.block i hi hs⟩

/-- Block b holds just these cells, and may be written. -/
def Blk (w : World) (b : Nat) (cs : List Value) : Prop := ∃ T, w.heap[b]? = some (.cells cs.toArray T (0, 0))

theorem Blk.lt {w : World} {b : Nat} {cs : List Value} (h : Blk w b cs) : b < w.heap.size := by obtain ⟨T, h⟩ := h; exact lt_of_block h
theorem Blk.cell {w : World} {b : Nat} {cs : List Value} (h : Blk w b cs) (i : Nat) : w.cell? ⟨b, i, none⟩ = cs[i]? := by
  obtain ⟨T, h⟩ := h; simp [World.cell?, h]
theorem Blk.free {w : World} {b : Nat} {cs : List Value} (h : Blk w b cs) (i : Nat) : w.frozen? ⟨b, i, none⟩ = false := by
  obtain ⟨T, h⟩ := h; simp [World.frozen?, h]
theorem Blk.fr {w w' : World} {b : Nat} {cs : List Value} {S : List Nat} (h : Blk w b cs) (hf : Fr S w w') (hb : b ∉ S) : Blk w' b cs := by
  have hl := h.lt; obtain ⟨T, h⟩ := h; exact ⟨T, by rw [hf.block b hl hb]; exact h⟩
theorem Blk.set {w : World} {b : Nat} {cs : List Value} (h : Blk w b cs) (i : Nat) (v : Value) : Blk (w.setCell ⟨b, i, none⟩ v) b (cs.set i v) := by
  have hl := h.lt; obtain ⟨T, h⟩ := h
  refine ⟨T, ?_⟩
  show (w.heap.modify b _)[b]? = _
  rw [Array.getElem?_modify, if_pos rfl, h]; simp
theorem Blk.set_ne {w : World} {b : Nat} {cs : List Value} (h : Blk w b cs) {a : Addr} (hn : b ≠ a.block) (v : Value) : Blk (w.setCell a v) b cs := by
  obtain ⟨T, h⟩ := h; exact ⟨T, by rw [Below.heap_setCell _ _ _ _ hn]; exact h⟩
theorem Blk.alloc {w : World} {b : Nat} {cs : List Value} (h : Blk w b cs) (o : Obj) : Blk (w.alloc o) b cs := by
  have hl := h.lt; obtain ⟨T, h⟩ := h; exact ⟨T, by rw [Below.heap_alloc _ _ _ hl]; exact h⟩
theorem Blk.drew {w : World} {b : Nat} {cs : List Value} (h : Blk w b cs) : Blk w.drew b cs := h
theorem Blk.new (w : World) (cs : List Value) (T : TypeId) : Blk (w.alloc (.cells cs.toArray T (0, 0))) w.heap.size cs :=
  ⟨T, by show (w.heap.push _)[w.heap.size]? = _; simp⟩
theorem Blk.of {w : World} {b : Nat} {cs : List Value} {T : TypeId} (h : w.heap[b]? = some (.cells cs.toArray T (0, 0))) : Blk w b cs := ⟨T, h⟩

theorem ba_ext {a b : ByteArray} (h : a.data.toList = b.data.toList) : a = b := by
  cases a; cases b; congr 1; exact Array.toList_inj.1 h

theorem ret_int {k : IntKind} {a b : Int} (h : a = b) : Ending.returned (.int k a) = .returned (.int k b) := by rw [h]

/-- A slice of one-cell elements: its block (none: it has no element). -/
def SliceAt (w : World) (v : Value) (fp : Option Nat) (xs : List Value) : Prop :=
  (xs = [] ∧ fp = none ∧ ∃ a c, v = .slice a 0 c) ∨ ∃ b o c, fp = some b ∧ v = .slice (some ⟨b, o, none⟩) xs.length c ∧ ∀ i x, xs[i]? = some x → w.cell? ⟨b, o + i, none⟩ = some x

theorem SliceAt.fr {w w' : World} {v : Value} {fp : Option Nat} {xs : List Value} {S : List Nat} (h : SliceAt w v fp xs) (hf : Fr S w w') (hb : ∀ b, fp = some b → b ∉ S) : SliceAt w' v fp xs := by
  rcases h with h | ⟨b, o, c, rfl, rfl, hc⟩
  · exact Or.inl h
  · refine Or.inr ⟨b, o, c, rfl, rfl, fun i x hx => ?_⟩
    have h1 := hc i x hx
    rw [World.cell?_of_block (w := w) (hf.block b (World.block_lt_of_cell? w ⟨b, o + i, none⟩ h1) (hb b rfl))]
    exact h1

theorem SliceAt.of_row {w : World} {base e : Nat} {v : Value} {n : Nat} {xs : List Value} (h : w.ownsRow base e 1 v n xs) : ∃ fp, SliceAt w v fp xs ∧ (∀ b, fp = some b → base ≤ b ∧ b < w.heap.size) := by
  obtain ⟨h1, ⟨rfl, rfl⟩ | ⟨g, cap, cur, rfl, hb, hg, hn, _, hsz, ht⟩⟩ := h
  · exact ⟨none, Or.inl ⟨List.eq_nil_of_length_eq_zero (by simpa using h1), rfl, _, _, rfl⟩, by simp⟩
  · refine ⟨some g, Or.inr ⟨g, 0, cap, rfl, by rw [h1, Nat.mul_one], fun i x hx => ?_⟩, ?_⟩
    · have hi : i < xs.length := by
        rcases Nat.lt_or_ge i xs.length with h | h
        · exact h
        · rw [List.getElem?_eq_none h] at hx; cases hx
      simp only [World.cell?, hg, Nat.zero_add]
      rw [← ht] at hx
      rw [List.getElem?_take] at hx
      split at hx
      · simpa using hx
      · cases hx
    · intro b hb'; cases hb'; exact ⟨hb, lt_of_block hg⟩


theorem own_fr {w w' : World} {base T size : Nat} {v : Value} {n : Nat} {xs : List Value} {S : List Nat} (h : w.ownsRow base T size v n xs) (hf : Fr S w w') (hb : ∀ b, v.ownBlock = some b → b ∉ S) : w'.ownsRow base T size v n xs := by
  refine ⟨h.1, ?_⟩
  rcases h.2 with h2 | ⟨g, cap, cur, hv, hg, hh, r⟩
  · exact Or.inl h2
  · subst hv
    exact Or.inr ⟨g, cap, cur, rfl, hg, by rw [hf.block g (lt_of_block hh) (hb g rfl)]; exact hh, r⟩

theorem own_shape {w : World} {base T size : Nat} {v : Value} {n : Nat} {xs : List Value} (h : w.ownsRow base T size v n xs) : ∃ a c, v = .slice a n c := by
  rcases h.2 with ⟨rfl, rfl⟩ | ⟨g, cap, cur, rfl, _⟩
  · exact ⟨_, _, rfl⟩
  · exact ⟨_, _, rfl⟩

theorem own_base {w : World} {base T size : Nat} {v : Value} {n : Nat} {xs : List Value} (h : w.ownsRow base T size v n xs) : ∀ b, v.ownBlock = some b → base ≤ b ∧ b < w.heap.size := by
  rcases h.2 with ⟨rfl, rfl⟩ | ⟨g, cap, cur, rfl, hg, hh, _⟩
  · intro b hb; simp [Value.ownBlock] at hb
  · intro b hb; simp [Value.ownBlock] at hb; subst hb; exact ⟨hg, lt_of_block hh⟩

end Go.Proofs.YtiojkakmlbfiiaaGreat

/- Regions that draw their order, whose operations read or call what only makes memory: one walk for all orders. -/
namespace Go.Proofs.YtiojkakmlbfiiaaGreat
open Go.RowKit

section
variable {P : Program} {ops : Array Oper} {Q : Act → Prop} {a : Act} {o : Oper} {rest : List Oper} {w0 : World}

theorem wp_region_fr {id : Nat} {Q : Exit → Act → World → Prop} {a : Act} {w : World} {l : List Oper} (hm : P.follows .mixedOrders = true) (hB : Region.lexB .any l.toArray = true)
    (h : wpQuiet P l.toArray (fun w' => Fr [] w w') (fun a' => ∀ w', Fr [] w w' → Q .normal a' w') l a) : (Code.region id l.toArray true).wp P Q a w :=
  wp_region_quiet (C := fun w' => Fr [] w w') hm hB ⟨rfl, rfl, rfl, Nat.le_refl _, fun _ _ _ => rfl⟩ (by simpa using h)

theorem q_val {v : Value} (hg : o.guard = none) (h : ∀ w', Fr [] w0 w' → (execOp a.eval o).run P w' = .ok (.value v) w') (hK : wpQuiet P ops (fun w' => Fr [] w0 w') Q rest (a.put o.dst v)) :
    wpQuiet P ops (fun w' => Fr [] w0 w') Q (o :: rest) a := by
  unfold wpQuiet
  rw [if_pos (by simp [Region.wanted, hg])]
  exact ⟨v, fun w' hw' => by unfold Oper.quietAt; rw [h w' hw']; exact ⟨rfl, rfl⟩, hK⟩

theorem q_call {v : Value} {f : FuncId} {args : Array Value} (hg : o.guard = none) (h : ∀ w', (execOp a.eval o).run P w' = .ok (.enter f args) w')
    (hc : ∀ w', Fr [] w0 w' → Calls P f args w' fun e w'' => e = .returned v ∧ Fr [] w' w'') (hK : wpQuiet P ops (fun w' => Fr [] w0 w') Q rest (a.put o.dst v)) :
    wpQuiet P ops (fun w' => Fr [] w0 w') Q (o :: rest) a := by
  unfold wpQuiet
  rw [if_pos (by simp [Region.wanted, hg])]
  exact ⟨v, fun w' hw' => by
    unfold Oper.quietAt; rw [h w']
    exact ⟨rfl, (hc w' hw').mono fun _ _ ⟨h1, h2⟩ => ⟨h1, hw'.trans h2⟩⟩, hK⟩
end

/-! A drawn region whose last operations, in one forced order, write: what stands ahead of them is quiet over a class of worlds. -/
section
variable {P : Program} {ops : Array Oper} {md : Region.Mode} {C : World → Prop}

def AnyHead (P : Program) (md : Region.Mode) (ops : Array Oper) (C : World → Prop) (n : Nat) (L : Array Bool → Act → Prop) : Nat → Array Bool → Act → Prop
  | 0, listed, a => L listed a
  | f + 1, listed, a => Region.ready md ops listed ≠ [] ∧ ∀ i ∈ Region.ready md ops listed, i < n ∧ qOp P ops C i (AnyHead P md ops C n L f (listed.setIfInBounds i true)) a

theorem any_of_head {n g : Nat} {L : Array Bool → Act → Prop} {R : Exit → Act → World → Prop} (hL : ∀ listed a w, C w → L listed a → wpAny P md ops R g listed a w) (f : Nat) :
    ∀ (listed : Array Bool) (a : Act) (w : World), C w → AnyHead P md ops C n L f listed a → wpAny P md ops R (f + g) listed a w := by
  induction f with
  | zero => intro listed a w hw h; rw [Nat.zero_add]; exact hL _ _ _ hw h
  | succ f ih =>
    intro listed a w hw h
    rw [Nat.add_right_comm]
    exact ⟨fun e => absurd e h.1, fun i hi => wpOp_of_qOp hw (fun a' w' hw' h' => ih _ a' w' hw' h') (h.2 i hi).2⟩

theorem head_first {n i : Nat} {oi : Oper} {v : Value} {L : Array Bool → Act → Prop} (hi : ops[i]? = some oi) (hsel : ∀ (j : Nat) (o : Oper) cs b, ops[j]? = some o → o.op ≠ .select cs b)
    (hs : Region.sinkB md ops n = true) (hc : Region.chainB md ops n = true) (hn : n < ops.size) (hin : i < n) (hdone : ∀ listed a, L listed a → ∀ j ∈ Region.ready md ops listed, n ≤ j) (f : Nat) :
    ∀ (listed : Array Bool) (a : Act), HeadInv md ops n listed →
      (∀ j oj, ops[j]? = some oj → j ≠ i → listed.getD j true = false → (∀ e ∈ oj.after, Region.binds md e = true → e.on ≠ i) → oi.apart ops oj = true) →
      i ∈ Region.ready md ops listed → YieldsIn P ops C oi v a → AnyHead P md ops C n L f (listed.setIfInBounds i true) (a.put oi.dst v) → AnyHead P md ops C n L (f + 1) listed a := by
  induction f with
  | zero =>
    intro listed a inv _ hr hy H
    have hun := (mem_ready.1 hr).1
    refine ⟨List.ne_nil_of_mem hr, fun j hj => ?_⟩
    have hjn : j < n := Nat.lt_of_not_le fun h => tail_waits hs hc hn inv _ i rfl hin hun j h hj
    refine ⟨hjn, ?_⟩
    rcases Nat.decEq j i with hji | rfl
    · exact absurd (hdone _ _ H j (ready_mono hj hji)) (by omega)
    · exact hy.qOp hi H
  | succ f ih =>
    intro listed a inv hfree hr hy H
    have hun := (mem_ready.1 hr).1
    refine ⟨List.ne_nil_of_mem hr, fun j hj => ?_⟩
    have hjn : j < n := Nat.lt_of_not_le fun h => tail_waits hs hc hn inv _ i rfl hin hun j h hj
    refine ⟨hjn, ?_⟩
    rcases Nat.decEq j i with hji | rfl
    · obtain ⟨hjun, oj, hoj, hall⟩ := mem_ready.1 hj
      have hno : ∀ e ∈ oj.after, Region.binds md e = true → e.on ≠ i := by
        intro e he hb heq
        have h1 := hall e he hb
        rw [heq, getD_both hun] at h1
        cases h1
      refine qOp_mono (fun a' h3 => ih (listed.setIfInBounds j true) a' (inv.set hj hjn) ?_ (ready_mono hr (Ne.symm hji)) h3.1 ?_)
        (qOp_put hoj (hfree j oj hoj hji hjun hno) (fun cs b => hsel i oi cs b hi) (fun cs b => hsel j oj cs b hoj) hy (H.2 j (ready_mono hj hji)).2)
      · intro k ok hk hki hku hkn
        refine hfree k ok hk hki ?_ hkn
        rcases Nat.decEq j k with hjk | rfl
        · rwa [getD_set_ne true hjk] at hku
        · exact hjun
      · rw [Array.setIfInBounds_comm _ _ hji]; exact h3.2
    · exact hy.qOp hi H

theorem head_lex {n g : Nat} {Lq : Act → Prop} (hsel : Region.noSelect ops = true) (hs : Region.sinkB md ops n = true) (hc : Region.chainB md ops n = true) (hn : n < ops.size) :
    ∀ (l : List Oper) (k : Nat) (listed : Array Bool) (a : Act), (∀ j, j < l.length → l[j]? = ops[k + j]?) → k + l.length = n → HeadInv md ops n listed →
    Region.lexHead md ops g l.length k listed = true → wpQuiet P ops C Lq l a → AnyHead P md ops C n (fun listed' a' => Region.seqB md ops g n listed' = true ∧ Lq a') l.length listed a
  | [], k, listed, a, _, hk, _, hB, h => by
    obtain rfl : k = n := by simpa using hk
    exact ⟨by simpa [Region.lexHead] using hB, h⟩
  | o :: l, k, listed, a, hl, hk, inv, hB, h => by
    have h0 : ops[k]? = some o := by simpa using (hl 0 (by simp)).symm
    simp only [List.length_cons, Region.lexHead, Bool.and_eq_true] at hB
    obtain ⟨⟨hr, hf⟩, hB'⟩ := hB
    have hkn : k < n := by simp only [List.length_cons] at hk; omega
    have hr' : k ∈ Region.ready md ops listed := by simpa using hr
    obtain ⟨v, hy, hK⟩ := yieldsIn_of_qOp h0 (show qOp P ops C k (wpQuiet P ops C Lq l) a by unfold qOp; simp only [h0]; exact h)
    exact head_first h0 (Region.noSelect_spec hsel) hs hc hn hkn (fun _ _ hL => seqB_ready hL.1) l.length listed a inv (Region.free_spec h0 hf) hr' hy
      (head_lex hsel hs hc hn l (k + 1) _ _ (fun j hj => by have := hl (j + 1) (by simp; omega); simpa [Nat.add_assoc, Nat.add_comm 1 j] using this) (by simp only [List.length_cons] at hk; omega) (inv.set hr' hkn) hB' hK)

theorem wp_region_tail {id : Nat} {Q : Exit → Act → World → Prop} {a : Act} {w : World} {l : List Oper} (n : Nat) (hm : P.follows .mixedOrders = true) (hB : Region.lexTailB .any l.toArray n = true)
    (h : wpQuiet P l.toArray (fun w' => Fr [] w w') (fun a' => ∀ w', Fr [] w w' → wpList P l.toArray Q (l.drop n) a' w') (l.take n) a) : (Code.region id l.toArray true).wp P Q a w := by
  simp only [Region.lexTailB, Bool.and_eq_true, decide_eq_true_eq] at hB
  obtain ⟨⟨⟨⟨hsel, hn⟩, hs⟩, hc⟩, hlex⟩ := hB
  have htl : (l.take n).length = n := by have : n < l.length := by simpa using hn
                                         simp; omega
  have hdl : (l.drop n).length = l.toArray.size - n := by simp
  have H := head_lex (md := .any) (g := l.toArray.size - n) hsel hs hc hn (l.take n) 0 _ a
    (fun j hj => by have hj' : j < n := by rw [htl] at hj; exact hj
                    simp [hj']) (by simpa using htl)
    (show HeadInv .any l.toArray n (Array.replicate l.toArray.size false) from ⟨by simp, fun j oj _ hl => (by rw [getD_replicate_false] at hl; cases hl), fun t _ ht => getD_in (by simpa using ht) (getD_replicate_false _ _)⟩) (by rw [htl]; exact hlex) h
  refine wp_region_any hm ?_
  have := any_of_head (R := Q) (g := l.toArray.size - n) (fun listed a' w' hw' hL => by
    have := wpAny_of_seq (md := .any) (Q' := Q) (l.drop n) n listed a' w' (fun j => by simp [List.getElem?_drop]) (by rw [hdl]; exact hL.1) (hL.2 w' hw')
    rwa [hdl] at this) _ _ _ { w with drawn := w.drawn + 1 } ⟨rfl, rfl, rfl, Nat.le_refl _, fun _ _ _ => rfl⟩ H
  rw [htl, show n + (l.toArray.size - n) = l.toArray.size by omega] at this
  exact this
end

end Go.Proofs.YtiojkakmlbfiiaaGreat

/- Regions that draw their order, in general: each operation leaves what it is said to leave, whatever came ahead of it; memory only grows. -/
namespace Go.Proofs.YtiojkakmlbfiiaaGreat
open Go.RowKit

inductive Kind where
  | const (c : Value)
  | var (T : Value → World → Prop)

/-- What is asked of an operation's result. -/
def Upon (P : Program) (G : Value → World → Prop) : Result Next → Prop
  | .ok (.value u) w => G u w
  | .ok .skip w => G undef w
  | .ok (.enter f args) w => Calls P f args w fun e w' => ∃ u, e = .returned u ∧ G u w'
  | _ => False

theorem Upon.value (P : Program) (G : Value → World → Prop) (u : Value) (w : World) : Upon P G (.ok (.value u) w) = G u w := rfl
theorem Upon.enter (P : Program) (G : Value → World → Prop) (f : FuncId) (args : Array Value) (w : World) : Upon P G (.ok (.enter f args) w) = Calls P f args w fun e w' => ∃ u, e = .returned u ∧ G u w' := rfl

def StepTo (P : Program) (ops : Array Oper) (o : Oper) (a : Act) (w : World) (G : Value → World → Prop) : Prop :=
  if Region.wanted o (yielded ops a.tmps) then Upon P G ((execOp a.eval o).run P w) else G undef w

section
variable {P : Program} {ops : Array Oper} {W : World}

theorem upon_of {o : Oper} {a : Act} {w : World} {G : Value → World → Prop} {K : Act → World → Prop} {Q : Exit → Act → World → Prop} (h : Upon P G ((execOp a.eval o).run P w))
    (hK : ∀ u w', G u w' → K (a.put o.dst u) w') : o.wp P a w K Q := by
  unfold Oper.wp
  generalize (execOp a.eval o).run P w = r at h
  cases r with
  | ok n w' =>
    cases n <;> simp only [Upon] at h <;> simp only [Oper.upon]
    case value u => exact hK _ _ h
    case skip => exact hK _ _ h
    case enter f args => exact h.mono fun e w'' ⟨u, he, hu⟩ => by subst he; exact hK _ _ hu
  | halt x w' => simp only [Upon] at h

/-- The operations that are on, in the text's order, put into a frame. -/
def putUpto (ops : Array Oper) (on : Nat → Bool) (v : Nat → Value) : Nat → Act → Act
  | 0, a => a
  | n + 1, a => if on n then (putUpto ops on v n a).put ((ops[n]?).bind (·.dst)) (v n) else putUpto ops on v n a

theorem putUpto_size (on : Nat → Bool) (v : Nat → Value) (a : Act) : ∀ n, (putUpto ops on v n a).tmps.size = a.tmps.size
  | 0 => rfl
  | n + 1 => by
    unfold putUpto
    split
    · rw [← putUpto_size on v a n]
      cases (ops[n]?).bind (·.dst) <;> simp [Act.put]
    · exact putUpto_size on v a n
theorem putUpto_defers (on : Nat → Bool) (v : Nat → Value) (a : Act) : ∀ n, (putUpto ops on v n a).defers = a.defers
  | 0 => rfl
  | n + 1 => by
    unfold putUpto
    split
    · rw [← putUpto_defers on v a n]
      cases (ops[n]?).bind (·.dst) <;> simp [Act.put]
    · exact putUpto_defers on v a n

def dstOf (ops : Array Oper) (i : Nat) : Option Tmp := (ops[i]?).bind (·.dst)

theorem putUpto_off (on : Nat → Bool) (v : Nat → Value) (a : Act) (d : Tmp) : ∀ n, (∀ j, j < n → on j = true → dstOf ops j ≠ some d) → (putUpto ops on v n a).tmps[d]? = a.tmps[d]?
  | 0, _ => rfl
  | n + 1, h => by
    have ih := putUpto_off on v a d n (fun j hj => h j (by omega))
    unfold putUpto
    split
    · rename_i hn
      have hne := h n (by omega) hn
      unfold dstOf at hne
      cases hd : (ops[n]?).bind (·.dst) with
      | none => simpa [Act.put] using ih
      | some x =>
        rw [hd] at hne
        have : x ≠ d := fun e => hne (by rw [e])
        simp only [Act.put]
        rw [Array.getElem?_setIfInBounds_ne this, ih]
    · exact ih

theorem putUpto_on (on : Nat → Bool) (v : Nat → Value) (a : Act) (d : Tmp) (j : Nat) (hj : on j = true) (hd : dstOf ops j = some d) (hu : ∀ k, k ≠ j → dstOf ops k ≠ some d) (hs : d < a.tmps.size) :
    ∀ n, j < n → (putUpto ops on v n a).tmps[d]? = some (v j)
  | 0, h => by omega
  | n + 1, h => by
    unfold putUpto
    by_cases hjn : j = n
    · subst hjn
      rw [if_pos hj]
      unfold dstOf at hd
      rw [hd]
      simp only [Act.put]
      rw [Array.getElem?_setIfInBounds_self_of_lt (by rw [putUpto_size]; exact hs)]
    · have ih := putUpto_on on v a d j hj hd hu hs n (by omega)
      split
      · have hne := hu n (fun e => hjn e.symm)
        unfold dstOf at hne
        cases hdn : (ops[n]?).bind (·.dst) with
        | none => simpa [Act.put] using ih
        | some x =>
          rw [hdn] at hne
          have : x ≠ d := fun e => hne (by rw [e])
          simp only [Act.put]
          rw [Array.getElem?_setIfInBounds_ne this, ih]
      · exact ih

theorem putUpto_congr (on on' : Nat → Bool) (v v' : Nat → Value) (a : Act) : ∀ n, (∀ j, j < n → on j = on' j ∧ (on j = true → v j = v' j)) → putUpto ops on v n a = putUpto ops on' v' n a
  | 0, _ => rfl
  | n + 1, h => by
    have ih := putUpto_congr on on' v v' a n (fun j hj => h j (by omega))
    obtain ⟨h1, h2⟩ := h n (by omega)
    unfold putUpto
    rw [← h1, ih]
    split
    · rename_i hn; rw [h2 hn]
    · rfl

theorem putUpto_none (v : Nat → Value) (a : Act) : ∀ n, putUpto ops (fun _ => false) v n a = a
  | 0 => rfl
  | n + 1 => by unfold putUpto; rw [if_neg (by simp)]; exact putUpto_none v a n

theorem putUpto_add (on : Nat → Bool) (v : Nat → Value) (a : Act) (i : Nat) (u : Value) (hi : on i = false) (hd : ∀ j, j ≠ i → ∀ d, dstOf ops i = some d → dstOf ops j ≠ some d) :
    ∀ n, i < n → putUpto ops (fun j => on j || j == i) (fun j => if j = i then u else v j) n a = (putUpto ops on v n a).put (dstOf ops i) u
  | 0, h => by omega
  | n + 1, h => by
    by_cases hin : i = n
    · subst hin
      have e1 : putUpto ops (fun j => on j || j == i) (fun j => if j = i then u else v j) i a = putUpto ops on v i a :=
        putUpto_congr _ _ _ _ a i (fun j hj => by
          have : (j == i) = false := by simp; omega
          refine ⟨by simp [this], fun _ => by rw [if_neg (by omega)]⟩)
      simp only [putUpto]
      rw [e1]
      simp [hi, dstOf]
    · have ih := putUpto_add on v a i u hi hd n (by omega)
      have hni : (n == i) = false := by simp; omega
      simp only [putUpto]
      rw [ih]
      simp only [hni, Bool.or_false, if_neg (show ¬ n = i by omega)]
      split
      · exact Act.put_comm _ u (v n) (fun d hd' => hd n (by omega) d hd')
      · rfl

def valOf (K : Nat → Kind) (v : Nat → Value) (j : Nat) : Value := match K j with | .const c => c | .var _ => v j
def Good (K : Nat → Kind) (j : Nat) (u : Value) (w : World) : Prop := match K j with | .const c => u = c | .var T => T u w
def Stable (T : Value → World → Prop) : Prop := ∀ u w w', Fr [] w w' → T u w → T u w'

/-- No two operations fill one slot; what fills a slot that another one looks at stands ahead of it, or behind it, by an edge. -/
def slotsB (ops : Array Oper) : Bool :=
  (List.range ops.size).all fun i => (List.range ops.size).all fun j =>
    (i == j || match dstOf ops i with | some d => dstOf ops j != some d | none => true) &&
    match ops[i]? with
    | none => true
    | some o => i == j || (o.looksAt ops).all fun d => dstOf ops j != some d || (decide (j < i) && Region.waitsFor .any ops i j) || (decide (i < j) && Region.waitsFor .any ops j i)
def edgesB (ops : Array Oper) : Bool :=
  (List.range ops.size).all fun i => match ops[i]? with
    | none => true
    | some o => o.after.all fun e => !Region.binds .any e || decide (e.on < i)
def firstN (ops : Array Oper) (n : Nat) : Array Bool := Array.ofFn (n := ops.size) fun i => decide (i.val < n)
def relB (ops : Array Oper) (n : Nat) : Bool :=
  Region.noSelect ops && decide (n ≤ ops.size) && slotsB ops && edgesB ops && (n == ops.size || (Region.sinkB .any ops n && Region.chainB .any ops n)) && Region.seqB .any ops (ops.size - n) n (firstN ops n)

theorem slots_dst (h : slotsB ops = true) {i j : Nat} (hij : j ≠ i) (d : Tmp) (hd : dstOf ops i = some d) : dstOf ops j ≠ some d := by
  intro hj
  have hi' : i < ops.size := by
    rcases Nat.lt_or_ge i ops.size with h' | h'
    · exact h'
    · simp [dstOf, Array.getElem?_eq_none h'] at hd
  have hj' : j < ops.size := by
    rcases Nat.lt_or_ge j ops.size with h' | h'
    · exact h'
    · simp [dstOf, Array.getElem?_eq_none h'] at hj
  have := List.all_eq_true.1 (List.all_eq_true.1 h i (List.mem_range.2 hi')) j (List.mem_range.2 hj')
  simp only [Bool.and_eq_true, Bool.or_eq_true, beq_iff_eq, hd] at this
  rcases this.1 with e | e
  · exact hij e.symm
  · rw [hj] at e; simp at e

theorem slots_looks (h : slotsB ops = true) {i j : Nat} {o : Oper} (ho : ops[i]? = some o) (hij : i ≠ j) (d : Tmp) (hd : d ∈ o.looksAt ops) (hj : dstOf ops j = some d) :
    (j < i ∧ Region.waitsFor .any ops i j = true) ∨ (i < j ∧ Region.waitsFor .any ops j i = true) := by
  have hi' : i < ops.size := (Array.getElem?_eq_some_iff.1 ho).1
  have hj' : j < ops.size := by
    rcases Nat.lt_or_ge j ops.size with h' | h'
    · exact h'
    · simp [dstOf, Array.getElem?_eq_none h'] at hj
  have := List.all_eq_true.1 (List.all_eq_true.1 h i (List.mem_range.2 hi')) j (List.mem_range.2 hj')
  simp only [Bool.and_eq_true, ho, Bool.or_eq_true, beq_iff_eq, hij, false_or] at this
  have h2 := List.all_eq_true.1 this.2 d hd
  simp only [Bool.or_eq_true, Bool.and_eq_true, decide_eq_true_eq, hj, bne_self_eq_false, Bool.false_eq_true, false_or] at h2
  exact h2

theorem waits_edge {i j : Nat} {o : Oper} (ho : ops[i]? = some o) (h : Region.waitsFor .any ops i j = true) : ∃ e ∈ o.after, Region.binds .any e = true ∧ e.on = j := by
  obtain ⟨o', ho', e, he, hb, hon⟩ := Region.waitsFor_spec h
  rw [ho] at ho'; cases ho'
  exact ⟨e, he, hb, hon⟩

/-- What one operation is asked: over the frame as the text's order has it. -/
def HopAt (P : Program) (ops : Array Oper) (W : World) (K : Nat → Kind) (a0 : Act) (i : Nat) (o : Oper) : Prop :=
  ∀ (v : Nat → Value) (w : World), Fr [] W w → (∀ e ∈ o.after, Region.binds .any e = true → Good K e.on (valOf K v e.on) w) →
    StepTo P ops o (putUpto ops (fun _ => true) (valOf K v) i a0) w fun u w' => Good K i u w' ∧ Fr [] w w'

structure RInv (ops : Array Oper) (n : Nat) (W : World) (K : Nat → Kind) (a0 : Act) (listed : Array Bool) (a : Act) (w : World) : Prop where
  head : HeadInv .any ops n listed
  ex : ∃ v, a = putUpto ops (fun j => listed.getD j false) (valOf K v) n a0 ∧ (∀ j, j < n → listed.getD j false = true → Good K j (valOf K v j) w) ∧ Fr [] W w

theorem step_congr {o : Oper} {a a' : Act} {w : World} {G : Value → World → Prop} (hs : ∀ cs b, o.op ≠ .select cs b) (h : ∀ d ∈ o.looksAt ops, a.tmps[d]? = a'.tmps[d]?) (hst : StepTo P ops o a' w G) : StepTo P ops o a w G := by
  have h1 : execOp a.eval o = execOp a'.eval o := execOp_congr o hs (fun x hx => by
    cases x with
    | tmp t =>
      have := h t (List.mem_append_left _ (List.mem_filterMap.2 ⟨.tmp t, by simpa using hx, rfl⟩))
      simp only [Act.eval, Array.getD_eq_getD_getElem?, this]
    | _ => rfl)
  have h2 : Region.wanted o (yielded ops a.tmps) = Region.wanted o (yielded ops a'.tmps) := by
    unfold Region.wanted
    cases hg : o.guard with
    | none => rfl
    | some gw =>
      obtain ⟨g, want⟩ := gw
      simp only
      have : yielded ops a.tmps g = yielded ops a'.tmps g := by
        unfold yielded
        cases ht : (ops[g]?).bind (·.dst) with
        | none => rfl
        | some t =>
          have := h t (List.mem_append_right _ (by simp [hg, ht]))
          simp only [Option.bind_some, this]
      rw [this]
  unfold StepTo at hst ⊢
  rw [h1, h2]
  exact hst

def AnyW (P : Program) (ops : Array Oper) (Q : Exit → Act → World → Prop) (n : Nat) (L : Array Bool → Act → World → Prop) : Nat → Array Bool → Act → World → Prop
  | 0, listed, a, w => L listed a w
  | f + 1, listed, a, w => Region.ready .any ops listed ≠ [] ∧ ∀ i ∈ Region.ready .any ops listed, i < n ∧ wpOp P ops Q i (AnyW P ops Q n L f (listed.setIfInBounds i true)) a w

theorem any_of_W {Q : Exit → Act → World → Prop} {n g : Nat} {L : Array Bool → Act → World → Prop} (hL : ∀ listed a w, L listed a w → wpAny P .any ops Q g listed a w) (f : Nat) :
    ∀ (listed : Array Bool) (a : Act) (w : World), AnyW P ops Q n L f listed a w → wpAny P .any ops Q (f + g) listed a w := by
  induction f with
  | zero => intro listed a w h; rw [Nat.zero_add]; exact hL _ _ _ h
  | succ f ih =>
    intro listed a w h
    rw [Nat.add_right_comm]
    exact ⟨fun e => absurd e h.1, fun i hi => wpOp_mono (fun a' w' h' => ih _ a' w' h') (h.2 i hi).2⟩

theorem countP_one {p p' : Nat → Bool} {i : Nat} (hp : p i = true) (hp' : p' i = false) (hne : ∀ j, j ≠ i → p' j = p j) : ∀ l : List Nat, l.Nodup → i ∈ l → l.countP p' + 1 = l.countP p
  | [], _, h => by cases h
  | x :: xs, hnd, h => by
    rw [List.nodup_cons] at hnd
    by_cases hx : x = i
    · subst hx
      have e : xs.countP p' = xs.countP p := by
        apply List.countP_congr
        intro y hy
        rw [hne y (fun e => hnd.1 (e ▸ hy))]
      simp [List.countP_cons, hp, hp', e]
    · have := countP_one hp hp' hne xs hnd.2 (by rcases List.mem_cons.1 h with e | e; exact absurd e.symm hx; exact e)
      simp only [List.countP_cons, hne x hx]
      omega

theorem rel_any {Q : Exit → Act → World → Prop} {n : Nat} {K : Nat → Kind} {a0 : Act} (hB : relB ops n = true) (hK : ∀ j T, j < n → K j = .var T → Stable T)
    (hop : ∀ i o, i < n → ops[i]? = some o → HopAt P ops W K a0 i o) {L : Array Bool → Act → World → Prop}
    (hL : ∀ listed a w, RInv ops n W K a0 listed a w → (∀ i, i < n → listed.getD i false = true) → L listed a w) (f : Nat) :
    ∀ (listed : Array Bool) (a : Act) (w : World), RInv ops n W K a0 listed a w → (List.range n).countP (fun i => !listed.getD i false) = f → AnyW P ops Q n L f listed a w := by
  simp only [relB, Bool.and_eq_true, decide_eq_true_eq, Bool.or_eq_true, beq_iff_eq] at hB
  obtain ⟨⟨⟨⟨⟨hsel, hn⟩, hsl⟩, hed⟩, htl⟩, hseq⟩ := hB
  induction f with
  | zero =>
    intro listed a w inv hc
    refine hL _ _ _ inv (fun i hi => ?_)
    have := List.countP_eq_zero.1 hc i (List.mem_range.2 hi)
    simpa using this
  | succ f ih =>
    intro listed a w inv hc
    -- the least that is not listed
    have hex : ∃ i, i < n ∧ listed.getD i false = false ∧ ∀ j, j < i → listed.getD j false = true := by
      have : ∃ i ∈ List.range n, (!listed.getD i false) = true := List.countP_pos_iff.1 (by omega)
      obtain ⟨i, hi, hl⟩ := this
      have key : ∀ m i, i ≤ m → i < n → listed.getD i false = false → ∃ i, i < n ∧ listed.getD i false = false ∧ ∀ j, j < i → listed.getD j false = true := by
        intro m
        induction m with
        | zero => intro i him hin hl; exact ⟨i, hin, hl, fun j hj => by omega⟩
        | succ m ihm =>
          intro i him hin hl
          by_cases hall : ∀ j, j < i → listed.getD j false = true
          · exact ⟨i, hin, hl, hall⟩
          · have : ∃ j, ¬ (j < i → listed.getD j false = true) := Classical.not_forall.1 hall
            obtain ⟨j, hj⟩ := this
            rw [Classical.not_imp] at hj
            exact ihm j (by omega) (by omega) (by simpa using hj.2)
      exact key i i (Nat.le_refl _) (List.mem_range.1 hi) (by simpa using hl)
    obtain ⟨i0, hi0, hl0, hall0⟩ := hex
    have hsz := inv.head.size
    have hi0s : i0 < ops.size := by omega
    have ho0 : ops[i0]? = some ops[i0] := Array.getElem?_eq_getElem hi0s
    have hr0 : i0 ∈ Region.ready .any ops listed := by
      refine mem_ready.2 ⟨getD_in (by omega) hl0, _, ho0, fun e he hb => hall0 _ ?_⟩
      have h1 := List.all_eq_true.1 hed i0 (List.mem_range.2 hi0s)
      simp only [ho0] at h1
      have h2 := Array.all_eq_true_iff_forall_mem.1 h1 e he
      simpa [hb] using h2
    refine ⟨List.ne_nil_of_mem hr0, fun i hi => ?_⟩
    obtain ⟨hun, o, ho, hdeps⟩ := mem_ready.1 hi
    have hin : i < n := by
      rcases htl with h | ⟨hs, hcn⟩
      · have := (Array.getElem?_eq_some_iff.1 ho).1; omega
      · rcases Nat.lt_or_ge i n with h | h
        · exact h
        · rcases Nat.lt_or_ge n ops.size with hns | hns
          · exact absurd hi (tail_waits hs hcn hns inv.head _ i0 rfl hi0 (getD_in (by omega) hl0) i h)
          · have := (Array.getElem?_eq_some_iff.1 ho).1; omega
    refine ⟨hin, ?_⟩
    obtain ⟨v, hav, hgood, hW⟩ := inv.ex
    have huf : listed.getD i false = false := getD_both hun
    have hst0 := hop i o hin ho v w hW (fun e he hb => hgood _ (by
      have h1 := List.all_eq_true.1 hed i (List.mem_range.2 (Array.getElem?_eq_some_iff.1 ho).1)
      simp only [ho] at h1
      have h2 := Array.all_eq_true_iff_forall_mem.1 h1 e he
      have : e.on < i := by simpa [hb] using h2
      omega) (hdeps e he hb))
    have hst : StepTo P ops o a w fun u w' => Good K i u w' ∧ Fr [] w w' := by
      refine step_congr (Region.noSelect_spec hsel i o · · ho) (fun d hd => ?_) hst0
      rw [hav]
      by_cases hw : ∃ j, dstOf ops j = some d
      · obtain ⟨j, hj⟩ := hw
        by_cases hij : i = j
        · subst hij
          rw [putUpto_off _ _ _ d n (fun k hk hon e => by
            by_cases hki : k = i
            · subst hki; rw [huf] at hon; cases hon
            · exact slots_dst hsl hki d hj e), putUpto_off _ _ _ d i (fun k hk _ e => slots_dst hsl (show k ≠ i by omega) d hj e)]
        · rcases slots_looks hsl ho hij d hd hj with ⟨hlt, hwt⟩ | ⟨hlt, hwt⟩
          · obtain ⟨e, he, hb, hon⟩ := waits_edge ho hwt
            have hlj : listed.getD j false = true := by rw [← hon]; exact hdeps e he hb
            rcases Nat.lt_or_ge d a0.tmps.size with hds | hds
            · rw [putUpto_on _ _ _ d j hlj hj (fun k hk => slots_dst hsl hk d hj) hds n (by omega), putUpto_on _ _ _ d j rfl hj (fun k hk => slots_dst hsl hk d hj) hds i hlt]
            · rw [Array.getElem?_eq_none (by rw [putUpto_size]; exact hds), Array.getElem?_eq_none (by rw [putUpto_size]; exact hds)]
          · have hlj : listed.getD j false = false := by
              cases hx : listed.getD j false with
              | false => rfl
              | true =>
                obtain ⟨oj, hoj, e, he, hb, hon⟩ := Region.waitsFor_spec hwt
                have := inv.head.closed j oj hoj hx e he hb
                rw [hon, huf] at this; cases this
            rw [putUpto_off _ _ _ d n (fun k hk hon e => by
              by_cases hkj : k = j
              · subst hkj; rw [hlj] at hon; cases hon
              · exact slots_dst hsl hkj d hj e), putUpto_off _ _ _ d i (fun k hk _ e => slots_dst hsl (show k ≠ j by omega) d hj e)]
      · rw [putUpto_off _ _ _ d n (fun k _ _ e => hw ⟨k, e⟩), putUpto_off _ _ _ d i (fun k _ _ e => hw ⟨k, e⟩)]
    have key : ∀ u w', (Good K i u w' ∧ Fr [] w w') → AnyW P ops Q n L f (listed.setIfInBounds i true) (a.put o.dst u) w' := by
      rintro u w' ⟨hg, hF⟩
      refine ih _ _ _ ⟨inv.head.set hi hin, fun j => if j = i then u else v j, ?_, ?_, hW.trans hF⟩ ?_
      · have hd : dstOf ops i = o.dst := by simp [dstOf, ho]
        rw [hav, ← hd, ← putUpto_add (fun j => listed.getD j false) (valOf K v) a0 i u huf (fun j hj d hd' => slots_dst hsl hj d hd') n hin]
        refine putUpto_congr _ _ _ _ a0 n (fun j hj => ?_)
        by_cases hji : j = i
        · subst hji
          refine ⟨by simp [hsz, show j < ops.size by omega], fun _ => ?_⟩
          rw [if_pos rfl]
          unfold Good at hg; unfold valOf
          cases hk : K j with
          | const c => rw [hk] at hg; exact hg
          | var T => simp
        · have e0 : (listed.setIfInBounds i true).getD j false = listed.getD j false := getD_set_ne false (Ne.symm hji)
          refine ⟨by simp only [e0]; simp [hji], fun _ => ?_⟩
          rw [if_neg hji]
          unfold valOf
          cases hk : K j with
          | const c => rfl
          | var T => simp [hji]
      · intro j hj hl
        by_cases hji : j = i
        · subst hji
          unfold Good at hg ⊢; unfold valOf
          cases hk : K j with
          | const c => rfl
          | var T => rw [hk] at hg; simpa using hg
        · rw [getD_set_ne false (Ne.symm hji)] at hl
          have h1 := hgood j hj hl
          unfold Good at h1 ⊢; unfold valOf at h1 ⊢
          cases hk : K j with
          | const c => rfl
          | var T =>
            rw [hk] at h1
            simp only [hji, if_false]
            exact hK j T hj hk _ _ _ hF h1
      · have := countP_one (p := fun k => !listed.getD k false) (p' := fun k => !(listed.setIfInBounds i true).getD k false) (i := i) (by simp [huf]) (by simp [hsz, show i < ops.size by omega])
          (fun j hj => by rw [getD_set_ne false (Ne.symm hj)]) (List.range n) List.nodup_range (List.mem_range.2 hin)
        omega
    unfold wpOp
    simp only [ho]
    unfold StepTo at hst
    split
    · rename_i hwt
      rw [if_pos hwt] at hst
      exact .inl (upon_of hst key)
    · rename_i hwt
      rw [if_neg hwt] at hst
      exact key _ _ hst

theorem wp_region_rel0 {id : Nat} {Q : Exit → Act → World → Prop} {a : Act} {l : List Oper} (n : Nat) (K : Nat → Kind) (hm : P.follows .mixedOrders = true) (hB : relB l.toArray n = true) (hK : ∀ j T, j < n → K j = .var T → Stable T)
    (hop : ∀ i o, i < n → l.toArray[i]? = some o → HopAt P l.toArray W K a i o)
    (h : ∀ v w, Fr [] W w → (∀ j, j < n → Good K j (valOf K v j) w) → wpList P l.toArray Q (l.drop n) (putUpto l.toArray (fun _ => true) (valOf K v) n a) w) : (Code.region id l.toArray true).wp P Q a W := by
  have hB' := hB
  simp only [relB, Bool.and_eq_true, decide_eq_true_eq] at hB'
  obtain ⟨⟨⟨⟨⟨hsel, hn⟩, hsl⟩, hed⟩, htl⟩, hseq⟩ := hB'
  have hdl : (l.drop n).length = l.toArray.size - n := by simp
  have hrep : ∀ j, (Array.replicate l.toArray.size false).getD j false = false := fun j => getD_replicate_false _ _
  refine wp_region_any hm ?_
  have H := rel_any (P := P) (Q := Q) (W := W) hB hK hop (L := fun listed a' w' => Region.seqB .any l.toArray (l.toArray.size - n) n listed = true ∧ wpList P l.toArray Q (l.drop n) a' w')
    (fun listed a' w' inv hall => by
      obtain ⟨v, hav, hgood, hW⟩ := inv.ex
      have e1 : listed = firstN l.toArray n := by
        apply Array.ext
        · simp [firstN, inv.head.size]
        · intro i h1 h2
          simp only [firstN, Array.getElem_ofFn]
          rcases Nat.lt_or_ge i n with hi | hi
          · have := hall i hi
            simp [h1] at this; simp [this, hi]
          · have := inv.head.tail i hi (by rw [← inv.head.size]; exact h1)
            simp [h1] at this; simp [this]; try omega
      refine ⟨by rw [e1]; exact hseq, ?_⟩
      rw [hav, putUpto_congr _ (fun _ => true) _ (valOf K v) a n (fun j hj => ⟨hall j hj, fun _ => rfl⟩)]
      exact h v w' hW (fun j hj => hgood j hj (hall j hj))) _ (Array.replicate l.toArray.size false) a { W with drawn := W.drawn + 1 }
    ⟨⟨by simp, fun j oj _ hl => (by rw [hrep] at hl; cases hl), fun t _ ht => getD_in (by simpa using ht) (hrep _)⟩, fun _ => undef,
      ((putUpto_congr _ (fun _ => false) _ _ a n (fun j hj => ⟨hrep j, fun _ => rfl⟩)).trans (putUpto_none _ a n)).symm, fun j _ hl => (by rw [hrep] at hl; cases hl), ⟨rfl, rfl, rfl, Nat.le_refl _, fun _ _ _ => rfl⟩⟩ rfl
  have := any_of_W (P := P) (Q := Q) (g := l.toArray.size - n) (fun listed a' w' hL => by
    have := wpAny_of_seq (md := .any) (Q' := Q) (l.drop n) n listed a' w' (fun j => by simp [List.getElem?_drop]) (by rw [hdl]; exact hL.1) hL.2
    rwa [hdl] at this) _ _ _ _ H
  have hcount : (List.range n).countP (fun i => !(Array.replicate l.toArray.size false).getD i false) = n := by
    rw [List.countP_eq_length.2 (fun i _ => by rw [hrep]; rfl), List.length_range]
  rw [hcount, show n + (l.toArray.size - n) = l.toArray.size by omega] at this
  exact this

/-! The same, operation by operation. -/
def waitsOn (o : Oper) (j : Nat) : Bool := o.after.any fun e => Region.binds .any e && e.on == j

def RelL (P : Program) (ops : Array Oper) (W : World) (Z : Act → List (Nat × (World → Prop)) → Prop) : List Oper → List Kind → Nat → List (Nat × (World → Prop)) → Act → Prop
  | [], _, _, G, a => Z a G
  | o :: l, .const c :: K, i, G, a => (∀ w, Fr [] W w → (∀ x ∈ G, waitsOn o x.1 = true → x.2 w) → StepTo P ops o a w fun u w' => u = c ∧ Fr [] w w') ∧ RelL P ops W Z l K (i + 1) G (a.put o.dst c)
  | o :: l, .var T :: K, i, G, a => Stable T ∧ (∀ w, Fr [] W w → (∀ x ∈ G, waitsOn o x.1 = true → x.2 w) → StepTo P ops o a w fun u w' => T u w' ∧ Fr [] w w') ∧ ∀ u, RelL P ops W Z l K (i + 1) ((i, T u) :: G) (a.put o.dst u)
  | _ :: _, [], _, _, _ => False

def kindAt (Ks : List Kind) (j : Nat) : Kind := match Ks[j]? with | some k => k | none => .const undef

def goods (K : Nat → Kind) (v : Nat → Value) : Nat → List (Nat × (World → Prop))
  | 0 => []
  | i + 1 => match K i with | .const _ => goods K v i | .var T => (i, T (v i)) :: goods K v i

theorem mem_goods {K : Nat → Kind} {v : Nat → Value} {x : Nat × (World → Prop)} : ∀ {i}, x ∈ goods K v i → x.1 < i ∧ ∀ w, x.2 w = Good K x.1 (valOf K v x.1) w
  | 0, h => by cases h
  | i + 1, h => by
    unfold goods at h
    cases hk : K i with
    | const c =>
      rw [hk] at h
      obtain ⟨h1, h2⟩ := mem_goods h
      exact ⟨by omega, h2⟩
    | var T =>
      rw [hk] at h
      rcases List.mem_cons.1 h with rfl | h
      · exact ⟨by simp, fun w => by simp only [Good, valOf, hk]⟩
      · obtain ⟨h1, h2⟩ := mem_goods h
        exact ⟨by omega, h2⟩

theorem relL_hop {Z : Act → List (Nat × (World → Prop)) → Prop} {Ks : List Kind} {a0 : Act} (v : Nat → Value) : ∀ (l : List Oper) (i : Nat) (Ks' : List Kind), (∀ j, Ks'[j]? = Ks[i + j]?) → (∀ j o, l[j]? = some o → ops[i + j]? = some o) →
    RelL P ops W Z l Ks' i (goods (kindAt Ks) v i) (putUpto ops (fun _ => true) (valOf (kindAt Ks) v) i a0) →
    (∀ j o, l[j]? = some o → (∀ T, kindAt Ks (i + j) = .var T → Stable T) ∧ ∀ w, Fr [] W w → (∀ e ∈ o.after, Region.binds .any e = true → Good (kindAt Ks) e.on (valOf (kindAt Ks) v e.on) w) →
      StepTo P ops o (putUpto ops (fun _ => true) (valOf (kindAt Ks) v) (i + j) a0) w fun u w' => Good (kindAt Ks) (i + j) u w' ∧ Fr [] w w') ∧
    Z (putUpto ops (fun _ => true) (valOf (kindAt Ks) v) (i + l.length) a0) (goods (kindAt Ks) v (i + l.length))
  | [], i, Ks', _, _, h => ⟨fun j o hj => by simp at hj, h⟩
  | o :: l, i, [], _, _, h => h.elim
  | o :: l, i, k :: Ks', hK, hl, h => by
    have hki : kindAt Ks i = k := by
      have := hK 0; simp at this; unfold kindAt; rw [← this]
    have ho : ops[i]? = some o := by simpa using hl 0 o (by simp)
    have hd : (ops[i]?).bind (·.dst) = o.dst := by rw [ho]; rfl
    have hasm : ∀ w : World, (∀ e ∈ o.after, Region.binds .any e = true → Good (kindAt Ks) e.on (valOf (kindAt Ks) v e.on) w) → ∀ x ∈ goods (kindAt Ks) v i, waitsOn o x.1 = true → x.2 w := by
      intro w hg x hx hw
      obtain ⟨_, h2⟩ := mem_goods hx
      rw [h2]
      unfold waitsOn at hw
      obtain ⟨e, he, h3⟩ := Array.any_eq_true'.1 hw
      simp only [Bool.and_eq_true, beq_iff_eq] at h3
      rw [← h3.2]
      exact hg e he h3.1
    have hnext : ∀ (u : Value), valOf (kindAt Ks) v i = u → putUpto ops (fun _ => true) (valOf (kindAt Ks) v) (i + 1) a0 = (putUpto ops (fun _ => true) (valOf (kindAt Ks) v) i a0).put o.dst u := by
      intro u hu
      simp only [putUpto, if_true]
      rw [hd, hu]
    cases k with
    | const c =>
      obtain ⟨h1, h2⟩ := h
      have hv : valOf (kindAt Ks) v i = c := by unfold valOf; rw [hki]
      have hgd : goods (kindAt Ks) v (i + 1) = goods (kindAt Ks) v i := by simp only [goods, hki]
      rw [← hnext c hv, ← hgd] at h2
      obtain ⟨h3, h4⟩ := relL_hop v l (i + 1) Ks' (fun j => by have := hK (j + 1); simpa [Nat.add_assoc, Nat.add_comm 1 j] using this) (fun j o' hj => by have := hl (j + 1) o' (by simpa using hj); simpa [Nat.add_assoc, Nat.add_comm 1 j] using this) h2
      refine ⟨fun j o' hj => ?_, by rw [show i + (o :: l).length = i + 1 + l.length by simp; omega]; exact h4⟩
      cases j with
      | zero =>
        simp at hj; subst hj
        refine ⟨fun T hT => (by rw [Nat.add_zero, hki] at hT; cases hT), fun w hw hg => ?_⟩
        have := h1 w hw (hasm w hg)
        simpa only [Nat.add_zero, Good, hki] using this
      | succ j =>
        have := h3 j o' (by simpa using hj)
        rwa [show i + 1 + j = i + (j + 1) by omega] at this
    | var T =>
      obtain ⟨h0, h1, h2⟩ := h
      have hv : valOf (kindAt Ks) v i = v i := by unfold valOf; rw [hki]
      have hgd : goods (kindAt Ks) v (i + 1) = (i, T (v i)) :: goods (kindAt Ks) v i := by simp only [goods, hki]
      have h2 := h2 (v i)
      rw [← hnext (v i) hv, ← hgd] at h2
      obtain ⟨h3, h4⟩ := relL_hop v l (i + 1) Ks' (fun j => by have := hK (j + 1); simpa [Nat.add_assoc, Nat.add_comm 1 j] using this) (fun j o' hj => by have := hl (j + 1) o' (by simpa using hj); simpa [Nat.add_assoc, Nat.add_comm 1 j] using this) h2
      refine ⟨fun j o' hj => ?_, by rw [show i + (o :: l).length = i + 1 + l.length by simp; omega]; exact h4⟩
      cases j with
      | zero =>
        simp at hj; subst hj
        refine ⟨fun T' hT => (by rw [Nat.add_zero, hki] at hT; cases hT; exact h0), fun w hw hg => ?_⟩
        have := h1 w hw (hasm w hg)
        simpa only [Nat.add_zero, Good, hki] using this
      | succ j =>
        have := h3 j o' (by simpa using hj)
        rwa [show i + 1 + j = i + (j + 1) by omega] at this

theorem wp_region_rel {id : Nat} {Q : Exit → Act → World → Prop} {a : Act} {l : List Oper} (n : Nat) {Ks : List Kind} (hm : P.follows .mixedOrders = true) (hB : relB l.toArray n = true)
    (h : RelL P l.toArray W (fun a' G => ∀ w, Fr [] W w → (∀ x ∈ G, x.2 w) → wpList P l.toArray Q (l.drop n) a' w) (l.take n) Ks 0 [] a) : (Code.region id l.toArray true).wp P Q a W := by
  have hB' := hB
  simp only [relB, Bool.and_eq_true, decide_eq_true_eq] at hB'
  obtain ⟨⟨⟨⟨⟨hsel, hn⟩, hsl⟩, hed⟩, htl⟩, hseq⟩ := hB'
  have hn' : n ≤ l.length := by simpa using hn
  have key := fun v => relL_hop (P := P) (ops := l.toArray) (W := W) (a0 := a) (Ks := Ks) v (l.take n) 0 Ks (fun j => by simp) (fun j o hj => by
    rw [List.getElem?_take] at hj
    split at hj
    · simpa using hj
    · cases hj) h
  have hlen : (l.take n).length = n := by simp; omega
  have hget : ∀ i o, i < n → l.toArray[i]? = some o → (l.take n)[i]? = some o := by
    intro i o hi ho
    rw [List.getElem?_take, if_pos hi]; simpa using ho
  refine wp_region_rel0 n (kindAt Ks) hm hB (fun j T hj hT => ?_) (fun i o hi ho v w hw hg => ?_) (fun v w hw hg => ?_)
  · have hj2 : j < l.toArray.size := by simp; omega
    exact ((key fun _ => undef).1 j l.toArray[j] (hget _ _ hj (by rw [Array.getElem?_eq_getElem hj2]))).1 T (by rw [Nat.zero_add]; exact hT)
  · have := ((key v).1 i o (hget i o hi ho)).2 w hw hg
    simpa using this
  · have := (key v).2
    rw [hlen, Nat.zero_add] at this
    refine this w hw (fun x hx => ?_)
    obtain ⟨h1, h2⟩ := mem_goods hx
    rw [h2]
    exact hg _ h1

theorem r_const {Z : Act → List (Nat × (World → Prop)) → Prop} {o : Oper} {l : List Oper} {c : Value} {K : List Kind} {i : Nat} {G : List (Nat × (World → Prop))} {a : Act} (hg : o.guard = none)
    (h : ∀ w, Fr [] W w → (∀ x ∈ G, waitsOn o x.1 = true → x.2 w) → (execOp a.eval o).run P w = .ok (.value c) w) (hK : RelL P ops W Z l K (i + 1) G (a.put o.dst c)) : RelL P ops W Z (o :: l) (.const c :: K) i G a :=
  ⟨fun w hw hx => by unfold StepTo; rw [if_pos (by simp [Region.wanted, hg]), h w hw hx]; exact ⟨rfl, Fr.refl _ _⟩, hK⟩

theorem r_call {Z : Act → List (Nat × (World → Prop)) → Prop} {o : Oper} {l : List Oper} {c : Value} {K : List Kind} {i : Nat} {G : List (Nat × (World → Prop))} {a : Act} {f : FuncId} {args : Array Value} (hg : o.guard = none)
    (h : ∀ w, (execOp a.eval o).run P w = .ok (.enter f args) w) (hc : ∀ w, Fr [] W w → (∀ x ∈ G, waitsOn o x.1 = true → x.2 w) → Calls P f args w fun e w' => e = .returned c ∧ Fr [] w w')
    (hK : RelL P ops W Z l K (i + 1) G (a.put o.dst c)) : RelL P ops W Z (o :: l) (.const c :: K) i G a :=
  ⟨fun w hw hx => by unfold StepTo; rw [if_pos (by simp [Region.wanted, hg]), h w]; exact (hc w hw hx).mono fun e w' ⟨h1, h2⟩ => ⟨c, h1, rfl, h2⟩, hK⟩

theorem r_var {Z : Act → List (Nat × (World → Prop)) → Prop} {o : Oper} {l : List Oper} (T : Value → World → Prop) {K : List Kind} {i : Nat} {G : List (Nat × (World → Prop))} {a : Act} (hg : o.guard = none) (hT : Stable T)
    (h : ∀ w, Fr [] W w → (∀ x ∈ G, waitsOn o x.1 = true → x.2 w) → Upon P (fun u w' => T u w' ∧ Fr [] w w') ((execOp a.eval o).run P w)) (hK : ∀ u, RelL P ops W Z l K (i + 1) ((i, T u) :: G) (a.put o.dst u)) : RelL P ops W Z (o :: l) (.var T :: K) i G a :=
  ⟨hT, fun w hw hx => by unfold StepTo; rw [if_pos (by simp [Region.wanted, hg])]; exact h w hw hx, hK⟩

theorem r_nil {Z : Act → List (Nat × (World → Prop)) → Prop} {K : List Kind} {i : Nat} {G : List (Nat × (World → Prop))} {a : Act} (h : Z a G) : RelL P ops W Z [] K i G a := h

end
end Go.Proofs.YtiojkakmlbfiiaaGreat
