/- The map from sectors' numbers to texts that is a device's cache: what it reads as, at each operation. -/
import Derived.Test.YtiojkakmlbfiiaaGreatM01
import Derived.Test.YtiojkakmlbfiiaaGreatChecked
/- What a device is, and what its calls make of it: for the program's device and the document's alike. -/
namespace Go.Proofs.YtiojkakmlbfiiaaGreat
namespace Sp

/-- A device: its sectors, of each what is in the cache, the fuse (0: none), whether it is down. -/
structure Dv where
  on : List ByteArray
  nw : List (Option ByteArray)
  left : Int
  down : Bool

def zeros : ByteArray := ⟨(List.replicate 64 (0 : UInt8)).toArray⟩

structure Dv.Wf (d : Dv) : Prop where
  len : d.nw.length = d.on.length
  on64 : ∀ s ∈ d.on, s.size = 64
  nw64 : ∀ s, some s ∈ d.nw → s.size = 64
  lo : 0 ≤ d.left
  hi : d.left ≤ 1048576
  least : 1 ≤ d.on.length
  most : d.on.length ≤ 2048
  down0 : d.down = true → d.left = 0

def Dv.make (n : Nat) : Dv := ⟨List.replicate n zeros, List.replicate n none, 0, false⟩

/-- What is wrong with a device, or a sector's number. -/
def Dv.wrong (d : Dv) (at_ : Int) : Int := if d.down = true then 90 else if at_ < 0 ∨ (d.on.length : Int) ≤ at_ then 1 else 0

def Dv.text (d : Dv) (i : Nat) : ByteArray := (d.nw.getD i none).getD (d.on.getD i ByteArray.empty)

def Dv.read (d : Dv) (at_ : Int) : ByteArray × Int :=
  if d.wrong at_ = 0 then (d.text at_.toNat, 0) else (ByteArray.empty, d.wrong at_)

/-- A write or a flush is counted. -/
def Dv.burn (d : Dv) : Dv := if 0 < d.left then { d with left := d.left - 1, down := d.left - 1 == 0 } else d

def Dv.put (d : Dv) (i : Nat) (s : ByteArray) : Dv := { d with nw := d.nw.set i (some s) }

def Dv.write (d : Dv) (at_ : Int) (s : ByteArray) : Dv × Int :=
  if d.wrong at_ = 0 then
    (if s.size = 64 then (if d.burn.down = true then (d.burn, 90) else (d.burn.put at_.toNat s, 0)) else (d, 3))
  else (d, d.wrong at_)

def over : List ByteArray → List (Option ByteArray) → List ByteArray := List.zipWith fun o n => n.getD o

def Dv.clean (d : Dv) : Dv := { d with on := over d.on d.nw, nw := List.replicate d.nw.length none }

def Dv.flush (d : Dv) : Dv × Int :=
  if d.down = true then (d, 90) else if d.burn.down = true then (d.burn, 90) else (d.burn.clean, 0)

def Dv.setFuse (d : Dv) (n : Int) : Dv × Int :=
  if d.down = true then (d, 90) else if n < 0 ∨ 1048576 < n then (d, 1) else ({ d with left := n }, 0)

/-- How many bytes of a sector a pick brings to the device. -/
def cut (p : Int) : Nat := if p = 1 then 64 else (p % 64).toNat

def tornBy (o s : ByteArray) (n : Nat) : ByteArray := s.extract 0 n ++ o.extract n o.size

def tear : List ByteArray → List (Option ByteArray) → List Int → List ByteArray
  | o :: os, none :: ns, ps => o :: tear os ns ps
  | o :: os, some s :: ns, ps => tornBy o s (cut (ps.headD 0)) :: tear os ns ps.tail
  | os, _, _ => os

def Dv.crash (d : Dv) (ps : List Int) : Dv := ⟨tear d.on d.nw ps, List.replicate d.nw.length none, 0, false⟩

theorem zeros_size : zeros.size = 64 := by decide

theorem Dv.wf_make (n : Nat) (h1 : 1 ≤ n) (h2 : n ≤ 2048) : (Dv.make n).Wf :=
  ⟨by simp [Dv.make], by intro s hs; rw [List.eq_of_mem_replicate hs]; exact zeros_size, by intro s hs; have := List.eq_of_mem_replicate hs; simp at this,
   by simp [Dv.make], by simp [Dv.make], by simpa [Dv.make] using h1, by simpa [Dv.make] using h2, by simp [Dv.make]⟩

theorem Dv.Wf.burn {d : Dv} (h : d.Wf) : d.burn.Wf := by
  unfold Dv.burn
  split
  · rename_i hl
    exact ⟨h.len, h.on64, h.nw64, by show 0 ≤ d.left - 1; omega, by have := h.hi; show d.left - 1 ≤ _; omega, h.least, h.most, by intro hd; simpa using hd⟩
  · exact h

theorem Dv.Wf.put {d : Dv} (h : d.Wf) (i : Nat) (s : ByteArray) (hs : s.size = 64) : (d.put i s).Wf :=
  ⟨by simpa [Dv.put] using h.len, h.on64, by
    intro x hx
    simp only [Dv.put] at hx
    rcases List.mem_or_eq_of_mem_set hx with h' | h'
    · exact h.nw64 x h'
    · cases h'; exact hs, h.lo, h.hi, h.least, h.most, h.down0⟩

theorem Dv.Wf.write {d : Dv} (h : d.Wf) (at_ : Int) (s : ByteArray) : (d.write at_ s).1.Wf := by
  unfold Dv.write
  split
  · split
    · rename_i hs
      split
      · exact h.burn
      · exact h.burn.put _ _ hs
    · exact h
  · exact h

theorem over_len (a : List ByteArray) (b : List (Option ByteArray)) (h : b.length = a.length) : (over a b).length = a.length := by
  simp [over, h]

theorem mem_over {a : List ByteArray} {b : List (Option ByteArray)} {x : ByteArray} (h : x ∈ over a b) : x ∈ a ∨ some x ∈ b := by
  induction a generalizing b with
  | nil => simp [over] at h
  | cons o os ih =>
    cases b with
    | nil => simp [over] at h
    | cons n ns =>
      simp only [over, List.zipWith_cons_cons, List.mem_cons] at h
      rcases h with h | h
      · cases n with
        | none => left; simp at h; simp [h]
        | some s => right; simp at h; simp [h]
      · rcases ih h with h' | h'
        · left; simp [h']
        · right; simp [h']

theorem Dv.Wf.clean {d : Dv} (h : d.Wf) : d.clean.Wf :=
  ⟨by simp [Dv.clean, over_len _ _ h.len, h.len], by
    intro s hs
    rcases mem_over hs with h' | h'
    · exact h.on64 s h'
    · exact h.nw64 s h', by intro s hs; have := List.eq_of_mem_replicate hs; simp at this, h.lo, h.hi,
   by simpa [Dv.clean, over_len _ _ h.len] using h.least, by simpa [Dv.clean, over_len _ _ h.len] using h.most, h.down0⟩

theorem Dv.Wf.flush {d : Dv} (h : d.Wf) : d.flush.1.Wf := by
  unfold Dv.flush
  split
  · exact h
  · split
    · exact h.burn
    · exact h.burn.clean

theorem cut_le (p : Int) : cut p ≤ 64 := by
  unfold cut; split
  · omega
  · have := Int.emod_lt_of_pos p (show (0 : Int) < 64 by omega); omega

theorem size_tornBy (o s : ByteArray) (n : Nat) (ho : o.size = 64) (hs : s.size = 64) (hn : n ≤ 64) : (tornBy o s n).size = 64 := by
  simp only [tornBy, ByteArray.size_append, ByteArray.size_extract]; omega

theorem tear_len : ∀ (a : List ByteArray) (b : List (Option ByteArray)) (ps : List Int), (tear a b ps).length = a.length
  | [], _, _ => by simp [tear]
  | _ :: _, [], _ => by simp [tear]
  | o :: os, none :: ns, ps => by simp [tear, tear_len os ns ps]
  | o :: os, some s :: ns, ps => by simp [tear, tear_len os ns ps.tail]

theorem mem_tear : ∀ (a : List ByteArray) (b : List (Option ByteArray)) (ps : List Int), (∀ x ∈ a, x.size = 64) → (∀ x, some x ∈ b → x.size = 64) → ∀ y ∈ tear a b ps, y.size = 64
  | [], _, _, _, _ => by intro y hy; simp [tear] at hy
  | o :: os, [], _, ha, _ => by intro y hy; exact ha y (by simpa [tear] using hy)
  | o :: os, none :: ns, ps, ha, hb => by
    intro y hy
    simp only [tear, List.mem_cons] at hy
    rcases hy with rfl | hy
    · exact ha _ (by simp)
    · exact mem_tear os ns ps (fun x hx => ha x (by simp [hx])) (fun x hx => hb x (by simp [hx])) y hy
  | o :: os, some s :: ns, ps, ha, hb => by
    intro y hy
    simp only [tear, List.mem_cons] at hy
    rcases hy with rfl | hy
    · exact size_tornBy _ _ _ (ha _ (by simp)) (hb _ (by simp)) (cut_le _)
    · exact mem_tear os ns ps.tail (fun x hx => ha x (by simp [hx])) (fun x hx => hb x (by simp [hx])) y hy

theorem Dv.Wf.crash {d : Dv} (h : d.Wf) (ps : List Int) : (d.crash ps).Wf :=
  ⟨by simp [Dv.crash, tear_len, h.len], mem_tear _ _ _ h.on64 h.nw64, by intro s hs; have := List.eq_of_mem_replicate hs; simp at this,
   by simp [Dv.crash], by simp [Dv.crash], by simpa [Dv.crash, tear_len] using h.least, by simpa [Dv.crash, tear_len] using h.most, by simp [Dv.crash]⟩

theorem Dv.Wf.setFuse {d : Dv} (h : d.Wf) (n : Int) : (d.setFuse n).1.Wf := by
  unfold Dv.setFuse
  split
  · exact h
  · rename_i hd
    split
    · exact h
    · rename_i hn
      exact ⟨h.len, h.on64, h.nw64, by show 0 ≤ n; omega, by show n ≤ _; omega, h.least, h.most, by intro e; exact absurd e hd⟩

end Sp
end Go.Proofs.YtiojkakmlbfiiaaGreat

/- The map from sectors' numbers to texts that is a device's cache: what it reads as, at each operation. -/
namespace Go.Proofs.YtiojkakmlbfiiaaGreat
open Go.RowKit Go.Maps Go.WideMaps
open Sp

theorem keysLaw : Keyed Tryz.prog 3 := Maps.int_keyed Tryz.underlying3
theorem zeroStr (w : World) : (zeroValue 9).run Tryz.prog w = .ok (.string ByteArray.empty) w := by kernel_rfl

abbrev DW := DataW Unit
abbrev kI (i : Int) : Lit := .int .i64 i
abbrev sD (s : ByteArray) : DW := .lit (.string s.data.toList)

/-- The datum D reads as the list: key i there is just what the list has at i. -/
structure CacheIs (D : DW) (nw : List (Option ByteArray)) : Prop where
  size : Maps.size D = nw.countP (·.isSome)
  hit : ∀ (i : Nat) s, nw[i]? = some (some s) → Maps.has D (kI i) = true ∧ ∀ z, D.atKey (kI i) z = sD s
  miss : ∀ i : Int, (∀ (k : Nat) s, i = k → nw[k]? = some (some s) → False) → Maps.has D (kI i) = false

def CacheAt (w : World) (b : Nat) (nw : List (Option ByteArray)) : Prop :=
  ∃ D : DW, w.ownsMap Tryz.prog 3 (plainElem Tryz.prog 9) b (Maps.size D) D ∧ CacheIs D nw

theorem size_of_owns {H : Type} {w : World} {P : Program} {k : TypeId} {R : Value → Option (DataW H × List MemPlace)} {b n : Nat} {D : DataW H}
    (h : w.ownsMap P k R b n D) : w.ownsMap P k R b (Maps.size D) D := by
  obtain ⟨es, clock, hb, F, _, rfl⟩ := h
  refine ⟨es, clock, hb, F, ?_, rfl⟩
  simp [Maps.size, length_sorted]

theorem CacheAt.lt {w : World} {b : Nat} {nw} (h : CacheAt w b nw) : b < w.heap.size := by obtain ⟨D, h, _⟩ := h; exact h.lt

theorem CacheAt.fr {w w' : World} {b : Nat} {nw} {S : List Nat} (h : CacheAt w b nw) (hf : Fr S w w') (hb : b ∉ S) : CacheAt w' b nw := by
  have hl := h.lt
  obtain ⟨D, ⟨es, clock, h1, F, h2, h3⟩, hc⟩ := h
  exact ⟨D, ⟨es, clock, by rw [hf.block b hl hb]; exact h1, F, h2, h3⟩, hc⟩

theorem cacheIs_none (n : Nat) : CacheIs (.map []) (List.replicate n none) :=
  ⟨by simp [Maps.size, List.countP_replicate], by intro i s h; rw [List.getElem?_replicate] at h; split at h <;> simp at h, by intro i _; simp [Maps.has]⟩

theorem CacheAt.made (w : World) (n : Nat) : CacheAt (w.alloc (.map #[] 0)) w.heap.size (List.replicate n none) :=
  ⟨.map [], World.ownsMap_made _ _ _ _, cacheIs_none n⟩

theorem kI_ne {i j : Int} (h : i ≠ j) : kI i ≠ kI j := fun e => h (by simpa using e)
theorem kI_key (i : Int) : WideAt.IsKeyLit (kI i) := by simp [WideAt.IsKeyLit]

theorem keyI {i : Int} (hi : -9223372036854775808 ≤ i ∧ i ≤ 9223372036854775807) : keyOf Tryz.prog 3 (.int .i64 i) = some (kI i) :=
  Maps.keyOf_int_mk Tryz.underlying3 (WalkArith.wf_i64 hi)

theorem CacheAt.look {w : World} {b : Nat} {nw} (h : CacheAt w b nw) (i : Nat) (hi : i < 2048) :
    (Instr.lookup 43 (.map (some b)) (.int .i64 i) true).run Tryz.prog w =
      .ok (.tuple #[.string ((nw.getD i none).getD ByteArray.empty), .bool (nw.getD i none).isSome]) w := by
  obtain ⟨D, ho, hc⟩ := h
  obtain ⟨v, ps, hrun, hv⟩ := ho.look_ok keysLaw Tryz.underlying43 (zeroStr w) (plainElem_string Tryz.underlying9 (s := ByteArray.empty) (by decide)) (keyI (i := (i : Int)) (by omega))
  obtain ⟨s', rfl, hs', _⟩ := plainElem_string_inv Tryz.underlying9 hv
  rw [hrun]
  cases hn : nw.getD i none with
  | some s =>
    have hg : nw[i]? = some (some s) := by
      rw [List.getD_eq_getElem?_getD] at hn
      cases hx : nw[i]? with
      | none => rw [hx] at hn; simp at hn
      | some y => rw [hx] at hn; simp at hn; rw [hn]
    obtain ⟨h1, h2⟩ := hc.hit i s hg
    rw [h1]
    rw [h2] at hs'
    have : s = s' := by
      simp only [sD, Prod.mk.injEq, DataW.lit.injEq, Lit.string.injEq, and_true] at hs'
      exact ba_ext hs'.1
    rw [this]; rfl
  | none =>
    have hm := hc.miss (i : Int) (by
      intro k s hk hg
      obtain rfl : i = k := by omega
      rw [List.getD_eq_getElem?_getD, hg] at hn; simp at hn)
    rw [hm]
    rw [Maps.atKey_of_not_has hm] at hs'
    have : s' = ByteArray.empty := by
      simp only [Prod.mk.injEq, DataW.lit.injEq, Lit.string.injEq, and_true] at hs'
      exact ba_ext hs'.1.symm
    rw [this]; rfl

theorem CacheAt.look1 {w : World} {b : Nat} {nw} (h : CacheAt w b nw) (i : Nat) (hi : i < 2048) :
    (Instr.lookup 43 (.map (some b)) (.int .i64 i) false).run Tryz.prog w = .ok (.string ((nw.getD i none).getD ByteArray.empty)) w := by
  obtain ⟨D, ho, hc⟩ := h
  obtain ⟨v, ps, hrun, hv⟩ := ho.lookup keysLaw Tryz.underlying43 (zeroStr w) (plainElem_string Tryz.underlying9 (s := ByteArray.empty) (by decide)) (keyI (i := (i : Int)) (by omega))
  obtain ⟨s', rfl, hs', _⟩ := plainElem_string_inv Tryz.underlying9 hv
  rw [hrun]
  cases hn : nw.getD i none with
  | some s =>
    have hg : nw[i]? = some (some s) := by
      rw [List.getD_eq_getElem?_getD] at hn
      cases hx : nw[i]? with
      | none => rw [hx] at hn; simp at hn
      | some y => rw [hx] at hn; simp at hn; rw [hn]
    rw [(hc.hit i s hg).2] at hs'
    have : s = s' := by
      simp only [sD, Prod.mk.injEq, DataW.lit.injEq, Lit.string.injEq, and_true] at hs'
      exact ba_ext hs'.1
    rw [this]; rfl
  | none =>
    have hm := hc.miss (i : Int) (by
      intro k s hk hg
      obtain rfl : i = k := by omega
      rw [List.getD_eq_getElem?_getD, hg] at hn; simp at hn)
    rw [Maps.atKey_of_not_has hm] at hs'
    have : s' = ByteArray.empty := by
      simp only [Prod.mk.injEq, DataW.lit.injEq, Lit.string.injEq, and_true] at hs'
      exact ba_ext hs'.1.symm
    rw [this]; rfl

theorem countP_set_some : ∀ (nw : List (Option ByteArray)) (i : Nat) (s : ByteArray), i < nw.length →
    (nw.set i (some s)).countP (·.isSome) = if (nw.getD i none).isSome then nw.countP (·.isSome) else nw.countP (·.isSome) + 1
  | [], i, s, h => by simp at h
  | x :: xs, 0, s, _ => by cases x <;> simp [List.countP_cons]
  | x :: xs, i + 1, s, h => by
    have := countP_set_some xs i s (by simpa using h)
    simp only [List.set_cons_succ, List.countP_cons, this]
    simp
    split <;> omega

theorem CacheAt.store {w : World} {b : Nat} {nw} (h : CacheAt w b nw) (i : Nat) (hi : i < nw.length) (hl : nw.length ≤ 2048) (s : ByteArray) (hs : s.size = 64) :
    ∃ w', (Instr.mapUpdate 43 (.map (some b)) (.int .i64 i) (.string s)).run Tryz.prog w = .ok () w' ∧ CacheAt w' b (nw.set i (some s)) ∧ Fr [b] w w' := by
  obtain ⟨D, ho, hc⟩ := h
  have hle : Maps.size D ≤ 2048 := by rw [hc.size]; exact Nat.le_trans List.countP_le_length hl
  have htidy := ho.tidy keysLaw
  obtain ⟨w', hrun, ho', hg⟩ := ho.update keysLaw Tryz.underlying43 (by unfold maxLen; omega) (keyI (i := (i : Int)) (by omega)) (plainElem_string Tryz.underlying9 (s := s) (by unfold maxLen; omega))
  refine ⟨w', hrun, ⟨_, size_of_owns ho', ?_⟩, (Fr.refl _ _).grown hg (by intro k hk; cases hk; simp)⟩
  refine ⟨?_, ?_, ?_⟩
  · rw [Maps.size_put htidy, hc.size, countP_set_some nw i s hi]
    cases hn : nw.getD i none with
    | some y =>
      have hg : nw[i]? = some (some y) := by
        rw [List.getD_eq_getElem?_getD] at hn
        cases hx : nw[i]? with
        | none => rw [hx] at hn; simp at hn
        | some z => rw [hx] at hn; simp at hn; rw [hn]
      rw [(hc.hit i y hg).1]; simp
    | none =>
      rw [hc.miss (i : Int) (by
        intro k y hk hg
        obtain rfl : i = k := by omega
        rw [List.getD_eq_getElem?_getD, hg] at hn; simp at hn)]
      simp
  · intro j y hj
    by_cases hij : i = j
    · subst hij
      rw [List.getElem?_set_self hi] at hj
      cases hj
      exact ⟨Maps.has_put_same htidy.isMap (kI_key _) _, fun z => Maps.atKey_put_same htidy.isMap (kI_key _) _ z⟩
    · rw [List.getElem?_set_ne hij] at hj
      obtain ⟨h1, h2⟩ := hc.hit j y hj
      have hne : kI (j : Int) ≠ kI (i : Int) := kI_ne (by omega)
      exact ⟨by rw [Maps.has_put_other hne]; exact h1, fun z => by rw [Maps.atKey_put_other hne]; exact h2 z⟩
  · intro j hj
    have hne : kI j ≠ kI (i : Int) := kI_ne (by
      intro e
      exact hj i s e (List.getElem?_set_self hi))
    rw [Maps.has_put_other hne]
    refine hc.miss j ?_
    intro k y hk hg
    have hki : i ≠ k := by
      intro e; subst e; exact hne (by rw [hk])
    exact hj k y hk (by rw [List.getElem?_set_ne hki]; exact hg)

theorem CacheAt.clear {w : World} {b : Nat} {nw} (h : CacheAt w b nw) (n : Nat) :
    ∃ w', (∀ ty, (Builtin.clear_ #[43] ty #[.map (some b)]).run Tryz.prog w = .ok (.tuple #[]) w') ∧ CacheAt w' b (List.replicate n none) ∧ Fr [b] w w' := by
  obtain ⟨D, ⟨es, clock, hb, F, _, _⟩, _⟩ := h
  refine ⟨Go.ChangeMaps.setBlock w b (.map #[] clock), ?_, ⟨.map [], ⟨#[], clock, Go.ChangeMaps.heap_setBlock_same hb _, ?_, by simp, by simp⟩, cacheIs_none n⟩, ⟨rfl, rfl, rfl, by simp [Go.ChangeMaps.setBlock], ?_⟩⟩
  · intro ty
    simp [Builtin.clear_, run_underlying Tryz.underlying43, MapKept.run_getObj_map hb, MapKept.run_setObj_map _ hb, Result.andThen, Go.ChangeMaps.setBlock]
  · exact ⟨by simp, MapKept.stamped_empty clock, by simp⟩
  · intro k _ hk
    exact Go.ChangeMaps.heap_setBlock_other hb _ (by simpa using hk)

end Go.Proofs.YtiojkakmlbfiiaaGreat
