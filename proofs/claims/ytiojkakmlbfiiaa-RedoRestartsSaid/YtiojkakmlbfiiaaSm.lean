/- The map from sectors' numbers to texts that is a device's cache: what it reads as, at each operation. -/
import Derived.Test.YtiojkakmlbfiiaaSd
import Derived.Test.YtiojkakmlbfiiaaChecked
namespace Go.Proofs.Ytiojkakmlbfiiaa
open Go.RowKit Go.Maps Go.WideMaps
open Sp

theorem keysLaw : Keyed Try.prog 3 := Maps.int_keyed Try.underlying3
theorem zeroStr (w : World) : (zeroValue 9).run Try.prog w = .ok (.string ByteArray.empty) w := by kernel_rfl

abbrev DW := DataW Unit
abbrev kI (i : Int) : Lit := .int .i64 i
abbrev sD (s : ByteArray) : DW := .lit (.string s.data.toList)

/-- The datum D reads as the list: key i there is just what the list has at i. -/
structure CacheIs (D : DW) (nw : List (Option ByteArray)) : Prop where
  size : Maps.size D = nw.countP (·.isSome)
  hit : ∀ (i : Nat) s, nw[i]? = some (some s) → Maps.has D (kI i) = true ∧ ∀ z, D.atKey (kI i) z = sD s
  miss : ∀ i : Int, (∀ (k : Nat) s, i = k → nw[k]? = some (some s) → False) → Maps.has D (kI i) = false

def CacheAt (w : World) (b : Nat) (nw : List (Option ByteArray)) : Prop :=
  ∃ D : DW, w.ownsMap Try.prog 3 (plainElem Try.prog 9) b (Maps.size D) D ∧ CacheIs D nw

theorem size_of_owns {H : Type} {w : World} {P : Program} {k : TypeId} {R : Value → Option (DataW H × List MemPlace)} {b n : Nat} {D : DataW H}
    (h : w.ownsMap P k R b n D) : w.ownsMap P k R b (Maps.size D) D := by
  obtain ⟨es, clock, hb, F, _, rfl⟩ := h
  refine ⟨es, clock, hb, F, ?_, rfl⟩
  simp [Maps.size, length_sorted]

theorem CacheAt.lt {w : World} {b : Nat} {nw} (h : CacheAt w b nw) : b < w.heap.size := by obtain ⟨D, h, _⟩ := h; exact h.lt

theorem CacheAt.fr {w w' : World} {b : Nat} {nw} {S : List Nat} (h : CacheAt w b nw) (hf : Fr S w w') (hb : b ∉ S) : CacheAt w' b nw := by
  have hl := h.lt
  obtain ⟨D, ⟨es, clock, h1, F, h2, h3⟩, hc⟩ := h
  exact ⟨D, ⟨es, clock, by rw [hf.block b hl hb]; exact h1, F, h2, h3⟩, hc⟩

theorem cacheIs_none (n : Nat) : CacheIs (.map []) (List.replicate n none) :=
  ⟨by simp [Maps.size, List.countP_replicate], by intro i s h; rw [List.getElem?_replicate] at h; split at h <;> simp at h, by intro i _; simp [Maps.has]⟩

theorem CacheAt.made (w : World) (n : Nat) : CacheAt (w.alloc (.map #[] 0)) w.heap.size (List.replicate n none) :=
  ⟨.map [], World.ownsMap_made _ _ _ _, cacheIs_none n⟩

theorem kI_ne {i j : Int} (h : i ≠ j) : kI i ≠ kI j := fun e => h (by simpa using e)
theorem kI_key (i : Int) : WideAt.IsKeyLit (kI i) := by simp [WideAt.IsKeyLit]

theorem keyI {i : Int} (hi : -9223372036854775808 ≤ i ∧ i ≤ 9223372036854775807) : keyOf Try.prog 3 (.int .i64 i) = some (kI i) :=
  Maps.keyOf_int_mk Try.underlying3 (WalkArith.wf_i64 hi)

theorem CacheAt.look {w : World} {b : Nat} {nw} (h : CacheAt w b nw) (i : Nat) (hi : i < 2048) :
    (Instr.lookup 40 (.map (some b)) (.int .i64 i) true).run Try.prog w =
      .ok (.tuple #[.string ((nw.getD i none).getD ByteArray.empty), .bool (nw.getD i none).isSome]) w := by
  obtain ⟨D, ho, hc⟩ := h
  obtain ⟨v, ps, hrun, hv⟩ := ho.look_ok keysLaw Try.underlying40 (zeroStr w) (plainElem_string Try.underlying9 (s := ByteArray.empty) (by decide)) (keyI (i := (i : Int)) (by omega))
  obtain ⟨s', rfl, hs', _⟩ := plainElem_string_inv Try.underlying9 hv
  rw [hrun]
  cases hn : nw.getD i none with
  | some s =>
    have hg : nw[i]? = some (some s) := by
      rw [List.getD_eq_getElem?_getD] at hn
      cases hx : nw[i]? with
      | none => rw [hx] at hn; simp at hn
      | some y => rw [hx] at hn; simp at hn; rw [hn]
    obtain ⟨h1, h2⟩ := hc.hit i s hg
    rw [h1]
    rw [h2] at hs'
    have : s = s' := by
      simp only [sD, Prod.mk.injEq, DataW.lit.injEq, Lit.string.injEq, and_true] at hs'
      exact ba_ext hs'.1
    rw [this]; rfl
  | none =>
    have hm := hc.miss (i : Int) (by
      intro k s hk hg
      obtain rfl : i = k := by omega
      rw [List.getD_eq_getElem?_getD, hg] at hn; simp at hn)
    rw [hm]
    rw [Maps.atKey_of_not_has hm] at hs'
    have : s' = ByteArray.empty := by
      simp only [Prod.mk.injEq, DataW.lit.injEq, Lit.string.injEq, and_true] at hs'
      exact ba_ext hs'.1.symm
    rw [this]; rfl

theorem CacheAt.look1 {w : World} {b : Nat} {nw} (h : CacheAt w b nw) (i : Nat) (hi : i < 2048) :
    (Instr.lookup 40 (.map (some b)) (.int .i64 i) false).run Try.prog w = .ok (.string ((nw.getD i none).getD ByteArray.empty)) w := by
  obtain ⟨D, ho, hc⟩ := h
  obtain ⟨v, ps, hrun, hv⟩ := ho.lookup keysLaw Try.underlying40 (zeroStr w) (plainElem_string Try.underlying9 (s := ByteArray.empty) (by decide)) (keyI (i := (i : Int)) (by omega))
  obtain ⟨s', rfl, hs', _⟩ := plainElem_string_inv Try.underlying9 hv
  rw [hrun]
  cases hn : nw.getD i none with
  | some s =>
    have hg : nw[i]? = some (some s) := by
      rw [List.getD_eq_getElem?_getD] at hn
      cases hx : nw[i]? with
      | none => rw [hx] at hn; simp at hn
      | some y => rw [hx] at hn; simp at hn; rw [hn]
    rw [(hc.hit i s hg).2] at hs'
    have : s = s' := by
      simp only [sD, Prod.mk.injEq, DataW.lit.injEq, Lit.string.injEq, and_true] at hs'
      exact ba_ext hs'.1
    rw [this]; rfl
  | none =>
    have hm := hc.miss (i : Int) (by
      intro k s hk hg
      obtain rfl : i = k := by omega
      rw [List.getD_eq_getElem?_getD, hg] at hn; simp at hn)
    rw [Maps.atKey_of_not_has hm] at hs'
    have : s' = ByteArray.empty := by
      simp only [Prod.mk.injEq, DataW.lit.injEq, Lit.string.injEq, and_true] at hs'
      exact ba_ext hs'.1.symm
    rw [this]; rfl

theorem countP_set_some : ∀ (nw : List (Option ByteArray)) (i : Nat) (s : ByteArray), i < nw.length →
    (nw.set i (some s)).countP (·.isSome) = if (nw.getD i none).isSome then nw.countP (·.isSome) else nw.countP (·.isSome) + 1
  | [], i, s, h => by simp at h
  | x :: xs, 0, s, _ => by cases x <;> simp [List.countP_cons]
  | x :: xs, i + 1, s, h => by
    have := countP_set_some xs i s (by simpa using h)
    simp only [List.set_cons_succ, List.countP_cons, this]
    simp
    split <;> omega

theorem CacheAt.store {w : World} {b : Nat} {nw} (h : CacheAt w b nw) (i : Nat) (hi : i < nw.length) (hl : nw.length ≤ 2048) (s : ByteArray) (hs : s.size = 64) :
    ∃ w', (Instr.mapUpdate 40 (.map (some b)) (.int .i64 i) (.string s)).run Try.prog w = .ok () w' ∧ CacheAt w' b (nw.set i (some s)) ∧ Fr [b] w w' := by
  obtain ⟨D, ho, hc⟩ := h
  have hle : Maps.size D ≤ 2048 := by rw [hc.size]; exact Nat.le_trans List.countP_le_length hl
  have htidy := ho.tidy keysLaw
  obtain ⟨w', hrun, ho', hg⟩ := ho.update keysLaw Try.underlying40 (by unfold maxLen; omega) (keyI (i := (i : Int)) (by omega)) (plainElem_string Try.underlying9 (s := s) (by unfold maxLen; omega))
  refine ⟨w', hrun, ⟨_, size_of_owns ho', ?_⟩, (Fr.refl _ _).grown hg (by intro k hk; cases hk; simp)⟩
  refine ⟨?_, ?_, ?_⟩
  · rw [Maps.size_put htidy, hc.size, countP_set_some nw i s hi]
    cases hn : nw.getD i none with
    | some y =>
      have hg : nw[i]? = some (some y) := by
        rw [List.getD_eq_getElem?_getD] at hn
        cases hx : nw[i]? with
        | none => rw [hx] at hn; simp at hn
        | some z => rw [hx] at hn; simp at hn; rw [hn]
      rw [(hc.hit i y hg).1]; simp
    | none =>
      rw [hc.miss (i : Int) (by
        intro k y hk hg
        obtain rfl : i = k := by omega
        rw [List.getD_eq_getElem?_getD, hg] at hn; simp at hn)]
      simp
  · intro j y hj
    by_cases hij : i = j
    · subst hij
      rw [List.getElem?_set_self hi] at hj
      cases hj
      exact ⟨Maps.has_put_same htidy.isMap (kI_key _) _, fun z => Maps.atKey_put_same htidy.isMap (kI_key _) _ z⟩
    · rw [List.getElem?_set_ne hij] at hj
      obtain ⟨h1, h2⟩ := hc.hit j y hj
      have hne : kI (j : Int) ≠ kI (i : Int) := kI_ne (by omega)
      exact ⟨by rw [Maps.has_put_other hne]; exact h1, fun z => by rw [Maps.atKey_put_other hne]; exact h2 z⟩
  · intro j hj
    have hne : kI j ≠ kI (i : Int) := kI_ne (by
      intro e
      exact hj i s e (List.getElem?_set_self hi))
    rw [Maps.has_put_other hne]
    refine hc.miss j ?_
    intro k y hk hg
    have hki : i ≠ k := by
      intro e; subst e; exact hne (by rw [hk])
    exact hj k y hk (by rw [List.getElem?_set_ne hki]; exact hg)

theorem CacheAt.clear {w : World} {b : Nat} {nw} (h : CacheAt w b nw) (n : Nat) :
    ∃ w', (∀ ty, (Builtin.clear_ #[40] ty #[.map (some b)]).run Try.prog w = .ok (.tuple #[]) w') ∧ CacheAt w' b (List.replicate n none) ∧ Fr [b] w w' := by
  obtain ⟨D, ⟨es, clock, hb, F, _, _⟩, _⟩ := h
  refine ⟨Go.ChangeMaps.setBlock w b (.map #[] clock), ?_, ⟨.map [], ⟨#[], clock, Go.ChangeMaps.heap_setBlock_same hb _, ?_, by simp, by simp⟩, cacheIs_none n⟩, ⟨rfl, rfl, rfl, by simp [Go.ChangeMaps.setBlock], ?_⟩⟩
  · intro ty
    simp [Builtin.clear_, run_underlying Try.underlying40, MapKept.run_getObj_map hb, MapKept.run_setObj_map _ hb, Result.andThen, Go.ChangeMaps.setBlock]
  · exact ⟨by simp, MapKept.stamped_empty clock, by simp⟩
  · intro k _ hk
    exact Go.ChangeMaps.heap_setBlock_other hb _ (by simpa using hk)

end Go.Proofs.Ytiojkakmlbfiiaa
