/- The program's device, further: copying into its bytes; Flush. -/
import Derived.Test.YtiojkakmlbfiiaaSw2
namespace Go.Proofs.Ytiojkakmlbfiiaa
open Go.RowKit Go.Maps
open Sp

theorem bytesOf_one (s : ByteArray) (n : Nat) : ∀ v ∈ (bytesOf s).take n, v.oneCell' = true := by
  intro v hv
  have := List.mem_of_mem_take hv
  simp only [bytesOf, List.mem_map] at this
  obtain ⟨b, _, rfl⟩ := this
  rfl

theorem copy_str {w : World} {b off dLen dCap : Nat} {cs : List Value} (h : Blk w b cs) (s : ByteArray) (m : Nat) (hm : m = Nat.min s.size dLen) (hfit : off + m ≤ cs.length) :
    ∃ w', (∀ ty, (Builtin.copy_ #[39, 9] ty #[.slice (some ⟨b, off, none⟩) dLen dCap, .string s]).run Try.prog w = .ok (.int .i64 (m : Int)) w') ∧
      Blk w' b (cs.take off ++ (bytesOf s).take m ++ cs.drop (off + m)) ∧ Fr [b] w w' := by
  obtain ⟨T, hb⟩ := h
  have hl : ((bytesOf s).take m).length = m := by rw [List.length_take, bytesOf_len, hm]; exact Nat.min_eq_left (Nat.min_le_left _ _)
  have hst := run_storeCells_at Try.prog b off T ((bytesOf s).take m) 0 cs.toArray w hb (by rw [hl]; simpa using hfit) (bytesOf_one s m)
  rw [hl] at hst
  simp only [Nat.add_zero] at hst
  refine ⟨_, ?_, ⟨T, setRow_heap w b cs.toArray _ T _ hb⟩, ⟨rfl, rfl, rfl, by simp [World.setRow], fun k _ hk => setRow_other w b k _ (by simpa using hk)⟩⟩
  intro ty
  have hu : Try.prog.underlying 39 = some (.slice 5) := Try.underlying39
  obtain ⟨i0, hi, hz0, hz1, hz2⟩ := info_parts byteInfo
  have htk : List.take m (List.map (fun b : UInt8 => Value.int IntKind.u8 (b.toNat : Int)) s.data.toList) = (bytesOf s).take m := rfl
  simp [Builtin.copy_, run_underlying hu, Builtin.lenOf, Builtin.firstCells, sizeOf, typeInfo, hi, hz1, ← hm]
  rw [htk, hst]
  simp [Result.andThen, goInt]

theorem bytesOf_torn (o s : ByteArray) (n : Nat) : bytesOf (tornBy o s n) = (bytesOf s).take n ++ (bytesOf o).drop n := by
  have h1 : (tornBy o s n).data.toList = s.data.toList.take n ++ o.data.toList.drop n := by
    simp only [tornBy, ByteArray.data_append, ByteArray.data_extract, Array.toList_append, Array.toList_extract, List.extract_eq_take_drop, List.drop_zero, Nat.sub_zero]
    congr 1
    rw [List.take_of_length_le]
    rw [List.length_drop]; exact Nat.le_refl _
  simp only [bytesOf, h1, List.map_append, List.map_take, List.map_drop]

theorem byteCells_torn : ∀ (l : List ByteArray) (i : Nat) (o s : ByteArray) (m : Nat), (∀ x ∈ l, x.size = 64) → l[i]? = some o → m ≤ 64 →
    (byteCells l).take (64 * i) ++ (bytesOf s).take m ++ (byteCells l).drop (64 * i + m) = byteCells (l.set i (tornBy o s m))
  | [], i, o, s, m, _, h, _ => by simp at h
  | x :: xs, 0, o, s, m, hl, h, hm => by
    simp at h; subst h
    have hx : (bytesOf x).length = 64 := by rw [bytesOf_len]; exact hl x (by simp)
    simp only [byteCells, List.flatMap_cons, List.set_cons_zero, Nat.mul_zero, List.take_zero, List.nil_append, Nat.zero_add, bytesOf_torn]
    rw [List.drop_append_of_le_length (by omega), List.append_assoc]
  | x :: xs, i + 1, o, s, m, hl, h, hm => by
    have hx : (bytesOf x).length = 64 := by rw [bytesOf_len]; exact hl x (by simp)
    have ih := byteCells_torn xs i o s m (fun y hy => hl y (by simp [hy])) (by simpa using h) hm
    simp only [byteCells, List.flatMap_cons, List.set_cons_succ] at ih ⊢
    rw [← ih, List.take_append, List.drop_append, hx, List.take_of_length_le (by omega), List.drop_of_length_le (by omega)]
    rw [show 64 * (i + 1) - 64 = 64 * i by omega, show 64 * (i + 1) + m - 64 = 64 * i + m by omega]
    simp

theorem torn_all (o s : ByteArray) (ho : o.size = 64) (hs : s.size = 64) : tornBy o s 64 = s := by
  apply ba_ext
  have h1 : (tornBy o s 64).data.toList = s.data.toList.take 64 ++ o.data.toList.drop 64 := by
    simp only [tornBy, ByteArray.data_append, ByteArray.data_extract, Array.toList_append, Array.toList_extract, List.extract_eq_take_drop, List.drop_zero, Nat.sub_zero]
    congr 1
    rw [List.take_of_length_le]
    rw [List.length_drop]; exact Nat.le_refl _
  have e1 : s.data.toList.length = 64 := hs
  have e2 : o.data.toList.length = 64 := ho
  rw [h1, List.take_of_length_le (by omega), List.drop_of_length_le (by omega), List.append_nil]

/-- Sectors, of which those that are not left have what is in the cache. -/
structure Merged (on on' : List ByteArray) (nw : List (Option ByteArray)) (left : Lit → Bool) : Prop where
  len : on'.length = on.length
  all : ∀ s ∈ on', s.size = 64
  was : ∀ (i : Nat), (∀ s, nw[i]? = some (some s) → left (kI i) = true) → on'[i]? = on[i]?
  now : ∀ (i : Nat) s, i < on.length → nw[i]? = some (some s) → left (kI i) = false → on'[i]? = some s

theorem merged_end {on on' : List ByteArray} {nw : List (Option ByteArray)} {left : Lit → Bool} (h : Merged on on' nw left) (hl : nw.length = on.length) (h0 : ∀ k, left k = false) : on' = over on nw := by
  apply List.ext_getElem?
  intro i
  simp only [over, List.getElem?_zipWith]
  by_cases hi : i < on.length
  · have h1 : on[i]? = some on[i] := List.getElem?_eq_getElem hi
    have h2 : nw[i]? = some nw[i] := List.getElem?_eq_getElem (by omega)
    rw [h1, h2]
    cases hn : nw[i] with
    | none => rw [h.was i (by intro s hs; rw [h2, hn] at hs; simp at hs), h1]; rfl
    | some s => rw [h.now i s hi (by rw [h2, hn]) (h0 _)]; rfl
  · rw [List.getElem?_eq_none (by rw [h.len]; omega), List.getElem?_eq_none (show on.length ≤ i by omega)]

theorem sameKey_kI {i j : Int} : (kI i).sameKey (kI j) = decide (i = j) := by
  by_cases h : i = j
  · subst h; simp [Lit.sameKey]
  · simp [Lit.sameKey, h]

theorem merged_step {on on' : List ByteArray} {nw : List (Option ByteArray)} {left : Lit → Bool} (h : Merged on on' nw left) (k : Nat) (s o : ByteArray) (hk : k < on.length) (hs : nw[k]? = some (some s)) (h64 : s.size = 64)
    (ho : on'[k]? = some o) : Merged on (on'.set k (tornBy o s 64)) nw (fun z => left z && !z.sameKey (kI k)) := by
  have ho64 : o.size = 64 := h.all o (List.mem_of_getElem? ho)
  rw [torn_all o s ho64 h64]
  refine ⟨by simp [h.len], ?_, ?_, ?_⟩
  · intro x hx
    rcases List.mem_or_eq_of_mem_set hx with h' | h'
    · exact h.all x h'
    · rw [h']; exact h64
  · intro i hi
    by_cases hik : k = i
    · subst hik
      have := hi s hs
      simp [sameKey_kI] at this
    · rw [List.getElem?_set_ne hik]
      refine h.was i (fun s' hs' => ?_)
      have := hi s' hs'
      simp only [Bool.and_eq_true] at this
      exact this.1
  · intro i s' hi hs' hl
    by_cases hik : k = i
    · subst hik
      rw [hs] at hs'
      cases hs'
      rw [List.getElem?_set_self (by rw [h.len]; exact hk)]
    · rw [List.getElem?_set_ne hik]
      refine h.now i s' hi hs' ?_
      simp only [sameKey_kI, Bool.and_eq_false_iff, Bool.not_eq_false', decide_eq_true_eq] at hl
      rcases hl with hl | hl
      · exact hl
      · omega

theorem has_of_at {D : DW} {kl : Lit} {x : DW} (h : ∀ z, D.atKey kl z = x) : Maps.has D kl = true := Maps.has_true_of_atKey h

theorem CacheIs.of_at {D : DW} {nw : List (Option ByteArray)} (h : CacheIs D nw) {x : Int} {c : ByteArray} (hat : ∀ z, D.atKey (kI x) z = sD c) : ∃ k : Nat, x = k ∧ nw[k]? = some (some c) := by
  by_cases hx : ∃ (k : Nat) (s : ByteArray), x = k ∧ nw[k]? = some (some s)
  · obtain ⟨k, s, rfl, hs⟩ := hx
    refine ⟨k, rfl, ?_⟩
    have := (h.hit k s hs).2 (sD c)
    rw [hat] at this
    simp only [sD, DataW.lit.injEq, Lit.string.injEq] at this
    rw [hs, ba_ext this.symm]
  · have := h.miss x (fun k s hk hs => hx ⟨k, s, hk, hs⟩)
    rw [has_of_at hat] at this
    cases this

end Go.Proofs.Ytiojkakmlbfiiaa
