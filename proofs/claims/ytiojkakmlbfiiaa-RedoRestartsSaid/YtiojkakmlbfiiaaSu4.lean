/- All frames of a text: the program's function All. -/
import Derived.Test.YtiojkakmlbfiiaaSu3
namespace Go.Proofs.Ytiojkakmlbfiiaa
open Go.RowKit
open Sp
namespace Sp
/-- All frames of bytes, from the first on; none: they are no frames. -/
def allN : Nat → List UInt8 → Option (List ByteArray)
  | 0, _ => some []
  | n + 1, r => if r = [] then some [] else if (nextL r).1 = 0 then (allN n (r.drop ((nextL r).2.length + 6))).map (str (nextL r).2 :: ·) else none
def allL (r : List UInt8) : Option (List ByteArray) := allN r.length r

theorem allN_fuel : ∀ (n m : Nat) (r : List UInt8), r.length ≤ n → r.length ≤ m → allN n r = allN m r
  | 0, 0, _, _, _ => rfl
  | 0, m + 1, r, h, _ => by have : r = [] := List.eq_nil_of_length_eq_zero (by omega); simp [allN, this]
  | n + 1, 0, r, _, h => by have : r = [] := List.eq_nil_of_length_eq_zero (by omega); simp [allN, this]
  | n + 1, m + 1, r, h1, h2 => by
    simp only [allN]
    split
    · rfl
    · rename_i hr
      have hp : 0 < r.length := by
        rcases Nat.eq_zero_or_pos r.length with h | h
        · exact absurd (List.eq_nil_of_length_eq_zero h) hr
        · exact h
      rw [allN_fuel n m _ (by rw [List.length_drop]; omega) (by rw [List.length_drop]; omega)]

theorem allL_step (r : List UInt8) (h : r ≠ []) : allL r = if (nextL r).1 = 0 then (allL (r.drop ((nextL r).2.length + 6))).map (str (nextL r).2 :: ·) else none := by
  have hp : 0 < r.length := by
    rcases Nat.eq_zero_or_pos r.length with h' | h'
    · exact absurd (List.eq_nil_of_length_eq_zero h') h
    · exact h'
  obtain ⟨n, hn⟩ : ∃ n, r.length = n + 1 := ⟨r.length - 1, by omega⟩
  rw [allL, hn, allN, if_neg h, allL]
  rw [allN_fuel n _ _ (by rw [List.length_drop]; omega) (Nat.le_refl _)]
theorem allL_nil : allL [] = some [] := rfl

theorem nextL_len (r : List UInt8) (h : (nextL r).1 = 0) : (nextL r).2.length + 6 ≤ r.length := by
  unfold nextL at h ⊢
  split
  · rename_i h1; rw [if_pos h1] at h; simp at h
  · rename_i h1
    rw [if_neg h1] at h
    simp only at h ⊢
    split
    · rename_i h2; rw [if_pos h2] at h; simp at h
    · rename_i h2
      rw [if_neg h2] at h
      split
      · rename_i h3; rw [if_pos h3] at h; simp at h
      · rename_i h3
        rw [if_neg h3] at h
        split
        · simp only [List.length_take, List.length_drop]; omega
        · rename_i h4; rw [if_neg h4] at h; simp at h
end Sp

theorem strInfo : (Try.prog.info? 9).map (fun i => (i.zero, i.size, i.bytes)) = some (some (.string ByteArray.empty), 1, 16) := by kernel_rfl

def AllPost (s : ByteArray) (w : World) (e : Ending) (w' : World) : Prop :=
  (∀ l, allL s.data.toList = some l → ∃ v, e = .returned (.tuple #[v, .int .i64 (s.size : Int), .int .i64 0]) ∧ w'.ownsRow w.heap.size 9 1 v l.length (strVals l)) ∧
  (allL s.data.toList = none → ∃ v a c, e = .returned (.tuple #[v, .int .i64 a, .int .i64 c]) ∧ c ≠ 0) ∧ Fr [] w w'

set_option maxRecDepth 100000 in
set_option maxHeartbeats 1000000 in
theorem all_c (s : ByteArray) (w : World) (hs : s.size ≤ 1000000) : Calls Try.prog 36 #[.string s] w (AllPost s w) := by
  obtain ⟨i0, hi, hz0, hz1, hz2⟩ := info_parts strInfo
  have HI := Lib.hid (show _ ∧ _ ∧ _ ∧ _ from ⟨hi, hz0, hz1, hz2⟩)
  clear hi hz0 hz1 hz2
  go_enter Try.func36, Try.ntmps36
  go_wp2
  go_loopw [2, 3] (fun l i wr => ∃ (k : Nat) (done : List ByteArray), k ≤ s.size ∧ done.length ≤ k ∧ i = .int .i64 k ∧ wr.ownsRow w.heap.size 9 1 l done.length (strVals done) ∧
      Hid ((allL (s.data.toList.drop k)).map (done ++ ·) = allL s.data.toList) ∧ Fr [] w wr)
    (fun _ i _ => s.size - (intOf i).toNat)
  case atStart => exact ⟨0, [], Nat.zero_le _, Nat.le_refl _, rfl, World.ownsRow_nil _ _ _ _, by show Option.map _ _ = _; simp, Fr.refl _ _⟩
  case round =>
    obtain ⟨k, done, hk, hdk, rfl, hown, hR, hF⟩ := hrel
    obtain ⟨la, lc, rfl⟩ := own_shape hown
    by_cases hlt : k < s.size
    · have hne : s.data.toList.drop k ≠ [] := by
        intro e
        have := congrArg List.length e
        rw [List.length_drop] at this
        have h2 : s.data.toList.length = s.size := rfl
        simp at this; omega
      have hnx := next_c s k wr (by omega) hk
      have hst := allL_step _ hne
      have hln := nextL_len (s.data.toList.drop k)
      by_cases hz : (nextL (s.data.toList.drop k)).1 = 0
      · rw [hz] at hnx
        rw [if_pos hz] at hst
        have hln' := hln hz
        rw [List.length_drop] at hln'
        have h2 : s.data.toList.length = s.size := rfl
        simp only [if_true] at hnx
        generalize (nextL (s.data.toList.drop k)).2 = t at hnx hst hln'
        have hR2 : Hid ((allL (s.data.toList.drop (k + t.length + 6))).map ((done ++ [str t]) ++ ·) = allL s.data.toList) := by
          show _ = _
          rw [← hR.out, hst, Option.map_map, List.drop_drop, ← Nat.add_assoc]
          congr 1
          funext x; simp
        have hk2 : k + t.length + 6 ≤ s.size := by omega
        clear hst hln hln' h2 hz hne hR
        generalize str t = T at hnx hR2
        generalize hm : t.length = m at hnx hR2 hk2
        clear hm
        go_wp2_with (first
          | (go_at_call 46; refine hnx.mono ?_; clear hnx; rintro e w2 ⟨rfl, hF2⟩; have hown2 := own_fr hown hF2 (by simp))
          | (at_builtin; refine wpList_append_own _ rfl _ _ 22 rfl w.heap.size 9 i0 (.string ByteArray.empty) 1 16 Try.underlying22 HI.out.1 HI.out.2.1 HI.out.2.2.1 HI.out.2.2.2 rfl (by decide) _ _ _ rfl (hown2.alloc _) ⟨w2.heap.size, 0, none⟩ 1 1 [.string T] rfl rfl ?c1 ?c2 ?c3 ?c4 ?c5 ?_))
        case c1 => intro j u hu; cases j with
          | zero => simp at hu; subst hu; simp [Addr.add]
          | succ j => simp at hu
        case c2 => intro u hu; simp at hu; subst hu; rfl
        case c3 => unfold maxLen; omega
        case c4 => omega
        case c5 => have h1 := hF.size; have h2 := hF2.size; simp; omega
        intro v' w3 hown3 hg3 _
        have hF3 : Fr [] w w3 := ((hF.trans hF2).alloc _).grown hg3 (fun b hb => Or.inr (own_base hown2 b hb).1)
        have hown4 : w3.ownsRow w.heap.size 9 1 v' (done ++ [T]).length (strVals (done ++ [T])) := by simpa [strVals] using hown3
        obtain ⟨a', c', rfl⟩ := own_shape hown4
        have HO := Lib.hid hown4
        clear hown hown2 hown3 hown4 hg3
        go_wp2
        go_roundw
        case rel => exact ⟨k + m + 6, done ++ [T], hk2, by simp; omega, rfl, HO.out, hR2, hF3⟩
        case measure => simp [intOf]; omega
      · rw [if_neg hz] at hst hnx
        have hnone : Hid (allL s.data.toList = none) := (show _ = _ by rw [← hR.out, hst]; rfl)
        have hz' : ((nextL (s.data.toList.drop k)).1 != 0) = true := by simpa using hz
        have HZ := Lib.hid hz
        generalize (nextL (s.data.toList.drop k)).1 = c at hnx hz' HZ
        generalize str (nextL (s.data.toList.drop k)).2 = T at hnx
        clear hst hln hz hne
        go_wp2_with (go_at_call 46; refine hnx.mono ?_; clear hnx; rintro e w2 ⟨rfl, hF2⟩)
        go_ret3
        refine ⟨?_, ?_, hF.trans hF2⟩
        · intro l hl; rw [hnone.out] at hl; cases hl
        · intro _; exact ⟨_, _, _, rfl, HZ.out⟩
    · obtain rfl : k = s.size := by omega
      have hE : Hid (allL s.data.toList = some done) := by
        show _ = _
        rw [← hR.out, List.drop_of_length_le (show s.data.toList.length ≤ s.size from Nat.le_refl _), allL_nil]
        simp
      have HO := Lib.hid hown
      clear hown
      go_wp2
      go_ret3
      refine ⟨?_, ?_, hF⟩
      · intro l hl
        rw [hE.out] at hl; cases hl
        exact ⟨_, rfl, HO.out⟩
      · intro h; rw [hE.out] at h; cases h

end Go.Proofs.Ytiojkakmlbfiiaa
