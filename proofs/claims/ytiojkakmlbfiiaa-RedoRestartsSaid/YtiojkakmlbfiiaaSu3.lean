/- Frames, one behind the other: the program's functions Next, All. -/
import Derived.Test.YtiojkakmlbfiiaaSu2
import Derived.Test.YtiojkakmlbfiiaaHq
import Derived.Lib.Strings
namespace Go.Proofs.Ytiojkakmlbfiiaa
open Go.RowKit
open Sp
namespace Sp
/-- The first frame of bytes: what is wrong (0: nothing), and its text. -/
def nextL (r : List UInt8) : Int × List UInt8 :=
  if r.length < 2 then (50, [])
  else
    let n := (r.getD 0 0).toNat + 256 * (r.getD 1 0).toNat
    if 4096 < n then (2, []) else if r.length < n + 6 then (50, [])
    else if frameL ((r.drop 2).take n) = r.take (n + 6) then (0, (r.drop 2).take n) else (51, [])
end Sp

theorem ret_sii {a a' : ByteArray} {i i' j j' : Int} (h1 : a = a') (h2 : i = i') (h3 : j = j') : Ending.returned (.tuple #[.string a, .int .i64 i, .int .i64 j]) = .returned (.tuple #[.string a', .int .i64 i', .int .i64 j']) := by
  rw [h1, h2, h3]

theorem run_idx (R : ByteArray) (i : Nat) (hi : i < R.size) (w : World) : (Instr.index 9 (.string R) (.int .i64 (i : Int))).run Try.prog w = .ok (.int .u8 ((R.data.toList.getD i 0).toNat : Int)) w := by
  have hg : R[i]? = some (R.data.toList.getD i 0) := by
    rw [show R[i]? = some R[i] from getElem?_pos R i hi]
    have : i < R.data.toList.length := hi
    rw [List.getD_eq_getElem?_getD, List.getElem?_eq_getElem this]
    rfl
  simp [Instr.index, asIntOf, run_underlying Try.underlying9, hg, Result.andThen]

theorem i64_or_nat (a b : Nat) (ha : a < 65536) (hb : b < 65536) : bits .or .i64 (a : Int) (b : Int) = ((a ||| b : Nat) : Int) :=
  (bits_nat .i64 16 (by decide) (fun n h0 h1 => by rw [IntKind.wrap_i64]; omega) a b ha hb).2

set_option maxRecDepth 100000 in
theorem next_c (s : ByteArray) (k : Nat) (w : World) (hs : s.size ≤ 4611686018427387904) (hk : k ≤ s.size) :
    Calls Try.prog 46 #[.string s, .int .i64 (k : Int)] w fun e w' =>
      e = .returned (.tuple #[.string (str (nextL (s.data.toList.drop k)).2), .int .i64 (if (nextL (s.data.toList.drop k)).1 = 0 then ((k + (nextL (s.data.toList.drop k)).2.length + 6 : Nat) : Int) else 0), .int .i64 (nextL (s.data.toList.drop k)).1]) ∧ Fr [] w w' := by
  obtain ⟨R, hR⟩ : ∃ R, s.extract k s.size = R := ⟨_, rfl⟩
  have hRd : R.data.toList = s.data.toList.drop k := by
    rw [← hR]
    simp only [ByteArray.data_extract, Array.toList_extract, List.extract_eq_take_drop]
    rw [List.take_of_length_le]
    rw [List.length_drop]; exact Nat.le_refl _
  rw [← hRd]
  have hRs : R.size = R.data.toList.length := rfl
  have hRl : R.size ≤ 4611686018427387904 := by rw [← hR, ByteArray.size_extract]; omega
  clear hRd
  by_cases h2 : R.size < 2
  · rw [show nextL R.data.toList = (50, []) by simp only [nextL]; rw [if_pos (by omega)]]
    clear hRs
    go_enter Try.func46, Try.ntmps46
    go_wp2
    go_ret3
    exact ⟨rfl, Fr.refl _ _⟩
  have i0 : ∀ w, (Instr.index 9 (.string R) (.int .i64 0)).run Try.prog w = _ := run_idx R 0 (by omega)
  have i1 : ∀ w, (Instr.index 9 (.string R) (.int .i64 1)).run Try.prog w = _ := run_idx R 1 (by omega)
  have hb0 : (R.data.toList.getD 0 0).toNat < 256 := (R.data.toList.getD 0 0).toNat_lt
  have hb1 : (R.data.toList.getD 1 0).toNat < 256 := (R.data.toList.getD 1 0).toNat_lt
  have hnx : nextL R.data.toList = (let n := (R.data.toList.getD 0 0).toNat + 256 * (R.data.toList.getD 1 0).toNat
    if 4096 < n then (2, []) else if R.data.toList.length < n + 6 then (50, [])
    else if frameL ((R.data.toList.drop 2).take n) = R.data.toList.take (n + 6) then (0, (R.data.toList.drop 2).take n) else (51, [])) := by
    simp only [nextL]; rw [if_neg (by omega)]
  generalize (R.data.toList.getD 0 0).toNat = b0 at i0 hb0 hnx
  generalize (R.data.toList.getD 1 0).toNat = b1 at i1 hb1 hnx
  have hor : bits .or .i64 (b0 : Int) ((b1 : Int) * 256) = ((b0 + 256 * b1 : Nat) : Int) := by
    have := i64_or_nat b0 (b1 * 256) (by omega) (by omega)
    rw [show b0 ||| b1 * 256 = b0 + 256 * b1 by rw [Nat.or_comm, nat_join 8 (b1 * 256) b0 (by omega) (by omega)]; omega] at this
    simpa using this
  have hor' : bits .or .i64 (b0 : Int) (IntKind.i64.wrap ((b1 : Int) * 256)) = ((b0 + 256 * b1 : Nat) : Int) := by
    rw [IntWalk.i64_in _ (by omega)]; exact hor
  have hn : b0 + 256 * b1 < 65536 := by omega
  generalize b0 + 256 * b1 = n at hor hor' hnx hn
  simp only at hnx
  have HN := Lib.hid hnx
  have HRs := Lib.hid hRs
  clear hnx hRs
  by_cases h1 : 4096 < n
  · have h1' : (4096 : Int) < (n : Int) := by omega
    rw [show nextL R.data.toList = (2, []) by rw [HN.out, if_pos h1]]
    go_enter Try.func46, Try.ntmps46
    go_wp2
    go_quiet (fail)
    clear hor hor' i0 i1
    go_wp2
    go_ret3
    exact ⟨rfl, (Fr.refl _ _).drewN _⟩
  by_cases h3 : R.size < n + 6
  · rw [show nextL R.data.toList = (50, []) by rw [HN.out, if_neg h1, if_pos (by rw [← HRs.out]; exact h3)]]
    go_enter Try.func46, Try.ntmps46
    go_wp2
    go_quiet (fail)
    clear hor hor' i0 i1
    go_wp2
    go_ret3
    exact ⟨rfl, (Fr.refl _ _).drewN _⟩
  obtain ⟨T, hT⟩ : ∃ T, R.extract 2 (2 + n) = T := ⟨_, rfl⟩
  obtain ⟨V, hV⟩ : ∃ V, R.extract 0 (2 + n + 4) = V := ⟨_, rfl⟩
  have hTs : T.size ≤ 4096 := by rw [← hT, ByteArray.size_extract]; omega
  have hTd : T.data.toList = (R.data.toList.drop 2).take n := by
    rw [← hT]
    simp only [ByteArray.data_extract, Array.toList_extract, List.extract_eq_take_drop]
    rw [show 2 + n - 2 = n by omega]
  have hVd : V.data.toList = R.data.toList.take (n + 6) := by
    rw [← hV]
    simp only [ByteArray.data_extract, Array.toList_extract, List.extract_eq_take_drop, List.drop_zero]
    rw [show 2 + n + 4 - 0 = n + 6 by omega]
  have hl3 : ¬ R.data.toList.length < n + 6 := by rw [← HRs.out]; exact h3
  by_cases hq : frame T = V
  · have e1 : nextL R.data.toList = (0, T.data.toList) := by
      rw [HN.out, if_neg h1, if_neg hl3, if_pos, hTd]
      rw [← hTd, ← hVd, ← hq, frame, str_data]
    have e2 : T.data.toList.length = n := by
      rw [hTd, List.length_take, List.length_drop]; omega
    rw [e1]
    simp only [if_true, str_of, e2]
    have HQ : Hid (frame T = V) := Lib.hid hq
    have HTd := Lib.hid hTd
    clear hTd hVd hl3 e1 e2 hq
    go_enter Try.func46, Try.ntmps46
    go_wp2
    go_quiet (fail)
    clear hor hor' i0 i1
    go_wp2
    rw [hT]
    refine wp_region_fr (by kernel_rfl) (by kernel_rfl) ?_
    refine q_val rfl (by intro w' _; go_simp; rfl) ?_
    go_frame
    refine q_call (f := 38) (args := #[.string T]) rfl (by intro w'; go_simp; try rfl) (fun w' _ => sframe_c T w' hTs) ?_
    go_frame
    refine q_val rfl (by intro w' _; go_simp; rfl) ?_
    go_frame
    refine q_val rfl (by intro w' _; go_simp; rfl) ?_
    go_frame
    refine q_val (v := .string V) rfl (by intro w' _; go_simp; rw [if_pos (by omega), show (2 + (n : Int) + 4).toNat = 2 + n + 4 by omega, hV]) ?_
    go_frame
    refine q_val (v := .bool false) rfl (by intro w' _; go_simp; rw [HQ.out]) ?_
    go_frame
    refine wpQuiet_nil ?_
    intro w1 hF1
    go_wp2
    go_ret3
    exact ⟨ret_sii rfl (by omega) rfl, ((Fr.refl _ _).drewN _).trans hF1⟩
  · have e1 : nextL R.data.toList = (51, []) := by
      rw [HN.out, if_neg h1, if_neg hl3, if_neg]
      rw [← hTd, ← hVd]
      intro e
      exact hq (ba_ext (by rw [frame, str_data]; exact e))
    rw [e1]
    have HQ : Hid (¬ (frame T).toList = V.toList) := Lib.hid (fun e => hq (by rw [Lib.toList_data, Lib.toList_data] at e; exact ba_ext e))
    clear hTd hVd hl3 e1 hq
    go_enter Try.func46, Try.ntmps46
    go_wp2
    go_quiet (fail)
    clear hor hor' i0 i1
    go_wp2
    rw [hT]
    refine wp_region_fr (by kernel_rfl) (by kernel_rfl) ?_
    refine q_val rfl (by intro w' _; go_simp; rfl) ?_
    go_frame
    refine q_call (f := 38) (args := #[.string T]) rfl (by intro w'; go_simp; try rfl) (fun w' _ => sframe_c T w' hTs) ?_
    go_frame
    refine q_val rfl (by intro w' _; go_simp; rfl) ?_
    go_frame
    refine q_val rfl (by intro w' _; go_simp; rfl) ?_
    go_frame
    refine q_val (v := .string V) rfl (by intro w' _; go_simp; rw [if_pos (by omega), show (2 + (n : Int) + 4).toNat = 2 + n + 4 by omega, hV]) ?_
    go_frame
    refine q_val (v := .bool true) rfl (by intro w' _; go_simp; exact HQ.out) ?_
    go_frame
    refine wpQuiet_nil ?_
    intro w1 hF1
    go_wp2
    go_ret3
    exact ⟨rfl, ((Fr.refl _ _).drewN _).trans hF1⟩

end Go.Proofs.Ytiojkakmlbfiiaa
