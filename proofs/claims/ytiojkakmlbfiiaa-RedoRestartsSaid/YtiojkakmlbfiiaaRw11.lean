/- The program's log: clean. -/
import Derived.Test.YtiojkakmlbfiiaaRw4
import Derived.Test.YtiojkakmlbfiiaaRw7
namespace Go.Proofs.Ytiojkakmlbfiiaa
open Go.RowKit
open Sp

theorem zeros_str : str (List.replicate 64 (0 : UInt8)) = zeros := rfl

section
variable {w : World} {bl bd bo bm sz count area long : Nat} {tail : ByteArray} {v : Value} {many waits : Nat} {d : Dv}

theorem parse_one {size : Nat} {s : ByteArray} {c a l : Nat} (h : parseHead size s = some (c, a, l)) : 1 ≤ c ∧ c ≤ 4611686018427387904 ∧ a ≤ 1 ∧ l ≤ size := by
  unfold parseHead at h
  simp only at h
  split at h
  · cases h
  · rename_i hc
    split at h
    · simp only [Option.some.injEq, Prod.mk.injEq] at h
      obtain ⟨rfl, rfl, rfl⟩ := h
      simp only [not_or] at hc
      omega
    · cases h

set_option maxHeartbeats 4000000 in
set_option maxRecDepth 100000 in
theorem clean_c (hD : DevAt w bd bo bm d) (h : Blk w bl (rawLog bd sz count area long tail v many waits)) (h1 : bl ≠ bd) (h2 : bl ≠ bo) (h3 : bl ≠ bm) (hs : sz ≤ 1023) (hsz : sz = (d.on.length - 2) / 2) (hn2 : 2 ≤ d.on.length) (hdn : d.down = false) (hc : count + 1 ≤ 9223372036854775807) :
    Calls Try.prog 19 #[.pointer (some ⟨bl, 0, none⟩)] w fun e w' => e = .returned (.int .i64 (d.bareNext count).2) ∧ DevAt w' bd bo bm (d.bareNext count).1 ∧ Fr [bd, bo, bm] w w' := by
  obtain ⟨R, hR⟩ : ∃ R, d.bareNext count = R := ⟨_, rfl⟩
  rw [hR]
  obtain ⟨m, hm⟩ : ∃ m, (count + 1) % 2 = m := ⟨_, rfl⟩
  have hml : m < d.on.length := by omega
  have hrd := read_ok hdn m hml
  have hHR : Hid ((if d.text m = zeros then (d, 0) else if (parseHead (64 * sz) (d.text m)).isSome then (d, 0) else d.wflush m zeros) = R) := Lib.hid (by
    rw [← hR]; unfold Dv.bareNext
    rw [hm, hrd, areaOf, ← hsz])
  have hts := text64 hD.wf m hml
  have hrp := fun W' => repeat_c (str [0]) 64 W' (by omega) (by rw [str_size]; simp)
  rw [str_data, repeatL_zero, zeros_str] at hrp
  have hmc : ((count : Int) + 1).tmod 2 = (m : Int) := by rw [Int.tmod_eq_emod_of_nonneg (by omega)]; omega
  have hm1 : (m : Int) ≤ 1 := by omega
  have hm0 : 0 ≤ (m : Int) := by omega
  have hrh := fun W' (hW : Fr [] w W') => rread_c (hD.fr hW (by simp) (by simp) (by simp)) (h.fr hW (by simp)) hs (m : Int)
  have hrhd : d.readHead sz (m : Int) = ((parseHead (64 * sz) (d.text m)).getD (0, 0, 0), 0) := by
    have h0 : d.wrong (m : Int) = 0 := by
      unfold Dv.wrong
      rw [if_neg (by rw [hdn]; simp), if_neg (by omega)]
    simp [Dv.readHead, h0]
  rw [hrhd] at hrh
  have hrr := fun W' (hW : Fr [] w W') => read_c (hD.fr hW (by simp) (by simp) (by simp)) (m : Int)
  rw [hrd] at hrr
  have HD := Lib.hid hD
  have HL := Lib.hid h
  have HMC := Lib.hid hmc
  have hzt : zeros.size = 64 := zeros_size
  have hrr : ∀ W', Fr [] w W' → Calls Try.prog 28 #[.pointer (some ⟨bd, 0, none⟩), .int .i64 (m : Int)] W' fun e w' => e = .returned (.tuple #[.string (d.text m), .int .i64 0]) ∧ W' = w' := hrr
  have hrh : ∀ W', Fr [] w W' → Calls Try.prog 16 #[.pointer (some ⟨bl, 0, none⟩), .int .i64 (m : Int)] W' fun e w' => e = .returned (.tuple #[headAgg ((parseHead (64 * sz) (d.text m)).getD (0, 0, 0)), .int .i64 0]) ∧ Fr [] W' w' := hrh
  clear hR hrd hrhd hD h hmc hm hml
  generalize d.text m = s at *
  obtain ⟨Z, hZ⟩ : ∃ Z, zeros = Z := ⟨_, rfl⟩
  rw [hZ] at hHR hrp hzt
  have HZ := Lib.hid hZ
  clear hZ
  by_cases hz : s = Z
  · have HRR : Hid (R = (d, 0)) := Lib.hid (by rw [← hHR.out, if_pos hz])
    have hzl : s.toList = Z.toList := by rw [hz]
    clear hHR hrh
    go_enter Try.func19, Try.ntmps19
    go_wp2
    refine wp_region_tail 8 (by kernel_rfl) (by kernel_rfl) ?_
    refine q_val rfl (by intro w' _; go_simp; rfl) ?_
    go_frame
    refine q_val rfl (by intro w' _; go_simp; rfl) ?_
    go_frame
    refine q_val rfl (by intro w' _; go_simp; rfl) ?_
    go_frame
    refine q_val rfl (by intro w' _; go_simp; rfl) ?_
    go_frame
    refine q_val (v := .int .i64 (count : Int)) rfl (by intro w' hW; have := (raw_cells (HL.out.fr hW (by simp))).2.2.1; go_simp) ?_
    go_frame
    refine q_val (v := .int .i64 ((count : Int) + 1)) rfl (by intro w' hW; go_simp; try exact IntWalk.i64_in _ (by omega)) ?_
    go_frame
    refine q_val (v := .int .i64 (m : Int)) rfl (by intro w' hW; go_simp; exact HMC.out) ?_
    go_frame
    refine q_call (f := 37) (args := #[.string (str [0]), .int .i64 ((64 : Nat) : Int)]) (v := .string Z) rfl (by intro w'; go_simp; try rfl) (fun w' _ => hrp w') ?_
    go_frame
    refine wpQuiet_nil ?_
    intro w1 hF1
    have l0 := (raw_cells (HL.out.fr hF1 (by simp))).1
    have hrr := hrr w1 hF1
    go_wp2_with (go_at_call 28; refine hrr.mono ?_; rintro e w2 ⟨rfl, rfl⟩; clear hrr)
    go_ret
    rw [HRR.out]
    exact ⟨rfl, HD.out.fr hF1 (by simp) (by simp) (by simp), hF1.any⟩
  · have hzl : ¬ s.toList = Z.toList := fun e => hz (by rw [Lib.toList_data, Lib.toList_data] at e; exact ba_ext e)
    have hzb : (s.toList == Z.toList) = false := by simpa using hzl
    rw [if_neg hz] at hHR
    cases hp : parseHead (64 * sz) s with
    | some h =>
      obtain ⟨c, a, l⟩ := h
      have HRR : Hid (R = (d, 0)) := Lib.hid (by rw [← hHR.out, hp]; rfl)
      have hc1 : 0 < c := by have := parse_one hp; omega
      rw [hp] at hrh
      simp only [Option.getD_some, headAgg] at hrh
      clear hHR hp hz
      go_enter Try.func19, Try.ntmps19
      go_wp2
      refine wp_region_tail 8 (by kernel_rfl) (by kernel_rfl) ?_
      refine q_val rfl (by intro w' _; go_simp; rfl) ?_
      go_frame
      refine q_val rfl (by intro w' _; go_simp; rfl) ?_
      go_frame
      refine q_val rfl (by intro w' _; go_simp; rfl) ?_
      go_frame
      refine q_val rfl (by intro w' _; go_simp; rfl) ?_
      go_frame
      refine q_val (v := .int .i64 (count : Int)) rfl (by intro w' hW; have := (raw_cells (HL.out.fr hW (by simp))).2.2.1; go_simp) ?_
      go_frame
      refine q_val (v := .int .i64 ((count : Int) + 1)) rfl (by intro w' hW; go_simp; try exact IntWalk.i64_in _ (by omega)) ?_
      go_frame
      refine q_val (v := .int .i64 (m : Int)) rfl (by intro w' hW; go_simp; exact HMC.out) ?_
      go_frame
      refine q_call (f := 37) (args := #[.string (str [0]), .int .i64 ((64 : Nat) : Int)]) (v := .string Z) rfl (by intro w'; go_simp; try rfl) (fun w' _ => hrp w') ?_
      go_frame
      refine wpQuiet_nil ?_
      intro w1 hF1
      have l0 := (raw_cells (HL.out.fr hF1 (by simp))).1
      have hrr := hrr w1 hF1
      have hrh := hrh w1 hF1
      go_wp2_with (first
        | (go_at_call 28; refine hrr.mono ?_; rintro e w2 ⟨rfl, rfl⟩; clear hrr)
        | (go_at_call 16; refine hrh.mono ?_; rintro e w3 ⟨rfl, hF3⟩; clear hrh))
      go_ret
      rw [HRR.out]
      have hF := (hF1.trans hF3).alloc (.cells #[.int .i64 (c : Int), .int .i64 (a : Int), .int .i64 (l : Int)] 45)
      exact ⟨rfl, HD.out.fr hF (by simp) (by simp) (by simp), hF.any⟩
    | none =>
      rw [hp] at hrh
      simp only [Option.getD_none, headAgg] at hrh
      have hrh : ∀ W', Fr [] w W' → Calls Try.prog 16 #[.pointer (some ⟨bl, 0, none⟩), .int .i64 (m : Int)] W' fun e w' => e = .returned (.tuple #[.agg #[.int .i64 0, .int .i64 0, .int .i64 0], .int .i64 0]) ∧ Fr [] W' w' := hrh
      have HRR : Hid (d.wflush m Z = R) := Lib.hid (by rw [← hHR.out, hp]; rfl)
      by_cases hw0 : (d.write (m : Int) Z).2 = 0
      · have HR2 : Hid (R = (d.write (m : Int) Z).1.flush) := Lib.hid (by rw [← HRR.out]; unfold Dv.wflush; rw [if_pos hw0])
        generalize hd1 : (d.write (m : Int) Z).1 = d1 at *
        have HW0 := Lib.hid hw0
        have HD1 := Lib.hid hd1
        clear hHR hp hz hw0 hd1
        go_enter Try.func19, Try.ntmps19
        go_wp2
        refine wp_region_tail 8 (by kernel_rfl) (by kernel_rfl) ?_
        refine q_val rfl (by intro w' _; go_simp; rfl) ?_
        go_frame
        refine q_val rfl (by intro w' _; go_simp; rfl) ?_
        go_frame
        refine q_val rfl (by intro w' _; go_simp; rfl) ?_
        go_frame
        refine q_val rfl (by intro w' _; go_simp; rfl) ?_
        go_frame
        refine q_val (v := .int .i64 (count : Int)) rfl (by intro w' hW; have := (raw_cells (HL.out.fr hW (by simp))).2.2.1; go_simp) ?_
        go_frame
        refine q_val (v := .int .i64 ((count : Int) + 1)) rfl (by intro w' hW; go_simp; try exact IntWalk.i64_in _ (by omega)) ?_
        go_frame
        refine q_val (v := .int .i64 (m : Int)) rfl (by intro w' hW; go_simp; exact HMC.out) ?_
        go_frame
        refine q_call (f := 37) (args := #[.string (str [0]), .int .i64 ((64 : Nat) : Int)]) (v := .string Z) rfl (by intro w'; go_simp; try rfl) (fun w' _ => hrp w') ?_
        go_frame
        refine wpQuiet_nil ?_
        intro w1 hF1
        have l0 := (raw_cells (HL.out.fr hF1 (by simp))).1
        have hrr := hrr w1 hF1
        have hrh := hrh w1 hF1
        go_wp2_with (first
          | (go_at_call 28; refine hrr.mono ?_; rintro e w2 ⟨rfl, rfl⟩; clear hrr)
          | (go_at_call 16; refine hrh.mono ?_; rintro e w3 ⟨rfl, hF3⟩; clear hrh
             have hF4 : Fr [] w (w3.alloc (.cells #[.int .i64 0, .int .i64 0, .int .i64 0] 45)) := (hF1.trans hF3).alloc _
             have l0 := (raw_cells (HL.out.fr hF4 (by simp))).1
             have hwr := write_c (HD.out.fr hF4 (by simp) (by simp) (by simp)) (m : Int) Z)
          | (go_at_call 31; refine hwr.mono ?_; rintro e w5 ⟨rfl, hD5, hF5⟩; rw [HW0.out]; rw [HD1.out] at hD5; have hfl := flush_c hD5; clear hwr; have l0 := (raw_cells ((HL.out.fr hF4 (by simp)).fr hF5 (by simp [h1, h3]))).1)
          | (go_at_call 32; refine hfl.mono ?_; rintro e w6 ⟨rfl, hD6, hF6⟩; clear hfl))
        go_ret
        rw [HR2.out]
        exact ⟨rfl, hD6, (hF4.any.trans (hF5.mono (by simp))).trans hF6⟩
      · have HR2 : Hid (R = d.write (m : Int) Z) := Lib.hid (by rw [← HRR.out]; unfold Dv.wflush; rw [if_neg hw0])
        have hne : ((d.write (m : Int) Z).2 != 0) = true := by simpa using hw0
        clear hHR hp hz hw0
        go_enter Try.func19, Try.ntmps19
        go_wp2
        refine wp_region_tail 8 (by kernel_rfl) (by kernel_rfl) ?_
        refine q_val rfl (by intro w' _; go_simp; rfl) ?_
        go_frame
        refine q_val rfl (by intro w' _; go_simp; rfl) ?_
        go_frame
        refine q_val rfl (by intro w' _; go_simp; rfl) ?_
        go_frame
        refine q_val rfl (by intro w' _; go_simp; rfl) ?_
        go_frame
        refine q_val (v := .int .i64 (count : Int)) rfl (by intro w' hW; have := (raw_cells (HL.out.fr hW (by simp))).2.2.1; go_simp) ?_
        go_frame
        refine q_val (v := .int .i64 ((count : Int) + 1)) rfl (by intro w' hW; go_simp; try exact IntWalk.i64_in _ (by omega)) ?_
        go_frame
        refine q_val (v := .int .i64 (m : Int)) rfl (by intro w' hW; go_simp; exact HMC.out) ?_
        go_frame
        refine q_call (f := 37) (args := #[.string (str [0]), .int .i64 ((64 : Nat) : Int)]) (v := .string Z) rfl (by intro w'; go_simp; try rfl) (fun w' _ => hrp w') ?_
        go_frame
        refine wpQuiet_nil ?_
        intro w1 hF1
        have l0 := (raw_cells (HL.out.fr hF1 (by simp))).1
        have hrr := hrr w1 hF1
        have hrh := hrh w1 hF1
        go_wp2_with (first
          | (go_at_call 28; refine hrr.mono ?_; rintro e w2 ⟨rfl, rfl⟩; clear hrr)
          | (go_at_call 16; refine hrh.mono ?_; rintro e w3 ⟨rfl, hF3⟩; clear hrh
             have hF4 : Fr [] w (w3.alloc (.cells #[.int .i64 0, .int .i64 0, .int .i64 0] 45)) := (hF1.trans hF3).alloc _
             have l0 := (raw_cells (HL.out.fr hF4 (by simp))).1
             have hwr := write_c (HD.out.fr hF4 (by simp) (by simp) (by simp)) (m : Int) Z)
          | (go_at_call 31; refine hwr.mono ?_; rintro e w5 ⟨rfl, hD5, hF5⟩; clear hwr))
        go_ret
        rw [HR2.out]
        exact ⟨rfl, hD5, hF4.any.trans (hF5.mono (by simp))⟩
end

end Go.Proofs.Ytiojkakmlbfiiaa
