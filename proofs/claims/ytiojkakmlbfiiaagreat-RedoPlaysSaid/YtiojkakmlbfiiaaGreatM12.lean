/- The program's log: Open. -/
import Derived.Test.YtiojkakmlbfiiaaGreatM07
import Derived.Test.YtiojkakmlbfiiaaGreatM09
import Derived.Test.YtiojkakmlbfiiaaGreatM11
/- The program's log: clean. -/
namespace Go.Proofs.YtiojkakmlbfiiaaGreat
open Go.RowKit
open Sp

theorem zeros_str : str (List.replicate 64 (0 : UInt8)) = zeros := rfl

section
variable {w : World} {bl bd bo bm sz count area long : Nat} {tail : ByteArray} {v : Value} {many waits : Nat} {d : Dv}

theorem parse_one {size : Nat} {s : ByteArray} {c a l : Nat} (h : parseHead size s = some (c, a, l)) : 1 ≤ c ∧ c ≤ 4611686018427387904 ∧ a ≤ 1 ∧ l ≤ size := by
  unfold parseHead at h
  simp only at h
  split at h
  · cases h
  · rename_i hc
    split at h
    · simp only [Option.some.injEq, Prod.mk.injEq] at h
      obtain ⟨rfl, rfl, rfl⟩ := h
      simp only [not_or] at hc
      omega
    · cases h

set_option maxHeartbeats 4000000 in
set_option maxRecDepth 100000 in
theorem clean_c (hD : DevAt w bd bo bm d) (h : Blk w bl (rawLog bd sz count area long tail v many waits)) (h1 : bl ≠ bd) (h2 : bl ≠ bo) (h3 : bl ≠ bm) (hs : sz ≤ 1023) (hsz : sz = (d.on.length - 2) / 2) (hn2 : 2 ≤ d.on.length) (hdn : d.down = false) (hc : count + 1 ≤ 9223372036854775807) :
    Calls Tryz.prog 36 #[.pointer (some ⟨bl, 0, none⟩)] w fun e w' => e = .returned (.int .i64 (d.bareNext count).2) ∧ DevAt w' bd bo bm (d.bareNext count).1 ∧ Fr [bd, bo, bm] w w' := by
  obtain ⟨R, hR⟩ : ∃ R, d.bareNext count = R := ⟨_, rfl⟩
  rw [hR]
  obtain ⟨m, hm⟩ : ∃ m, (count + 1) % 2 = m := ⟨_, rfl⟩
  have hml : m < d.on.length := by omega
  have hrd := read_ok hdn m hml
  have hHR : Hid ((if d.text m = zeros then (d, 0) else if (parseHead (64 * sz) (d.text m)).isSome then (d, 0) else d.wflush m zeros) = R) := Lib.hid (by
    rw [← hR]; unfold Dv.bareNext
    rw [hm, hrd, areaOf, ← hsz])
  have hts := text64 hD.wf m hml
  have hrp := fun W' => repeat_c (str [0]) 64 W' (by omega) (by rw [str_size]; simp)
  rw [str_data, repeatL_zero, zeros_str] at hrp
  have hmc : ((count : Int) + 1).tmod 2 = (m : Int) := by rw [Int.tmod_eq_emod_of_nonneg (by omega)]; omega
  have hm1 : (m : Int) ≤ 1 := by omega
  have hm0 : 0 ≤ (m : Int) := by omega
  have hrh := fun W' (hW : Fr [] w W') => rread_c (hD.fr hW (by simp) (by simp) (by simp)) (h.fr hW (by simp)) hs (m : Int)
  have hrhd : d.readHead sz (m : Int) = ((parseHead (64 * sz) (d.text m)).getD (0, 0, 0), 0) := by
    have h0 : d.wrong (m : Int) = 0 := by
      unfold Dv.wrong
      rw [if_neg (by rw [hdn]; simp), if_neg (by omega)]
    simp [Dv.readHead, h0]
  rw [hrhd] at hrh
  have hrr := fun W' (hW : Fr [] w W') => read_c (hD.fr hW (by simp) (by simp) (by simp)) (m : Int)
  rw [hrd] at hrr
  have HD := Lib.hid hD
  have HL := Lib.hid h
  have HMC := Lib.hid hmc
  have hzt : zeros.size = 64 := zeros_size
  have hrr : ∀ W', Fr [] w W' → Calls Tryz.prog 22 #[.pointer (some ⟨bd, 0, none⟩), .int .i64 (m : Int)] W' fun e w' => e = .returned (.tuple #[.string (d.text m), .int .i64 0]) ∧ W' = w' := hrr
  have hrh : ∀ W', Fr [] w W' → Calls Tryz.prog 33 #[.pointer (some ⟨bl, 0, none⟩), .int .i64 (m : Int)] W' fun e w' => e = .returned (.tuple #[headAgg ((parseHead (64 * sz) (d.text m)).getD (0, 0, 0)), .int .i64 0]) ∧ Fr [] W' w' := hrh
  clear hR hrd hrhd hD h hmc hm hml
  generalize d.text m = s at *
  obtain ⟨Z, hZ⟩ : ∃ Z, zeros = Z := ⟨_, rfl⟩
  rw [hZ] at hHR hrp hzt
  have HZ := Lib.hid hZ
  clear hZ
  by_cases hz : s = Z
  · have HRR : Hid (R = (d, 0)) := Lib.hid (by rw [← hHR.out, if_pos hz])
    have hzl : s.toList = Z.toList := by rw [hz]
    clear hHR hrh
    go_enter Tryz.func36, Tryz.ntmps36
    go_wp2
    refine wp_region_tail 8 (by kernel_rfl) (by kernel_rfl) ?_
    refine q_val rfl (by intro w' _; go_simp; rfl) ?_
    go_frame
    refine q_val rfl (by intro w' _; go_simp; rfl) ?_
    go_frame
    refine q_val rfl (by intro w' _; go_simp; rfl) ?_
    go_frame
    refine q_val rfl (by intro w' _; go_simp; rfl) ?_
    go_frame
    refine q_val (v := .int .i64 (count : Int)) rfl (by intro w' hW; have := (raw_cells (HL.out.fr hW (by simp))).2.2.1; go_simp) ?_
    go_frame
    refine q_val (v := .int .i64 ((count : Int) + 1)) rfl (by intro w' hW; go_simp; try exact IntWalk.i64_in _ (by omega)) ?_
    go_frame
    refine q_val (v := .int .i64 (m : Int)) rfl (by intro w' hW; go_simp; exact HMC.out) ?_
    go_frame
    refine q_call (f := 68) (args := #[.string (str [0]), .int .i64 ((64 : Nat) : Int)]) (v := .string Z) rfl (by intro w'; go_simp; try rfl) (fun w' _ => hrp w') ?_
    go_frame
    refine wpQuiet_nil ?_
    intro w1 hF1
    have l0 := (raw_cells (HL.out.fr hF1 (by simp))).1
    have hrr := hrr w1 hF1
    go_wp2_with (go_at_call 22; refine hrr.mono ?_; rintro e w2 ⟨rfl, rfl⟩; clear hrr)
    go_ret
    rw [HRR.out]
    exact ⟨rfl, HD.out.fr hF1 (by simp) (by simp) (by simp), hF1.any⟩
  · have hzl : ¬ s.toList = Z.toList := fun e => hz (by rw [Lib.toList_data, Lib.toList_data] at e; exact ba_ext e)
    have hzb : (s.toList == Z.toList) = false := by simpa using hzl
    rw [if_neg hz] at hHR
    cases hp : parseHead (64 * sz) s with
    | some h =>
      obtain ⟨c, a, l⟩ := h
      have HRR : Hid (R = (d, 0)) := Lib.hid (by rw [← hHR.out, hp]; rfl)
      have hc1 : 0 < c := by have := parse_one hp; omega
      rw [hp] at hrh
      simp only [Option.getD_some, headAgg] at hrh
      clear hHR hp hz
      go_enter Tryz.func36, Tryz.ntmps36
      go_wp2
      refine wp_region_tail 8 (by kernel_rfl) (by kernel_rfl) ?_
      refine q_val rfl (by intro w' _; go_simp; rfl) ?_
      go_frame
      refine q_val rfl (by intro w' _; go_simp; rfl) ?_
      go_frame
      refine q_val rfl (by intro w' _; go_simp; rfl) ?_
      go_frame
      refine q_val rfl (by intro w' _; go_simp; rfl) ?_
      go_frame
      refine q_val (v := .int .i64 (count : Int)) rfl (by intro w' hW; have := (raw_cells (HL.out.fr hW (by simp))).2.2.1; go_simp) ?_
      go_frame
      refine q_val (v := .int .i64 ((count : Int) + 1)) rfl (by intro w' hW; go_simp; try exact IntWalk.i64_in _ (by omega)) ?_
      go_frame
      refine q_val (v := .int .i64 (m : Int)) rfl (by intro w' hW; go_simp; exact HMC.out) ?_
      go_frame
      refine q_call (f := 68) (args := #[.string (str [0]), .int .i64 ((64 : Nat) : Int)]) (v := .string Z) rfl (by intro w'; go_simp; try rfl) (fun w' _ => hrp w') ?_
      go_frame
      refine wpQuiet_nil ?_
      intro w1 hF1
      have l0 := (raw_cells (HL.out.fr hF1 (by simp))).1
      have hrr := hrr w1 hF1
      have hrh := hrh w1 hF1
      go_wp2_with (first
        | (go_at_call 22; refine hrr.mono ?_; rintro e w2 ⟨rfl, rfl⟩; clear hrr)
        | (go_at_call 33; refine hrh.mono ?_; rintro e w3 ⟨rfl, hF3⟩; clear hrh))
      go_ret
      rw [HRR.out]
      have hF := (hF1.trans hF3).alloc (.cells #[.int .i64 (c : Int), .int .i64 (a : Int), .int .i64 (l : Int)] 69)
      exact ⟨rfl, HD.out.fr hF (by simp) (by simp) (by simp), hF.any⟩
    | none =>
      rw [hp] at hrh
      simp only [Option.getD_none, headAgg] at hrh
      have hrh : ∀ W', Fr [] w W' → Calls Tryz.prog 33 #[.pointer (some ⟨bl, 0, none⟩), .int .i64 (m : Int)] W' fun e w' => e = .returned (.tuple #[.agg #[.int .i64 0, .int .i64 0, .int .i64 0], .int .i64 0]) ∧ Fr [] W' w' := hrh
      have HRR : Hid (d.wflush m Z = R) := Lib.hid (by rw [← hHR.out, hp]; rfl)
      by_cases hw0 : (d.write (m : Int) Z).2 = 0
      · have HR2 : Hid (R = (d.write (m : Int) Z).1.flush) := Lib.hid (by rw [← HRR.out]; unfold Dv.wflush; rw [if_pos hw0])
        generalize hd1 : (d.write (m : Int) Z).1 = d1 at *
        have HW0 := Lib.hid hw0
        have HD1 := Lib.hid hd1
        clear hHR hp hz hw0 hd1
        go_enter Tryz.func36, Tryz.ntmps36
        go_wp2
        refine wp_region_tail 8 (by kernel_rfl) (by kernel_rfl) ?_
        refine q_val rfl (by intro w' _; go_simp; rfl) ?_
        go_frame
        refine q_val rfl (by intro w' _; go_simp; rfl) ?_
        go_frame
        refine q_val rfl (by intro w' _; go_simp; rfl) ?_
        go_frame
        refine q_val rfl (by intro w' _; go_simp; rfl) ?_
        go_frame
        refine q_val (v := .int .i64 (count : Int)) rfl (by intro w' hW; have := (raw_cells (HL.out.fr hW (by simp))).2.2.1; go_simp) ?_
        go_frame
        refine q_val (v := .int .i64 ((count : Int) + 1)) rfl (by intro w' hW; go_simp; try exact IntWalk.i64_in _ (by omega)) ?_
        go_frame
        refine q_val (v := .int .i64 (m : Int)) rfl (by intro w' hW; go_simp; exact HMC.out) ?_
        go_frame
        refine q_call (f := 68) (args := #[.string (str [0]), .int .i64 ((64 : Nat) : Int)]) (v := .string Z) rfl (by intro w'; go_simp; try rfl) (fun w' _ => hrp w') ?_
        go_frame
        refine wpQuiet_nil ?_
        intro w1 hF1
        have l0 := (raw_cells (HL.out.fr hF1 (by simp))).1
        have hrr := hrr w1 hF1
        have hrh := hrh w1 hF1
        go_wp2_with (first
          | (go_at_call 22; refine hrr.mono ?_; rintro e w2 ⟨rfl, rfl⟩; clear hrr)
          | (go_at_call 33; refine hrh.mono ?_; rintro e w3 ⟨rfl, hF3⟩; clear hrh
             have hF4 : Fr [] w (w3.alloc (.cells #[.int .i64 0, .int .i64 0, .int .i64 0] 69)) := (hF1.trans hF3).alloc _
             have l0 := (raw_cells (HL.out.fr hF4 (by simp))).1
             have hwr := write_c (HD.out.fr hF4 (by simp) (by simp) (by simp)) (m : Int) Z)
          | (go_at_call 57; refine hwr.mono ?_; rintro e w5 ⟨rfl, hD5, hF5⟩; rw [HW0.out]; rw [HD1.out] at hD5; have hfl := flush_c hD5; clear hwr; have l0 := (raw_cells ((HL.out.fr hF4 (by simp)).fr hF5 (by simp [h1, h3]))).1)
          | (go_at_call 58; refine hfl.mono ?_; rintro e w6 ⟨rfl, hD6, hF6⟩; clear hfl))
        go_ret
        rw [HR2.out]
        exact ⟨rfl, hD6, (hF4.any.trans (hF5.mono (by simp))).trans hF6⟩
      · have HR2 : Hid (R = d.write (m : Int) Z) := Lib.hid (by rw [← HRR.out]; unfold Dv.wflush; rw [if_neg hw0])
        have hne : ((d.write (m : Int) Z).2 != 0) = true := by simpa using hw0
        clear hHR hp hz hw0
        go_enter Tryz.func36, Tryz.ntmps36
        go_wp2
        refine wp_region_tail 8 (by kernel_rfl) (by kernel_rfl) ?_
        refine q_val rfl (by intro w' _; go_simp; rfl) ?_
        go_frame
        refine q_val rfl (by intro w' _; go_simp; rfl) ?_
        go_frame
        refine q_val rfl (by intro w' _; go_simp; rfl) ?_
        go_frame
        refine q_val rfl (by intro w' _; go_simp; rfl) ?_
        go_frame
        refine q_val (v := .int .i64 (count : Int)) rfl (by intro w' hW; have := (raw_cells (HL.out.fr hW (by simp))).2.2.1; go_simp) ?_
        go_frame
        refine q_val (v := .int .i64 ((count : Int) + 1)) rfl (by intro w' hW; go_simp; try exact IntWalk.i64_in _ (by omega)) ?_
        go_frame
        refine q_val (v := .int .i64 (m : Int)) rfl (by intro w' hW; go_simp; exact HMC.out) ?_
        go_frame
        refine q_call (f := 68) (args := #[.string (str [0]), .int .i64 ((64 : Nat) : Int)]) (v := .string Z) rfl (by intro w'; go_simp; try rfl) (fun w' _ => hrp w') ?_
        go_frame
        refine wpQuiet_nil ?_
        intro w1 hF1
        have l0 := (raw_cells (HL.out.fr hF1 (by simp))).1
        have hrr := hrr w1 hF1
        have hrh := hrh w1 hF1
        go_wp2_with (first
          | (go_at_call 22; refine hrr.mono ?_; rintro e w2 ⟨rfl, rfl⟩; clear hrr)
          | (go_at_call 33; refine hrh.mono ?_; rintro e w3 ⟨rfl, hF3⟩; clear hrh
             have hF4 : Fr [] w (w3.alloc (.cells #[.int .i64 0, .int .i64 0, .int .i64 0] 69)) := (hF1.trans hF3).alloc _
             have l0 := (raw_cells (HL.out.fr hF4 (by simp))).1
             have hwr := write_c (HD.out.fr hF4 (by simp) (by simp) (by simp)) (m : Int) Z)
          | (go_at_call 57; refine hwr.mono ?_; rintro e w5 ⟨rfl, hD5, hF5⟩; clear hwr))
        go_ret
        rw [HR2.out]
        exact ⟨rfl, hD5, hF4.any.trans (hF5.mono (by simp))⟩
end

end Go.Proofs.YtiojkakmlbfiiaaGreat

/- The program's log: Open. -/
namespace Go.Proofs.YtiojkakmlbfiiaaGreat
open Go.RowKit
open Sp

theorem nextL_frame (r : List UInt8) (h : (nextL r).1 = 0) : r.take ((nextL r).2.length + 6) = frameL (nextL r).2 ∧ (nextL r).2.length ≤ 4096 := by
  unfold nextL at h ⊢
  split at h
  · cases h
  · simp only at h ⊢
    rw [if_neg (by assumption)]
    split at h
    · cases h
    · rename_i h4
      rw [if_neg h4]
      split at h
      · cases h
      · rename_i h6
        rw [if_neg h6]
        split at h
        · rename_i hf
          rw [if_pos hf]
          have hl : ((r.drop 2).take ((r.getD 0 0).toNat + 256 * (r.getD 1 0).toNat)).length = (r.getD 0 0).toNat + 256 * (r.getD 1 0).toNat := by
            rw [List.length_take, List.length_drop]; omega
          constructor
          · simp only [hl]; exact hf.symm
          · simp only [hl]; omega
        · cases h

theorem allL_frames : ∀ (n : Nat) (r : List UInt8) (ts : List ByteArray), r.length ≤ n → allL r = some ts → r = framesL ts ∧ ∀ t ∈ ts, t.size ≤ 4096
  | n, r, ts, hn, h => by
    by_cases hr : r = []
    · subst hr
      rw [allL_nil] at h; cases h
      exact ⟨rfl, by simp⟩
    · rw [allL_step r hr] at h
      split at h
      · rename_i h0
        have hl := nextL_len r h0
        obtain ⟨hf, h4⟩ := nextL_frame r h0
        cases hx : allL (r.drop ((nextL r).2.length + 6)) with
        | none => rw [hx] at h; cases h
        | some us =>
          rw [hx] at h
          cases n with
          | zero => exact absurd (List.eq_nil_of_length_eq_zero (by omega)) hr
          | succ n =>
            obtain ⟨h1, h2⟩ := allL_frames n _ us (by rw [List.length_drop]; omega) hx
            simp only [Option.map_some, Option.some.injEq] at h
            subst h
            constructor
            · rw [framesL_cons, str_data, ← hf, ← h1, List.take_append_drop]
            · intro t ht
              rcases List.mem_cons.1 ht with rfl | ht
              · rw [str_size]; exact h4
              · exact h2 t ht
      · cases h

theorem stored_len {d : Dv} (hd : d.Wf) (area long : Nat) (ha : area ≤ 1) (hl : long ≤ 64 * ((d.on.length - 2) / 2)) : (d.stored area long).length = long := by
  obtain ⟨K, hK⟩ : ∃ K, (long + 63) / 64 = K := ⟨_, rfl⟩
  rw [Dv.stored_cat d area long K (by omega) (by intro i hi; omega) (by omega), List.length_take]
  rcases Nat.eq_zero_or_pos K with h0 | h0
  · subst h0; simp [Dv.cat]; omega
  · rw [cat_len hd _ _ (by rcases (show area = 0 ∨ area = 1 by omega) with rfl | rfl <;> omega)]
    omega

namespace Sp
def Dv.upto (d : Dv) : Nat → Nat × Nat × Nat
  | 0 => (0, 0, 0)
  | k + 1 => let h := (d.head k).getD (0, 0, 0); if (d.upto k).1 < h.1 then h else d.upto k

theorem Dv.head_pos {d : Dv} {i : Nat} {h : Nat × Nat × Nat} (e : d.head i = some h) : 1 ≤ h.1 ∧ h.1 ≤ 4611686018427387904 ∧ h.2.1 ≤ 1 ∧ h.2.2 ≤ areaOf d.on.length := by
  obtain ⟨c, a, l⟩ := h; exact parse_one e

theorem Dv.upto_two (d : Dv) : d.upto 2 = d.best.getD (0, 0, 0) ∧ (d.best = none ↔ (d.upto 2).1 = 0) := by
  unfold Dv.best
  cases h0 : d.head 0 with
  | none =>
    cases h1 : d.head 1 with
    | none => simp [Dv.upto, h0, h1]
    | some b =>
      have := (Dv.head_pos h1).1
      simp [Dv.upto, h0, h1]
      constructor
      · intro h; omega
      · split <;> omega
  | some a =>
    have ha := (Dv.head_pos h0).1
    cases h1 : d.head 1 with
    | none =>
      simp only [Dv.upto, h0, h1, Option.getD_some, Option.getD_none]
      rw [if_pos (show (0, 0, 0).1 < a.1 from by show 0 < a.1; omega), if_neg (by show ¬ a.1 < 0; omega)]
      exact ⟨rfl, by simp; omega⟩
    | some b =>
      have hb := (Dv.head_pos h1).1
      simp only [Dv.upto, h0, h1, Option.getD_some]
      rw [if_pos (show (0, 0, 0).1 < a.1 from by show 0 < a.1; omega)]
      by_cases hab : a.1 < b.1
      · simp only [if_pos hab]; exact ⟨rfl, by simp; omega⟩
      · simp only [if_neg hab]; exact ⟨rfl, by simp; omega⟩

theorem Dv.upto_ok (d : Dv) : ∀ k, (d.upto k).1 ≤ 4611686018427387904 ∧ (d.upto k).2.1 ≤ 1 ∧ (d.upto k).2.2 ≤ areaOf d.on.length
  | 0 => ⟨Nat.zero_le _, Nat.zero_le _, Nat.zero_le _⟩
  | k + 1 => by
    unfold Dv.upto
    simp only
    split
    · cases h : d.head k with
      | none => exact ⟨Nat.zero_le _, Nat.zero_le _, Nat.zero_le _⟩
      | some x => exact (Dv.head_pos h).2
    · exact d.upto_ok k
end Sp

theorem Dv.flush_ok {d : Dv} (h : d.flush.2 = 0) : d.flush.1.down = false := by
  unfold Dv.flush at h ⊢
  by_cases h1 : d.down = true
  · rw [if_pos h1] at h; cases h
  · rw [if_neg h1] at h ⊢
    by_cases h2 : d.burn.down = true
    · rw [if_pos h2] at h; cases h
    · rw [if_neg h2]; simpa [Dv.clean] using h2

theorem Dv.burn_on (d : Dv) : d.burn.on = d.on := by unfold Dv.burn; split <;> rfl

theorem Dv.flush_len {d : Dv} (hd : d.Wf) : d.flush.1.on.length = d.on.length := by
  unfold Dv.flush
  split
  · rfl
  · split
    · rw [Dv.burn_on]
    · show (over d.burn.on d.burn.nw).length = _
      rw [over_len _ _ hd.burn.len, Dv.burn_on]

theorem Dv.wflush_len {d : Dv} (hd : d.Wf) (i : Nat) (s : ByteArray) : (d.wflush i s).1.on.length = d.on.length := by
  unfold Dv.wflush
  split
  · rw [Dv.flush_len (hd.write _ _), Dv.write_len]
  · rw [Dv.write_len]

theorem Dv.wflush_ok {d : Dv} {i : Nat} {s : ByteArray} (h : (d.wflush i s).2 = 0) : (d.wflush i s).1.down = false := by
  unfold Dv.wflush at h ⊢
  split
  · rename_i h0
    rw [if_pos h0] at h
    exact Dv.flush_ok h
  · rename_i h0
    rw [if_neg h0] at h
    exact absurd h h0

theorem fr_drop {w w' : World} {bl bd bo bm : Nat} (h : w.heap.size = bl) (hF : Fr [bd, bo, bm, bl] w w') : Fr [bd, bo, bm] w w' :=
  ⟨hF.os, hF.tape, hF.output, hF.size, fun k hk hs => hF.block k hk (by
    simp only [List.mem_cons, List.not_mem_nil, or_false, not_or] at hs ⊢
    exact ⟨hs.1, hs.2.1, hs.2.2, by omega⟩)⟩

def OpenPost (w : World) (bd bo bm : Nat) (d : Dv) (r : Dv × Option Lg × Int) (e : Ending) (w' : World) : Prop :=
  DevAt w' bd bo bm r.1 ∧ Fr [bd, bo, bm] w w' ∧
  (r.2.1 = none → e = .returned (.tuple #[.pointer none, .int .i64 r.2.2])) ∧
  (∀ g, r.2.1 = some g → ∃ bl v, e = .returned (.tuple #[.pointer (some ⟨bl, 0, none⟩), .int .i64 r.2.2]) ∧ w.heap.size ≤ bl ∧ LogAt w' bl bd bo bm ((d.on.length - 2) / 2) g v)

section
variable {w : World} {bd bo bm : Nat} {d : Dv}

set_option maxHeartbeats 8000000 in
set_option maxRecDepth 100000 in
theorem open_c (hD : DevAt w bd bo bm d) : Calls Tryz.prog 11 #[.pointer (some ⟨bd, 0, none⟩)] w (OpenPost w bd bo bm d (openLog d)) := by
  obtain ⟨RS, hRS⟩ : ∃ RS, openLog d = RS := ⟨_, rfl⟩
  rw [hRS]
  have HRS := Lib.hid hRS
  have HD := Lib.hid hD
  have hsz := size_c hD
  have hle := hD.wf.most
  have hb1 := hD.blk.lt
  have hb2 := hD.byt.lt
  have hb3 := hD.map.lt
  clear hRS hD
  obtain ⟨n, hn⟩ : ∃ n, d.on.length = n := ⟨_, rfl⟩
  rw [hn] at hsz hle
  have HN := Lib.hid hn
  clear hn
  by_cases h4 : n < 4
  · have HR : Hid (RS = (d, none, 4)) := Lib.hid (by rw [← HRS.out]; unfold openLog; rw [if_pos (by rw [HN.out]; exact h4)])
    go_enter Tryz.func11, Tryz.ntmps11
    go_wp2_with (go_at_call 32; refine hsz.mono ?_; rintro e w' ⟨rfl, rfl⟩)
    go_ret2
    rw [HR.out]
    exact ⟨HD.out, Fr.refl _ _, fun _ => rfl, fun g hg => by cases hg⟩
  obtain ⟨sz, hs⟩ : ∃ sz, (n - 2) / 2 = sz := ⟨_, rfl⟩
  have hs1 : sz ≤ 1023 := by omega
  have hq : ((n : Int) - 2).tdiv 2 = (sz : Int) := by rw [Int.tdiv_eq_ediv_of_nonneg (by omega)]; omega
  have hn4 : 4 ≤ n := by omega
  have HS := Lib.hid hs
  clear h4 hs
  have hW : Blk (w.alloc (.cells #[.pointer (some ⟨bd, 0, none⟩), .int .i64 ((sz : Int) * 64), .int .i64 0, .int .i64 0, .int .i64 0, .string ⟨#[]⟩, .slice none 0 0, .int .i64 0, .int .i64 0] 71)) w.heap.size (rawLog bd sz 0 0 0 ByteArray.empty (.slice none 0 0) 0 0) := by
    have := Blk.new w [.pointer (some ⟨bd, 0, none⟩), .int .i64 ((sz : Int) * 64), .int .i64 0, .int .i64 0, .int .i64 0, .string ⟨#[]⟩, .slice none 0 0, .int .i64 0, .int .i64 0] 71
    rw [show ((sz : Int) * 64) = ((64 * sz : Nat) : Int) by omega] at this ⊢
    exact this
  have hF0 : Fr [] w (w.alloc (.cells #[.pointer (some ⟨bd, 0, none⟩), .int .i64 ((sz : Int) * 64), .int .i64 0, .int .i64 0, .int .i64 0, .string ⟨#[]⟩, .slice none 0 0, .int .i64 0, .int .i64 0] 71)) := (Fr.refl _ _).alloc _
  have HW := Lib.hid hW
  have HF0 := Lib.hid hF0
  clear hW hF0
  by_cases hdn : d.down = true
  · have HR : Hid (RS = (d, none, 90)) := Lib.hid (by rw [← HRS.out]; unfold openLog; rw [if_neg (by have := HN.out; omega), if_pos hdn])
    have hrh : ∀ k : Int, d.readHead sz k = ((0, 0, 0), 90) := by intro k; unfold Dv.readHead Dv.wrong; rw [if_pos hdn, if_neg (by omega)]
    have HRH := Lib.hid hrh
    clear hrh hdn
    go_enter Tryz.func11, Tryz.ntmps11
    go_wp2_with (go_at_call 32; refine hsz.mono ?_; rintro e w' ⟨rfl, rfl⟩)
    generalize w.alloc (.cells #[.pointer (some ⟨bd, 0, none⟩), .int .i64 ((sz : Int) * 64), .int .i64 0, .int .i64 0, .int .i64 0, .string ⟨#[]⟩, .slice none 0 0, .int .i64 0, .int .i64 0] 71) = W at HW HF0 ⊢
    obtain ⟨bl, hbl⟩ : ∃ bl, w.heap.size = bl := ⟨_, rfl⟩
    rw [hbl] at HW ⊢
    have HBL := Lib.hid hbl
    go_loopw [23] (fun i wr => i = .int .i64 0 ∧ Hid (Blk wr bl (rawLog bd sz 0 0 0 ByteArray.empty (.slice none 0 0) 0 0)) ∧ Hid (Fr [] w wr)) (fun i _ => 0)
    case atStart => exact ⟨rfl, HW, HF0⟩
    case round =>
      obtain ⟨rfl, hB, hF⟩ := hrel
      have hr := rread_c (HD.out.fr hF.out (by simp) (by simp) (by simp)) hB.out hs1 0
      rw [HRH.out] at hr
      simp only [headAgg] at hr
      go_wp2_with (go_at_call 33; refine hr.mono ?_; rintro e w' ⟨rfl, hF2⟩)
      go_ret2
      rw [HR.out]
      have hF3 : Fr [] w (w'.alloc (.cells #[.int .i64 0, .int .i64 0, .int .i64 0] 69)) := (hF.out.trans hF2).alloc _
      exact ⟨HD.out.fr hF3 (by simp) (by simp) (by simp), hF3.any, fun _ => rfl, fun g hg => by cases hg⟩
  · rw [Bool.not_eq_true] at hdn
    have hrh : ∀ k : Nat, k < 4 → d.readHead sz (k : Int) = ((d.head k).getD (0, 0, 0), 0) := by
      intro k hk
      have h0 : d.wrong (k : Int) = 0 := by
        unfold Dv.wrong
        rw [if_neg (by rw [hdn]; simp), if_neg (by have := HN.out; omega)]
      unfold Dv.readHead Dv.head areaOf
      rw [if_pos h0, HN.out, HS.out]; rfl
    have HRH := Lib.hid hrh
    have HDN := Lib.hid hdn
    have har : areaOf d.on.length = 64 * sz := by rw [areaOf, HN.out, HS.out]
    have HAR := Lib.hid har
    have HUP := Lib.hid (d.upto_ok)
    have HU2 := Lib.hid (d.upto_two)
    have HRB : Hid (RS = match d.best with
      | none => (if (d.wflush 1 (headText 1 0 0)).2 = 0 then (if ((d.wflush 1 (headText 1 0 0)).1.bareNext 1).2 = 0 then (((d.wflush 1 (headText 1 0 0)).1.bareNext 1).1, some ⟨1, 0, [], [], 0⟩, 0) else (((d.wflush 1 (headText 1 0 0)).1.bareNext 1).1, none, ((d.wflush 1 (headText 1 0 0)).1.bareNext 1).2))
        else ((d.wflush 1 (headText 1 0 0)).1, none, (d.wflush 1 (headText 1 0 0)).2))
      | some (c, a, l) => match allL (d.stored a l) with
        | none => (d, none, 101)
        | some texts => if (d.bareNext c).2 = 0 then ((d.bareNext c).1, some ⟨c, a, d.stored a l, texts, texts.length⟩, 0) else ((d.bareNext c).1, none, (d.bareNext c).2)) := Lib.hid (by
      rw [← HRS.out]; unfold openLog
      rw [if_neg (by have := HN.out; omega), if_neg (by rw [hdn]; simp)]
      rcases d.best with _ | ⟨c, a, l⟩
      · rfl
      · show _ = _
        simp only
        cases allL (d.stored a l) <;> rfl)
    clear hrh hdn har
    go_enter Tryz.func11, Tryz.ntmps11
    go_wp2_with (go_at_call 32; refine hsz.mono ?_; rintro e w' ⟨rfl, rfl⟩)
    generalize w.alloc (.cells #[.pointer (some ⟨bd, 0, none⟩), .int .i64 ((sz : Int) * 64), .int .i64 0, .int .i64 0, .int .i64 0, .string ⟨#[]⟩, .slice none 0 0, .int .i64 0, .int .i64 0] 71) = W at HW HF0 ⊢
    obtain ⟨bl, hbl⟩ : ∃ bl, w.heap.size = bl := ⟨_, rfl⟩
    rw [hbl] at HW hb1 hb2 hb3 ⊢
    have HBL := Lib.hid hbl
    have HNE : Hid (bl ≠ bd ∧ bl ≠ bo ∧ bl ≠ bm) := Lib.hid ⟨by omega, by omega, by omega⟩
    clear hbl hsz
    go_loopw [23] (fun i wr => ∃ k : Nat, k ≤ 2 ∧ i = .int .i64 (k : Int) ∧ Hid (Blk wr bl (rawLog bd sz (d.upto k).1 (d.upto k).2.1 (d.upto k).2.2 ByteArray.empty (.slice none 0 0) 0 0)) ∧ Hid (Fr [] w wr)) (fun i _ => 2 - (intOf i).toNat)
    case atStart => exact ⟨0, by omega, rfl, HW, HF0⟩
    case round =>
      obtain ⟨k, hk, rfl, hB, hF⟩ := hrel
      by_cases hk2 : k < 2
      · have hr := rread_c (HD.out.fr hF.out (by simp) (by simp) (by simp)) hB.out hs1 (k : Int)
        rw [HRH.out k (by omega)] at hr
        have hup : d.upto (k + 1) = if (d.upto k).1 < ((d.head k).getD (0, 0, 0)).1 then (d.head k).getD (0, 0, 0) else d.upto k := rfl
        generalize (d.head k).getD (0, 0, 0) = H at hr hup
        generalize d.upto k = U at *
        simp only [headAgg] at hr
        have HUPK := Lib.hid hup
        have HR := Lib.hid hr
        clear hup hr
        by_cases hlt : U.1 < H.1
        · have hltI : (U.1 : Int) < (H.1 : Int) := by omega
          rw [if_pos hlt] at HUPK
          clear hlt
          go_wp2_with (go_at_call 33; refine HR.out.mono ?_; rintro e w2 ⟨rfl, hF2⟩
                       have hF3 : Hid (Fr [] w (w2.alloc (.cells #[.int .i64 (H.1 : Int), .int .i64 (H.2.1 : Int), .int .i64 (H.2.2 : Int)] 69))) := Lib.hid ((hF.out.trans hF2).alloc _)
                       have HB3 := Lib.hid ((hB.out.fr hF2 (by simp)).alloc (.cells #[.int .i64 (H.1 : Int), .int .i64 (H.2.1 : Int), .int .i64 (H.2.2 : Int)] 69))
                       have l2 := (raw_cells HB3.out).2.2.1
                       have l3 := (raw_cells HB3.out).2.2.2.1
                       have l4 := (raw_cells HB3.out).2.2.2.2.1
                       have f2 := HB3.out.free 2
                       have f3 := HB3.out.free 3
                       have f4 := HB3.out.free 4)
          go_quiet (fail)
          go_wp2
          go_roundw
          case rel => exact ⟨k + 1, by omega, by go_num, Lib.hid (by rw [HUPK.out]; exact raw_head (w := (w2.alloc (.cells #[.int .i64 (H.1 : Int), .int .i64 (H.2.1 : Int), .int .i64 (H.2.2 : Int)] 69)).drewN _) (HB3.out.fr ((Fr.refl [] _).drewN _) (by simp))),
            Lib.hid ((((hF3.out.drewN _).setCell (Or.inr (by rw [HBL.out]; exact Nat.le_refl _)) _).setCell (Or.inr (by rw [HBL.out]; exact Nat.le_refl _)) _).setCell (Or.inr (by rw [HBL.out]; exact Nat.le_refl _)) _)⟩
          case measure => simp [intOf]; omega
        · have hltI : (H.1 : Int) ≤ (U.1 : Int) := by omega
          rw [if_neg hlt] at HUPK
          clear hlt
          go_wp2_with (go_at_call 33; refine HR.out.mono ?_; rintro e w2 ⟨rfl, hF2⟩
                       have hF3 : Hid (Fr [] w (w2.alloc (.cells #[.int .i64 (H.1 : Int), .int .i64 (H.2.1 : Int), .int .i64 (H.2.2 : Int)] 69))) := Lib.hid ((hF.out.trans hF2).alloc _)
                       have HB3 := Lib.hid ((hB.out.fr hF2 (by simp)).alloc (.cells #[.int .i64 (H.1 : Int), .int .i64 (H.2.1 : Int), .int .i64 (H.2.2 : Int)] 69))
                       have l2 := (raw_cells HB3.out).2.2.1)
          go_quiet (fail)
          go_wp2
          go_roundw
          case rel => exact ⟨k + 1, by omega, by go_num, Lib.hid (by rw [HUPK.out]; exact HB3.out.fr ((Fr.refl [] _).drewN _) (by simp)), Lib.hid (hF3.out.drewN _)⟩
          case measure => simp [intOf]; omega
      · obtain rfl : k = 2 := by omega
        clear hk hk2
        have hu2 := HU2.out
        have hok := HUP.out 2
        obtain ⟨⟨c, a, l⟩, hU⟩ : ∃ U, d.upto 2 = U := ⟨_, rfl⟩
        rw [hU] at hu2 hok hB
        simp only at hB hu2 hok
        have HHB := Lib.hid hB.out
        have l2 := (raw_cells hB.out).2.2.1
        have hs2 : sz = (d.on.length - 2) / 2 := by rw [HN.out, HS.out]
        clear hU HU2 HUP hB
        by_cases hc0 : c = 0
        · have hbn : d.best = none := hu2.2.2 hc0
          have hrb := HRB.out
          rw [hbn] at hrb
          simp only at hrb
          subst hc0
          obtain ⟨M, hM⟩ : ∃ M, d.wflush 1 (headText 1 0 0) = M := ⟨_, rfl⟩
          rw [hM] at hrb
          have hMl : M.1.on.length = d.on.length := by rw [← hM]; exact Dv.wflush_len HD.out.wf _ _
          have hMo : M.2 = 0 → M.1.down = false := by rw [← hM]; exact Dv.wflush_ok
          have hmk := fun e0 (he : M.2 = e0) => mark_x (HD.out.fr hF.out (by simp) (by simp) (by simp)) HHB.out HNE.out.1 HNE.out.2.1 HNE.out.2.2 1 0 0 (by omega) (by omega) (by omega) (hM.trans (show M = (M.1, e0) by rw [← he])) 1 0 rfl rfl
          have HMK := Lib.hid hmk
          clear hmk hM hbn hu2 hok
          by_cases hM0 : M.2 = 0
          · rw [if_pos hM0] at hrb
            have hmk := HMK.out 0 hM0
            rw [if_pos rfl] at hmk
            have hMd := hMo hM0
            obtain ⟨Q, hQ⟩ : ∃ Q, M.1.bareNext 1 = Q := ⟨_, rfl⟩
            rw [hQ] at hrb
            have HMK2 := Lib.hid hmk
            have hn2 : 2 ≤ M.1.on.length := by rw [hMl, HN.out]; omega
            have hsM : sz = (M.1.on.length - 2) / 2 := by rw [hMl]; exact hs2
            clear hmk hMo
            have HRB2 := Lib.hid hrb
            have HQ := Lib.hid hQ
            clear hrb hQ HRB
            by_cases hQ0 : Q.2 = 0
            · have HQ0 := Lib.hid hQ0
              have HX : Hid (RS = (Q.1, some ⟨1, 0, [], [], 0⟩, 0)) := Lib.hid (by rw [HRB2.out, if_pos hQ0])
              clear hQ0
              go_wp2_with (first
                | (go_at_call 34; refine HMK2.out.mono ?_; rintro e w3 ⟨rfl, hD3, hF3, hB3⟩; have HB3 := Lib.hid hB3; have hcc := clean_c hD3 hB3 HNE.out.1 HNE.out.2.1 HNE.out.2.2 hs1 hsM hn2 hMd (by omega); rw [HQ.out, HQ0.out] at hcc; clear hB3)
                | (go_at_call 36; refine hcc.mono ?_; rintro e w4 ⟨rfl, hD4, hF4⟩))
              go_ret2
              rw [HX.out]
              have hB4 := HB3.out.fr hF4 (by have := HNE.out; simp; omega)
              refine ⟨hD4, (fr_drop HBL.out (hF.out.any.trans hF3)).trans hF4, fun hg => by (cases hg), fun g hg => ?_⟩
              cases hg
              refine ⟨bl, .slice none 0 0, rfl, by rw [HBL.out]; exact Nat.le_refl _, ?_⟩
              rw [← hs2]
              exact ⟨⟨rfl, Nat.le_refl _, by simp, by simp [framesL], by simp, by simp⟩, hs1, hB4, World.ownsRow_nil _ _ _ _, hb1, hb2, hb3⟩
            · have HQ0 := Lib.hid hQ0
              have hne : (Q.2 != 0) = true := by simpa using hQ0
              have hne2 : (Q.2 == 0) = false := by simpa using hQ0
              have HX : Hid (RS = (Q.1, none, Q.2)) := Lib.hid (by rw [HRB2.out, if_neg hQ0])
              clear hQ0
              go_wp2_with (first
                | (go_at_call 34; refine HMK2.out.mono ?_; rintro e w3 ⟨rfl, hD3, hF3, hB3⟩; have HB3 := Lib.hid hB3; have hcc := clean_c hD3 hB3 HNE.out.1 HNE.out.2.1 HNE.out.2.2 hs1 hsM hn2 hMd (by omega); rw [HQ.out] at hcc; clear hB3)
                | (go_at_call 36; refine hcc.mono ?_; rintro e w4 ⟨rfl, hD4, hF4⟩))
              go_ret2
              rw [HX.out]
              exact ⟨hD4, (fr_drop HBL.out (hF.out.any.trans hF3)).trans hF4, fun _ => rfl, fun g hg => by (cases hg)⟩
          · rw [if_neg hM0] at hrb
            have HX := Lib.hid hrb
            have hmk := HMK.out M.2 rfl
            rw [if_neg hM0] at hmk
            have HMK2 := Lib.hid hmk
            have hne : (M.2 != 0) = true := by simpa using hM0
            have hne2 : (M.2 == 0) = false := by simpa using hM0
            clear hmk hrb hMo HRB hM0
            go_wp2_with (go_at_call 34; refine HMK2.out.mono ?_; rintro e w3 ⟨rfl, hD3, hF3, hB3⟩)
            go_ret2
            rw [HX.out]
            exact ⟨hD3, fr_drop HBL.out (hF.out.any.trans hF3), fun _ => rfl, fun g hg => by (cases hg)⟩
        · have hbn : d.best = some (c, a, l) := by
            rcases hb : d.best with _ | x
            · exact absurd (hu2.2.1 hb) hc0
            · have := hu2.1; rw [hb] at this; simp at this; rw [this]
          have hrb := HRB.out
          rw [hbn] at hrb
          simp only at hrb
          have hl64 : l ≤ 64 * sz := by have := HAR.out; omega
          have hc1 : 1 ≤ c := by omega
          have hcI : ((c : Int) == 0) = false := by simp; omega
          have hDr := HD.out.fr hF.out (by simp) (by simp) (by simp)
          have hld := load_c hDr HHB.out hs1 hs2 hok.2.1 hl64 HDN.out
          have hstl := stored_len HD.out.wf a l hok.2.1 (by rw [← hs2]; exact hl64)
          have hgt := allL_frames (d.stored a l).length (d.stored a l)
          have HLD := Lib.hid hld
          have HSTL := Lib.hid hstl
          have hc62 := hok.1
          have ha1 := hok.2.1
          have HGT := Lib.hid hgt
          clear hld hDr hbn hu2 hok HRB hstl hgt
          obtain ⟨ST, hST⟩ : ∃ ST, d.stored a l = ST := ⟨_, rfl⟩
          rw [hST] at hrb HSTL HGT
          have HLD : Hid (Calls Tryz.prog 35 #[.pointer (some ⟨bl, 0, none⟩)] wr (fun e w' =>
            (∀ x, allL ST = some x → e = .returned (.int .i64 0) ∧ Fr [bl] wr w' ∧ ∃ v', Blk w' bl (rawLog bd sz c a l (str (ST.drop (64 * (l / 64)))) v' x.length 0) ∧ w'.ownsRow wr.heap.size 9 1 v' x.length (strVals x)) ∧
            (allL ST = none → e = .returned (.int .i64 101) ∧ Fr [bl] wr w' ∧ Blk w' bl (rawLog bd sz c a l ByteArray.empty (.slice none 0 0) 0 0)))) := Lib.hid (by
              have := HLD.out; unfold LoadPost at this; rw [hST] at this; exact this)
          clear hST
          cases hA : allL ST with
          | none =>
            rw [hA] at hrb
            have HX := Lib.hid hrb
            have HA := Lib.hid hA
            clear hrb hA
            go_wp2_with (go_at_call 35; refine HLD.out.mono ?_; rintro e w3 ⟨-, hn⟩; obtain ⟨rfl, hF3, hB3⟩ := hn HA.out; clear hn)
            go_ret2
            rw [HX.out]
            have hF4 : Fr [bd, bo, bm] w w3 := fr_drop HBL.out (hF.out.any.trans (hF3.mono (by simp)))
            exact ⟨HD.out.fr (hF.out.any.trans hF3) (by have := HNE.out; simp; omega) (by have := HNE.out; simp; omega) (by have := HNE.out; simp; omega), hF4, fun _ => rfl, fun g hg => by (cases hg)⟩
          | some ts =>
            rw [hA] at hrb
            have HA := Lib.hid hA
            simp only at hrb
            obtain ⟨Q, hQ⟩ : ∃ Q, d.bareNext c = Q := ⟨_, rfl⟩
            rw [hQ] at hrb
            have HRB2 := Lib.hid hrb
            have HQ := Lib.hid hQ
            have hn2 : 2 ≤ d.on.length := by rw [HN.out]; omega
            clear hrb hQ hA
            by_cases hQ0 : Q.2 = 0
            · have HQ0 := Lib.hid hQ0
              have HX : Hid (RS = (Q.1, some ⟨c, a, ST, ts, ts.length⟩, 0)) := Lib.hid (by rw [HRB2.out, if_pos hQ0])
              clear hQ0
              go_wp2_with (first
                | (go_at_call 35; refine HLD.out.mono ?_; rintro e w3 ⟨hs, -⟩; obtain ⟨rfl, hF3, v', hB3, hO3⟩ := hs ts HA.out; have HB3 := Lib.hid hB3; have HO3 := Lib.hid hO3; have hD3 := HD.out.fr (hF.out.any.trans hF3) (by have := HNE.out; simp; omega) (by have := HNE.out; simp; omega) (by have := HNE.out; simp; omega); have hcc := clean_c hD3 hB3 HNE.out.1 HNE.out.2.1 HNE.out.2.2 hs1 hs2 hn2 HDN.out (by omega); rw [HQ.out, HQ0.out] at hcc; clear hB3 hO3 hs)
                | (go_at_call 36; refine hcc.mono ?_; rintro e w4 ⟨rfl, hD4, hF4⟩))
              go_ret2
              rw [HX.out]
              have hB4 := HB3.out.fr hF4 (by have := HNE.out; simp; omega)
              have hble : bl < wr.heap.size := HHB.out.lt
              have hO4 : w4.ownsRow (bl + 1) 9 1 v' ts.length (strVals ts) := own_weak (own_fr HO3.out hF4 (fun x hx => by
                have := (own_base HO3.out x hx).1
                simp; omega)) (by omega)
              refine ⟨hD4, (fr_drop HBL.out (hF.out.any.trans (hF3.mono (by simp)))).trans hF4, fun hg => by (cases hg), fun g hg => ?_⟩
              cases hg
              refine ⟨bl, v', rfl, by rw [HBL.out]; exact Nat.le_refl _, ?_⟩
              rw [← hs2]
              obtain ⟨hg1, hg2⟩ := HGT.out ts (Nat.le_refl _) HA.out
              refine ⟨⟨by show ST = _; rw [List.take_length]; exact hg1, Nat.le_refl _, hg2, by show (framesL ts).length ≤ _; rw [← hg1, HSTL.out]; exact hl64, ha1, hc1⟩, hs1, ?_, hO4, hb1, hb2, hb3⟩
              show Blk w4 bl (rawLog bd sz c a ST.length (str (ST.drop (64 * (ST.length / 64)))) v' ts.length (framesL (ts.drop ts.length)).length)
              rw [HSTL.out, List.drop_length]
              exact hB4
            · have HQ0 := Lib.hid hQ0
              have hne : (Q.2 != 0) = true := by simpa using hQ0
              have hne2 : (Q.2 == 0) = false := by simpa using hQ0
              have HX : Hid (RS = (Q.1, none, Q.2)) := Lib.hid (by rw [HRB2.out, if_neg hQ0])
              clear hQ0
              go_wp2_with (first
                | (go_at_call 35; refine HLD.out.mono ?_; rintro e w3 ⟨hs, -⟩; obtain ⟨rfl, hF3, v', hB3, hO3⟩ := hs ts HA.out; have HB3 := Lib.hid hB3; have hD3 := HD.out.fr (hF.out.any.trans hF3) (by have := HNE.out; simp; omega) (by have := HNE.out; simp; omega) (by have := HNE.out; simp; omega); have hcc := clean_c hD3 hB3 HNE.out.1 HNE.out.2.1 HNE.out.2.2 hs1 hs2 hn2 HDN.out (by omega); rw [HQ.out] at hcc; clear hB3 hO3 hs)
                | (go_at_call 36; refine hcc.mono ?_; rintro e w4 ⟨rfl, hD4, hF4⟩))
              go_ret2
              rw [HX.out]
              exact ⟨hD4, (fr_drop HBL.out (hF.out.any.trans (hF3.mono (by simp)))).trans hF4, fun _ => rfl, fun g hg => by (cases hg)⟩
end

end Go.Proofs.YtiojkakmlbfiiaaGreat
