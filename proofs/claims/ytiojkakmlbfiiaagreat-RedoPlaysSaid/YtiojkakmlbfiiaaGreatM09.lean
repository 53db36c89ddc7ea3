/- The program's log: settle. -/
import Derived.Test.YtiojkakmlbfiiaaGreatM08
/- The program's log: settle. -/
namespace Go.Proofs.YtiojkakmlbfiiaaGreat
open Go.RowKit
open Sp

theorem chunks_nil (n : Nat) : chunks n [] = [] := by cases n <;> rfl

theorem Dv.write_len (d : Dv) (i : Int) (s : ByteArray) : (d.write i s).1.on.length = d.on.length := by
  have hb : d.burn.on = d.on := by unfold Dv.burn; split <;> rfl
  unfold Dv.write
  split
  · split
    · split
      · rw [hb]
      · show d.burn.on.length = _; rw [hb]
    · rfl
  · rfl

theorem writes_step (d : Dv) (base N : Nat) (l : List UInt8) (h : l ≠ []) (hN : 0 < N) :
    d.writes base (chunks N l) = if (d.write (base : Int) (str (padTo (l.take 64)))).2 = 0 then (d.write (base : Int) (str (padTo (l.take 64)))).1.writes (base + 1) (chunks (N - 1) (l.drop 64)) else d.write (base : Int) (str (padTo (l.take 64))) := by
  obtain ⟨n, rfl⟩ : ∃ n, N = n + 1 := ⟨N - 1, by omega⟩
  simp only [chunks, if_neg h, Nat.add_sub_cancel, Dv.writes]

section
variable {w : World} {bl bd bo bm sz count area0 long0 : Nat} {tail0 : ByteArray} {va : Option Addr} {vn vc : Nat} {many waits : Nat} {d : Dv}

theorem mark_x {tail : ByteArray} {v : Value} (hD : DevAt w bd bo bm d) (h : Blk w bl (rawLog bd sz count area0 long0 tail v many waits)) (h1 : bl ≠ bd) (h2 : bl ≠ bo) (h3 : bl ≠ bm) (c a l : Nat) (hc : c ≤ 9223372036854775807) (ha : a < 256) (hl : l ≤ 9223372036854775807)
    {r : Dv} {e0 : Int} (hr : d.wflush (c % 2) (headText c a l) = (r, e0)) (x z : Int) (hx : x = (c : Int)) (hz : z = (l : Int)) :
    Calls Tryz.prog 34 #[.pointer (some ⟨bl, 0, none⟩), .agg #[.int .i64 x, .int .i64 (a : Int), .int .i64 z]] w fun e w' =>
      e = .returned (.int .i64 e0) ∧ DevAt w' bd bo bm r ∧ Fr [bd, bo, bm, bl] w w' ∧
      Blk w' bl (if e0 = 0 then rawLog bd sz c a l tail v many waits else rawLog bd sz count area0 long0 tail v many waits) := by
  subst hx hz
  have := mark_c hD h h1 h2 h3 c a l hc ha hl
  rw [hr] at this
  exact this

set_option maxHeartbeats 8000000 in
set_option maxRecDepth 100000 in
theorem settle_c (hD : DevAt w bd bo bm d) (h : Blk w bl (rawLog bd sz count area0 long0 tail0 (.slice va vn vc) many waits)) (h1 : bl ≠ bd) (h2 : bl ≠ bo) (h3 : bl ≠ bm)
    (hs : sz ≤ 1023) (hsz : sz = (d.on.length - 2) / 2) (area long : Nat) (tail more : List UInt8) (ha : area ≤ 1) (ht : tail.length = long % 64) (hl : long + more.length ≤ 64 * sz) (hc : count + 1 ≤ 9223372036854775807) :
    Calls Tryz.prog 38 #[.pointer (some ⟨bl, 0, none⟩), .int .i64 (area : Int), .int .i64 (long : Int), .string (str tail), .string (str more)] w fun e w' =>
      e = .returned (.int .i64 (d.settle area long count tail more).2) ∧ DevAt w' bd bo bm (d.settle area long count tail more).1 ∧ Fr [bd, bo, bm, bl] w w' ∧
      Blk w' bl (if (d.settle area long count tail more).2 = 0 then rawLog bd sz (count + 1) area (long + more.length) (str ((tail ++ more).drop (64 * ((tail ++ more).length / 64)))) (.slice va vn vc) vn 0
        else rawLog bd sz count area0 long0 tail0 (.slice va vn vc) many waits) := by
  obtain ⟨R, hR⟩ : ∃ R, d.settle area long count tail more = R := ⟨_, rfl⟩
  rw [hR]
  have HR := Lib.hid hR
  clear hR
  have hms : (str more).size = more.length := str_size _
  have hts : (str tail).size = tail.length := str_size _
  have happ : str tail ++ str more = str (tail ++ more) := str_append _ _
  have has : (str (tail ++ more)).size = (tail ++ more).length := str_size _
  generalize hA : tail ++ more = A at *
  have hAl : A.length = tail.length + more.length := by rw [← hA, List.length_append]
  have hbase : ∀ j, (long + 64 * j) / 64 = long / 64 + j := by intro j; omega
  have hfit : ∀ j, 64 * j < A.length → 2 + area * sz + long / 64 + j < d.on.length := by
    intro j hj
    rcases (show area = 0 ∨ area = 1 by omega) with rfl | rfl
    · omega
    · omega
  have HFC := fun W' (hW' : Fr [bd, bm] w W') => first_c (h.fr hW' (by simp [h1, h3])) area ha hs
  have hbs : 2 + area * sz ≤ 2048 := by
    have := hD.wf.most
    rcases (show area = 0 ∨ area = 1 by omega) with rfl | rfl
    · omega
    · omega
  obtain ⟨B, hBB⟩ : ∃ B, 2 + area * sz = B := ⟨_, rfl⟩
  rw [hBB] at hfit hbs
  simp only [hBB] at HFC
  have HBB := Lib.hid hBB
  have HSZ := Lib.hid hsz
  clear hBB hsz
  have HD := Lib.hid hD
  have HL := Lib.hid h
  have HAP := Lib.hid happ
  have HA := Lib.hid hA
  have HT := Lib.hid ht
  have htb : (str tail).size ≤ 63 := by omega
  clear h hD happ ht hA hts
  obtain ⟨n, hn⟩ : ∃ n, A.length = n := ⟨_, rfl⟩
  rw [hn] at has hAl hfit
  have hn1 : n ≤ 65536 := by have := HT.out; omega
  have HW0 : Hid (d.writes (B + long / 64) (chunks n A) = d.writes (B + long / 64 + 0) (chunks (n - 0) (A.drop (64 * 0)))) := Lib.hid rfl
  have HNA := Lib.hid hn
  have HAL := Lib.hid hAl
  clear hn hAl
  obtain ⟨M, hMe⟩ : ∃ M, str more = M := ⟨_, rfl⟩
  rw [hMe] at hms HAP ⊢
  have HM0 : Hid (more ≠ [] → M.toList.isEmpty = false) := Lib.hid (by intro hm; rw [← hMe, Lib.toList_data, str_data]; simpa using hm)
  have HM1 : Hid (more = [] → M.toList.isEmpty = true) := Lib.hid (by intro hm; rw [← hMe, Lib.toList_data, str_data]; simpa using hm)
  have hmb : M.size ≤ 65472 := by omega
  have HMS := Lib.hid hms
  clear hms
  have HM := Lib.hid hMe
  clear hMe
  go_enter Tryz.func38, Tryz.ntmps38
  go_wp2
  rw [HAP.out]
  go_loopw [12] (fun i wr => ∃ (k : Nat) (d' : Dv), 64 * k ≤ n + 63 ∧ i = .int .i64 ((64 * k : Nat) : Int) ∧ Hid (DevAt wr bd bo bm d') ∧ d'.on.length = d.on.length ∧
      Hid (d.writes (B + long / 64) (chunks n A) = d'.writes (B + long / 64 + k) (chunks (n - k) (A.drop (64 * k)))) ∧
      Hid (Blk wr bl (rawLog bd sz count area0 long0 tail0 (.slice va vn vc) many waits)) ∧ Hid (Fr [bd, bm] w wr) ∧ (more = [] → k = 0 ∧ d' = d)) (fun i _ => n + 64 - (intOf i).toNat)
  case atStart => exact ⟨0, d, by omega, rfl, HD, rfl, HW0, HL, Lib.hid (Fr.refl _ _), fun _ => ⟨rfl, rfl⟩⟩
  case round =>
    obtain ⟨k, d', hk, rfl, hD', hlen, hW, hB, hF, hemp⟩ := hrel
    by_cases hgo : more ≠ [] ∧ 64 * k < n
    · obtain ⟨hmne, hlt⟩ := hgo
      have hM0 := HM0.out hmne
      obtain ⟨m, hmd⟩ : ∃ m, min 64 (n - 64 * k) = m := ⟨_, rfl⟩
      have hm1 : 1 ≤ m := by omega
      have hm64 : m ≤ 64 := by omega
      have hmn2 : 64 * k + m ≤ n := by omega
      have hmin : min (n : Int) (64 * (k : Int) + 64) = ((64 * k + m : Nat) : Int) := by omega
      obtain ⟨S, hS⟩ : ∃ S, (str A).extract (64 * k) (64 * k + m) = S := ⟨_, rfl⟩
      have hSs : S.size = m := by rw [← hS, ByteArray.size_extract, has]; omega
      have hSd : S.data.toList = (A.drop (64 * k)).take 64 := by
        rw [← hS, ByteArray.data_extract, Array.toList_extract, str_data, List.extract_eq_take_drop]
        rcases (show m = 64 ∨ n = 64 * k + m by omega) with h | h
        · rw [show 64 * k + m - 64 * k = 64 by omega]
        · have := HNA.out
          rw [List.take_of_length_le (by rw [List.length_drop]; omega), List.take_of_length_le (by rw [List.length_drop]; omega)]
      have hrp := fun W' => repeat_c (str [0]) (64 - m) W' (by omega) (by rw [str_size]; simp; omega)
      rw [str_data, repeatL_zero, show ((64 - m : Nat) : Int) = 64 - (m : Int) by omega] at hrp
      obtain ⟨Z, hZ⟩ : ∃ Z, str (List.replicate (64 - m) (0 : UInt8)) = Z := ⟨_, rfl⟩
      have hZs : Z.size = 64 - m := by rw [← hZ, str_size, List.length_replicate]
      rw [hZ] at hrp
      have hTT : S ++ Z = str (padTo ((A.drop (64 * k)).take 64)) := by
        rw [← str_of S, ← hZ, str_append, hSd, padTo]
        have : ((A.drop (64 * k)).take 64).length = m := by rw [← hSd]; exact hSs
        rw [this]
      have HS := Lib.hid hS
      have HTT := Lib.hid hTT
      have hlt' : (64 * (k : Int)) < (n : Int) := by omega
      clear hS hSd hZ hTT hmd
      go_wp2_with (go_at_call 68; refine (hrp _).mono ?_; rintro e w1 ⟨rfl, hF1⟩)
      rw [HS.out, HTT.out]
      have hB1 := Lib.hid (hB.out.fr hF1 (by simp))
      have hD1 := Lib.hid (hD'.out.fr hF1 (by simp) (by simp) (by simp))
      have hfc := fun W' (hW' : Fr [] w1 W') => HFC W' ((hF.out.trans hF1.any).trans hW'.any)
      obtain ⟨y1, hy1⟩ : ∃ y : Int, (long : Int) + 64 * (k : Int) = y := ⟨_, rfl⟩
      obtain ⟨y2, hy2⟩ : ∃ y : Int, y1.tdiv 64 = y := ⟨_, rfl⟩
      have hy2' : y2 = ((long / 64 + k : Nat) : Int) := by rw [← hy2, ← hy1, Int.tdiv_eq_ediv_of_nonneg (by omega)]; omega
      obtain ⟨y3, hy3⟩ : ∃ y : Int, ((B : Nat) : Int) + y2 = y := ⟨_, rfl⟩
      have hy3' : y3 = ((B + long / 64 + k : Nat) : Int) := by rw [← hy3, hy2']; omega
      have hfk := hfit k hlt
      have hln := HD.out.wf.most
      have hb0 : 0 ≤ ((B : Nat) : Int) := by omega
      have hb1 : ((B : Nat) : Int) ≤ 4096 := by omega
      have hy20 : 0 ≤ y2 := by omega
      have hy10 : 0 ≤ y1 := by omega
      have hy11 : y1 ≤ 200000 := by have := HT.out; omega
      have hy30 : 0 ≤ y3 := by omega
      have hy31 : y3 ≤ 4096 := by omega
      have hy21 : y2 ≤ 4096 := by omega
      have HY1 := Lib.hid hy1
      have HY2 := Lib.hid hy2
      have HY3 := Lib.hid hy3
      have HY3' := Lib.hid hy3'
      have HY2' := Lib.hid hy2'
      clear hy1 hy2 hy3 hy3' hy2' hrp
      have hst := writes_step d' (B + long / 64 + k) (n - k) (A.drop (64 * k)) (by
        intro e
        have := congrArg List.length e
        rw [List.length_drop, HNA.out] at this
        simp at this; omega) (by omega)
      rw [List.drop_drop] at hst
      generalize str (padTo ((A.drop (64 * k)).take 64)) = T at *
      have hwr := fun W' (hW' : Fr [] w1 W') => write_c (hD1.out.fr hW' (by simp) (by simp) (by simp)) ((B + long / 64 + k : Nat) : Int) T
      have hl2 := Dv.write_len d' ((B + long / 64 + k : Nat) : Int) T
      by_cases hw0 : (d'.write ((B + long / 64 + k : Nat) : Int) T).2 = 0
      · rw [if_pos hw0] at hst
        rw [hw0] at hwr
        generalize (d'.write ((B + long / 64 + k : Nat) : Int) T).1 = d2 at *
        rw [← HY3'.out] at hwr
        clear hw0
        have HST : Hid (d.writes (B + long / 64) (chunks n A) = d2.writes (B + long / 64 + (k + 1)) (chunks (n - (k + 1)) (A.drop (64 * (k + 1))))) := Lib.hid (by
          rw [hW.out, hst, show n - k - 1 = n - (k + 1) by omega, show 64 * k + 64 = 64 * (k + 1) by omega, Nat.add_assoc _ k 1])
        clear hst hW
        refine wp_region_tail 13 (by kernel_rfl) (by kernel_rfl) ?_
        refine q_val rfl (by intro w' _; go_simp; rfl) ?_
        go_frame
        refine q_val rfl (by intro w' _; go_simp; rfl) ?_
        go_frame
        refine q_val rfl (by intro w' _; go_simp; rfl) ?_
        go_frame
        refine q_val (v := .pointer (some ⟨bd, 0, none⟩)) rfl (by intro w' hW'; have := (raw_cells (hB1.out.fr hW' (by simp))).1; go_simp) ?_
        go_frame
        refine q_val rfl (by intro w' _; go_simp; rfl) ?_
        go_frame
        refine q_val rfl (by intro w' _; go_simp; rfl) ?_
        go_frame
        refine q_call (f := 64) (args := #[.pointer (some ⟨bl, 0, none⟩), .int .i64 (area : Int)]) (v := .int .i64 ((B : Nat) : Int)) rfl (by intro w'; go_simp; try rfl) (fun w' hW' => (hfc w' hW').mono fun e w'' ⟨h1, h2⟩ => ⟨h1, h2 ▸ Fr.refl _ _⟩) ?_
        go_frame
        refine q_val rfl (by intro w' _; go_simp; rfl) ?_
        go_frame
        refine q_val rfl (by intro w' _; go_simp; rfl) ?_
        go_frame
        refine q_val (v := .int .i64 y1) rfl (by intro w' _; have := HY1.out; go_simp; exact IntWalk.i64_in _ (by omega)) ?_
        go_frame
        refine q_val (v := .int .i64 y2) rfl (by intro w' _; go_simp; rw [HY2.out]; exact IntWalk.i64_in _ (by omega)) ?_
        go_frame
        refine q_val (v := .int .i64 y3) rfl (by intro w' _; have := HY3.out; go_simp; exact IntWalk.i64_in _ (by omega)) ?_
        go_frame
        refine q_val rfl (by intro w' _; go_simp; rfl) ?_
        go_frame
        refine wpQuiet_nil ?_
        intro w2 hF2
        go_wp2_with (go_at_call 57; refine (hwr w2 hF2).mono ?_; rintro e w3 ⟨rfl, hD3, hF3⟩; clear hwr)
        go_roundw
        case rel => exact ⟨k + 1, d2, by omega, by go_num, Lib.hid hD3, by rw [hl2]; exact hlen, HST, Lib.hid ((hB1.out.fr hF2 (by simp)).fr hF3 (by simp [h1, h3])), Lib.hid (((hF.out.trans hF1.any).trans hF2.any).trans hF3), fun e => absurd e hmne⟩
        case measure => simp [intOf]; omega
      · rw [if_neg hw0] at hst
        have HRR : Hid (R = d'.write ((B + long / 64 + k : Nat) : Int) T) := Lib.hid (by
          rw [← HR.out]
          unfold Dv.settle
          rw [if_neg hmne, ← HSZ.out, HBB.out]
          have e1 : d.writes (B + long / 64) (chunks (tail ++ more).length (tail ++ more)) = d'.write ((B + long / 64 + k : Nat) : Int) T := by
            rw [HA.out, HNA.out, hW.out, hst]
          simp only [e1, if_neg hw0])
        rw [← HY3'.out] at hwr
        have HR2 : Hid (R.2 ≠ 0) := Lib.hid (by rw [HRR.out]; exact hw0)
        have hwr2 : ∀ W', Fr [] w1 W' → Calls Tryz.prog 57 #[.pointer (some ⟨bd, 0, none⟩), .int .i64 y3, .string T] W' fun e w' =>
            e = .returned (.int .i64 R.2) ∧ DevAt w' bd bo bm R.1 ∧ Fr [bd, bm] W' w' := by
          rw [HRR.out, ← HY3'.out]; exact hwr
        clear hst hW hwr hw0
        have hne : (R.2 != 0) = true := by simpa using HR2.out
        refine wp_region_tail 13 (by kernel_rfl) (by kernel_rfl) ?_
        refine q_val rfl (by intro w' _; go_simp; rfl) ?_
        go_frame
        refine q_val rfl (by intro w' _; go_simp; rfl) ?_
        go_frame
        refine q_val rfl (by intro w' _; go_simp; rfl) ?_
        go_frame
        refine q_val (v := .pointer (some ⟨bd, 0, none⟩)) rfl (by intro w' hW'; have := (raw_cells (hB1.out.fr hW' (by simp))).1; go_simp) ?_
        go_frame
        refine q_val rfl (by intro w' _; go_simp; rfl) ?_
        go_frame
        refine q_val rfl (by intro w' _; go_simp; rfl) ?_
        go_frame
        refine q_call (f := 64) (args := #[.pointer (some ⟨bl, 0, none⟩), .int .i64 (area : Int)]) (v := .int .i64 ((B : Nat) : Int)) rfl (by intro w'; go_simp; try rfl) (fun w' hW' => (hfc w' hW').mono fun e w'' ⟨h1, h2⟩ => ⟨h1, h2 ▸ Fr.refl _ _⟩) ?_
        go_frame
        refine q_val rfl (by intro w' _; go_simp; rfl) ?_
        go_frame
        refine q_val rfl (by intro w' _; go_simp; rfl) ?_
        go_frame
        refine q_val (v := .int .i64 y1) rfl (by intro w' _; have := HY1.out; go_simp; exact IntWalk.i64_in _ (by omega)) ?_
        go_frame
        refine q_val (v := .int .i64 y2) rfl (by intro w' _; go_simp; rw [HY2.out]; exact IntWalk.i64_in _ (by omega)) ?_
        go_frame
        refine q_val (v := .int .i64 y3) rfl (by intro w' _; have := HY3.out; go_simp; exact IntWalk.i64_in _ (by omega)) ?_
        go_frame
        refine q_val rfl (by intro w' _; go_simp; rfl) ?_
        go_frame
        refine wpQuiet_nil ?_
        intro w2 hF2
        go_wp2_with (go_at_call 57; refine (hwr2 w2 hF2).mono ?_; rintro e w3 ⟨rfl, hD3, hF3⟩; clear hwr2)
        go_ret
        exact ⟨rfl, hD3, ((((hF.out.mono (by simp)).trans hF1.any).trans hF2.any).trans (hF3.mono (by simp))), (hB1.out.fr hF2 (by simp)).fr hF3 (by simp [h1, h3])⟩
    · have hex : (str A).extract (n / 64 * 64) n = str (A.drop (64 * (n / 64))) := by
        apply ba_ext
        rw [ByteArray.data_extract, Array.toList_extract, str_data, str_data, List.extract_eq_take_drop, Nat.mul_comm]
        rw [List.take_of_length_le]
        rw [List.length_drop, HNA.out]; exact Nat.le_refl _
      have HEX := Lib.hid hex
      have hq : (n : Int).tdiv 64 = ((n / 64 : Nat) : Int) := by rw [Int.tdiv_eq_ediv_of_nonneg (by omega)]; omega
      have hq2 : n / 64 * 64 ≤ n := by omega
      have c0 := (raw_cells hB.out).1
      have c2 := (raw_cells hB.out).2.2.1
      clear hex HFC hbase hfit
      by_cases hmne : more = []
      · obtain ⟨rfl, rfl⟩ := hemp hmne
        have hM1 := HM1.out hmne
        have HRR : Hid (d'.wflush ((count + 1) % 2) (headText (count + 1) area (long + more.length)) = (R.1, R.2)) := Lib.hid (by
          rw [← HR.out]
          unfold Dv.settle
          simp only [if_pos hmne, if_true])
        clear hemp hgo
        by_cases hR0 : R.2 = 0
        · have HR0 := Lib.hid hR0
          have HRR0 := Lib.hid (HRR.out.trans (show (R.1, R.2) = (R.1, 0) by rw [HR0.out]))
          go_wp2_with (first
            | (go_at_call 34; refine (mark_x hD'.out hB.out h1 h2 h3 (count + 1) area (long + more.length) (by omega) (by omega) (by omega) HRR0.out _ _ (by omega) (by have := HMS.out; omega)).mono ?_; rintro e w5 ⟨rfl, hD3, hF3, hB3⟩; rw [if_pos rfl] at hB3
               have HB3 := Lib.hid hB3
               have l5 := (raw_cells HB3.out).2.2.2.2.2.1
               have l6 := (raw_cells HB3.out).2.2.2.2.2.2.1
               have l7 := (raw_cells HB3.out).2.2.2.2.2.2.2.1
               have l8 := (raw_cells HB3.out).2.2.2.2.2.2.2.2
               have f5 := HB3.out.free 5
               have f7 := HB3.out.free 7
               have f8 := HB3.out.free 8))
          go_ret
          have hset : Fr [bl] w5 (((w5.setCell ⟨bl, 5, none⟩ (.string ((str A).extract (n / 64 * 64) n))).setCell ⟨bl, 7, none⟩ (.int .i64 (vn : Int))).setCell ⟨bl, 8, none⟩ (.int .i64 0)) :=
            (((Fr.refl _ _).setCell (Or.inl (by simp)) _).setCell (Or.inl (by simp)) _).setCell (Or.inl (by simp)) _
          have hD4 := hD3.fr hset (by simp [Ne.symm h1]) (by simp [Ne.symm h2]) (by simp [Ne.symm h3])
          refine ⟨by first | rfl | (rw [HR0.out]; rfl), hD4, Fr.trans (S := [bd, bo, bm, bl]) ((hF.out.mono (by simp)).trans hF3) (hset.mono (by simp)), ?_⟩
          have hB5 := ((HB3.out.set 5 (.string ((str A).extract (n / 64 * 64) n))).set 7 (.int .i64 (vn : Int))).set 8 (.int .i64 0)
          rw [HEX.out] at hB5 ⊢
          (try rw [if_pos HR0.out])
          (try rw [HNA.out])
          first | simpa [rawLog] using hB5 | simpa [rawLog, hmne] using hB5
        · have HR0 := Lib.hid hR0
          have hne : (R.2 != 0) = true := by simpa using hR0
          clear hR0
          go_wp2_with (first
            | (go_at_call 34; refine (mark_x hD'.out hB.out h1 h2 h3 (count + 1) area (long + more.length) (by omega) (by omega) (by omega) HRR.out _ _ (by omega) (by have := HMS.out; omega)).mono ?_; rintro e w5 ⟨rfl, hD3, hF3, hB3⟩; rw [if_neg HR0.out] at hB3))
          go_ret
          refine ⟨rfl, hD3, ((hF.out.mono (by simp)).trans hF3), ?_⟩
          (try rw [if_neg HR0.out])
          exact hB3
      · have hM0 := HM0.out hmne
        have hge : ¬ 64 * k < n := fun h => hgo ⟨hmne, h⟩
        have hgeI : ¬ (64 * (k : Int)) < (n : Int) := by omega
        have hWd : d.writes (B + long / 64) (chunks n A) = (d', 0) := by
          rw [hW.out, List.drop_eq_nil_of_le (by have := HNA.out; omega), chunks_nil]; rfl
        have hset : d.settle area long count tail more = (if d'.flush.2 = 0 then d'.flush.1.wflush ((count + 1) % 2) (headText (count + 1) area (long + more.length)) else d'.flush) := by
          unfold Dv.settle
          rw [if_neg hmne, ← HSZ.out, HBB.out, HA.out, HNA.out, hWd]
          simp only [if_true]
        clear hgo hge hemp hWd
        have hfl := flush_c hD'.out
        by_cases hf0 : d'.flush.2 = 0
        · rw [hf0] at hfl
          have HRR : Hid (d'.flush.1.wflush ((count + 1) % 2) (headText (count + 1) area (long + more.length)) = (R.1, R.2)) := Lib.hid (by
            rw [← HR.out, hset, if_pos hf0])
          clear hset hf0
          by_cases hR0 : R.2 = 0
          · have HR0 := Lib.hid hR0
            have HRR0 := Lib.hid (HRR.out.trans (show (R.1, R.2) = (R.1, 0) by rw [HR0.out]))
            go_wp2_with (first
              | (go_at_call 58; refine hfl.mono ?_; rintro e w3 ⟨rfl, hD2, hF2⟩; have c2 := (raw_cells (hB.out.fr hF2 (by simp [h1, h2, h3]))).2.2.1)
              | (go_at_call 34; refine (mark_x hD2 (hB.out.fr hF2 (by simp [h1, h2, h3])) h1 h2 h3 (count + 1) area (long + more.length) (by omega) (by omega) (by omega) HRR0.out _ _ (by omega) (by have := HMS.out; omega)).mono ?_; rintro e w5 ⟨rfl, hD3, hF3, hB3⟩; rw [if_pos rfl] at hB3
                 have HB3 := Lib.hid hB3
                 have l5 := (raw_cells HB3.out).2.2.2.2.2.1
                 have l6 := (raw_cells HB3.out).2.2.2.2.2.2.1
                 have l7 := (raw_cells HB3.out).2.2.2.2.2.2.2.1
                 have l8 := (raw_cells HB3.out).2.2.2.2.2.2.2.2
                 have f5 := HB3.out.free 5
                 have f7 := HB3.out.free 7
                 have f8 := HB3.out.free 8))
            go_ret
            have hset : Fr [bl] w5 (((w5.setCell ⟨bl, 5, none⟩ (.string ((str A).extract (n / 64 * 64) n))).setCell ⟨bl, 7, none⟩ (.int .i64 (vn : Int))).setCell ⟨bl, 8, none⟩ (.int .i64 0)) :=
              (((Fr.refl _ _).setCell (Or.inl (by simp)) _).setCell (Or.inl (by simp)) _).setCell (Or.inl (by simp)) _
            have hD4 := hD3.fr hset (by simp [Ne.symm h1]) (by simp [Ne.symm h2]) (by simp [Ne.symm h3])
            refine ⟨by first | rfl | (rw [HR0.out]; rfl), hD4, Fr.trans (S := [bd, bo, bm, bl]) (((hF.out.mono (by simp)).trans (hF2.mono (by simp))).trans hF3) (hset.mono (by simp)), ?_⟩
            have hB5 := ((HB3.out.set 5 (.string ((str A).extract (n / 64 * 64) n))).set 7 (.int .i64 (vn : Int))).set 8 (.int .i64 0)
            rw [HEX.out] at hB5 ⊢
            (try rw [if_pos HR0.out])
            (try rw [HNA.out])
            first | simpa [rawLog] using hB5 | simpa [rawLog, hmne] using hB5
          · have HR0 := Lib.hid hR0
            have hne : (R.2 != 0) = true := by simpa using hR0
            clear hR0
            go_wp2_with (first
              | (go_at_call 58; refine hfl.mono ?_; rintro e w3 ⟨rfl, hD2, hF2⟩; have c2 := (raw_cells (hB.out.fr hF2 (by simp [h1, h2, h3]))).2.2.1)
              | (go_at_call 34; refine (mark_x hD2 (hB.out.fr hF2 (by simp [h1, h2, h3])) h1 h2 h3 (count + 1) area (long + more.length) (by omega) (by omega) (by omega) HRR.out _ _ (by omega) (by have := HMS.out; omega)).mono ?_; rintro e w5 ⟨rfl, hD3, hF3, hB3⟩; rw [if_neg HR0.out] at hB3))
            go_ret
            refine ⟨rfl, hD3, (((hF.out.mono (by simp)).trans (hF2.mono (by simp))).trans hF3), ?_⟩
            (try rw [if_neg HR0.out])
            exact hB3
        · have HRR : Hid (R = d'.flush) := Lib.hid (by rw [← HR.out, hset, if_neg hf0])
          have hne : (d'.flush.2 != 0) = true := by simpa using hf0
          have HF0 := Lib.hid hf0
          have hRne : ¬ R.2 = 0 := by rw [HRR.out]; exact hf0
          clear hset hf0
          go_wp2_with (go_at_call 58; refine hfl.mono ?_; rintro e w3 ⟨rfl, hD2, hF2⟩)
          go_ret
          refine ⟨by rw [HRR.out]; rfl, by rw [HRR.out]; exact hD2, (hF.out.mono (by simp)).trans (hF2.mono (by simp)), ?_⟩
          (try rw [if_neg HF0.out])
          exact hB.out.fr hF2 (by simp [h1, h2, h3])
end

end Go.Proofs.YtiojkakmlbfiiaaGreat
