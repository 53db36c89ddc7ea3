/- The document's log: its object, clean. -/
import Derived.Test.YtiojkakmlbfiiaaGreatM18
import Derived.Test.YtiojkakmlbfiiaaGreatM07
import Derived.Test.YtiojkakmlbfiiaaGreatM12
/- The document's log: read. -/
namespace Go.Proofs.YtiojkakmlbfiiaaGreat
open Go.RowKit
open Sp
theorem results_tmp4 {fn : Func} {t u v x : Tmp} (h : fn.results = #[.tmp t, .tmp u, .tmp v, .tmp x]) (tmps : Array Value) (P : Program) (w : World) :
    (results fn tmps).run P w = .ok (.tuple #[tmps.getD t undef, tmps.getD u undef, tmps.getD v undef, tmps.getD x undef]) w := by
  simp [results, h]

namespace Sp
def hC (s : ByteArray) : Int := num ((s.data.toList.drop 4).take 8)
def hA (s : ByteArray) : Nat := (s.data.toList.getD 12 0).toNat
def hL (s : ByteArray) : Int := num ((s.data.toList.drop 13).take 8)
theorem parse_parts {size : Nat} {s : ByteArray} {c a l : Nat} (h : parseHead size s = some (c, a, l)) : hC s = c ∧ hA s = a ∧ hL s = l := by
  unfold parseHead at h
  simp only at h
  split at h
  · cases h
  · rename_i hc
    split at h
    · simp only [Option.some.injEq, Prod.mk.injEq] at h
      obtain ⟨rfl, rfl, rfl⟩ := h
      simp only [not_or] at hc
      refine ⟨?_, rfl, ?_⟩
      · unfold hC; omega
      · unfold hL; omega
    · cases h
end Sp

set_option maxHeartbeats 4000000 in
set_option maxRecDepth 100000 in
theorem rread0_c {w : World} {rd ro rn co cn : Nat} {d : Dv} (h : RefAt w rd ro rn co cn d) (h4 : 4 ≤ d.on.length) (s : ByteArray) (hs : s.size = 64) :
    Calls Tryz.prog 45 #[.pointer (some ⟨rd, 0, none⟩), .string s] w fun e w' =>
      e = .returned (.tuple #[.int .i64 (hC s), .int .i64 (hA s : Int), .int .i64 (hL s), .bool (parseHead (areaOf d.on.length) s).isSome]) ∧ Fr [] w w' := by
  have hnc := fun W' => rNumber_c (s.extract 4 12) W' (by rw [ByteArray.size_extract]; omega)
  have hnl := fun W' => rNumber_c (s.extract 13 21) W' (by rw [ByteArray.size_extract]; omega)
  have e1 : (s.extract 4 12).data.toList = (s.data.toList.drop 4).take 8 := by
    simp only [ByteArray.data_extract, Array.toList_extract, List.extract_eq_take_drop]
  have e2 : (s.extract 13 21).data.toList = (s.data.toList.drop 13).take 8 := by
    simp only [ByteArray.data_extract, Array.toList_extract, List.extract_eq_take_drop]
  rw [e1] at hnc
  rw [e2] at hnl
  have hix : ∀ w, (Instr.index 9 (.string s) (.int .i64 12)).run Tryz.prog w = _ := run_idx s 12 (by omega)
  have hab : hA s < 256 := (s.data.toList.getD 12 0).toNat_lt
  have hrc := num_range ((s.data.toList.drop 4).take 8)
  have hrl := num_range ((s.data.toList.drop 13).take 8)
  have har := fun W' (hW : Fr [] w W') => rArea_c (h.fr hW (by simp) (by simp) (by simp)) h4
  change ∀ W', Calls _ _ _ W' fun e w' => e = .returned (.int .i64 (hC s)) ∧ W' = w' at hnc
  change ∀ W', Calls _ _ _ W' fun e w' => e = .returned (.int .i64 (hL s)) ∧ W' = w' at hnl
  have hp : parseHead (areaOf d.on.length) s = (if hC s < 1 ∨ 4611686018427387904 < hC s ∨ 1 < hA s ∨ hL s < 0 ∨ ((areaOf d.on.length : Nat) : Int) < hL s then none
    else if s = headText (hC s).toNat (hA s) (hL s).toNat then some ((hC s).toNat, hA s, (hL s).toNat) else none) := rfl
  have har2 : areaOf d.on.length = 64 * ((d.on.length - 2) / 2) := rfl
  have hm := h.wf.most
  obtain ⟨sz, hsz⟩ : ∃ sz, (d.on.length - 2) / 2 = sz := ⟨_, rfl⟩
  have hs1 : sz ≤ 1023 := by omega
  rw [hsz] at har har2
  rw [har2] at hp
  rw [har2]
  have hiy : ∀ w, (Instr.index 9 (.string s) (.int .i64 12)).run Tryz.prog w = .ok (.int .u8 ((hA s : Nat) : Int)) w := hix
  clear hix
  change -9223372036854775808 ≤ hC s ∧ hC s ≤ 9223372036854775807 at hrc
  change -9223372036854775808 ≤ hL s ∧ hL s ≤ 9223372036854775807 at hrl
  clear h h4 har2 hm hsz e1 e2
  generalize hC s = c at *
  generalize hL s = l at *
  generalize hA s = a at *
  obtain ⟨X, hX⟩ : ∃ X, (parseHead (64 * sz) s).isSome = X := ⟨_, rfl⟩
  rw [hX]
  have HX := Lib.hid hX
  have HP := Lib.hid hp
  clear hX hp
  go_enter Tryz.func45, Tryz.ntmps45
  go_wp2
  refine wp_region_fr (by kernel_rfl) (by kernel_rfl) ?_
  refine q_val rfl (by intro w' _; go_simp; rfl) ?_
  go_frame
  refine q_val (v := .string (s.extract 4 12)) rfl (by intro w' _; go_simp) ?_
  go_frame
  refine q_call (f := 73) (args := #[.string (s.extract 4 12)]) (v := .int .i64 c) rfl (by intro w'; go_simp; try rfl) (fun w' _ => (hnc w').mono fun e w'' ⟨h1, h2⟩ => ⟨h1, h2 ▸ Fr.refl _ _⟩) ?_
  go_frame
  refine q_val rfl (by intro w' _; go_simp; rfl) ?_
  go_frame
  refine q_val (v := .int .u8 (a : Int)) rfl (by intro w' _; go_simp) ?_
  go_frame
  refine q_val (v := .int .i64 (a : Int)) rfl (by intro w' _; go_simp; exact IntKind.wrap_i64 _ |>.trans (by omega)) ?_
  go_frame
  refine q_val rfl (by intro w' _; go_simp; rfl) ?_
  go_frame
  refine q_val (v := .string (s.extract 13 21)) rfl (by intro w' _; go_simp) ?_
  go_frame
  refine q_call (f := 73) (args := #[.string (s.extract 13 21)]) (v := .int .i64 l) rfl (by intro w'; go_simp; try rfl) (fun w' _ => (hnl w').mono fun e w'' ⟨h1, h2⟩ => ⟨h1, h2 ▸ Fr.refl _ _⟩) ?_
  go_frame
  refine q_val rfl (by intro w' _; go_simp; rfl) ?_
  go_frame
  refine q_val rfl (by intro w' _; go_simp; rfl) ?_
  go_frame
  refine q_val rfl (by intro w' _; go_simp; rfl) ?_
  go_frame
  refine wpQuiet_nil ?_
  intro w1 hF1
  have har := har w1 hF1
  clear hnc hnl hiy
  by_cases h1 : c < 1
  · go_wp2
    (try simp only [Exit.inBlock, Exit.then])
    refine bodyPost_ret (results_tmp4 rfl _ _ _) rfl ⟨?_, hF1⟩
    rw [← HX.out, show parseHead (64 * sz) s = none by rw [HP.out, if_pos (Or.inl h1)]]
    rfl
  have h1' : (1 : Int) ≤ c := by omega
  by_cases h2 : 4611686018427387904 < c
  · go_wp2
    (try simp only [Exit.inBlock, Exit.then])
    refine bodyPost_ret (results_tmp4 rfl _ _ _) rfl ⟨?_, hF1⟩
    rw [← HX.out, show parseHead (64 * sz) s = none by rw [HP.out, if_pos (Or.inr (Or.inl h2))]]
    rfl
  have h2' : c ≤ 4611686018427387904 := by omega
  by_cases h3 : 1 < a
  · have h3' : (1 : Int) < (a : Int) := by omega
    go_wp2
    (try simp only [Exit.inBlock, Exit.then])
    refine bodyPost_ret (results_tmp4 rfl _ _ _) rfl ⟨?_, hF1⟩
    rw [← HX.out, show parseHead (64 * sz) s = none by rw [HP.out, if_pos (Or.inr (Or.inr (Or.inl h3)))]]
    rfl
  have h3' : (a : Int) ≤ 1 := by omega
  by_cases h4 : l < 0
  · go_wp2
    (try simp only [Exit.inBlock, Exit.then])
    refine bodyPost_ret (results_tmp4 rfl _ _ _) rfl ⟨?_, hF1⟩
    rw [← HX.out, show parseHead (64 * sz) s = none by rw [HP.out, if_pos (Or.inr (Or.inr (Or.inr (Or.inl h4))))]]
    rfl
  have h4' : (0 : Int) ≤ l := by omega
  by_cases h5 : ((64 * sz : Nat) : Int) < l
  · have h5' : 64 * (sz : Int) < l := by omega
    go_wp2_with (go_at_call 52; refine har.mono ?_; clear har; rintro e w2 ⟨rfl, rfl⟩)
    (try simp only [Exit.inBlock, Exit.then])
    refine bodyPost_ret (results_tmp4 rfl _ _ _) rfl ⟨?_, hF1⟩
    rw [← HX.out, show parseHead (64 * sz) s = none by rw [HP.out, if_pos (Or.inr (Or.inr (Or.inr (Or.inr h5))))]]
    rfl
  have h5' : l ≤ 64 * (sz : Int) := by omega
  obtain ⟨cn, rfl⟩ := Int.eq_ofNat_of_zero_le (show 0 ≤ c by omega)
  obtain ⟨ln, rfl⟩ := Int.eq_ofNat_of_zero_le (show 0 ≤ l by omega)
  have hhd := fun W' => rHead_c cn a ln W' (by omega) (by omega) (by omega)
  obtain ⟨T, hT⟩ : ∃ T, headText cn a ln = T := ⟨_, rfl⟩
  rw [hT] at hhd
  have HT := Lib.hid hT
  clear hT
  by_cases h6 : s = T
  · have hl6 : s.toList = T.toList := by rw [h6]
    have HQ := Lib.hid h6
    clear h6
    go_wp2_with (first
      | (go_at_call 52; refine har.mono ?_; clear har; rintro e w2 ⟨rfl, rfl⟩)
      | (go_at_call 47; refine (hhd _).mono ?_; rintro e w3 ⟨rfl, hF3⟩))
    (try simp only [Exit.inBlock, Exit.then])
    refine bodyPost_ret (results_tmp4 rfl _ _ _) rfl ⟨?_, hF1.trans hF3⟩
    rw [← HX.out, show parseHead (64 * sz) s = some (cn, a, ln) by rw [HP.out, if_neg (by simp only [not_or]; omega), if_pos (by rw [HQ.out]; simpa using HT.out.symm)]; rfl]
    rfl
  · have hl6 : ¬ s.toList = T.toList := fun e => h6 (by rw [Lib.toList_data, Lib.toList_data] at e; exact ba_ext e)
    have hl7 : (s.toList == T.toList) = false := by simpa using hl6
    have HN := Lib.hid h6
    clear h6
    go_wp2_with (first
      | (go_at_call 52; refine har.mono ?_; clear har; rintro e w2 ⟨rfl, rfl⟩)
      | (go_at_call 47; refine (hhd _).mono ?_; rintro e w3 ⟨rfl, hF3⟩))
    (try simp only [Exit.inBlock, Exit.then])
    refine bodyPost_ret (results_tmp4 rfl _ _ _) rfl ⟨?_, hF1.trans hF3⟩
    rw [← HX.out, show parseHead (64 * sz) s = none by rw [HP.out, if_neg (by simp only [not_or]; omega), if_neg (by intro e; exact HN.out (by rw [e]; simpa using HT.out))]]
    rfl

end Go.Proofs.YtiojkakmlbfiiaaGreat

/- The document's log: stored. -/
namespace Go.Proofs.YtiojkakmlbfiiaaGreat
open Go.RowKit
open Sp

set_option maxHeartbeats 2000000 in
set_option maxRecDepth 100000 in
theorem rStored_c {w : World} {rd ro rn co cn : Nat} {d : Dv} (h : RefAt w rd ro rn co cn d) (h4 : 4 ≤ d.on.length) (hdn : d.down = false) (a l : Nat) (ha : a ≤ 1) (hl : l ≤ 64 * ((d.on.length - 2) / 2)) :
    Calls Tryz.prog 49 #[.pointer (some ⟨rd, 0, none⟩), .int .i64 (a : Int), .int .i64 (l : Int)] w fun e w' => e = .returned (.string (str (d.stored a l))) ∧ w = w' := by
  have hac := rArea_c h h4
  have hm := h.wf.most
  obtain ⟨sz, hs⟩ : ∃ sz, (d.on.length - 2) / 2 = sz := ⟨_, rfl⟩
  have hs1 : sz ≤ 1023 := by omega
  have HASZ : Hid (a * sz + sz + 2 ≤ d.on.length) := Lib.hid (by rcases (show a = 0 ∨ a = 1 by omega) with rfl | rfl <;> omega)
  rw [hs] at hac hl
  have HL := Lib.hid hl
  obtain ⟨y1, hy1⟩ : ∃ y : Int, (a : Int) * (64 * (sz : Int)) = y := ⟨_, rfl⟩
  obtain ⟨y2, hy2⟩ : ∃ y : Int, y1.tdiv 64 = y := ⟨_, rfl⟩
  obtain ⟨B, hB⟩ : ∃ B, 2 + a * sz = B := ⟨_, rfl⟩
  have hy12 : 0 ≤ y1 ∧ y1 ≤ 65472 ∧ 0 ≤ y2 ∧ y2 ≤ 1023 ∧ 2 + y2 = (B : Int) := by
    rcases (show a = 0 ∨ a = 1 by omega) with rfl | rfl
    · have e1 : y1 = 0 := by rw [← hy1]; omega
      have e2 : y2 = 0 := by rw [← hy2, e1]; rfl
      omega
    · have e1 : y1 = 64 * (sz : Int) := by rw [← hy1]; omega
      have e2 : y2 = (sz : Int) := by rw [← hy2, e1, Int.tdiv_eq_ediv_of_nonneg (by omega)]; omega
      omega
  obtain ⟨g1, g2, g3, g4, g5⟩ := hy12
  have HST : Hid (∀ K, l ≤ 64 * K → (∀ i, i < K → 64 * i < l) → K ≤ d.on.length → d.stored a l = (d.cat B K).take l) := Lib.hid (by
    intro K k1 k2 k3
    rw [Dv.stored_cat d a l K k1 k2 k3, hs, hB])
  have HBS : Hid (B + sz ≤ d.on.length) := Lib.hid (by have := HASZ.out; omega)
  have hb1 : B ≤ 1025 := by rcases (show a = 0 ∨ a = 1 by omega) with rfl | rfl <;> omega
  have HM := Lib.hid hm
  have HD := Lib.hid h
  have HY1 := Lib.hid hy1
  have HY2 := Lib.hid hy2
  have HG5 := Lib.hid g5
  have hl0 : l ≤ 65472 := by omega
  clear h hm hs hy1 hy2 hB HASZ h4 g5 hl
  go_enter Tryz.func49, Tryz.ntmps49
  go_wp2
  go_loop [7, 8] (fun s i => ∃ k : Nat, k ≤ sz ∧ (∀ j, j < k → 64 * j < l) ∧ i = .int .i64 k ∧ s = .string (str (d.cat B k))) (fun _ i => sz - (intOf i).toNat)
  case atStart => exact ⟨0, Nat.zero_le _, by intro j hj; omega, rfl, rfl⟩
  case round =>
    obtain ⟨k, hk, hkl, rfl, rfl⟩ := hrel
    have hcs : (str (d.cat B k)).size = 64 * k := by rw [str_size]; exact cat_len HD.out.wf _ _ (by have := HBS.out; omega)
    by_cases hlt : 64 * k < l
    · have hn : B + k < d.on.length := by have := HBS.out; have := HL.out; omega
      have hts := text64 HD.out.wf _ hn
      have hrc := rRead_c HD.out ((B + k : Nat) : Int)
      rw [read_ok hdn _ hn] at hrc
      have HS : Hid (str (d.cat B (k + 1)) = str (d.cat B k) ++ d.text (B + k)) := Lib.hid (by rw [Dv.cat_succ, ← str_append, str_of])
      have HKL : Hid (∀ j, j < k + 1 → 64 * j < l) := Lib.hid (by intro j hj; rcases (show j < k ∨ j = k by omega) with h | h; exact hkl j h; omega)
      generalize d.text (B + k) = T at hrc HS hts
      generalize str (d.cat B k) = S at hcs HS ⊢
      have hcb : S.size ≤ 65472 := by omega
      have htb : T.size ≤ 64 := by omega
      have hcs' : (S.size : Int) < (l : Int) := by omega
      obtain ⟨z, hz⟩ : ∃ z : Int, (B : Int) + (k : Int) = z := ⟨_, rfl⟩
      rw [show ((B + k : Nat) : Int) = z by omega] at hrc
      have HKS : Hid (k + 1 ≤ sz) := Lib.hid (by have := HL.out; omega)
      have hz0 : 0 ≤ z := by omega
      have hz1 : z ≤ 4096 := by have := HM.out; omega
      have hy1 := HY1.out
      have hy2 := HY2.out
      have hg5 := HG5.out
      clear hcs hts hn hkl hlt
      go_wp2_with (first
        | (go_at_call 52; refine hac.mono ?_; rintro e w2 ⟨rfl, rfl⟩)
        | (go_at_call 23; refine hrc.mono ?_; rintro e w2 ⟨rfl, rfl⟩))
      go_round
      case rel => exact ⟨k + 1, HKS.out, HKL.out, by go_num, by rw [HS.out]⟩
      case measure => have := HKS.out; simp [intOf]; omega
    · have HST2 : Hid (d.stored a l = (d.cat B k).take l) := Lib.hid (HST.out k (by omega) hkl (by have := HBS.out; omega))
      have hex : (str (d.cat B k)).extract 0 l = str (d.stored a l) := by
        rw [HST2.out]
        apply ba_ext
        rw [ByteArray.data_extract, Array.toList_extract, str_data, str_data]
        simp [List.extract_eq_take_drop]
      generalize str (d.cat B k) = S at *
      have hcs' : (l : Int) ≤ (S.size : Int) := by omega
      have hcb : S.size ≤ 65472 := by omega
      have HEX := Lib.hid hex
      clear hcs hkl hlt hex
      go_wp2
      go_ret
      exact ⟨by rw [HEX.out]; rfl, rfl⟩

end Go.Proofs.YtiojkakmlbfiiaaGreat

/- The document's log: its object, clean. -/
namespace Go.Proofs.YtiojkakmlbfiiaaGreat
open Go.RowKit
open Sp

def rawRef (rd count area : Nat) (bytes : ByteArray) (v : Value) (many : Nat) : List Value :=
  [.pointer (some ⟨rd, 0, none⟩), .int .i64 (count : Int), .int .i64 (area : Int), .string bytes, v, .int .i64 (many : Int)]

section
variable {w : World} {rl rd ro rn co cn count area : Nat} {bytes : ByteArray} {v : Value} {many : Nat} {d : Dv}

theorem ref_cells (h : Blk w rl (rawRef rd count area bytes v many)) :
    w.cell? ⟨rl, 0, none⟩ = some (.pointer (some ⟨rd, 0, none⟩)) ∧ w.cell? ⟨rl, 1, none⟩ = some (.int .i64 (count : Int)) ∧ w.cell? ⟨rl, 2, none⟩ = some (.int .i64 (area : Int)) ∧
    w.cell? ⟨rl, 3, none⟩ = some (.string bytes) ∧ w.cell? ⟨rl, 4, none⟩ = some v ∧ w.cell? ⟨rl, 5, none⟩ = some (.int .i64 (many : Int)) :=
  ⟨h.cell 0, h.cell 1, h.cell 2, h.cell 3, h.cell 4, h.cell 5⟩

set_option maxHeartbeats 4000000 in
set_option maxRecDepth 100000 in
theorem rClean_c (h : RefAt w rd ro rn co cn d) (hB : Blk w rl (rawRef rd count area bytes v many)) (h1 : rl ≠ rd) (h2 : rl ≠ ro) (h3 : rl ≠ rn) (h4 : 4 ≤ d.on.length) (hdn : d.down = false) (hc : count + 1 ≤ 9223372036854775807) :
    Calls Tryz.prog 51 #[.pointer (some ⟨rl, 0, none⟩)] w fun e w' => e = .returned (.int .i64 (d.bareNext count).2) ∧ RefAt w' rd ro rn co cn (d.bareNext count).1 ∧ Fr [rd, ro, rn] w w' := by
  obtain ⟨R, hR⟩ : ∃ R, d.bareNext count = R := ⟨_, rfl⟩
  rw [hR]
  obtain ⟨m, hm⟩ : ∃ m, (count + 1) % 2 = m := ⟨_, rfl⟩
  have hml : m < d.on.length := by omega
  have hrd := read_ok hdn m hml
  have hHR : Hid ((if d.text m = zeros then (d, 0) else if (parseHead (areaOf d.on.length) (d.text m)).isSome then (d, 0) else d.wflush m zeros) = R) := Lib.hid (by
    rw [← hR]; unfold Dv.bareNext
    rw [hm, hrd])
  have hts := text64 h.wf m hml
  have hmc : ((count : Int) + 1).tmod 2 = (m : Int) := by rw [Int.tmod_eq_emod_of_nonneg (by omega)]; omega
  have hm1 : (m : Int) ≤ 1 := by omega
  have hm0 : 0 ≤ (m : Int) := by omega
  -- the bytes 0
  obtain ⟨i0, hi, hz0, hz1, hz2⟩ := info_parts byteInfo
  have hmk := run_make (P := Tryz.prog) w 42 5 i0 _ Tryz.underlying42 hi hz0 .i64 .i64 64 64 (by omega) (by omega) (by rw [hz2]; omega) (by omega)
  rw [hz1] at hmk
  have e8 : (64 : Int).toNat * 1 = 64 := rfl
  rw [e8, madeCells_bytes] at hmk
  have hBm : Blk (w.alloc (.cells (List.replicate 64 (Value.int .u8 0)).toArray 5)) w.heap.size (List.replicate 64 (Value.int .u8 0)) := Blk.new _ _ _
  have hcv := conv_bytes (off := 0) (len := 64) (cap := 64) hBm zeros zeros_size (by
    intro j hj
    rw [Nat.zero_add]
    have : bytesOf zeros = List.replicate 64 (Value.int .u8 0) := by simp [bytesOf, zeros]
    rw [this])
  have hF : Fr [] w (w.alloc (.cells (List.replicate 64 (Value.int .u8 0)).toArray 5)) := (Fr.refl _ _).alloc _
  change _ = Result.ok (Value.slice (some ⟨w.heap.size, 0, none⟩) 64 64) _ at hmk
  generalize w.alloc (.cells (List.replicate 64 (Value.int .u8 0)).toArray 5) = W at hmk hcv hF
  generalize w.heap.size = bz at hmk hcv
  clear hBm hi hz0 hz1 hz2 e8
  have k1 := (ref_cells hB).2.1
  have hB0 := hB.fr hF (by simp)
  have l0 := (ref_cells hB0).1
  have h0 := h.fr hF (by simp) (by simp) (by simp)
  have hrc := rRead_c h0 (m : Int)
  rw [hrd] at hrc
  have hre := rread0_c h0 h4 (d.text m) hts
  have HB := Lib.hid hB0
  have HD := Lib.hid h0
  have HF := Lib.hid hF
  clear hR hrd hm hml h hB hB0 h0 hF h4
  generalize d.text m = s at *
  obtain ⟨X, hX⟩ : ∃ X, (parseHead (areaOf d.on.length) s).isSome = X := ⟨_, rfl⟩
  rw [hX] at hre hHR
  have hzt : zeros.size = 64 := zeros_size
  obtain ⟨Z, hZ⟩ : ∃ Z, zeros = Z := ⟨_, rfl⟩
  rw [hZ] at hHR hcv hzt
  have HZ := Lib.hid hZ
  clear hZ hX
  cases X with
  | true =>
    have HRR : Hid (R = (d, 0)) := Lib.hid (by rw [← hHR.out]; split <;> rfl)
    clear hHR
    go_enter Tryz.func51, Tryz.ntmps51
    go_wp2_with (first
      | (go_at_call 23; refine hrc.mono ?_; rintro e w2 ⟨rfl, rfl⟩; clear hrc)
      | (go_at_call 45; refine hre.mono ?_; rintro e w3 ⟨rfl, hF3⟩; clear hre))
    go_ret
    rw [HRR.out]
    exact ⟨rfl, HD.out.fr hF3 (by simp) (by simp) (by simp), (HF.out.trans hF3).any⟩
  | false =>
    by_cases hz : s = Z
    · have HRR : Hid (R = (d, 0)) := Lib.hid (by rw [← hHR.out, if_pos hz])
      have hzl : s.toList = Z.toList := by rw [hz]
      clear hHR hz
      go_enter Tryz.func51, Tryz.ntmps51
      go_wp2_with (first
        | (go_at_call 23; refine hrc.mono ?_; rintro e w2 ⟨rfl, rfl⟩; clear hrc)
        | (go_at_call 45; refine hre.mono ?_; rintro e w3 ⟨rfl, hF3⟩; clear hre))
      go_ret
      rw [HRR.out]
      exact ⟨rfl, HD.out.fr hF3 (by simp) (by simp) (by simp), (HF.out.trans hF3).any⟩
    · have hzl : ¬ s.toList = Z.toList := fun e => hz (by rw [Lib.toList_data, Lib.toList_data] at e; exact ba_ext e)
      have hzb : (s.toList == Z.toList) = false := by simpa using hzl
      have HRR : Hid (d.wflush m Z = R) := Lib.hid (by rw [← hHR.out, if_neg hz]; rfl)
      clear hHR hz
      by_cases hw0 : (d.write (m : Int) Z).2 = 0
      · have HR2 : Hid (R = (d.write (m : Int) Z).1.flush) := Lib.hid (by rw [← HRR.out]; unfold Dv.wflush; rw [if_pos hw0])
        generalize hd1 : (d.write (m : Int) Z).1 = d1 at *
        have HW0 := Lib.hid hw0
        have HD1 := Lib.hid hd1
        clear hw0 hd1
        go_enter Tryz.func51, Tryz.ntmps51
        go_wp2_with (first
          | (go_at_call 23; refine hrc.mono ?_; rintro e w2 ⟨rfl, rfl⟩; clear hrc)
          | (go_at_call 45; refine hre.mono ?_; rintro e w3 ⟨rfl, hF3⟩; clear hre
             have l0 := (ref_cells (HB.out.fr hF3 (by simp))).1
             have hwr := rWrite_c (HD.out.fr hF3 (by simp) (by simp) (by simp)) (m : Int) Z)
          | (go_at_call 46; refine hwr.mono ?_; rintro e w5 ⟨rfl, hD5, hF5⟩; rw [HW0.out]; rw [HD1.out] at hD5; have hfl := rFlush_c hD5; clear hwr
             have l0 := (ref_cells ((HB.out.fr hF3 (by simp)).fr hF5 (by simp [h1, h3]))).1)
          | (go_at_call 48; refine hfl.mono ?_; rintro e w6 ⟨rfl, hD6, hF6⟩; clear hfl))
        go_ret
        rw [HR2.out]
        exact ⟨rfl, hD6, ((HF.out.trans hF3).any.trans (hF5.mono (by simp))).trans hF6⟩
      · have HR2 : Hid (R = d.write (m : Int) Z) := Lib.hid (by rw [← HRR.out]; unfold Dv.wflush; rw [if_neg hw0])
        have hne : ((d.write (m : Int) Z).2 != 0) = true := by simpa using hw0
        clear hw0
        go_enter Tryz.func51, Tryz.ntmps51
        go_wp2_with (first
          | (go_at_call 23; refine hrc.mono ?_; rintro e w2 ⟨rfl, rfl⟩; clear hrc)
          | (go_at_call 45; refine hre.mono ?_; rintro e w3 ⟨rfl, hF3⟩; clear hre
             have l0 := (ref_cells (HB.out.fr hF3 (by simp))).1
             have hwr := rWrite_c (HD.out.fr hF3 (by simp) (by simp) (by simp)) (m : Int) Z)
          | (go_at_call 46; refine hwr.mono ?_; rintro e w5 ⟨rfl, hD5, hF5⟩; clear hwr))
        go_ret
        rw [HR2.out]
        exact ⟨rfl, hD5, (HF.out.trans hF3).any.trans (hF5.mono (by simp))⟩
end

end Go.Proofs.YtiojkakmlbfiiaaGreat
