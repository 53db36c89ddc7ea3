/- The document's log: settle. -/
import Derived.Test.YtiojkakmlbfiiaaGreatM20
import Derived.Test.YtiojkakmlbfiiaaGreatM11
/- The document's log: settle. -/
namespace Go.Proofs.YtiojkakmlbfiiaaGreat
open Go.RowKit
open Sp

theorem pad_at (X : List UInt8) (j : Nat) (hj : j < X.length) (hX : X.length ≤ 64) :
    (byteVals (X.take j) ++ List.replicate (64 - j) (Value.int .u8 0)).set j (.int .u8 ((X.getD j 0).toNat : Int)) = byteVals (X.take (j + 1)) ++ List.replicate (64 - (j + 1)) (Value.int .u8 0) := by
  have hl : (byteVals (X.take j)).length = j := by simp [byteVals]; omega
  rw [List.set_append_right _ _ (by omega), hl, Nat.sub_self, show 64 - j = (64 - (j + 1)) + 1 by omega, List.replicate_succ, List.set_cons_zero]
  have e1 : byteVals (X.take (j + 1)) = byteVals (X.take j) ++ [Value.int .u8 ((X.getD j 0).toNat : Int)] := by
    rw [List.take_succ_eq_append_getElem hj, byteVals, byteVals, List.map_append, List.getD_eq_getElem?_getD, List.getElem?_eq_getElem hj]; rfl
  rw [e1, List.append_assoc]; rfl

theorem pad_bytes (X : List UInt8) (j : Nat) (hX : X.length ≤ 64) (hj : j = X.length) : byteVals (X.take j) ++ List.replicate (64 - j) (Value.int .u8 0) = bytesOf (str (padTo X)) := by
  subst hj
  rw [List.take_length, bytesOf, str_data, padTo]
  simp [byteVals]

section
variable {w : World} {rl rd ro rn co cn sz count area0 : Nat} {bytes0 : ByteArray} {v : Value} {many : Nat} {d : Dv}

set_option maxHeartbeats 16000000 in
set_option maxRecDepth 100000 in
theorem rSettle_c (h : RefAt w rd ro rn co cn d) (hB : Blk w rl (rawRef rd count area0 bytes0 v many)) (h1 : rl ≠ rd) (h2 : rl ≠ ro) (h3 : rl ≠ rn) (hs : sz ≤ 1023) (hsz : sz = (d.on.length - 2) / 2) (h4 : 4 ≤ d.on.length)
    (area : Nat) (old more : List UInt8) (ha : area ≤ 1) (hl : old.length + more.length ≤ 64 * sz) (hc : count + 1 ≤ 9223372036854775807) :
    Calls Tryz.prog 61 #[.pointer (some ⟨rl, 0, none⟩), .int .i64 (area : Int), .string (str old), .string (str more)] w fun e w' =>
      e = .returned (.int .i64 (d.settle area old.length count (old.drop (64 * (old.length / 64))) more).2) ∧ RefAt w' rd ro rn co cn (d.settle area old.length count (old.drop (64 * (old.length / 64))) more).1 ∧
      Fr [rd, ro, rn, rl] w w' ∧ Blk w' rl (if (d.settle area old.length count (old.drop (64 * (old.length / 64))) more).2 = 0 then rawRef rd (count + 1) area (str (old ++ more)) v many else rawRef rd count area0 bytes0 v many) := by
  obtain ⟨tail, htl⟩ : ∃ t, old.drop (64 * (old.length / 64)) = t := ⟨_, rfl⟩
  rw [htl]
  obtain ⟨R, hR⟩ : ∃ R, d.settle area old.length count tail more = R := ⟨_, rfl⟩
  rw [hR]
  obtain ⟨f, hf⟩ : ∃ f, old.length / 64 = f := ⟨_, rfl⟩
  have htlen : tail.length = old.length - 64 * f := by rw [← htl, List.length_drop, hf]
  obtain ⟨A, hA⟩ : ∃ A, tail ++ more = A := ⟨_, rfl⟩
  obtain ⟨n, hn⟩ : ∃ n, A.length = n := ⟨_, rfl⟩
  have hnn : n = old.length - 64 * f + more.length := by rw [← hn, ← hA, List.length_append, htlen]
  obtain ⟨L, hL⟩ : ∃ L, str (old ++ more) = L := ⟨_, rfl⟩
  have hLs : L.size = 64 * f + n := by rw [← hL, str_size, List.length_append]; omega
  have hLat : ∀ j, j < n → L.data.toList[64 * f + j]? = A[j]? := by
    intro j hj
    rw [← hL, str_data, ← hA, ← htl, hf]
    have : List.drop (64 * f) old ++ more = List.drop (64 * f) (old ++ more) := by rw [List.drop_append_of_le_length (by omega)]
    rw [this, List.getElem?_drop]
  have hold : str old ++ str more = L := by rw [str_append, hL]
  have hm := h.wf.most
  have har := fun W' (d' : Dv) (hW : RefAt W' rd ro rn co cn d') (hq : d'.on.length = d.on.length) => rArea_c hW (by omega)
  have HASZ : Hid (area * sz + sz + 2 ≤ d.on.length) := Lib.hid (by rcases (show area = 0 ∨ area = 1 by omega) with rfl | rfl <;> omega)
  obtain ⟨B, hBB⟩ : ∃ B, 2 + area * sz = B := ⟨_, rfl⟩
  have hb1 : B ≤ 1025 := by rcases (show area = 0 ∨ area = 1 by omega) with rfl | rfl <;> omega
  obtain ⟨y1, hy1⟩ : ∃ y : Int, (area : Int) * (64 * (sz : Int)) = y := ⟨_, rfl⟩
  obtain ⟨y2, hy2⟩ : ∃ y : Int, y1.tdiv 64 = y := ⟨_, rfl⟩
  have hy12 : 0 ≤ y1 ∧ y1 ≤ 65472 ∧ 0 ≤ y2 ∧ y2 ≤ 1023 ∧ 2 + y2 = (B : Int) := by
    rcases (show area = 0 ∨ area = 1 by omega) with rfl | rfl
    · have e1 : y1 = 0 := by rw [← hy1]; omega
      have e2 : y2 = 0 := by rw [← hy2, e1]; rfl
      omega
    · have e1 : y1 = 64 * (sz : Int) := by rw [← hy1]; omega
      have e2 : y2 = (sz : Int) := by rw [← hy2, e1, Int.tdiv_eq_ediv_of_nonneg (by omega)]; omega
      omega
  obtain ⟨g1, g2, g3, g4, g5⟩ := hy12
  have hfB : 64 * f + n ≤ 65472 := by omega
  have HFIT : Hid (∀ k, 64 * k < n → B + f + k < d.on.length) := Lib.hid (by intro k hk; have := HASZ.out; omega)
  have HRE : Hid ((if (if more = [] then (d, (0 : Int)) else (if (d.writes (B + f) (chunks n A)).2 = 0 then (d.writes (B + f) (chunks n A)).1.flush else d.writes (B + f) (chunks n A))).2 = 0 then
      (if more = [] then (d, (0 : Int)) else (if (d.writes (B + f) (chunks n A)).2 = 0 then (d.writes (B + f) (chunks n A)).1.flush else d.writes (B + f) (chunks n A))).1.wflush ((count + 1) % 2) (headText (count + 1) area L.size) else
      (if more = [] then (d, (0 : Int)) else (if (d.writes (B + f) (chunks n A)).2 = 0 then (d.writes (B + f) (chunks n A)).1.flush else d.writes (B + f) (chunks n A)))) = R) := Lib.hid (by
    rw [← hR]
    unfold Dv.settle
    rw [hA, hn, ← hsz, hf, hBB, show L.size = old.length + more.length by omega])
  obtain ⟨m, hmm⟩ : ∃ m, (count + 1) % 2 = m := ⟨_, rfl⟩
  rw [hmm] at HRE
  have hmc : ((count : Int) + 1).tmod 2 = (m : Int) := by rw [Int.tmod_eq_emod_of_nonneg (by omega)]; omega
  have hm1 : m ≤ 1 := by omega
  have hLb : L.size ≤ 65472 := by omega
  have hhd := fun W' => rHead_c (count + 1) area L.size W' hc (by omega) (by omega)
  have hhs : (headText (count + 1) area L.size).size = 64 := headText_size _ _ _
  obtain ⟨H, hH⟩ : ∃ H, headText (count + 1) area L.size = H := ⟨_, rfl⟩
  rw [hH] at HRE hhd
  have hmore : (str more).toList.isEmpty = decide (more = []) := by
    rw [Lib.toList_data, str_data]; cases more <;> simp
  obtain ⟨i0, hi, hz0, hz1, hz2⟩ := info_parts byteInfo
  have HI := Lib.hid (show _ ∧ _ ∧ _ ∧ _ from ⟨hi, hz0, hz1, hz2⟩)
  have HN := Lib.hid hn
  have HAT := Lib.hid hLat
  have HLS := Lib.hid hLs
  have HMC := Lib.hid hmc
  have HOLD := Lib.hid hold
  have HL := Lib.hid hL
  have HY1 := Lib.hid hy1
  have HY2 := Lib.hid hy2
  have HG5 := Lib.hid g5
  have HD := Lib.hid h
  have HLB := Lib.hid hB
  have HAR := Lib.hid har
  have HSZ := Lib.hid hsz
  have HM4 := Lib.hid h4
  have HMR := Lib.hid hmore
  have HHD := Lib.hid hhd
  have hq : ((str old).size : Int) / 64 = (f : Int) := by rw [str_size]; omega
  have HQ := Lib.hid hq
  have hos : (str old).size ≤ 65472 := by rw [str_size]; omega
  have hms : (str more).size ≤ 65472 := by rw [str_size]; omega
  obtain ⟨O, hO⟩ : ∃ O, str old = O := ⟨_, rfl⟩
  obtain ⟨M, hMM⟩ : ∃ M, str more = M := ⟨_, rfl⟩
  rw [hO] at HOLD HQ hos
  rw [hMM] at HMR HOLD hms
  rw [hO, hMM, hL]
  have HW0 : Hid (d.writes (B + f) (chunks n A) = d.writes (B + f + 0) (chunks (n - 0) (A.drop (64 * 0)))) := Lib.hid rfl
  clear hi hz0 hz1 hz2 hn hLat hLs hmc hold hy1 hy2 g5 h hB har hsz h4 hmore hhd hq hO hMM hR hA hL hBB hmm hhs hH htlen hnn hl hf htl HASZ
  go_enter Tryz.func61, Tryz.ntmps61
  go_wp2
  rw [HQ.out, HOLD.out]
  go_loopw [11] (fun i wr => ∃ (k : Nat) (d' : Dv), 64 * k ≤ n + 63 ∧ i = .int .i64 ((f + k : Nat) : Int) ∧ Hid (RefAt wr rd ro rn co cn d') ∧ Hid (d'.on.length = d.on.length) ∧
      Hid (d.writes (B + f) (chunks n A) = d'.writes (B + f + k) (chunks (n - k) (A.drop (64 * k)))) ∧
      Hid (Blk wr rl (rawRef rd count area0 bytes0 v many)) ∧ Hid (Fr [rd, rn] w wr) ∧ Hid (more = [] → k = 0 ∧ d' = d)) (fun i _ => 70000 - (intOf i).toNat)
  case atStart => exact ⟨0, d, by omega, rfl, HD, Lib.hid rfl, HW0, HLB, Lib.hid (Fr.refl _ _), Lib.hid (fun _ => ⟨rfl, rfl⟩)⟩
  case round =>
    obtain ⟨k, d', hk, rfl, hD', hlen, hW, hB, hF, hemp⟩ := hrel
    obtain ⟨wo, rfl⟩ : ∃ wo : World, wo = wr := ⟨_, rfl⟩
    have hkb : k ≤ 2000 := by omega
    by_cases hgo : more ≠ [] ∧ 64 * k < n
    · obtain ⟨hmne, hlt⟩ := hgo
      have hM0 : M.toList.isEmpty = false := by rw [HMR.out]; simpa using hmne
      obtain ⟨i, hi⟩ : ∃ i, f + k = i := ⟨_, rfl⟩
      have hib : i ≤ 1023 := by omega
      have hlt' : (i : Int) * 64 < (L.size : Int) := by rw [HLS.out]; omega
      obtain ⟨X, hX⟩ : ∃ X, (A.drop (64 * k)).take 64 = X := ⟨_, rfl⟩
      obtain ⟨m1, hXl⟩ : ∃ m1, X.length = m1 := ⟨_, rfl⟩
      have hXl2 : m1 = min 64 (n - 64 * k) := by rw [← hXl, ← hX, List.length_take, List.length_drop, HN.out]
      have hm64 : m1 ≤ 64 := by omega
      have hm11 : 1 ≤ m1 := by omega
      have hLS := HLS.out
      have hmL : 64 * i + m1 ≤ L.size := by omega
      have hend : m1 = 64 ∨ 64 * i + m1 = L.size := by omega
      have HXA : Hid (∀ j, j < m1 → L.data.toList.getD (64 * i + j) 0 = X.getD j 0) := Lib.hid (by
        intro j hj
        rw [List.getD_eq_getElem?_getD, List.getD_eq_getElem?_getD, ← hi, show 64 * (f + k) + j = 64 * f + (64 * k + j) by omega, HAT.out _ (by omega), ← hX, List.getElem?_take, if_pos (by omega), List.getElem?_drop])
      obtain ⟨S, hS⟩ : ∃ S, str (padTo X) = S := ⟨_, rfl⟩
      have hS64 : S.size = 64 := by rw [← hS]; exact padTo_size X (by omega)
      have hst := writes_step d' (B + f + k) (n - k) (A.drop (64 * k)) (by
        intro e
        have := congrArg List.length e
        rw [List.length_drop, HN.out] at this
        simp at this; omega) (by omega)
      rw [List.drop_drop, hX, hS] at hst
      have hfk := HFIT.out k hlt
      have HPB : Hid (byteVals (X.take m1) ++ List.replicate (64 - m1) (Value.int .u8 0) = bytesOf S) := Lib.hid (by rw [← hS]; exact pad_bytes X m1 (by omega) hXl.symm)
      have HPA : Hid (∀ j, j < m1 → (byteVals (X.take j) ++ List.replicate (64 - j) (Value.int .u8 0)).set j (.int .u8 ((X.getD j 0).toNat : Int)) = byteVals (X.take (j + 1)) ++ List.replicate (64 - (j + 1)) (Value.int .u8 0)) :=
        Lib.hid (fun j hj => pad_at X j (by omega) (by omega))
      have HPL : Hid (∀ j, j < m1 → (byteVals (X.take j) ++ List.replicate (64 - j) (Value.int .u8 0))[j]? = some (.int .u8 0)) := Lib.hid (by
        intro j hj
        have hl : (byteVals (X.take j)).length = j := by simp [byteVals]; omega
        rw [List.getElem?_append_right (by omega), hl, Nat.sub_self, List.getElem?_replicate, if_pos (by omega)])
      obtain ⟨i0, hi0, hz0, hz1, hz2⟩ := info_parts byteInfo
      have hmk := run_make (P := Tryz.prog) wo 42 5 i0 _ Tryz.underlying42 hi0 hz0 .i64 .i64 64 64 (by omega) (by omega) (by rw [hz2]; omega) (by omega)
      rw [hz1] at hmk
      have e8 : (64 : Int).toNat * 1 = 64 := rfl
      rw [e8, madeCells_bytes] at hmk
      have hBm : Blk (wo.alloc (.cells (List.replicate 64 (Value.int .u8 0)).toArray 5)) wo.heap.size (List.replicate 64 (Value.int .u8 0)) := Blk.new _ _ _
      have hFm : Fr [] wo (wo.alloc (.cells (List.replicate 64 (Value.int .u8 0)).toArray 5)) := (Fr.refl _ _).alloc _
      change _ = Result.ok (Value.slice (some ⟨wo.heap.size, 0, none⟩) 64 64) _ at hmk
      generalize wo.alloc (.cells (List.replicate 64 (Value.int .u8 0)).toArray 5) = W at hmk hBm hFm
      obtain ⟨bz, hbz⟩ : ∃ bz, wo.heap.size = bz := ⟨_, rfl⟩
      rw [hbz] at hmk hBm
      have HBZ := Lib.hid hbz
      have HBM : Hid (Blk W bz (byteVals (X.take 0) ++ List.replicate (64 - 0) (Value.int .u8 0))) := Lib.hid (by simpa [byteVals] using hBm)
      have HFM := Lib.hid hFm
      have HII := Lib.hid hi
      have HST := Lib.hid hst
      have HS64 := Lib.hid hS64
      have HHLT := Lib.hid hlt
      rw [hi]
      clear hX hXl hXl2 hBm hFm hi0 hz0 hz1 hz2 e8 hbz hi hst hS64 hS hLS
      go_wp2
      go_loopw [13] (fun j wr => ∃ jn : Nat, jn ≤ m1 ∧ j = .int .i64 (jn : Int) ∧ Hid (Blk wr bz (byteVals (X.take jn) ++ List.replicate (64 - jn) (Value.int .u8 0))) ∧ Hid (Fr [] wo wr)) (fun j _ => 64 - (intOf j).toNat)
      case atStart => exact ⟨0, Nat.zero_le _, rfl, HBM, HFM⟩
      case round =>
        obtain ⟨j, hj, rfl, hBj, hFj⟩ := hrel
        by_cases hjl : j < m1
        · have hix := run_idx L (64 * i + j) (by omega)
          rw [HXA.out j hjl, show ((64 * i + j : Nat) : Int) = (i : Int) * 64 + (j : Int) by omega] at hix
          have hjI : (j : Int) < 64 := by omega
          have hlj : (i : Int) * 64 + (j : Int) < (L.size : Int) := by omega
          have hcj : _ = _ := hBj.out.cell j
          rw [HPL.out j hjl] at hcj
          have hfj := hBj.out.free j
          have hub : ((X.getD j 0).toNat : Int) < 256 := by have := (X.getD j 0).toNat_lt; omega
          go_wp2
          go_roundw
          case rel => exact ⟨j + 1, by omega, by go_num, Lib.hid (by rw [← HPA.out j hjl]; exact hBj.out.set j _), Lib.hid (hFj.out.setCell (Or.inr (by rw [HBZ.out]; exact Nat.le_refl _)) _)⟩
          case measure => simp [intOf]; omega
        · obtain rfl : m1 = j := by omega
          clear hjl hj HXA HPA HPL
          have HB2 := Lib.hid (hB.out.fr hFj.out (by simp))
          have HD2 := Lib.hid (hD'.out.fr hFj.out (by simp) (by simp) (by simp))
          have hac := fun W' (hW' : Fr [] wr W') => HAR.out W' d' (HD2.out.fr hW' (by simp) (by simp) (by simp)) hlen.out
          rw [hlen.out, ← HSZ.out] at hac
          have hBc := hBj.out
          rw [HPB.out] at hBc
          have hconv := fun W' (hW' : Fr [] wr W') => conv_bytes (off := 0) (len := 64) (cap := 64) (hBc.fr hW' (by simp)) S HS64.out (by intro q hq; rw [Nat.zero_add])
          obtain ⟨y4, hy4⟩ : ∃ y : Int, (B : Int) + (i : Int) = y := ⟨_, rfl⟩
          have hy4' : ((B + f + k : Nat) : Int) = y4 := by rw [← hy4, ← HII.out]; omega
          have HY4 := Lib.hid hy4
          have hwr := fun W' (hW' : Fr [] wr W') => rWrite_c (HD2.out.fr hW' (by simp) (by simp) (by simp)) ((B + f + k : Nat) : Int) S
          rw [hy4'] at hwr
          have hst := HST.out
          rw [hy4'] at hst
          have HF2 := Lib.hid (hF.out.trans hFj.out.any)
          have hl2 := Dv.write_len d' y4 S
          have hyb : 0 ≤ y4 ∧ y4 ≤ 4096 := by omega
          clear hy4 hy4' HST hBc
          have hendI : (m1 : Int) = 64 ∨ ((m1 : Int) < 64 ∧ (L.size : Int) ≤ (i : Int) * 64 + (m1 : Int)) := by omega
          by_cases hw0 : (d'.write y4 S).2 = 0
          · rw [if_pos hw0] at hst
            simp only [hw0] at hwr
            generalize (d'.write y4 S).1 = d2 at *
            have HST2 : Hid (d.writes (B + f) (chunks n A) = d2.writes (B + f + (k + 1)) (chunks (n - (k + 1)) (A.drop (64 * (k + 1))))) := Lib.hid (by
              rw [hW.out, hst, show n - k - 1 = n - (k + 1) by omega, show 64 * k + 64 = 64 * (k + 1) by omega, Nat.add_assoc (B + f) k 1])
            clear hw0 hst hW
            rcases hendI with he | ⟨he, he2⟩
            all_goals
              go_wp2
              refine wp_region_tail 17 (by kernel_rfl) (by kernel_rfl) ?_
              refine q_val rfl (by intro w' _; go_simp; rfl) ?_
              go_frame
              refine q_val rfl (by intro w' _; go_simp; rfl) ?_
              go_frame
              refine q_val rfl (by intro w' _; go_simp; rfl) ?_
              go_frame
              refine q_val (v := .pointer (some ⟨rd, 0, none⟩)) rfl (by intro w' hW'; have := (ref_cells (HB2.out.fr hW' (by simp))).1; go_simp) ?_
              go_frame
              refine q_val rfl (by intro w' _; go_simp; rfl) ?_
              go_frame
              refine q_val rfl (by intro w' _; go_simp; rfl) ?_
              go_frame
              refine q_val rfl (by intro w' _; go_simp; rfl) ?_
              go_frame
              refine q_val rfl (by intro w' _; go_simp; rfl) ?_
              go_frame
              refine q_val (v := .pointer (some ⟨rd, 0, none⟩)) rfl (by intro w' hW'; have := (ref_cells (HB2.out.fr hW' (by simp))).1; go_simp) ?_
              go_frame
              refine q_call (f := 52) (args := #[.pointer (some ⟨rd, 0, none⟩)]) (v := .int .i64 (64 * (sz : Int))) rfl (by intro w'; go_simp; try rfl) (fun w' hW' => (hac w' hW').mono fun e w'' ⟨h1, h2⟩ => ⟨h1, h2 ▸ Fr.refl _ _⟩) ?_
              go_frame
              refine q_val (v := .int .i64 y1) rfl (by intro w' _; have := HY1.out; go_simp; exact IntWalk.i64_in _ (by omega)) ?_
              go_frame
              refine q_val (v := .int .i64 y2) rfl (by intro w' _; go_simp; rw [HY2.out]; exact IntWalk.i64_in _ (by omega)) ?_
              go_frame
              refine q_val (v := .int .i64 (B : Int)) rfl (by intro w' _; have := HG5.out; go_simp; exact IntWalk.i64_in _ (by omega)) ?_
              go_frame
              refine q_val rfl (by intro w' _; go_simp; rfl) ?_
              go_frame
              refine q_val (v := .int .i64 y4) rfl (by intro w' _; have := HY4.out; go_simp; exact IntWalk.i64_in _ (by omega)) ?_
              go_frame
              refine q_val rfl (by intro w' _; go_simp; rfl) ?_
              go_frame
              refine q_val (v := .string S) rfl (by intro w' hW'; have hcv := hconv w' hW'; go_simp) ?_
              go_frame
              refine wpQuiet_nil ?_
              intro w5 hF5
              go_wp2_with (go_at_call 46; refine (hwr w5 hF5).mono ?_; rintro e w6 ⟨rfl, hD6, hF6⟩; clear hwr)
              go_roundw
              case rel => exact ⟨k + 1, d2, by have := HHLT.out; omega, by rw [← HII.out]; go_num, Lib.hid hD6, Lib.hid (by rw [hl2]; exact hlen.out), HST2, Lib.hid ((HB2.out.fr hF5 (by simp)).fr hF6 (by simp [h1, h3])), Lib.hid ((HF2.out.trans hF5.any).trans hF6), Lib.hid (fun e => absurd e hmne)⟩
              case measure => have := HII.out; simp [intOf]; omega
          · rw [if_neg hw0] at hst
            have HRR : Hid (R = d'.write y4 S) := Lib.hid (by
              have e1 : d.writes (B + f) (chunks n A) = d'.write y4 S := by rw [hW.out, hst]
              rw [← HRE.out]
              simp only [if_neg hmne, e1, if_neg hw0])
            have HR2 : Hid (R.2 ≠ 0) := Lib.hid (by rw [HRR.out]; exact hw0)
            have hwr2 : ∀ W', Fr [] wr W' → Calls Tryz.prog 46 #[.pointer (some ⟨rd, 0, none⟩), .int .i64 y4, .string S] W' fun e w' =>
                e = .returned (.int .i64 R.2) ∧ RefAt w' rd ro rn co cn R.1 ∧ Fr [rd, rn] W' w' := by
              rw [HRR.out]; exact hwr
            clear hst hW hwr hw0
            have hne : (R.2 != 0) = true := by simpa using HR2.out
            rcases hendI with he | ⟨he, he2⟩
            all_goals
              go_wp2
              refine wp_region_tail 17 (by kernel_rfl) (by kernel_rfl) ?_
              refine q_val rfl (by intro w' _; go_simp; rfl) ?_
              go_frame
              refine q_val rfl (by intro w' _; go_simp; rfl) ?_
              go_frame
              refine q_val rfl (by intro w' _; go_simp; rfl) ?_
              go_frame
              refine q_val (v := .pointer (some ⟨rd, 0, none⟩)) rfl (by intro w' hW'; have := (ref_cells (HB2.out.fr hW' (by simp))).1; go_simp) ?_
              go_frame
              refine q_val rfl (by intro w' _; go_simp; rfl) ?_
              go_frame
              refine q_val rfl (by intro w' _; go_simp; rfl) ?_
              go_frame
              refine q_val rfl (by intro w' _; go_simp; rfl) ?_
              go_frame
              refine q_val rfl (by intro w' _; go_simp; rfl) ?_
              go_frame
              refine q_val (v := .pointer (some ⟨rd, 0, none⟩)) rfl (by intro w' hW'; have := (ref_cells (HB2.out.fr hW' (by simp))).1; go_simp) ?_
              go_frame
              refine q_call (f := 52) (args := #[.pointer (some ⟨rd, 0, none⟩)]) (v := .int .i64 (64 * (sz : Int))) rfl (by intro w'; go_simp; try rfl) (fun w' hW' => (hac w' hW').mono fun e w'' ⟨h1, h2⟩ => ⟨h1, h2 ▸ Fr.refl _ _⟩) ?_
              go_frame
              refine q_val (v := .int .i64 y1) rfl (by intro w' _; have := HY1.out; go_simp; exact IntWalk.i64_in _ (by omega)) ?_
              go_frame
              refine q_val (v := .int .i64 y2) rfl (by intro w' _; go_simp; rw [HY2.out]; exact IntWalk.i64_in _ (by omega)) ?_
              go_frame
              refine q_val (v := .int .i64 (B : Int)) rfl (by intro w' _; have := HG5.out; go_simp; exact IntWalk.i64_in _ (by omega)) ?_
              go_frame
              refine q_val rfl (by intro w' _; go_simp; rfl) ?_
              go_frame
              refine q_val (v := .int .i64 y4) rfl (by intro w' _; have := HY4.out; go_simp; exact IntWalk.i64_in _ (by omega)) ?_
              go_frame
              refine q_val rfl (by intro w' _; go_simp; rfl) ?_
              go_frame
              refine q_val (v := .string S) rfl (by intro w' hW'; have hcv := hconv w' hW'; go_simp) ?_
              go_frame
              refine wpQuiet_nil ?_
              intro w5 hF5
              go_wp2_with (go_at_call 46; refine (hwr2 w5 hF5).mono ?_; rintro e w6 ⟨rfl, hD6, hF6⟩; clear hwr2)
              go_ret
              (try rw [if_neg HR2.out])
              exact ⟨rfl, hD6, (((HF2.out.mono (by simp)).trans hF5.any).trans (hF6.mono (by simp))), (HB2.out.fr hF5 (by simp)).fr hF6 (by simp [h1, h3])⟩
    · by_cases hmne : more = []
      · obtain ⟨rfl, rfl⟩ := hemp.out hmne
        have hM0 : M.toList.isEmpty = true := by rw [HMR.out]; simpa using hmne
        have HWF : Hid (d'.wflush m H = R) := Lib.hid (by rw [← HRE.out]; simp only [if_pos hmne, if_true])
        have HB2 := hB
        have HD2 := hD'
        have HF2 : Hid (Fr [rd, ro, rn] w wo) := Lib.hid (hF.out.mono (by simp))
        clear hB hD' hF hemp hgo hW
        obtain ⟨w2, rfl⟩ : ∃ w2 : World, w2 = wo := ⟨_, rfl⟩
        by_cases hw0 : (d'.write (m : Int) H).2 = 0
        · have HR1 : Hid ((d'.write (m : Int) H).1.flush = R) := Lib.hid (by rw [← HWF.out]; unfold Dv.wflush; rw [if_pos hw0])
          by_cases hf1 : (d'.write (m : Int) H).1.flush.2 = 0
          · have HW0' := Lib.hid hw0
            have HF0' := Lib.hid hf1
            have HR2 : Hid (R.2 = 0) := Lib.hid (by rw [← HR1.out]; exact hf1)
            clear hw0 hf1 HWF
            go_wp2
            refine wp_region_tail 19 (by kernel_rfl) (by kernel_rfl) ?_
            refine q_val rfl (by intro w' _; go_simp; rfl) ?_
            go_frame
            refine q_val rfl (by intro w' _; go_simp; rfl) ?_
            go_frame
            refine q_val rfl (by intro w' _; go_simp; rfl) ?_
            go_frame
            refine q_val (v := .pointer (some ⟨rd, 0, none⟩)) rfl (by intro w' hW'; have := (ref_cells (HB2.out.fr hW' (by simp))).1; go_simp) ?_
            go_frame
            refine q_val rfl (by intro w' _; go_simp; rfl) ?_
            go_frame
            refine q_val rfl (by intro w' _; go_simp; rfl) ?_
            go_frame
            refine q_val rfl (by intro w' _; go_simp; rfl) ?_
            go_frame
            refine q_val (v := .int .i64 (count : Int)) rfl (by intro w' hW'; have := (ref_cells (HB2.out.fr hW' (by simp))).2.1; go_simp) ?_
            go_frame
            refine q_val (v := .int .i64 ((count : Int) + 1)) rfl (by intro w' hW; go_simp; try exact IntWalk.i64_in _ (by omega)) ?_
            go_frame
            refine q_val (v := .int .i64 (m : Int)) rfl (by intro w' hW; go_simp; exact HMC.out) ?_
            go_frame
            refine q_val rfl (by intro w' _; go_simp; rfl) ?_
            go_frame
            refine q_val rfl (by intro w' _; go_simp; rfl) ?_
            go_frame
            refine q_val rfl (by intro w' _; go_simp; rfl) ?_
            go_frame
            refine q_val (v := .int .i64 (count : Int)) rfl (by intro w' hW'; have := (ref_cells (HB2.out.fr hW' (by simp))).2.1; go_simp) ?_
            go_frame
            refine q_val (v := .int .i64 ((count + 1 : Nat) : Int)) rfl (by intro w' hW; go_simp; try exact (IntWalk.i64_in _ (by omega)).trans (by omega)) ?_
            go_frame
            refine q_val rfl (by intro w' _; go_simp; rfl) ?_
            go_frame
            refine q_val rfl (by intro w' _; go_simp; rfl) ?_
            go_frame
            refine q_val (v := .int .i64 (L.size : Int)) rfl (by intro w' _; go_simp; try rfl) ?_
            go_frame
            refine q_call (f := 47) (args := #[.int .i64 ((count + 1 : Nat) : Int), .int .i64 (area : Int), .int .i64 (L.size : Int)]) (v := .string H) rfl (by intro w'; go_simp; try rfl) (fun w' _ => HHD.out w') ?_
            go_frame
            refine wpQuiet_nil ?_
            intro w5 hF5
            have hD5 := HD2.out.fr hF5 (by simp) (by simp) (by simp)
            have HB5 := Lib.hid (HB2.out.fr hF5 (by simp))
            have HF5 := Lib.hid (HF2.out.trans hF5.any)
            have hwr := rWrite_c hD5 (m : Int) H
            clear hF5 hD5
            go_wp2_with (first
              | (go_at_call 46; refine hwr.mono ?_; rintro e w6 ⟨rfl, hD6, hF6⟩; clear hwr; rw [HW0'.out]
                 have hfl6 := rFlush_c hD6
                 rw [HR1.out, HR2.out] at hfl6
                 have HB6 := Lib.hid (HB5.out.fr hF6 (by simp [h1, h3]))
                 have k60 := (ref_cells HB6.out).1
                 have HF6 := Lib.hid (HF5.out.trans (hF6.mono (by simp)))
                 clear hD6 hF6)
              | (go_at_call 48; refine hfl6.mono ?_; rintro e w7 ⟨rfl, hD7, hF7⟩; clear hfl6
                 have HB7 := Lib.hid (HB6.out.fr hF7 (by simp [h1, h2, h3]))
                 have k71 := (ref_cells HB7.out).2.1
                 have k72 := (ref_cells HB7.out).2.2.1
                 have k73 := (ref_cells HB7.out).2.2.2.1
                 have f71 := HB7.out.free 1
                 have f72 := HB7.out.free 2
                 have f73 := HB7.out.free 3
                 have HF7 := Lib.hid (HF6.out.trans (hF7.mono (by simp)))
                 have HD7 := Lib.hid hD7
                 clear hD7 hF7))
            go_ret
            have hset : Fr [rl] w7 (((w7.setCell ⟨rl, 1, none⟩ (.int .i64 ((count : Int) + 1))).setCell ⟨rl, 2, none⟩ (.int .i64 (area : Int))).setCell ⟨rl, 3, none⟩ (.string L)) :=
              (((Fr.refl _ _).setCell (Or.inl (by simp)) _).setCell (Or.inl (by simp)) _).setCell (Or.inl (by simp)) _
            (try rw [if_pos HR2.out])
            refine ⟨by first | rfl | (rw [HR2.out]; rfl), HD7.out.fr hset (by simp [Ne.symm h1]) (by simp [Ne.symm h2]) (by simp [Ne.symm h3]), (HF7.out.mono (by simp)).trans (hset.mono (by simp)), ?_⟩
            exact ((HB7.out.set 1 (.int .i64 ((count : Int) + 1))).set 2 (.int .i64 (area : Int))).set 3 (.string L)
          · have HW0' := Lib.hid hw0
            have HR2 : Hid (R.2 ≠ 0) := Lib.hid (by rw [← HR1.out]; exact hf1)
            have hne : (R.2 != 0) = true := by simpa using HR2.out
            clear hw0 hf1 HWF
            go_wp2
            refine wp_region_tail 19 (by kernel_rfl) (by kernel_rfl) ?_
            refine q_val rfl (by intro w' _; go_simp; rfl) ?_
            go_frame
            refine q_val rfl (by intro w' _; go_simp; rfl) ?_
            go_frame
            refine q_val rfl (by intro w' _; go_simp; rfl) ?_
            go_frame
            refine q_val (v := .pointer (some ⟨rd, 0, none⟩)) rfl (by intro w' hW'; have := (ref_cells (HB2.out.fr hW' (by simp))).1; go_simp) ?_
            go_frame
            refine q_val rfl (by intro w' _; go_simp; rfl) ?_
            go_frame
            refine q_val rfl (by intro w' _; go_simp; rfl) ?_
            go_frame
            refine q_val rfl (by intro w' _; go_simp; rfl) ?_
            go_frame
            refine q_val (v := .int .i64 (count : Int)) rfl (by intro w' hW'; have := (ref_cells (HB2.out.fr hW' (by simp))).2.1; go_simp) ?_
            go_frame
            refine q_val (v := .int .i64 ((count : Int) + 1)) rfl (by intro w' hW; go_simp; try exact IntWalk.i64_in _ (by omega)) ?_
            go_frame
            refine q_val (v := .int .i64 (m : Int)) rfl (by intro w' hW; go_simp; exact HMC.out) ?_
            go_frame
            refine q_val rfl (by intro w' _; go_simp; rfl) ?_
            go_frame
            refine q_val rfl (by intro w' _; go_simp; rfl) ?_
            go_frame
            refine q_val rfl (by intro w' _; go_simp; rfl) ?_
            go_frame
            refine q_val (v := .int .i64 (count : Int)) rfl (by intro w' hW'; have := (ref_cells (HB2.out.fr hW' (by simp))).2.1; go_simp) ?_
            go_frame
            refine q_val (v := .int .i64 ((count + 1 : Nat) : Int)) rfl (by intro w' hW; go_simp; try exact (IntWalk.i64_in _ (by omega)).trans (by omega)) ?_
            go_frame
            refine q_val rfl (by intro w' _; go_simp; rfl) ?_
            go_frame
            refine q_val rfl (by intro w' _; go_simp; rfl) ?_
            go_frame
            refine q_val (v := .int .i64 (L.size : Int)) rfl (by intro w' _; go_simp; try rfl) ?_
            go_frame
            refine q_call (f := 47) (args := #[.int .i64 ((count + 1 : Nat) : Int), .int .i64 (area : Int), .int .i64 (L.size : Int)]) (v := .string H) rfl (by intro w'; go_simp; try rfl) (fun w' _ => HHD.out w') ?_
            go_frame
            refine wpQuiet_nil ?_
            intro w5 hF5
            have hD5 := HD2.out.fr hF5 (by simp) (by simp) (by simp)
            have HB5 := Lib.hid (HB2.out.fr hF5 (by simp))
            have HF5 := Lib.hid (HF2.out.trans hF5.any)
            have hwr := rWrite_c hD5 (m : Int) H
            clear hF5 hD5
            go_wp2_with (first
              | (go_at_call 46; refine hwr.mono ?_; rintro e w6 ⟨rfl, hD6, hF6⟩; clear hwr; rw [HW0'.out]
                 have hfl6 := rFlush_c hD6
                 rw [HR1.out] at hfl6
                 have HB6 := Lib.hid (HB5.out.fr hF6 (by simp [h1, h3]))
                 have k60 := (ref_cells HB6.out).1
                 have HF6 := Lib.hid (HF5.out.trans (hF6.mono (by simp)))
                 clear hD6 hF6)
              | (go_at_call 48; refine hfl6.mono ?_; rintro e w7 ⟨rfl, hD7, hF7⟩; clear hfl6))
            go_ret
            (try rw [if_neg HR2.out])
            exact ⟨rfl, hD7, (HF6.out.mono (by simp)).trans (hF7.mono (by simp)), HB6.out.fr hF7 (by simp [h1, h2, h3])⟩
        · have HR1 : Hid (d'.write (m : Int) H = R) := Lib.hid (by rw [← HWF.out]; unfold Dv.wflush; rw [if_neg hw0])
          have HR2 : Hid (R.2 ≠ 0) := Lib.hid (by rw [← HR1.out]; exact hw0)
          have hne : (R.2 != 0) = true := by simpa using HR2.out
          clear hw0 HWF
          go_wp2
          refine wp_region_tail 19 (by kernel_rfl) (by kernel_rfl) ?_
          refine q_val rfl (by intro w' _; go_simp; rfl) ?_
          go_frame
          refine q_val rfl (by intro w' _; go_simp; rfl) ?_
          go_frame
          refine q_val rfl (by intro w' _; go_simp; rfl) ?_
          go_frame
          refine q_val (v := .pointer (some ⟨rd, 0, none⟩)) rfl (by intro w' hW'; have := (ref_cells (HB2.out.fr hW' (by simp))).1; go_simp) ?_
          go_frame
          refine q_val rfl (by intro w' _; go_simp; rfl) ?_
          go_frame
          refine q_val rfl (by intro w' _; go_simp; rfl) ?_
          go_frame
          refine q_val rfl (by intro w' _; go_simp; rfl) ?_
          go_frame
          refine q_val (v := .int .i64 (count : Int)) rfl (by intro w' hW'; have := (ref_cells (HB2.out.fr hW' (by simp))).2.1; go_simp) ?_
          go_frame
          refine q_val (v := .int .i64 ((count : Int) + 1)) rfl (by intro w' hW; go_simp; try exact IntWalk.i64_in _ (by omega)) ?_
          go_frame
          refine q_val (v := .int .i64 (m : Int)) rfl (by intro w' hW; go_simp; exact HMC.out) ?_
          go_frame
          refine q_val rfl (by intro w' _; go_simp; rfl) ?_
          go_frame
          refine q_val rfl (by intro w' _; go_simp; rfl) ?_
          go_frame
          refine q_val rfl (by intro w' _; go_simp; rfl) ?_
          go_frame
          refine q_val (v := .int .i64 (count : Int)) rfl (by intro w' hW'; have := (ref_cells (HB2.out.fr hW' (by simp))).2.1; go_simp) ?_
          go_frame
          refine q_val (v := .int .i64 ((count + 1 : Nat) : Int)) rfl (by intro w' hW; go_simp; try exact (IntWalk.i64_in _ (by omega)).trans (by omega)) ?_
          go_frame
          refine q_val rfl (by intro w' _; go_simp; rfl) ?_
          go_frame
          refine q_val rfl (by intro w' _; go_simp; rfl) ?_
          go_frame
          refine q_val (v := .int .i64 (L.size : Int)) rfl (by intro w' _; go_simp; try rfl) ?_
          go_frame
          refine q_call (f := 47) (args := #[.int .i64 ((count + 1 : Nat) : Int), .int .i64 (area : Int), .int .i64 (L.size : Int)]) (v := .string H) rfl (by intro w'; go_simp; try rfl) (fun w' _ => HHD.out w') ?_
          go_frame
          refine wpQuiet_nil ?_
          intro w5 hF5
          have hD5 := HD2.out.fr hF5 (by simp) (by simp) (by simp)
          have HB5 := Lib.hid (HB2.out.fr hF5 (by simp))
          have HF5 := Lib.hid (HF2.out.trans hF5.any)
          have hwr := rWrite_c hD5 (m : Int) H
          clear hF5 hD5
          rw [HR1.out] at hwr
          go_wp2_with (go_at_call 46; refine hwr.mono ?_; rintro e w6 ⟨rfl, hD6, hF6⟩; clear hwr)
          go_ret
          (try rw [if_neg HR2.out])
          exact ⟨rfl, hD6, (HF5.out.mono (by simp)).trans (hF6.mono (by simp)), HB5.out.fr hF6 (by simp [h1, h3])⟩
      · have hM0 : M.toList.isEmpty = false := by rw [HMR.out]; simpa using hmne
        have hge : n ≤ 64 * k := by
          rcases Nat.lt_or_ge (64 * k) n with h | h
          · exact absurd ⟨hmne, h⟩ hgo
          · exact h
        have hgeI : (L.size : Int) ≤ ((f + k : Nat) : Int) * 64 := by rw [HLS.out]; omega
        have HW1 : Hid (d.writes (B + f) (chunks n A) = (d', 0)) := Lib.hid (by
          rw [hW.out, List.drop_eq_nil_of_le (by rw [HN.out]; exact hge), chunks_nil]; rfl)
        have hfl := rFlush_c hD'.out
        have k0 := (ref_cells hB.out).1
        have HF1 := hF
        have hgo2 : hge = hge := rfl
        clear hW hemp hgo hgo2 hF
        by_cases hf0 : d'.flush.2 = 0
        · have HWF : Hid (d'.flush.1.wflush m H = R) := Lib.hid (by rw [← HRE.out]; simp only [if_neg hmne, HW1.out, if_true, if_pos hf0])
          rw [hf0] at hfl
          generalize d'.flush.1 = d3 at *
          clear hf0 HW1
          by_cases hw0 : (d3.write (m : Int) H).2 = 0
          · have HR1 : Hid ((d3.write (m : Int) H).1.flush = R) := Lib.hid (by rw [← HWF.out]; unfold Dv.wflush; rw [if_pos hw0])
            by_cases hf1 : (d3.write (m : Int) H).1.flush.2 = 0
            · have HW0' := Lib.hid hw0
              have HF0' := Lib.hid hf1
              have HR2 : Hid (R.2 = 0) := Lib.hid (by rw [← HR1.out]; exact hf1)
              clear hw0 hf1 HWF
              go_wp2_with (go_at_call 48; refine hfl.mono ?_; rintro e w2 ⟨rfl, hD2, hF2⟩; clear hfl
                           have HD2 := Lib.hid hD2
                           have HB2 := Lib.hid (hB.out.fr hF2 (by simp [h1, h2, h3]))
                           have HF2 : Hid (Fr [rd, ro, rn] w w2) := Lib.hid ((HF1.out.mono (by simp)).trans hF2)
                           clear hD2 hF2)
              refine wp_region_tail 19 (by kernel_rfl) (by kernel_rfl) ?_
              refine q_val rfl (by intro w' _; go_simp; rfl) ?_
              go_frame
              refine q_val rfl (by intro w' _; go_simp; rfl) ?_
              go_frame
              refine q_val rfl (by intro w' _; go_simp; rfl) ?_
              go_frame
              refine q_val (v := .pointer (some ⟨rd, 0, none⟩)) rfl (by intro w' hW'; have := (ref_cells (HB2.out.fr hW' (by simp))).1; go_simp) ?_
              go_frame
              refine q_val rfl (by intro w' _; go_simp; rfl) ?_
              go_frame
              refine q_val rfl (by intro w' _; go_simp; rfl) ?_
              go_frame
              refine q_val rfl (by intro w' _; go_simp; rfl) ?_
              go_frame
              refine q_val (v := .int .i64 (count : Int)) rfl (by intro w' hW'; have := (ref_cells (HB2.out.fr hW' (by simp))).2.1; go_simp) ?_
              go_frame
              refine q_val (v := .int .i64 ((count : Int) + 1)) rfl (by intro w' hW; go_simp; try exact IntWalk.i64_in _ (by omega)) ?_
              go_frame
              refine q_val (v := .int .i64 (m : Int)) rfl (by intro w' hW; go_simp; exact HMC.out) ?_
              go_frame
              refine q_val rfl (by intro w' _; go_simp; rfl) ?_
              go_frame
              refine q_val rfl (by intro w' _; go_simp; rfl) ?_
              go_frame
              refine q_val rfl (by intro w' _; go_simp; rfl) ?_
              go_frame
              refine q_val (v := .int .i64 (count : Int)) rfl (by intro w' hW'; have := (ref_cells (HB2.out.fr hW' (by simp))).2.1; go_simp) ?_
              go_frame
              refine q_val (v := .int .i64 ((count + 1 : Nat) : Int)) rfl (by intro w' hW; go_simp; try exact (IntWalk.i64_in _ (by omega)).trans (by omega)) ?_
              go_frame
              refine q_val rfl (by intro w' _; go_simp; rfl) ?_
              go_frame
              refine q_val rfl (by intro w' _; go_simp; rfl) ?_
              go_frame
              refine q_val (v := .int .i64 (L.size : Int)) rfl (by intro w' _; go_simp; try rfl) ?_
              go_frame
              refine q_call (f := 47) (args := #[.int .i64 ((count + 1 : Nat) : Int), .int .i64 (area : Int), .int .i64 (L.size : Int)]) (v := .string H) rfl (by intro w'; go_simp; try rfl) (fun w' _ => HHD.out w') ?_
              go_frame
              refine wpQuiet_nil ?_
              intro w5 hF5
              have hD5 := HD2.out.fr hF5 (by simp) (by simp) (by simp)
              have HB5 := Lib.hid (HB2.out.fr hF5 (by simp))
              have HF5 := Lib.hid (HF2.out.trans hF5.any)
              have hwr := rWrite_c hD5 (m : Int) H
              clear hF5 hD5
              go_wp2_with (first
                | (go_at_call 46; refine hwr.mono ?_; rintro e w6 ⟨rfl, hD6, hF6⟩; clear hwr; rw [HW0'.out]
                   have hfl6 := rFlush_c hD6
                   rw [HR1.out, HR2.out] at hfl6
                   have HB6 := Lib.hid (HB5.out.fr hF6 (by simp [h1, h3]))
                   have k60 := (ref_cells HB6.out).1
                   have HF6 := Lib.hid (HF5.out.trans (hF6.mono (by simp)))
                   clear hD6 hF6)
                | (go_at_call 48; refine hfl6.mono ?_; rintro e w7 ⟨rfl, hD7, hF7⟩; clear hfl6
                   have HB7 := Lib.hid (HB6.out.fr hF7 (by simp [h1, h2, h3]))
                   have k71 := (ref_cells HB7.out).2.1
                   have k72 := (ref_cells HB7.out).2.2.1
                   have k73 := (ref_cells HB7.out).2.2.2.1
                   have f71 := HB7.out.free 1
                   have f72 := HB7.out.free 2
                   have f73 := HB7.out.free 3
                   have HF7 := Lib.hid (HF6.out.trans (hF7.mono (by simp)))
                   have HD7 := Lib.hid hD7
                   clear hD7 hF7))
              go_ret
              have hset : Fr [rl] w7 (((w7.setCell ⟨rl, 1, none⟩ (.int .i64 ((count : Int) + 1))).setCell ⟨rl, 2, none⟩ (.int .i64 (area : Int))).setCell ⟨rl, 3, none⟩ (.string L)) :=
                (((Fr.refl _ _).setCell (Or.inl (by simp)) _).setCell (Or.inl (by simp)) _).setCell (Or.inl (by simp)) _
              (try rw [if_pos HR2.out])
              refine ⟨by first | rfl | (rw [HR2.out]; rfl), HD7.out.fr hset (by simp [Ne.symm h1]) (by simp [Ne.symm h2]) (by simp [Ne.symm h3]), (HF7.out.mono (by simp)).trans (hset.mono (by simp)), ?_⟩
              exact ((HB7.out.set 1 (.int .i64 ((count : Int) + 1))).set 2 (.int .i64 (area : Int))).set 3 (.string L)
            · have HW0' := Lib.hid hw0
              have HR2 : Hid (R.2 ≠ 0) := Lib.hid (by rw [← HR1.out]; exact hf1)
              have hne : (R.2 != 0) = true := by simpa using HR2.out
              clear hw0 hf1 HWF
              go_wp2_with (go_at_call 48; refine hfl.mono ?_; rintro e w2 ⟨rfl, hD2, hF2⟩; clear hfl
                           have HD2 := Lib.hid hD2
                           have HB2 := Lib.hid (hB.out.fr hF2 (by simp [h1, h2, h3]))
                           have HF2 : Hid (Fr [rd, ro, rn] w w2) := Lib.hid ((HF1.out.mono (by simp)).trans hF2)
                           clear hD2 hF2)
              refine wp_region_tail 19 (by kernel_rfl) (by kernel_rfl) ?_
              refine q_val rfl (by intro w' _; go_simp; rfl) ?_
              go_frame
              refine q_val rfl (by intro w' _; go_simp; rfl) ?_
              go_frame
              refine q_val rfl (by intro w' _; go_simp; rfl) ?_
              go_frame
              refine q_val (v := .pointer (some ⟨rd, 0, none⟩)) rfl (by intro w' hW'; have := (ref_cells (HB2.out.fr hW' (by simp))).1; go_simp) ?_
              go_frame
              refine q_val rfl (by intro w' _; go_simp; rfl) ?_
              go_frame
              refine q_val rfl (by intro w' _; go_simp; rfl) ?_
              go_frame
              refine q_val rfl (by intro w' _; go_simp; rfl) ?_
              go_frame
              refine q_val (v := .int .i64 (count : Int)) rfl (by intro w' hW'; have := (ref_cells (HB2.out.fr hW' (by simp))).2.1; go_simp) ?_
              go_frame
              refine q_val (v := .int .i64 ((count : Int) + 1)) rfl (by intro w' hW; go_simp; try exact IntWalk.i64_in _ (by omega)) ?_
              go_frame
              refine q_val (v := .int .i64 (m : Int)) rfl (by intro w' hW; go_simp; exact HMC.out) ?_
              go_frame
              refine q_val rfl (by intro w' _; go_simp; rfl) ?_
              go_frame
              refine q_val rfl (by intro w' _; go_simp; rfl) ?_
              go_frame
              refine q_val rfl (by intro w' _; go_simp; rfl) ?_
              go_frame
              refine q_val (v := .int .i64 (count : Int)) rfl (by intro w' hW'; have := (ref_cells (HB2.out.fr hW' (by simp))).2.1; go_simp) ?_
              go_frame
              refine q_val (v := .int .i64 ((count + 1 : Nat) : Int)) rfl (by intro w' hW; go_simp; try exact (IntWalk.i64_in _ (by omega)).trans (by omega)) ?_
              go_frame
              refine q_val rfl (by intro w' _; go_simp; rfl) ?_
              go_frame
              refine q_val rfl (by intro w' _; go_simp; rfl) ?_
              go_frame
              refine q_val (v := .int .i64 (L.size : Int)) rfl (by intro w' _; go_simp; try rfl) ?_
              go_frame
              refine q_call (f := 47) (args := #[.int .i64 ((count + 1 : Nat) : Int), .int .i64 (area : Int), .int .i64 (L.size : Int)]) (v := .string H) rfl (by intro w'; go_simp; try rfl) (fun w' _ => HHD.out w') ?_
              go_frame
              refine wpQuiet_nil ?_
              intro w5 hF5
              have hD5 := HD2.out.fr hF5 (by simp) (by simp) (by simp)
              have HB5 := Lib.hid (HB2.out.fr hF5 (by simp))
              have HF5 := Lib.hid (HF2.out.trans hF5.any)
              have hwr := rWrite_c hD5 (m : Int) H
              clear hF5 hD5
              go_wp2_with (first
                | (go_at_call 46; refine hwr.mono ?_; rintro e w6 ⟨rfl, hD6, hF6⟩; clear hwr; rw [HW0'.out]
                   have hfl6 := rFlush_c hD6
                   rw [HR1.out] at hfl6
                   have HB6 := Lib.hid (HB5.out.fr hF6 (by simp [h1, h3]))
                   have k60 := (ref_cells HB6.out).1
                   have HF6 := Lib.hid (HF5.out.trans (hF6.mono (by simp)))
                   clear hD6 hF6)
                | (go_at_call 48; refine hfl6.mono ?_; rintro e w7 ⟨rfl, hD7, hF7⟩; clear hfl6))
              go_ret
              (try rw [if_neg HR2.out])
              exact ⟨rfl, hD7, (HF6.out.mono (by simp)).trans (hF7.mono (by simp)), HB6.out.fr hF7 (by simp [h1, h2, h3])⟩
          · have HR1 : Hid (d3.write (m : Int) H = R) := Lib.hid (by rw [← HWF.out]; unfold Dv.wflush; rw [if_neg hw0])
            have HR2 : Hid (R.2 ≠ 0) := Lib.hid (by rw [← HR1.out]; exact hw0)
            have hne : (R.2 != 0) = true := by simpa using HR2.out
            clear hw0 HWF
            go_wp2_with (go_at_call 48; refine hfl.mono ?_; rintro e w2 ⟨rfl, hD2, hF2⟩; clear hfl
                         have HD2 := Lib.hid hD2
                         have HB2 := Lib.hid (hB.out.fr hF2 (by simp [h1, h2, h3]))
                         have HF2 : Hid (Fr [rd, ro, rn] w w2) := Lib.hid ((HF1.out.mono (by simp)).trans hF2)
                         clear hD2 hF2)
            refine wp_region_tail 19 (by kernel_rfl) (by kernel_rfl) ?_
            refine q_val rfl (by intro w' _; go_simp; rfl) ?_
            go_frame
            refine q_val rfl (by intro w' _; go_simp; rfl) ?_
            go_frame
            refine q_val rfl (by intro w' _; go_simp; rfl) ?_
            go_frame
            refine q_val (v := .pointer (some ⟨rd, 0, none⟩)) rfl (by intro w' hW'; have := (ref_cells (HB2.out.fr hW' (by simp))).1; go_simp) ?_
            go_frame
            refine q_val rfl (by intro w' _; go_simp; rfl) ?_
            go_frame
            refine q_val rfl (by intro w' _; go_simp; rfl) ?_
            go_frame
            refine q_val rfl (by intro w' _; go_simp; rfl) ?_
            go_frame
            refine q_val (v := .int .i64 (count : Int)) rfl (by intro w' hW'; have := (ref_cells (HB2.out.fr hW' (by simp))).2.1; go_simp) ?_
            go_frame
            refine q_val (v := .int .i64 ((count : Int) + 1)) rfl (by intro w' hW; go_simp; try exact IntWalk.i64_in _ (by omega)) ?_
            go_frame
            refine q_val (v := .int .i64 (m : Int)) rfl (by intro w' hW; go_simp; exact HMC.out) ?_
            go_frame
            refine q_val rfl (by intro w' _; go_simp; rfl) ?_
            go_frame
            refine q_val rfl (by intro w' _; go_simp; rfl) ?_
            go_frame
            refine q_val rfl (by intro w' _; go_simp; rfl) ?_
            go_frame
            refine q_val (v := .int .i64 (count : Int)) rfl (by intro w' hW'; have := (ref_cells (HB2.out.fr hW' (by simp))).2.1; go_simp) ?_
            go_frame
            refine q_val (v := .int .i64 ((count + 1 : Nat) : Int)) rfl (by intro w' hW; go_simp; try exact (IntWalk.i64_in _ (by omega)).trans (by omega)) ?_
            go_frame
            refine q_val rfl (by intro w' _; go_simp; rfl) ?_
            go_frame
            refine q_val rfl (by intro w' _; go_simp; rfl) ?_
            go_frame
            refine q_val (v := .int .i64 (L.size : Int)) rfl (by intro w' _; go_simp; try rfl) ?_
            go_frame
            refine q_call (f := 47) (args := #[.int .i64 ((count + 1 : Nat) : Int), .int .i64 (area : Int), .int .i64 (L.size : Int)]) (v := .string H) rfl (by intro w'; go_simp; try rfl) (fun w' _ => HHD.out w') ?_
            go_frame
            refine wpQuiet_nil ?_
            intro w5 hF5
            have hD5 := HD2.out.fr hF5 (by simp) (by simp) (by simp)
            have HB5 := Lib.hid (HB2.out.fr hF5 (by simp))
            have HF5 := Lib.hid (HF2.out.trans hF5.any)
            have hwr := rWrite_c hD5 (m : Int) H
            clear hF5 hD5
            rw [HR1.out] at hwr
            go_wp2_with (go_at_call 46; refine hwr.mono ?_; rintro e w6 ⟨rfl, hD6, hF6⟩; clear hwr)
            go_ret
            (try rw [if_neg HR2.out])
            exact ⟨rfl, hD6, (HF5.out.mono (by simp)).trans (hF6.mono (by simp)), HB5.out.fr hF6 (by simp [h1, h3])⟩
        · have HRR : Hid (R = d'.flush) := Lib.hid (by rw [← HRE.out]; simp only [if_neg hmne, HW1.out, if_true, if_neg hf0])
          have HR2 : Hid (R.2 ≠ 0) := Lib.hid (by rw [HRR.out]; exact hf0)
          have hne : (R.2 != 0) = true := by simpa using HR2.out
          rw [← HRR.out] at hfl
          clear hf0 HW1
          go_wp2_with (go_at_call 48; refine hfl.mono ?_; rintro e w6 ⟨rfl, hD6, hF6⟩; clear hfl)
          go_ret
          (try rw [if_neg HR2.out])
          exact ⟨rfl, hD6, ((HF1.out.mono (by simp)).trans (hF6.mono (by simp))), hB.out.fr hF6 (by simp [h1, h2, h3])⟩

end
end Go.Proofs.YtiojkakmlbfiiaaGreat
