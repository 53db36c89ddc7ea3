/- The document's frames: All. -/
import Derived.Test.YtiojkakmlbfiiaaGreatM05
import Derived.Test.YtiojkakmlbfiiaaGreatM15
import Derived.Deep.AppendLies
/- The document's frames: Sum. -/
namespace Go.Proofs.YtiojkakmlbfiiaaGreat
open Go.RowKit
open Sp

theorem i64_xor_nat (a b : Nat) (ha : a < 4294967296) (hb : b < 4294967296) : bits .xor .i64 (a : Int) (b : Int) = ((a ^^^ b : Nat) : Int) := by
  have hx := xor_lt32 ha hb
  show IntKind.i64.wrap ((BitVec.ofInt 64 (a : Int) ^^^ BitVec.ofInt 64 (b : Int)).toNat : Int) = _
  have e1 : (BitVec.ofInt 64 (a : Int)).toNat = a := by rw [BitVec.toNat_ofInt]; show ((a : Int) % 18446744073709551616).toNat = a; omega
  have e2 : (BitVec.ofInt 64 (b : Int)).toNat = b := by rw [BitVec.toNat_ofInt]; show ((b : Int) % 18446744073709551616).toNat = b; omega
  rw [BitVec.toNat_xor, e1, e2, IntKind.wrap_i64]
  omega

set_option maxHeartbeats 1000000 in
set_option maxRecDepth 100000 in
theorem rSum_c (s : ByteArray) (w : World) (hs : s.size ≤ 9223372036854775807) :
    Calls Tryz.prog 79 #[.string s] w fun e w' => e = .returned (.int .i64 (crc s.data.toList : Nat)) ∧ w = w' := by
  go_enter Tryz.func79, Tryz.ntmps79
  go_wp2
  go_loop [3, 4] (fun c i => ∃ k : Nat, k ≤ s.size ∧ i = .int .i64 k ∧ c = .int .i64 (crcFrom 4294967295 (s.data.toList.take k) : Nat)) (fun _ i => s.size - (intOf i).toNat)
  case atStart => exact ⟨0, Nat.zero_le _, rfl, rfl⟩
  case round =>
    obtain ⟨k, hk, rfl, rfl⟩ := hrel
    have hb := crcFrom_lt (s.data.toList.take k) (show 4294967295 < 4294967296 by omega)
    by_cases hlt : k < s.size
    · have HS : Hid (crcFrom 4294967295 (s.data.toList.take (k + 1)) = crcByte (crcFrom 4294967295 (s.data.toList.take k)) s[k]) := (show _ = _ by rw [take_snoc s k hlt, crcFrom_snoc])
      generalize crcFrom 4294967295 (s.data.toList.take k) = y at hb HS ⊢
      have hby : s[k].toNat < 256 := s[k].toNat_lt
      have hxor : bits .xor .i64 (y : Int) (s[k].toNat : Int) = ((y ^^^ s[k].toNat : Nat) : Int) := i64_xor_nat _ _ hb (by omega)
      have hv0 := xor_lt32 hb (show s[k].toNat < 4294967296 by omega)
      go_wp2
      obtain ⟨v0, hve⟩ : ∃ v0, y ^^^ s[k].toNat = v0 := ⟨_, rfl⟩
      have HV := Lib.hid hve
      rw [hve] at hv0 ⊢
      clear hxor hve
      go_loop [3, 5] (fun c i => ∃ j : Nat, j ≤ 8 ∧ i = .int .i64 j ∧ c = .int .i64 (crcBits j v0 : Nat)) (fun _ i => 8 - (intOf i).toNat)
      case atStart => exact ⟨0, by omega, rfl, rfl⟩
      case round =>
        obtain ⟨j, hj, rfl, rfl⟩ := hrel
        by_cases hj8 : j < 8
        · have hv := crcBits_lt hv0 j
          generalize hh : crcBits j v0 = v at hv ⊢
          have HH : Hid (crcBits j v0 = v) := hh
          clear hh
          have hd : (v : Int).tdiv 2 = ((v / 2 : Nat) : Int) := by rw [Int.tdiv_eq_ediv_of_nonneg (by omega)]; omega
          have f1 : bits .xor .i64 ((v : Int) / 2) 3988292384 = ((v / 2 ^^^ 3988292384 : Nat) : Int) := by
            have := i64_xor_nat (v / 2) 3988292384 (by omega) (by omega)
            simpa using this
          rcases Nat.mod_two_eq_zero_or_one v with h2 | h2
          · have hm : (v : Int).tmod 2 = 0 := by rw [Int.tmod_eq_emod_of_nonneg (by omega)]; omega
            have HN : Hid (crcBits (j + 1) v0 = v / 2) := (show crcBit (crcBits j v0) = v / 2 by rw [HH.out]; simp [crcBit, h2])
            clear h2
            go_wp2
            go_round
            case rel => exact ⟨j + 1, by omega, by go_num, by rw [HN.out]; first | rfl | go_num⟩
            case measure => simp [intOf]; omega
          · have hm : (v : Int).tmod 2 = 1 := by rw [Int.tmod_eq_emod_of_nonneg (by omega)]; omega
            have HN : Hid (crcBits (j + 1) v0 = v / 2 ^^^ 3988292384) := (show crcBit (crcBits j v0) = v / 2 ^^^ 3988292384 by rw [HH.out]; simp [crcBit, h2])
            clear h2
            go_wp2
            go_round
            case rel => exact ⟨j + 1, by omega, by go_num, by rw [HN.out]⟩
            case measure => simp [intOf]; omega
        · obtain rfl : j = 8 := by omega
          have HE : Hid (crcBits 8 v0 = crcFrom 4294967295 (s.data.toList.take (k + 1))) := (show _ = _ by rw [HS.out, crcByte, HV.out])
          rw [HE.out]
          go_wp2
          go_round
          case rel => exact ⟨k + 1, by omega, by go_num, rfl⟩
          case measure => simp [intOf]; omega
    · obtain rfl : k = s.size := by omega
      have hT : s.data.toList.take s.size = s.data.toList := List.take_of_length_le (show s.data.toList.length ≤ s.size from Nat.le_refl _)
      rw [hT] at hb ⊢
      have hx : bits .xor .i64 (crcFrom 4294967295 s.data.toList : Int) 4294967295 = ((crcFrom 4294967295 s.data.toList ^^^ 4294967295 : Nat) : Int) := i64_xor_nat _ 4294967295 hb (by omega)
      clear hT
      go_wp2
      go_ret
      exact ⟨rfl, rfl⟩

end Go.Proofs.YtiojkakmlbfiiaaGreat

/- The document's frames: bytes, One. -/
namespace Go.Proofs.YtiojkakmlbfiiaaGreat
open Go.RowKit
open Sp

theorem le_snoc : ∀ (k n : Nat), le (k + 1) n = le k n ++ [UInt8.ofNat (n / 256 ^ k)]
  | 0, n => by simp [le]
  | k + 1, n => by
    have ih := le_snoc k (n / 256)
    have e : le (k + 1 + 1) n = UInt8.ofNat n :: le (k + 1) (n / 256) := rfl
    have e2 : le (k + 1) n = UInt8.ofNat n :: le k (n / 256) := rfl
    rw [e, ih, e2, Nat.div_div_eq_div_mul, Nat.pow_succ, Nat.mul_comm 256]
    rfl

def byteVals (l : List UInt8) : List Value := l.map fun b => Value.int .u8 (b.toNat : Int)

set_option maxHeartbeats 2000000 in
set_option maxRecDepth 100000 in
theorem rBytes_c (n many : Nat) (w : World) (hn : n < 4294967296) (hm : many ≤ 4) (hm1 : 1 ≤ many) :
    Calls Tryz.prog 78 #[.int .i64 (n : Int), .int .i64 (many : Int)] w fun e w' => e = .returned (.string (str (le many n))) ∧ Fr [] w w' := by
  obtain ⟨i0, hi, hz0, hz1, hz2⟩ := info_parts byteInfo
  have HI := Lib.hid (show _ ∧ _ ∧ _ ∧ _ from ⟨hi, hz0, hz1, hz2⟩)
  clear hi hz0 hz1 hz2
  have HNI := Lib.hid hn
  clear hn
  go_enter Tryz.func78, Tryz.ntmps78
  go_wp2
  go_loopw [5, 6] (fun v i wr => ∃ k : Nat, k ≤ many ∧ i = .int .i64 (k : Int) ∧ Hid (wr.ownsRow w.heap.size 5 1 v k (byteVals (le k n))) ∧ Hid (Fr [] w wr)) (fun _ i _ => many - (intOf i).toNat)
  case atStart => exact ⟨0, Nat.zero_le _, rfl, Lib.hid (World.ownsRow_nil _ _ _ _), Lib.hid (Fr.refl _ _)⟩
  case round =>
    obtain ⟨k, hk, rfl, hO, hF⟩ := hrel
    by_cases hlt : k < many
    · obtain ⟨va, vc, rfl⟩ := own_shape hO.out
      have hltI : (k : Int) < (many : Int) := by omega
      rcases (show k = 0 ∨ k = 1 ∨ k = 2 ∨ k = 3 by omega) with rfl | rfl | rfl | rfl
      · go_wp2_with (at_builtin; refine wpList_append_own _ rfl _ _ 42 rfl w.heap.size 5 i0 (.int .u8 0) 1 1 Tryz.underlying42 HI.out.1 HI.out.2.1 HI.out.2.2.1 HI.out.2.2.2 rfl (by decide) _ _ _ rfl (hO.out.alloc _) ⟨wr.heap.size, 0, none⟩ 1 1 _ rfl (by rfl) (World.news_of_block (heap_alloc_new wr _)) (by intro u hu; simp at hu; subst hu; rfl) ?c3 ?c4 ?c5 ?_)
        case c3 => unfold maxLen; omega
        case c4 => omega
        case c5 => have := hF.out.size; simp; omega
        intro v' w3 hown3 hg3 _
        have hF3 : Fr [] w w3 := (hF.out.alloc _).grown hg3 (fun b hb => Or.inr (own_base hO.out b hb).1)
        have HO3 : Hid (w3.ownsRow w.heap.size 5 1 v' (0 + 1) (byteVals (le (0 + 1) n))) := Lib.hid (by
          rw [le_snoc, byteVals, List.map_append]
          have e : ((UInt8.ofNat (n / 256 ^ 0)).toNat : Int) = ((n : Int) / 1) % 256 := by simp; try omega
          rw [List.map_cons, List.map_nil, e]
          unfold byteVals at hown3
          simpa using hown3)
        clear hown3 hg3
        go_wp2
        go_roundw
        case rel => exact ⟨0 + 1, by omega, by go_num, HO3, Lib.hid hF3⟩
        case measure => simp [intOf]; omega
      · go_wp2_with (at_builtin; refine wpList_append_own _ rfl _ _ 42 rfl w.heap.size 5 i0 (.int .u8 0) 1 1 Tryz.underlying42 HI.out.1 HI.out.2.1 HI.out.2.2.1 HI.out.2.2.2 rfl (by decide) _ _ _ rfl (hO.out.alloc _) ⟨wr.heap.size, 0, none⟩ 1 1 _ rfl (by rfl) (World.news_of_block (heap_alloc_new wr _)) (by intro u hu; simp at hu; subst hu; rfl) ?c3 ?c4 ?c5 ?_)
        case c3 => unfold maxLen; omega
        case c4 => omega
        case c5 => have := hF.out.size; simp; omega
        intro v' w3 hown3 hg3 _
        have hF3 : Fr [] w w3 := (hF.out.alloc _).grown hg3 (fun b hb => Or.inr (own_base hO.out b hb).1)
        have HO3 : Hid (w3.ownsRow w.heap.size 5 1 v' (1 + 1) (byteVals (le (1 + 1) n))) := Lib.hid (by
          rw [le_snoc, byteVals, List.map_append]
          have e : ((UInt8.ofNat (n / 256 ^ 1)).toNat : Int) = ((n : Int) / 256) % 256 := by simp; try omega
          rw [List.map_cons, List.map_nil, e]
          unfold byteVals at hown3
          simpa using hown3)
        clear hown3 hg3
        go_wp2
        go_roundw
        case rel => exact ⟨1 + 1, by omega, by go_num, HO3, Lib.hid hF3⟩
        case measure => simp [intOf]; omega
      · go_wp2_with (at_builtin; refine wpList_append_own _ rfl _ _ 42 rfl w.heap.size 5 i0 (.int .u8 0) 1 1 Tryz.underlying42 HI.out.1 HI.out.2.1 HI.out.2.2.1 HI.out.2.2.2 rfl (by decide) _ _ _ rfl (hO.out.alloc _) ⟨wr.heap.size, 0, none⟩ 1 1 _ rfl (by rfl) (World.news_of_block (heap_alloc_new wr _)) (by intro u hu; simp at hu; subst hu; rfl) ?c3 ?c4 ?c5 ?_)
        case c3 => unfold maxLen; omega
        case c4 => omega
        case c5 => have := hF.out.size; simp; omega
        intro v' w3 hown3 hg3 _
        have hF3 : Fr [] w w3 := (hF.out.alloc _).grown hg3 (fun b hb => Or.inr (own_base hO.out b hb).1)
        have HO3 : Hid (w3.ownsRow w.heap.size 5 1 v' (2 + 1) (byteVals (le (2 + 1) n))) := Lib.hid (by
          rw [le_snoc, byteVals, List.map_append]
          have e : ((UInt8.ofNat (n / 256 ^ 2)).toNat : Int) = ((n : Int) / 65536) % 256 := by simp; try omega
          rw [List.map_cons, List.map_nil, e]
          unfold byteVals at hown3
          simpa using hown3)
        clear hown3 hg3
        go_wp2
        go_roundw
        case rel => exact ⟨2 + 1, by omega, by go_num, HO3, Lib.hid hF3⟩
        case measure => simp [intOf]; omega
      · go_wp2_with (at_builtin; refine wpList_append_own _ rfl _ _ 42 rfl w.heap.size 5 i0 (.int .u8 0) 1 1 Tryz.underlying42 HI.out.1 HI.out.2.1 HI.out.2.2.1 HI.out.2.2.2 rfl (by decide) _ _ _ rfl (hO.out.alloc _) ⟨wr.heap.size, 0, none⟩ 1 1 _ rfl (by rfl) (World.news_of_block (heap_alloc_new wr _)) (by intro u hu; simp at hu; subst hu; rfl) ?c3 ?c4 ?c5 ?_)
        case c3 => unfold maxLen; omega
        case c4 => omega
        case c5 => have := hF.out.size; simp; omega
        intro v' w3 hown3 hg3 _
        have hF3 : Fr [] w w3 := (hF.out.alloc _).grown hg3 (fun b hb => Or.inr (own_base hO.out b hb).1)
        have HO3 : Hid (w3.ownsRow w.heap.size 5 1 v' (3 + 1) (byteVals (le (3 + 1) n))) := Lib.hid (by
          rw [le_snoc, byteVals, List.map_append]
          have e : ((UInt8.ofNat (n / 256 ^ 3)).toNat : Int) = ((n : Int) / 16777216) % 256 := by simp; try omega
          rw [List.map_cons, List.map_nil, e]
          unfold byteVals at hown3
          simpa using hown3)
        clear hown3 hg3
        go_wp2
        go_roundw
        case rel => exact ⟨3 + 1, by omega, by go_num, HO3, Lib.hid hF3⟩
        case measure => simp [intOf]; omega
    · have hke : k = many := by omega
      subst hke
      obtain ⟨va, c, hv⟩ := own_shape hO.out
      obtain ⟨b, hb⟩ : ∃ b, va = some ⟨b, 0, none⟩ := by
        rcases hO.out.2 with ⟨hv2, h0⟩ | ⟨g, cap, cur, hv2, _⟩
        · omega
        · rw [hv] at hv2; simp only [Value.slice.injEq] at hv2; exact ⟨g, hv2.1⟩
      subst hb
      subst hv
      have hcv := run_convert_bytes_arg (P := Tryz.prog) wr 42 5 Tryz.underlying42 Tryz.underlying5 b 0 k c ((le k n).map fun x => (x.toNat : Int)) (by simp [le_len]) (by
        intro i hi
        rw [Nat.zero_add]
        have hi2 : i < (le k n).length := by rw [le_len]; exact hi
        have := (own_cell hO.out i _ (by rw [byteVals, List.getElem?_map, List.getElem?_eq_getElem hi2]; rfl)).1
        rw [this]
        simp [List.getD, hi2]) 9 Tryz.underlying9
      have hst : strOfNums ((le k n).map fun x => (x.toNat : Int)) = str (le k n) := by
        have := strOfNums_bytes (str (le k n))
        rwa [str_data] at this
      rw [hst] at hcv
      have hltI : ¬ (k : Int) < (k : Int) := by omega
      clear hst hlt
      go_wp2
      go_ret
      exact ⟨rfl, hF.out⟩

end Go.Proofs.YtiojkakmlbfiiaaGreat

/- The document's frames: One. -/
namespace Go.Proofs.YtiojkakmlbfiiaaGreat
open Go.RowKit
open Sp

set_option maxHeartbeats 1000000 in
set_option maxRecDepth 100000 in
theorem rOne_c (t : ByteArray) (w : World) (ht : t.size ≤ 4096) :
    Calls Tryz.prog 60 #[.string t] w fun e w' => e = .returned (.string (frame t)) ∧ Fr [] w w' := by
  have hb1 := fun W' => rBytes_c t.size 2 W' (by omega) (by omega) (by omega)
  obtain ⟨L, hL⟩ : ∃ L, str (le 2 t.size) = L := ⟨_, rfl⟩
  have hLs : L.size = 2 := by rw [← hL, str_size, le_len]
  obtain ⟨M, hM⟩ : ∃ M, L ++ t = M := ⟨_, rfl⟩
  have hMs : M.size = t.size + 2 := by rw [← hM, ByteArray.size_append]; omega
  have hMd : M = str (le 2 t.size ++ t.data.toList) := by
    rw [← hM, ← hL]
    have e : t = str t.data.toList := (str_of t).symm
    have e2 := str_append (le 2 t.size) t.data.toList
    rw [← e] at e2
    exact e2
  have hsum := fun W' => rSum_c M W' (by omega)
  have hcr : crc M.data.toList < 4294967296 := crc_lt _
  obtain ⟨c, hc⟩ : ∃ c, crc M.data.toList = c := ⟨_, rfl⟩
  rw [hc] at hsum hcr
  have hb2 := fun W' => rBytes_c c 4 W' hcr (by omega) (by omega)
  obtain ⟨N, hN⟩ : ∃ N, str (le 4 c) = N := ⟨_, rfl⟩
  have hNs : N.size = 4 := by rw [← hN, str_size, le_len]
  rw [hL] at hb1
  rw [hN] at hb2
  have hfin : M ++ N = frame t := by
    rw [frame, frameL, ← hN, hMd, str_append, ← hc, hMd, str_data]; rfl
  have HF := Lib.hid hfin
  have HM := Lib.hid hM
  have hLb : L.size ≤ 2 := by omega
  have hMb : M.size ≤ 4098 := by omega
  have hNb : N.size ≤ 4 := by omega
  clear hfin hM hMd hL hN hc hcr hLs hMs hNs
  go_enter Tryz.func60, Tryz.ntmps60
  go_wp2_with (first
    | (go_at_call 78; refine (hb1 _).mono ?_; clear hb1; rintro e w1 ⟨rfl, hF1⟩)
    | (go_at_call 79; rw [HM.out]; refine (hsum _).mono ?_; clear hsum; rintro e w2 ⟨rfl, rfl⟩)
    | (go_at_call 78; refine (hb2 _).mono ?_; clear hb2; rintro e w3 ⟨rfl, hF3⟩))
  go_ret
  refine ⟨?_, hF1.trans hF3⟩
  rw [← HF.out]
  rfl

end Go.Proofs.YtiojkakmlbfiiaaGreat

/- The document's frames: Next. -/
namespace Go.Proofs.YtiojkakmlbfiiaaGreat
open Go.RowKit
open Sp

set_option maxRecDepth 100000 in
theorem rNext_c (s : ByteArray) (k : Nat) (w : World) (hs : s.size ≤ 4611686018427387904) (hk : k ≤ s.size) :
    Calls Tryz.prog 76 #[.string s, .int .i64 (k : Int)] w fun e w' =>
      e = .returned (.tuple #[.string (str (nextL (s.data.toList.drop k)).2), .int .i64 (if (nextL (s.data.toList.drop k)).1 = 0 then ((k + (nextL (s.data.toList.drop k)).2.length + 6 : Nat) : Int) else 0), .int .i64 (nextL (s.data.toList.drop k)).1]) ∧ Fr [] w w' := by
  obtain ⟨R, hR⟩ : ∃ R, s.extract k s.size = R := ⟨_, rfl⟩
  have hRd : R.data.toList = s.data.toList.drop k := by
    rw [← hR]
    simp only [ByteArray.data_extract, Array.toList_extract, List.extract_eq_take_drop]
    rw [List.take_of_length_le]
    rw [List.length_drop]; exact Nat.le_refl _
  rw [← hRd]
  have hRs : R.size = R.data.toList.length := rfl
  have hRl : R.size ≤ 4611686018427387904 := by rw [← hR, ByteArray.size_extract]; omega
  clear hRd
  by_cases h2 : R.size < 2
  · rw [show nextL R.data.toList = (50, []) by simp only [nextL]; rw [if_pos (by omega)]]
    clear hRs
    go_enter Tryz.func76, Tryz.ntmps76
    go_wp2
    go_ret3
    exact ⟨rfl, Fr.refl _ _⟩
  have i0 : ∀ w, (Instr.index 9 (.string R) (.int .i64 0)).run Tryz.prog w = _ := run_idx R 0 (by omega)
  have i1 : ∀ w, (Instr.index 9 (.string R) (.int .i64 1)).run Tryz.prog w = _ := run_idx R 1 (by omega)
  have hb0 : (R.data.toList.getD 0 0).toNat < 256 := (R.data.toList.getD 0 0).toNat_lt
  have hb1 : (R.data.toList.getD 1 0).toNat < 256 := (R.data.toList.getD 1 0).toNat_lt
  have hnx : nextL R.data.toList = (let n := (R.data.toList.getD 0 0).toNat + 256 * (R.data.toList.getD 1 0).toNat
    if 4096 < n then (2, []) else if R.data.toList.length < n + 6 then (50, [])
    else if frameL ((R.data.toList.drop 2).take n) = R.data.toList.take (n + 6) then (0, (R.data.toList.drop 2).take n) else (51, [])) := by
    simp only [nextL]; rw [if_neg (by omega)]
  generalize (R.data.toList.getD 0 0).toNat = b0 at i0 hb0 hnx
  generalize (R.data.toList.getD 1 0).toNat = b1 at i1 hb1 hnx
  have hor : (b0 : Int) + 256 * (b1 : Int) = ((b0 + 256 * b1 : Nat) : Int) := by omega
  have hn : b0 + 256 * b1 < 65536 := by omega
  generalize b0 + 256 * b1 = n at hor hnx hn
  simp only at hnx
  have HN := Lib.hid hnx
  have HRs := Lib.hid hRs
  clear hnx hRs
  by_cases h1 : 4096 < n
  · have h1' : (4096 : Int) < (n : Int) := by omega
    rw [show nextL R.data.toList = (2, []) by rw [HN.out, if_pos h1]]
    go_enter Tryz.func76, Tryz.ntmps76
    go_wp2
    go_quiet (fail)
    clear hor i0 i1
    go_wp2
    go_ret3
    exact ⟨rfl, (Fr.refl _ _).drewN _⟩
  by_cases h3 : R.size < n + 6
  · rw [show nextL R.data.toList = (50, []) by rw [HN.out, if_neg h1, if_pos (by rw [← HRs.out]; exact h3)]]
    go_enter Tryz.func76, Tryz.ntmps76
    go_wp2
    go_quiet (fail)
    clear hor i0 i1
    go_wp2
    go_ret3
    exact ⟨rfl, (Fr.refl _ _).drewN _⟩
  obtain ⟨T, hT⟩ : ∃ T, R.extract 2 (2 + n) = T := ⟨_, rfl⟩
  obtain ⟨V, hV⟩ : ∃ V, R.extract 0 (2 + n + 4) = V := ⟨_, rfl⟩
  have hTs : T.size ≤ 4096 := by rw [← hT, ByteArray.size_extract]; omega
  have hTd : T.data.toList = (R.data.toList.drop 2).take n := by
    rw [← hT]
    simp only [ByteArray.data_extract, Array.toList_extract, List.extract_eq_take_drop]
    rw [show 2 + n - 2 = n by omega]
  have hVd : V.data.toList = R.data.toList.take (n + 6) := by
    rw [← hV]
    simp only [ByteArray.data_extract, Array.toList_extract, List.extract_eq_take_drop, List.drop_zero]
    rw [show 2 + n + 4 - 0 = n + 6 by omega]
  have hl3 : ¬ R.data.toList.length < n + 6 := by rw [← HRs.out]; exact h3
  by_cases hq : frame T = V
  · have e1 : nextL R.data.toList = (0, T.data.toList) := by
      rw [HN.out, if_neg h1, if_neg hl3, if_pos, hTd]
      rw [← hTd, ← hVd, ← hq, frame, str_data]
    have e2 : T.data.toList.length = n := by
      rw [hTd, List.length_take, List.length_drop]; omega
    rw [e1]
    simp only [if_true, str_of, e2]
    have HQ : Hid (frame T = V) := Lib.hid hq
    have HTd := Lib.hid hTd
    clear hTd hVd hl3 e1 e2 hq
    go_enter Tryz.func76, Tryz.ntmps76
    go_wp2
    go_quiet (fail)
    clear hor i0 i1
    go_wp2
    rw [hT]
    refine wp_region_fr (by kernel_rfl) (by kernel_rfl) ?_
    refine q_val rfl (by intro w' _; go_simp; rfl) ?_
    go_frame
    refine q_val rfl (by intro w' _; go_simp; rfl) ?_
    go_frame
    refine q_val (v := .int .i64 ((n : Int) + 6)) rfl (by intro w' _; go_simp; exact IntWalk.i64_in _ (by omega)) ?_
    go_frame
    refine q_val (v := .string V) rfl (by intro w' _; go_simp; rw [if_pos (by omega), show ((n : Int) + 6).toNat = 2 + n + 4 by omega, hV]) ?_
    go_frame
    refine q_val rfl (by intro w' _; go_simp; rfl) ?_
    go_frame
    refine q_call (f := 60) (args := #[.string T]) rfl (by intro w'; go_simp; try rfl) (fun w' _ => rOne_c T w' hTs) ?_
    go_frame
    refine q_val (v := .bool false) rfl (by intro w' _; go_simp; rw [HQ.out]) ?_
    go_frame
    refine wpQuiet_nil ?_
    intro w1 hF1
    go_wp2
    go_ret3
    exact ⟨ret_sii rfl (by omega) rfl, ((Fr.refl _ _).drewN _).trans hF1⟩
  · have e1 : nextL R.data.toList = (51, []) := by
      rw [HN.out, if_neg h1, if_neg hl3, if_neg]
      rw [← hTd, ← hVd]
      intro e
      exact hq (ba_ext (by rw [frame, str_data]; exact e))
    rw [e1]
    have HQ : Hid (¬ V.toList = (frame T).toList) := Lib.hid (fun e => hq (by rw [Lib.toList_data, Lib.toList_data] at e; exact ba_ext e.symm))
    clear hTd hVd hl3 e1 hq
    go_enter Tryz.func76, Tryz.ntmps76
    go_wp2
    go_quiet (fail)
    clear hor i0 i1
    go_wp2
    rw [hT]
    refine wp_region_fr (by kernel_rfl) (by kernel_rfl) ?_
    refine q_val rfl (by intro w' _; go_simp; rfl) ?_
    go_frame
    refine q_val rfl (by intro w' _; go_simp; rfl) ?_
    go_frame
    refine q_val (v := .int .i64 ((n : Int) + 6)) rfl (by intro w' _; go_simp; exact IntWalk.i64_in _ (by omega)) ?_
    go_frame
    refine q_val (v := .string V) rfl (by intro w' _; go_simp; rw [if_pos (by omega), show ((n : Int) + 6).toNat = 2 + n + 4 by omega, hV]) ?_
    go_frame
    refine q_val rfl (by intro w' _; go_simp; rfl) ?_
    go_frame
    refine q_call (f := 60) (args := #[.string T]) rfl (by intro w'; go_simp; try rfl) (fun w' _ => rOne_c T w' hTs) ?_
    go_frame
    refine q_val (v := .bool true) rfl (by intro w' _; go_simp; exact HQ.out) ?_
    go_frame
    refine wpQuiet_nil ?_
    intro w1 hF1
    go_wp2
    go_ret3
    exact ⟨rfl, ((Fr.refl _ _).drewN _).trans hF1⟩

end Go.Proofs.YtiojkakmlbfiiaaGreat

/- The document's frames: All. -/
namespace Go.Proofs.YtiojkakmlbfiiaaGreat
open Go.RowKit
open Sp

set_option maxRecDepth 100000 in
set_option maxHeartbeats 1000000 in
theorem rAll_c (s : ByteArray) (w : World) (hs : s.size ≤ 1000000) : Calls Tryz.prog 50 #[.string s] w (AllPost s w) := by
  obtain ⟨i0, hi, hz0, hz1, hz2⟩ := info_parts strInfo
  have HI := Lib.hid (show _ ∧ _ ∧ _ ∧ _ from ⟨hi, hz0, hz1, hz2⟩)
  clear hi hz0 hz1 hz2
  go_enter Tryz.func50, Tryz.ntmps50
  go_wp2
  go_loopw [5, 6] (fun l i wr => ∃ (k : Nat) (done : List ByteArray), k ≤ s.size ∧ done.length ≤ k ∧ i = .int .i64 k ∧ wr.ownsRow w.heap.size 9 1 l done.length (strVals done) ∧
      Hid ((allL (s.data.toList.drop k)).map (done ++ ·) = allL s.data.toList) ∧ Fr [] w wr)
    (fun _ i _ => s.size - (intOf i).toNat)
  case atStart => exact ⟨0, [], Nat.zero_le _, Nat.le_refl _, rfl, World.ownsRow_nil _ _ _ _, by show Option.map _ _ = _; simp, Fr.refl _ _⟩
  case round =>
    obtain ⟨k, done, hk, hdk, rfl, hown, hR, hF⟩ := hrel
    obtain ⟨la, lc, rfl⟩ := own_shape hown
    by_cases hlt : k < s.size
    · have hne : s.data.toList.drop k ≠ [] := by
        intro e
        have := congrArg List.length e
        rw [List.length_drop] at this
        have h2 : s.data.toList.length = s.size := rfl
        simp at this; omega
      have hnx := rNext_c s k wr (by omega) hk
      have hst := allL_step _ hne
      have hln := nextL_len (s.data.toList.drop k)
      by_cases hz : (nextL (s.data.toList.drop k)).1 = 0
      · rw [hz] at hnx
        rw [if_pos hz] at hst
        have hln' := hln hz
        rw [List.length_drop] at hln'
        have h2 : s.data.toList.length = s.size := rfl
        simp only [if_true] at hnx
        generalize (nextL (s.data.toList.drop k)).2 = t at hnx hst hln'
        have hR2 : Hid ((allL (s.data.toList.drop (k + t.length + 6))).map ((done ++ [str t]) ++ ·) = allL s.data.toList) := by
          show _ = _
          rw [← hR.out, hst, Option.map_map, List.drop_drop, ← Nat.add_assoc]
          congr 1
          funext x; simp
        have hk2 : k + t.length + 6 ≤ s.size := by omega
        clear hst hln hln' h2 hz hne hR
        generalize str t = T at hnx hR2
        generalize hm : t.length = m at hnx hR2 hk2
        clear hm
        go_wp2_with (first
          | (go_at_call 76; refine hnx.mono ?_; clear hnx; rintro e w2 ⟨rfl, hF2⟩; have hown2 := own_fr hown hF2 (by simp))
          | (at_builtin; refine wpList_append_own _ rfl _ _ 37 rfl w.heap.size 9 i0 (.string ByteArray.empty) 1 16 Tryz.underlying37 HI.out.1 HI.out.2.1 HI.out.2.2.1 HI.out.2.2.2 rfl (by decide) _ _ _ rfl (hown2.alloc _) ⟨w2.heap.size, 0, none⟩ 1 1 [.string T] rfl rfl ?c1 ?c2 ?c3 ?c4 ?c5 ?_))
        case c1 => intro j u hu; cases j with
          | zero => simp at hu; subst hu; simp [Addr.add]
          | succ j => simp at hu
        case c2 => intro u hu; simp at hu; subst hu; rfl
        case c3 => unfold maxLen; omega
        case c4 => omega
        case c5 => have h1 := hF.size; have h2 := hF2.size; simp; omega
        intro v' w3 hown3 hg3 _
        have hF3 : Fr [] w w3 := ((hF.trans hF2).alloc _).grown hg3 (fun b hb => Or.inr (own_base hown2 b hb).1)
        have hown4 : w3.ownsRow w.heap.size 9 1 v' (done ++ [T]).length (strVals (done ++ [T])) := by simpa [strVals] using hown3
        obtain ⟨a', c', rfl⟩ := own_shape hown4
        have HO := Lib.hid hown4
        clear hown hown2 hown3 hown4 hg3
        go_wp2
        go_roundw
        case rel => exact ⟨k + m + 6, done ++ [T], hk2, by simp; omega, rfl, HO.out, hR2, hF3⟩
        case measure => simp [intOf]; omega
      · rw [if_neg hz] at hst hnx
        have hnone : Hid (allL s.data.toList = none) := (show _ = _ by rw [← hR.out, hst]; rfl)
        have hz' : ((nextL (s.data.toList.drop k)).1 != 0) = true := by simpa using hz
        have HZ := Lib.hid hz
        generalize (nextL (s.data.toList.drop k)).1 = c at hnx hz' HZ
        generalize str (nextL (s.data.toList.drop k)).2 = T at hnx
        clear hst hln hz hne
        go_wp2_with (go_at_call 76; refine hnx.mono ?_; clear hnx; rintro e w2 ⟨rfl, hF2⟩)
        go_ret3
        refine ⟨?_, ?_, hF.trans hF2⟩
        · intro l hl; rw [hnone.out] at hl; cases hl
        · intro _; exact ⟨_, _, _, rfl, HZ.out⟩
    · obtain rfl : k = s.size := by omega
      have hE : Hid (allL s.data.toList = some done) := by
        show _ = _
        rw [← hR.out, List.drop_of_length_le (show s.data.toList.length ≤ s.size from Nat.le_refl _), allL_nil]
        simp
      have HO := Lib.hid hown
      clear hown
      go_wp2
      go_ret3
      refine ⟨?_, ?_, hF⟩
      · intro l hl
        rw [hE.out] at hl; cases hl
        exact ⟨_, rfl, HO.out⟩
      · intro h; rw [hE.out] at h; cases h

end Go.Proofs.YtiojkakmlbfiiaaGreat
