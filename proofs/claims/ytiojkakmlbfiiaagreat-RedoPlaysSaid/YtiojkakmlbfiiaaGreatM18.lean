/- The document's log: head. -/
import Derived.Test.YtiojkakmlbfiiaaGreatM17
import Derived.Test.YtiojkakmlbfiiaaGreatM14
import Derived.Test.YtiojkakmlbfiiaaGreatM13
import Derived.Test.YtiojkakmlbfiiaaGreatM06
/- The document's log: area. -/
namespace Go.Proofs.YtiojkakmlbfiiaaGreat
open Go.RowKit
open Sp

theorem rArea_c {w : World} {rd ro rn co cn : Nat} {d : Dv} (h : RefAt w rd ro rn co cn d) (h4 : 4 ≤ d.on.length) :
    Calls Tryz.prog 52 #[.pointer (some ⟨rd, 0, none⟩)] w fun e w' => e = .returned (.int .i64 (64 * (((d.on.length - 2) / 2 : Nat) : Int))) ∧ w = w' := by
  obtain ⟨c0, -, -, -⟩ := h.cells
  have hm := h.wf.most
  clear h
  generalize d.on.length = n at *
  obtain ⟨sz, hs⟩ : ∃ sz, (n - 2) / 2 = sz := ⟨_, rfl⟩
  have hq : ((n : Int) - 2).tdiv 2 = (sz : Int) := by rw [Int.tdiv_eq_ediv_of_nonneg (by omega)]; omega
  have hs1 : sz ≤ 1023 := by omega
  rw [hs]
  clear hs
  go_enter Tryz.func52, Tryz.ntmps52
  go_wp2
  go_ret
  exact ⟨ret_int (by omega), rfl⟩

end Go.Proofs.YtiojkakmlbfiiaaGreat

/- The document's log: number. -/
namespace Go.Proofs.YtiojkakmlbfiiaaGreat
open Go.RowKit
open Sp

set_option maxRecDepth 100000 in
theorem rNumber_c (s : ByteArray) (w : World) (hs : s.size = 8) :
    Calls Tryz.prog 73 #[.string s] w fun e w' => e = .returned (.int .i64 (num s.data.toList)) ∧ w = w' := by
  have HS8 := Lib.hid hs
  go_enter Tryz.func73, Tryz.ntmps73
  go_wp2
  go_loop [3, 4] (fun n i => ∃ k : Nat, k ≤ 8 ∧ i = .int .i64 k ∧ n = .int .i64 (num (s.data.toList.take k))) (fun _ i => 8 - (intOf i).toNat)
  case atStart => exact ⟨0, Nat.zero_le _, rfl, rfl⟩
  case round =>
    obtain ⟨k, hk, rfl, rfl⟩ := hrel
    by_cases hlt : k < 8
    · have hlt2 : k < s.size := by omega
      have hcb : (s[k].toNat : Int) < 256 := by have := s[k].toNat_lt; omega
      have HS : Hid (num (s.data.toList.take (k + 1)) = wrap64 (num (s.data.toList.take k) * 256 + (s[k].toNat : Int))) := by
        show _ = _; rw [take_snoc s k hlt2, num_snoc]
      generalize num (s.data.toList.take k) = n at HS ⊢
      have hr := wrap64_range (n * 256)
      have hcn : 0 ≤ (s[k].toNat : Int) := by omega
      go_wp2
      go_round
      case rel => exact ⟨k + 1, by omega, by go_num, by rw [HS.out]; exact congrArg (Value.int IntKind.i64) (by unfold wrap64; omega)⟩
      case measure => simp [intOf]; omega
    · obtain rfl : k = 8 := by omega
      go_wp2
      go_ret
      refine ⟨?_, rfl⟩
      rw [List.take_of_length_le (show s.data.toList.length ≤ 8 from Nat.le_of_eq HS8.out)]
      rfl

end Go.Proofs.YtiojkakmlbfiiaaGreat

/- The document's log: eight. -/
namespace Go.Proofs.YtiojkakmlbfiiaaGreat
open Go.RowKit
open Sp

theorem be8_take (n k : Nat) (hk : k < 8) : (be 8 n).take (k + 1) = (be 8 n).take k ++ [UInt8.ofNat (n / 256 ^ (7 - k))] := by
  have e : be 8 n = [UInt8.ofNat (n / 256 ^ 7), UInt8.ofNat (n / 256 ^ 6), UInt8.ofNat (n / 256 ^ 5), UInt8.ofNat (n / 256 ^ 4), UInt8.ofNat (n / 256 ^ 3), UInt8.ofNat (n / 256 ^ 2), UInt8.ofNat (n / 256 ^ 1), UInt8.ofNat (n / 256 ^ 0)] := by
    unfold be
    simp only [le, List.nil_append, List.cons_append, List.reverse_cons, List.reverse_nil, Nat.div_div_eq_div_mul]
    simp
  rw [e]
  rcases (show k = 0 ∨ k = 1 ∨ k = 2 ∨ k = 3 ∨ k = 4 ∨ k = 5 ∨ k = 6 ∨ k = 7 by omega) with rfl | rfl | rfl | rfl | rfl | rfl | rfl | rfl <;> rfl

set_option maxHeartbeats 4000000 in
set_option maxRecDepth 100000 in
theorem rEight_c (n : Nat) (w : World) (hn : n ≤ 9223372036854775807) :
    Calls Tryz.prog 75 #[.int .i64 (n : Int)] w fun e w' => e = .returned (.string (str (be 8 n))) ∧ Fr [] w w' := by
  obtain ⟨i0, hi, hz0, hz1, hz2⟩ := info_parts byteInfo
  have HI := Lib.hid (show _ ∧ _ ∧ _ ∧ _ from ⟨hi, hz0, hz1, hz2⟩)
  have HBE := Lib.hid (be8_take n)
  clear hi hz0 hz1 hz2 hn
  go_enter Tryz.func75, Tryz.ntmps75
  go_wp2
  go_loopw [3, 4] (fun v i wr => ∃ k : Nat, k ≤ 8 ∧ i = .int .i64 (7 - (k : Int)) ∧ Hid (wr.ownsRow w.heap.size 5 1 v k (byteVals ((be 8 n).take k))) ∧ Hid (Fr [] w wr)) (fun _ i _ => (intOf i + 1).toNat)
  case atStart => exact ⟨0, Nat.zero_le _, rfl, Lib.hid (World.ownsRow_nil _ _ _ _), Lib.hid (Fr.refl _ _)⟩
  case round =>
    obtain ⟨k, hk, rfl, hO, hF⟩ := hrel
    by_cases hlt : k < 8
    · obtain ⟨va, vc, rfl⟩ := own_shape hO.out
      rcases (show k = 0 ∨ k = 1 ∨ k = 2 ∨ k = 3 ∨ k = 4 ∨ k = 5 ∨ k = 6 ∨ k = 7 by omega) with rfl | rfl | rfl | rfl | rfl | rfl | rfl | rfl
      · go_wp2_with (at_builtin; refine wpList_append_own _ rfl _ _ 42 rfl w.heap.size 5 i0 (.int .u8 0) 1 1 Tryz.underlying42 HI.out.1 HI.out.2.1 HI.out.2.2.1 HI.out.2.2.2 rfl (by decide) _ _ _ rfl (hO.out.alloc _) ⟨wr.heap.size, 0, none⟩ 1 1 _ rfl (by rfl) (World.news_of_block (heap_alloc_new wr _)) (by intro u hu; simp at hu; subst hu; rfl) ?c3 ?c4 ?c5 ?_)
        case c3 => unfold maxLen; omega
        case c4 => omega
        case c5 => have := hF.out.size; simp; omega
        intro v' w3 hown3 hg3 _
        have hF3 : Fr [] w w3 := (hF.out.alloc _).grown hg3 (fun b hb => Or.inr (own_base hO.out b hb).1)
        have HO3 : Hid (w3.ownsRow w.heap.size 5 1 v' (0 + 1) (byteVals ((be 8 n).take (0 + 1)))) := Lib.hid (by
          have e2 : (be 8 n).take (0 + 1) = (be 8 n).take 0 ++ [UInt8.ofNat (n / 72057594037927936)] := HBE.out 0 (by omega)
          rw [e2, byteVals, List.map_append]
          have e : ((UInt8.ofNat (n / 72057594037927936)).toNat : Int) = ((n : Int) / 72057594037927936) % 256 := by simp; try omega
          rw [List.map_cons, List.map_nil, e]
          unfold byteVals at hown3
          simpa using hown3)
        clear hown3 hg3
        go_wp2
        go_roundw
        case rel => exact ⟨0 + 1, by omega, by first | rfl | go_num, HO3, Lib.hid hF3⟩
        case measure => simp [intOf]
      · go_wp2_with (at_builtin; refine wpList_append_own _ rfl _ _ 42 rfl w.heap.size 5 i0 (.int .u8 0) 1 1 Tryz.underlying42 HI.out.1 HI.out.2.1 HI.out.2.2.1 HI.out.2.2.2 rfl (by decide) _ _ _ rfl (hO.out.alloc _) ⟨wr.heap.size, 0, none⟩ 1 1 _ rfl (by rfl) (World.news_of_block (heap_alloc_new wr _)) (by intro u hu; simp at hu; subst hu; rfl) ?c3 ?c4 ?c5 ?_)
        case c3 => unfold maxLen; omega
        case c4 => omega
        case c5 => have := hF.out.size; simp; omega
        intro v' w3 hown3 hg3 _
        have hF3 : Fr [] w w3 := (hF.out.alloc _).grown hg3 (fun b hb => Or.inr (own_base hO.out b hb).1)
        have HO3 : Hid (w3.ownsRow w.heap.size 5 1 v' (1 + 1) (byteVals ((be 8 n).take (1 + 1)))) := Lib.hid (by
          have e2 : (be 8 n).take (1 + 1) = (be 8 n).take 1 ++ [UInt8.ofNat (n / 281474976710656)] := HBE.out 1 (by omega)
          rw [e2, byteVals, List.map_append]
          have e : ((UInt8.ofNat (n / 281474976710656)).toNat : Int) = ((n : Int) / 281474976710656) % 256 := by simp; try omega
          rw [List.map_cons, List.map_nil, e]
          unfold byteVals at hown3
          simpa using hown3)
        clear hown3 hg3
        go_wp2
        go_roundw
        case rel => exact ⟨1 + 1, by omega, by first | rfl | go_num, HO3, Lib.hid hF3⟩
        case measure => simp [intOf]
      · go_wp2_with (at_builtin; refine wpList_append_own _ rfl _ _ 42 rfl w.heap.size 5 i0 (.int .u8 0) 1 1 Tryz.underlying42 HI.out.1 HI.out.2.1 HI.out.2.2.1 HI.out.2.2.2 rfl (by decide) _ _ _ rfl (hO.out.alloc _) ⟨wr.heap.size, 0, none⟩ 1 1 _ rfl (by rfl) (World.news_of_block (heap_alloc_new wr _)) (by intro u hu; simp at hu; subst hu; rfl) ?c3 ?c4 ?c5 ?_)
        case c3 => unfold maxLen; omega
        case c4 => omega
        case c5 => have := hF.out.size; simp; omega
        intro v' w3 hown3 hg3 _
        have hF3 : Fr [] w w3 := (hF.out.alloc _).grown hg3 (fun b hb => Or.inr (own_base hO.out b hb).1)
        have HO3 : Hid (w3.ownsRow w.heap.size 5 1 v' (2 + 1) (byteVals ((be 8 n).take (2 + 1)))) := Lib.hid (by
          have e2 : (be 8 n).take (2 + 1) = (be 8 n).take 2 ++ [UInt8.ofNat (n / 1099511627776)] := HBE.out 2 (by omega)
          rw [e2, byteVals, List.map_append]
          have e : ((UInt8.ofNat (n / 1099511627776)).toNat : Int) = ((n : Int) / 1099511627776) % 256 := by simp; try omega
          rw [List.map_cons, List.map_nil, e]
          unfold byteVals at hown3
          simpa using hown3)
        clear hown3 hg3
        go_wp2
        go_roundw
        case rel => exact ⟨2 + 1, by omega, by first | rfl | go_num, HO3, Lib.hid hF3⟩
        case measure => simp [intOf]
      · go_wp2_with (at_builtin; refine wpList_append_own _ rfl _ _ 42 rfl w.heap.size 5 i0 (.int .u8 0) 1 1 Tryz.underlying42 HI.out.1 HI.out.2.1 HI.out.2.2.1 HI.out.2.2.2 rfl (by decide) _ _ _ rfl (hO.out.alloc _) ⟨wr.heap.size, 0, none⟩ 1 1 _ rfl (by rfl) (World.news_of_block (heap_alloc_new wr _)) (by intro u hu; simp at hu; subst hu; rfl) ?c3 ?c4 ?c5 ?_)
        case c3 => unfold maxLen; omega
        case c4 => omega
        case c5 => have := hF.out.size; simp; omega
        intro v' w3 hown3 hg3 _
        have hF3 : Fr [] w w3 := (hF.out.alloc _).grown hg3 (fun b hb => Or.inr (own_base hO.out b hb).1)
        have HO3 : Hid (w3.ownsRow w.heap.size 5 1 v' (3 + 1) (byteVals ((be 8 n).take (3 + 1)))) := Lib.hid (by
          have e2 : (be 8 n).take (3 + 1) = (be 8 n).take 3 ++ [UInt8.ofNat (n / 4294967296)] := HBE.out 3 (by omega)
          rw [e2, byteVals, List.map_append]
          have e : ((UInt8.ofNat (n / 4294967296)).toNat : Int) = ((n : Int) / 4294967296) % 256 := by simp; try omega
          rw [List.map_cons, List.map_nil, e]
          unfold byteVals at hown3
          simpa using hown3)
        clear hown3 hg3
        go_wp2
        go_roundw
        case rel => exact ⟨3 + 1, by omega, by first | rfl | go_num, HO3, Lib.hid hF3⟩
        case measure => simp [intOf]
      · go_wp2_with (at_builtin; refine wpList_append_own _ rfl _ _ 42 rfl w.heap.size 5 i0 (.int .u8 0) 1 1 Tryz.underlying42 HI.out.1 HI.out.2.1 HI.out.2.2.1 HI.out.2.2.2 rfl (by decide) _ _ _ rfl (hO.out.alloc _) ⟨wr.heap.size, 0, none⟩ 1 1 _ rfl (by rfl) (World.news_of_block (heap_alloc_new wr _)) (by intro u hu; simp at hu; subst hu; rfl) ?c3 ?c4 ?c5 ?_)
        case c3 => unfold maxLen; omega
        case c4 => omega
        case c5 => have := hF.out.size; simp; omega
        intro v' w3 hown3 hg3 _
        have hF3 : Fr [] w w3 := (hF.out.alloc _).grown hg3 (fun b hb => Or.inr (own_base hO.out b hb).1)
        have HO3 : Hid (w3.ownsRow w.heap.size 5 1 v' (4 + 1) (byteVals ((be 8 n).take (4 + 1)))) := Lib.hid (by
          have e2 : (be 8 n).take (4 + 1) = (be 8 n).take 4 ++ [UInt8.ofNat (n / 16777216)] := HBE.out 4 (by omega)
          rw [e2, byteVals, List.map_append]
          have e : ((UInt8.ofNat (n / 16777216)).toNat : Int) = ((n : Int) / 16777216) % 256 := by simp; try omega
          rw [List.map_cons, List.map_nil, e]
          unfold byteVals at hown3
          simpa using hown3)
        clear hown3 hg3
        go_wp2
        go_roundw
        case rel => exact ⟨4 + 1, by omega, by first | rfl | go_num, HO3, Lib.hid hF3⟩
        case measure => simp [intOf]
      · go_wp2_with (at_builtin; refine wpList_append_own _ rfl _ _ 42 rfl w.heap.size 5 i0 (.int .u8 0) 1 1 Tryz.underlying42 HI.out.1 HI.out.2.1 HI.out.2.2.1 HI.out.2.2.2 rfl (by decide) _ _ _ rfl (hO.out.alloc _) ⟨wr.heap.size, 0, none⟩ 1 1 _ rfl (by rfl) (World.news_of_block (heap_alloc_new wr _)) (by intro u hu; simp at hu; subst hu; rfl) ?c3 ?c4 ?c5 ?_)
        case c3 => unfold maxLen; omega
        case c4 => omega
        case c5 => have := hF.out.size; simp; omega
        intro v' w3 hown3 hg3 _
        have hF3 : Fr [] w w3 := (hF.out.alloc _).grown hg3 (fun b hb => Or.inr (own_base hO.out b hb).1)
        have HO3 : Hid (w3.ownsRow w.heap.size 5 1 v' (5 + 1) (byteVals ((be 8 n).take (5 + 1)))) := Lib.hid (by
          have e2 : (be 8 n).take (5 + 1) = (be 8 n).take 5 ++ [UInt8.ofNat (n / 65536)] := HBE.out 5 (by omega)
          rw [e2, byteVals, List.map_append]
          have e : ((UInt8.ofNat (n / 65536)).toNat : Int) = ((n : Int) / 65536) % 256 := by simp; try omega
          rw [List.map_cons, List.map_nil, e]
          unfold byteVals at hown3
          simpa using hown3)
        clear hown3 hg3
        go_wp2
        go_roundw
        case rel => exact ⟨5 + 1, by omega, by first | rfl | go_num, HO3, Lib.hid hF3⟩
        case measure => simp [intOf]
      · go_wp2_with (at_builtin; refine wpList_append_own _ rfl _ _ 42 rfl w.heap.size 5 i0 (.int .u8 0) 1 1 Tryz.underlying42 HI.out.1 HI.out.2.1 HI.out.2.2.1 HI.out.2.2.2 rfl (by decide) _ _ _ rfl (hO.out.alloc _) ⟨wr.heap.size, 0, none⟩ 1 1 _ rfl (by rfl) (World.news_of_block (heap_alloc_new wr _)) (by intro u hu; simp at hu; subst hu; rfl) ?c3 ?c4 ?c5 ?_)
        case c3 => unfold maxLen; omega
        case c4 => omega
        case c5 => have := hF.out.size; simp; omega
        intro v' w3 hown3 hg3 _
        have hF3 : Fr [] w w3 := (hF.out.alloc _).grown hg3 (fun b hb => Or.inr (own_base hO.out b hb).1)
        have HO3 : Hid (w3.ownsRow w.heap.size 5 1 v' (6 + 1) (byteVals ((be 8 n).take (6 + 1)))) := Lib.hid (by
          have e2 : (be 8 n).take (6 + 1) = (be 8 n).take 6 ++ [UInt8.ofNat (n / 256)] := HBE.out 6 (by omega)
          rw [e2, byteVals, List.map_append]
          have e : ((UInt8.ofNat (n / 256)).toNat : Int) = ((n : Int) / 256) % 256 := by simp; try omega
          rw [List.map_cons, List.map_nil, e]
          unfold byteVals at hown3
          simpa using hown3)
        clear hown3 hg3
        go_wp2
        go_roundw
        case rel => exact ⟨6 + 1, by omega, by first | rfl | go_num, HO3, Lib.hid hF3⟩
        case measure => simp [intOf]
      · go_wp2_with (at_builtin; refine wpList_append_own _ rfl _ _ 42 rfl w.heap.size 5 i0 (.int .u8 0) 1 1 Tryz.underlying42 HI.out.1 HI.out.2.1 HI.out.2.2.1 HI.out.2.2.2 rfl (by decide) _ _ _ rfl (hO.out.alloc _) ⟨wr.heap.size, 0, none⟩ 1 1 _ rfl (by rfl) (World.news_of_block (heap_alloc_new wr _)) (by intro u hu; simp at hu; subst hu; rfl) ?c3 ?c4 ?c5 ?_)
        case c3 => unfold maxLen; omega
        case c4 => omega
        case c5 => have := hF.out.size; simp; omega
        intro v' w3 hown3 hg3 _
        have hF3 : Fr [] w w3 := (hF.out.alloc _).grown hg3 (fun b hb => Or.inr (own_base hO.out b hb).1)
        have HO3 : Hid (w3.ownsRow w.heap.size 5 1 v' (7 + 1) (byteVals ((be 8 n).take (7 + 1)))) := Lib.hid (by
          have e2 : (be 8 n).take (7 + 1) = (be 8 n).take 7 ++ [UInt8.ofNat (n / 1)] := HBE.out 7 (by omega)
          rw [e2, byteVals, List.map_append]
          have e : ((UInt8.ofNat (n / 1)).toNat : Int) = ((n : Int) / 1) % 256 := by simp; try omega
          rw [List.map_cons, List.map_nil, e]
          unfold byteVals at hown3
          simpa using hown3)
        clear hown3 hg3
        go_wp2
        go_roundw
        case rel => exact ⟨7 + 1, by omega, by first | rfl | go_num, HO3, Lib.hid hF3⟩
        case measure => simp [intOf]
    · have hke : k = 8 := by omega
      subst hke
      obtain ⟨va, c, hv⟩ := own_shape hO.out
      obtain ⟨b, hb⟩ : ∃ b, va = some ⟨b, 0, none⟩ := by
        rcases hO.out.2 with ⟨hv2, h0⟩ | ⟨g, cap, cur, hv2, _⟩
        · omega
        · rw [hv] at hv2; simp only [Value.slice.injEq] at hv2; exact ⟨g, hv2.1⟩
      subst hb
      subst hv
      have hB8 : (be 8 n).take 8 = be 8 n := List.take_of_length_le (by rw [be_len]; omega)
      have hcv := run_convert_bytes_arg (P := Tryz.prog) wr 42 5 Tryz.underlying42 Tryz.underlying5 b 0 8 c ((be 8 n).map fun x => (x.toNat : Int)) (by simp [be_len]) (by
        intro i hi
        rw [Nat.zero_add]
        have hi2 : i < (be 8 n).length := by rw [be_len]; exact hi
        have := (own_cell hO.out i _ (by rw [hB8, byteVals, List.getElem?_map, List.getElem?_eq_getElem hi2]; rfl)).1
        rw [this]
        simp [List.getD, hi2]) 9 Tryz.underlying9
      have hst : strOfNums ((be 8 n).map fun x => (x.toNat : Int)) = str (be 8 n) := by
        have := strOfNums_bytes (str (be 8 n))
        rwa [str_data] at this
      rw [hst] at hcv
      clear hst hlt hB8
      go_wp2
      go_ret
      exact ⟨rfl, hF.out⟩

end Go.Proofs.YtiojkakmlbfiiaaGreat

/- The document's log: head. -/
namespace Go.Proofs.YtiojkakmlbfiiaaGreat
open Go.RowKit
open Sp

set_option maxHeartbeats 2000000 in
set_option maxRecDepth 100000 in
theorem rHead_c (c a l : Nat) (w : World) (hc : c ≤ 9223372036854775807) (ha : a < 256) (hl : l ≤ 9223372036854775807) :
    Calls Tryz.prog 47 #[.int .i64 (c : Int), .int .i64 (a : Int), .int .i64 (l : Int)] w fun e w' => e = .returned (.string (headText c a l)) ∧ Fr [] w w' := by
  have s8 : ∀ n, (str (be 8 n)).size = 8 := fun n => by rw [str_size, be, List.length_reverse, le_len]
  have s1 : (str [UInt8.ofNat a]).size = 1 := by rw [str_size]; rfl
  have s4 : (⟨#[82, 69, 68, 79]⟩ : ByteArray).size = 4 := rfl
  go_enter Tryz.func47, Tryz.ntmps47
  go_wp2
  refine wp_region_rel 11 (Ks := [.const (.int .i64 (c : Int)), .const (.string (str (be 8 c))), .const (.string (⟨#[82, 69, 68, 79]⟩ ++ str (be 8 c))),
    .const (.int .i64 (a : Int)), .const (.int .u8 (a : Int)), .var (Byte1 a), .const (.string (str [UInt8.ofNat a])), .const (.string (⟨#[82, 69, 68, 79]⟩ ++ str (be 8 c) ++ str [UInt8.ofNat a])),
    .const (.int .i64 (l : Int)), .const (.string (str (be 8 l))), .const (.string (⟨#[82, 69, 68, 79]⟩ ++ str (be 8 c) ++ str [UInt8.ofNat a] ++ str (be 8 l)))]) (by kernel_rfl) (by kernel_rfl) ?_
  refine r_const rfl (by intro w' hF _; go_simp; try rfl) ?_
  go_frame
  refine r_call (f := 75) (args := #[.int .i64 (c : Int)]) rfl (by intro w'; go_simp; try rfl) (fun w' _ _ => rEight_c c w' hc) ?_
  go_frame
  refine r_const rfl (by intro w' hF _; go_simp; try rfl) ?_
  go_frame
  refine r_const rfl (by intro w' hF _; go_simp; try rfl) ?_
  go_frame
  refine r_const rfl (by intro w' hF _; go_simp; exact IntKind.wrap_u8 _ |>.trans (by omega)) ?_
  go_frame
  refine r_var _ rfl (byte1_stable a) (by intro w' hF _; go_simp; rw [Upon.value]; exact ⟨⟨_, rfl, Blk.new _ _ _⟩, (Fr.refl _ _).alloc _⟩) ?_
  intro u
  go_frame
  refine r_const rfl (by
    intro w' hF hx
    obtain ⟨bb, rfl, hb1⟩ : Byte1 a u w' := hx _ (List.mem_cons_self ..) (by simp [waitsOn, Region.binds])
    have hcv := conv_bytes (off := 0) (len := 1) (cap := 1) hb1 (str [UInt8.ofNat a]) s1 (by
      intro j hj
      obtain rfl : j = 0 := by omega
      simp [bytesOf, str, UInt8.toNat_ofNat, Nat.mod_eq_of_lt ha])
    go_simp) ?_
  go_frame
  refine r_const rfl (by intro w' hF _; go_simp; try rfl) ?_
  go_frame
  refine r_const rfl (by intro w' hF _; go_simp; try rfl) ?_
  go_frame
  refine r_call (f := 75) (args := #[.int .i64 (l : Int)]) rfl (by intro w'; go_simp; try rfl) (fun w' _ _ => rEight_c l w' hl) ?_
  go_frame
  refine r_const rfl (by intro w' hF _; go_simp; try rfl) ?_
  go_frame
  refine r_nil ?_
  intro w1 hF1 _
  rw [head_str]
  have hs21 : (str (headPart c a l)).size = 21 := by rw [str_size, headPart_len]
  have hfin : str (headPart c a l) ++ str (headPart c a l) ++ str (headPart c a l) ++ (⟨#[0]⟩ : ByteArray) = headText c a l := by
    rw [show (⟨#[0]⟩ : ByteArray) = str [0] from rfl, str_append, str_append, str_append]; rfl
  generalize str (headPart c a l) = T at hs21 hfin ⊢
  have HF := Lib.hid hfin
  clear hfin
  go_wp2
  go_ret
  exact ⟨by rw [← HF.out]; rfl, hF1⟩

end Go.Proofs.YtiojkakmlbfiiaaGreat
