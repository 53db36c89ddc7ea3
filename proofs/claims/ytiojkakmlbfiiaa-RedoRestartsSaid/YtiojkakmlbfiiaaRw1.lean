/- The program's log: numbers as bytes. -/
import Derived.Test.YtiojkakmlbfiiaaSl
import Derived.Test.YtiojkakmlbfiiaaSw6
import Derived.Test.YtiojkakmlbfiiaaLib
import Derived.Lib.ConvBytes
namespace Go.Proofs.Ytiojkakmlbfiiaa
open Go.RowKit
open Sp

theorem or_low (x c : Int) (h1 : -9223372036854775808 ≤ x) (h2 : x ≤ 9223372036854775807) (h3 : x % 256 = 0) (h4 : 0 ≤ c) (h5 : c < 256) : bits .or .i64 x c = x + c := by
  obtain ⟨b, rfl⟩ := Int.eq_ofNat_of_zero_le h4
  have e1 : (BitVec.ofInt 64 x).toNat = (x % 18446744073709551616).toNat := by
    rw [BitVec.toNat_ofInt]; rfl
  have e2 : (BitVec.ofInt 64 (b : Int)).toNat = b := by
    rw [BitVec.toNat_ofInt]
    show ((b : Int) % 18446744073709551616).toNat = b
    omega
  have e3 : ((x % 18446744073709551616).toNat) % 2 ^ 8 = 0 := by
    have : (2 : Nat) ^ 8 = 256 := rfl
    rw [this]; omega
  have hb : b < 2 ^ 8 := by have : (2 : Nat) ^ 8 = 256 := rfl; omega
  show IntKind.i64.wrap ((BitVec.ofInt 64 x ||| BitVec.ofInt 64 (b : Int)).toNat : Int) = _
  rw [BitVec.toNat_or, e1, e2, nat_join 8 _ b e3 hb, IntKind.wrap_i64]
  omega

theorem num_snoc (l : List UInt8) (c : UInt8) : num (l ++ [c]) = wrap64 (num l * 256 + (c.toNat : Int)) := by simp [num, List.foldl_append]

theorem wrap64_range (n : Int) : -9223372036854775808 ≤ wrap64 n ∧ wrap64 n ≤ 9223372036854775807 := by unfold wrap64; omega
theorem wrap64_mod (n : Int) : wrap64 (n * 256) % 256 = 0 := by unfold wrap64; omega
theorem wrap64_add (n c : Int) (h : 0 ≤ c) (h' : c < 256) : wrap64 (n * 256) + c = wrap64 (n * 256 + c) := by unfold wrap64; omega

theorem fr_bytesWorld (w : World) (e : TypeId) (s : ByteArray) : Fr [] w (Lib.bytesWorld w e s) :=
  ⟨rfl, rfl, rfl, by rw [Lib.bytesWorld_size]; omega, fun k hk _ => Lib.bytesWorld_at_old w e s k hk⟩

set_option maxRecDepth 100000 in
theorem number_c (s : ByteArray) (w : World) (hs : s.size ≤ 1000) :
    Calls Try.prog 29 #[.string s] w fun e w' => e = .returned (.int .i64 (num s.data.toList)) ∧ Fr [] w w' := by
  have hcv := Lib.run_convert_string_bytes (P := Try.prog) w 9 39 5 s Try.underlying9 Try.underlying39 Try.underlying5
  have hF := fr_bytesWorld w 5 s
  have hcell := Lib.bytesWorld_cell w 5 s
  generalize Lib.bytesWorld w 5 s = W at hcv hF hcell
  generalize Go.grownCap w s.size 0 5 = C at hcv
  have HC := Lib.hid hcell
  clear hcell
  go_enter Try.func29, Try.ntmps29
  go_wp2
  go_loop [3, 9] (fun n i => ∃ k : Nat, k ≤ s.size ∧ i = .int .i64 k ∧ n = .int .i64 (num (s.data.toList.take k))) (fun _ i => s.size - (intOf i).toNat)
  case atStart => exact ⟨0, Nat.zero_le _, rfl, rfl⟩
  case round =>
    obtain ⟨k, hk, rfl, rfl⟩ := hrel
    by_cases hlt : k < s.size
    · have hc := HC.out k hlt
      have hgd : s.data.toList.getD k 0 = s[k] := by
        have : k < s.data.toList.length := hlt
        rw [List.getD_eq_getElem?_getD, List.getElem?_eq_getElem this]; rfl
      rw [hgd] at hc
      have hcb : (s[k].toNat : Int) < 256 := by have := s[k].toNat_lt; omega
      have HS : Hid (num (s.data.toList.take (k + 1)) = wrap64 (num (s.data.toList.take k) * 256 + (s[k].toNat : Int))) := by
        show _ = _; rw [take_snoc s k hlt, num_snoc]
      generalize num (s.data.toList.take k) = n at HS ⊢
      have hr := wrap64_range (n * 256)
      have hor := or_low (wrap64 (n * 256)) (s[k].toNat : Int) hr.1 hr.2 (wrap64_mod n) (by omega) hcb
      rw [wrap64_add _ _ (by omega) hcb] at hor
      have hcn : 0 ≤ (s[k].toNat : Int) := by omega
      clear hgd
      generalize (s[k].toNat : Int) = c at *
      clear hr
      go_wp2
      go_round
      case rel => exact ⟨k + 1, by omega, by go_num, by rw [HS.out]⟩
      case measure => simp [intOf]; omega
    · obtain rfl : k = s.size := by omega
      go_wp2
      go_ret
      refine ⟨?_, hF⟩
      rw [List.take_of_length_le (show s.data.toList.length ≤ s.size from Nat.le_refl _)]
      rfl

def zeroCells8 : List Value := List.replicate 8 (.int .u8 0)

theorem set_prefix {α : Type} (a b : List α) (k : Nat) (v : α) (ha : a[k]? = some v) (hb : k < b.length) : (a.take k ++ b.drop k).set k v = a.take (k + 1) ++ b.drop (k + 1) := by
  have hk : k < a.length := by
    rcases Nat.lt_or_ge k a.length with h | h
    · exact h
    · rw [List.getElem?_eq_none h] at ha; cases ha
  have hl : (a.take k).length = k := by rw [List.length_take]; omega
  rw [List.set_append_right _ _ (by omega), hl, Nat.sub_self, List.drop_eq_getElem_cons hb, List.set_cons_zero, List.take_succ_eq_append_getElem hk]
  rw [List.getElem?_eq_getElem hk] at ha
  cases ha
  rw [List.append_assoc]; rfl

def beVals (n : Nat) : List Value := (be 8 n).map fun b => Value.int .u8 (b.toNat : Int)

theorem beVals_eq (n : Nat) : beVals n = [.int .u8 (((n / 256 / 256 / 256 / 256 / 256 / 256 / 256) % 256 : Nat) : Int), .int .u8 (((n / 256 / 256 / 256 / 256 / 256 / 256) % 256 : Nat) : Int), .int .u8 (((n / 256 / 256 / 256 / 256 / 256) % 256 : Nat) : Int), .int .u8 (((n / 256 / 256 / 256 / 256) % 256 : Nat) : Int), .int .u8 (((n / 256 / 256 / 256) % 256 : Nat) : Int), .int .u8 (((n / 256 / 256) % 256 : Nat) : Int), .int .u8 (((n / 256) % 256 : Nat) : Int), .int .u8 ((n % 256 : Nat) : Int)] := by
  have hu : ∀ m : Nat, ((UInt8.ofNat m).toNat : Int) = ((m % 256 : Nat) : Int) := by intro m; simp
  simp only [beVals, be, le, List.reverse_cons, List.reverse_nil, List.nil_append, List.cons_append, List.map_cons, List.map_nil, hu]

set_option maxRecDepth 100000 in
theorem eight_c (n : Nat) (w : World) (hn : n ≤ 9223372036854775807) :
    Calls Try.prog 43 #[.int .i64 (n : Int)] w fun e w' => e = .returned (.string (str (be 8 n))) ∧ Fr [] w w' := by
  obtain ⟨i0, hi, hz0, hz1, hz2⟩ := info_parts byteInfo
  have hmk := run_make (P := Try.prog) w 39 5 i0 _ Try.underlying39 hi hz0 .i64 .i64 8 8 (by omega) (by omega) (by rw [hz2]; omega) (by omega)
  rw [hz1] at hmk
  have e8 : (8 : Int).toNat * 1 = 8 := rfl
  rw [e8, madeCells_bytes] at hmk
  have hB0 : Blk (w.alloc (.cells zeroCells8.toArray 5)) w.heap.size zeroCells8 := Blk.new w zeroCells8 5
  have hF0 : Fr [] w (w.alloc (.cells zeroCells8.toArray 5)) := (Fr.refl _ _).alloc _
  change _ = Result.ok _ (w.alloc (.cells zeroCells8.toArray 5)) at hmk
  generalize w.alloc (.cells zeroCells8.toArray 5) = W at hmk hB0 hF0
  clear hi hz0 hz1 hz2 e8
  go_enter Try.func43, Try.ntmps43
  go_wp2
  go_loopw [8] (fun i wr => ∃ k : Nat, k ≤ 8 ∧ i = .int .i64 k ∧ Blk wr w.heap.size ((beVals n).take k ++ zeroCells8.drop k) ∧ Fr [] w wr) (fun i _ => 8 - (intOf i).toNat)
  case atStart => exact ⟨0, Nat.zero_le _, rfl, hB0, hF0⟩
  case round =>
    obtain ⟨k, hk, rfl, hB, hF⟩ := hrel
    clear hmk
    rcases (show k = 8 ∨ k < 8 by omega) with rfl | hk'
    · have hcv := conv_bytes (off := 0) (len := 8) (cap := 8) hB (str (be 8 n)) (by rw [str_size, be, List.length_reverse, le_len]) (by
        intro j hj
        rw [Nat.zero_add]
        show (List.take 8 (beVals n) ++ [])[j]? = _
        rw [List.append_nil, List.take_of_length_le (by rw [beVals_eq]; exact Nat.le_refl _)]
        rw [bytesOf, str_data]; rfl)
      go_wp2
      go_ret
      exact ⟨rfl, hF⟩
    · rcases (show k = 0 ∨ k = 1 ∨ k = 2 ∨ k = 3 ∨ k = 4 ∨ k = 5 ∨ k = 6 ∨ k = 7 by omega) with rfl | rfl | rfl | rfl | rfl | rfl | rfl | rfl
      · have hc : wr.cell? ⟨w.heap.size, 0, none⟩ = some (.int .u8 0) := by rw [hB.cell, beVals_eq]; rfl
        have hf := hB.free 0
        have HB : Hid (∀ v, (beVals n)[0]? = some v → Blk (wr.setCell ⟨w.heap.size, 0, none⟩ v) w.heap.size ((beVals n).take 1 ++ zeroCells8.drop 1)) := by
          intro v hv
          have := hB.set 0 v
          rwa [set_prefix _ _ _ _ hv (by simp [zeroCells8])] at this
        clear hB
        go_wp2
        go_roundw
        case rel => exact ⟨1, by omega, rfl, HB.out _ (by rw [beVals_eq]; exact congrArg (fun z => some (Value.int IntKind.u8 z)) (by omega)), hF.setCell (Or.inr (Nat.le_refl _)) _⟩
        case measure => simp [intOf]
      · have hc : wr.cell? ⟨w.heap.size, 1, none⟩ = some (.int .u8 0) := by rw [hB.cell, beVals_eq]; rfl
        have hf := hB.free 1
        have HB : Hid (∀ v, (beVals n)[1]? = some v → Blk (wr.setCell ⟨w.heap.size, 1, none⟩ v) w.heap.size ((beVals n).take 2 ++ zeroCells8.drop 2)) := by
          intro v hv
          have := hB.set 1 v
          rwa [set_prefix _ _ _ _ hv (by simp [zeroCells8])] at this
        clear hB
        go_wp2
        go_roundw
        case rel => exact ⟨2, by omega, rfl, HB.out _ (by rw [beVals_eq]; exact congrArg (fun z => some (Value.int IntKind.u8 z)) (by omega)), hF.setCell (Or.inr (Nat.le_refl _)) _⟩
        case measure => simp [intOf]
      · have hc : wr.cell? ⟨w.heap.size, 2, none⟩ = some (.int .u8 0) := by rw [hB.cell, beVals_eq]; rfl
        have hf := hB.free 2
        have HB : Hid (∀ v, (beVals n)[2]? = some v → Blk (wr.setCell ⟨w.heap.size, 2, none⟩ v) w.heap.size ((beVals n).take 3 ++ zeroCells8.drop 3)) := by
          intro v hv
          have := hB.set 2 v
          rwa [set_prefix _ _ _ _ hv (by simp [zeroCells8])] at this
        clear hB
        go_wp2
        go_roundw
        case rel => exact ⟨3, by omega, rfl, HB.out _ (by rw [beVals_eq]; exact congrArg (fun z => some (Value.int IntKind.u8 z)) (by omega)), hF.setCell (Or.inr (Nat.le_refl _)) _⟩
        case measure => simp [intOf]
      · have hc : wr.cell? ⟨w.heap.size, 3, none⟩ = some (.int .u8 0) := by rw [hB.cell, beVals_eq]; rfl
        have hf := hB.free 3
        have HB : Hid (∀ v, (beVals n)[3]? = some v → Blk (wr.setCell ⟨w.heap.size, 3, none⟩ v) w.heap.size ((beVals n).take 4 ++ zeroCells8.drop 4)) := by
          intro v hv
          have := hB.set 3 v
          rwa [set_prefix _ _ _ _ hv (by simp [zeroCells8])] at this
        clear hB
        go_wp2
        go_roundw
        case rel => exact ⟨4, by omega, rfl, HB.out _ (by rw [beVals_eq]; exact congrArg (fun z => some (Value.int IntKind.u8 z)) (by omega)), hF.setCell (Or.inr (Nat.le_refl _)) _⟩
        case measure => simp [intOf]
      · have hc : wr.cell? ⟨w.heap.size, 4, none⟩ = some (.int .u8 0) := by rw [hB.cell, beVals_eq]; rfl
        have hf := hB.free 4
        have HB : Hid (∀ v, (beVals n)[4]? = some v → Blk (wr.setCell ⟨w.heap.size, 4, none⟩ v) w.heap.size ((beVals n).take 5 ++ zeroCells8.drop 5)) := by
          intro v hv
          have := hB.set 4 v
          rwa [set_prefix _ _ _ _ hv (by simp [zeroCells8])] at this
        clear hB
        go_wp2
        go_roundw
        case rel => exact ⟨5, by omega, rfl, HB.out _ (by rw [beVals_eq]; exact congrArg (fun z => some (Value.int IntKind.u8 z)) (by omega)), hF.setCell (Or.inr (Nat.le_refl _)) _⟩
        case measure => simp [intOf]
      · have hc : wr.cell? ⟨w.heap.size, 5, none⟩ = some (.int .u8 0) := by rw [hB.cell, beVals_eq]; rfl
        have hf := hB.free 5
        have HB : Hid (∀ v, (beVals n)[5]? = some v → Blk (wr.setCell ⟨w.heap.size, 5, none⟩ v) w.heap.size ((beVals n).take 6 ++ zeroCells8.drop 6)) := by
          intro v hv
          have := hB.set 5 v
          rwa [set_prefix _ _ _ _ hv (by simp [zeroCells8])] at this
        clear hB
        go_wp2
        go_roundw
        case rel => exact ⟨6, by omega, rfl, HB.out _ (by rw [beVals_eq]; exact congrArg (fun z => some (Value.int IntKind.u8 z)) (by omega)), hF.setCell (Or.inr (Nat.le_refl _)) _⟩
        case measure => simp [intOf]
      · have hc : wr.cell? ⟨w.heap.size, 6, none⟩ = some (.int .u8 0) := by rw [hB.cell, beVals_eq]; rfl
        have hf := hB.free 6
        have HB : Hid (∀ v, (beVals n)[6]? = some v → Blk (wr.setCell ⟨w.heap.size, 6, none⟩ v) w.heap.size ((beVals n).take 7 ++ zeroCells8.drop 7)) := by
          intro v hv
          have := hB.set 6 v
          rwa [set_prefix _ _ _ _ hv (by simp [zeroCells8])] at this
        clear hB
        go_wp2
        go_roundw
        case rel => exact ⟨7, by omega, rfl, HB.out _ (by rw [beVals_eq]; exact congrArg (fun z => some (Value.int IntKind.u8 z)) (by omega)), hF.setCell (Or.inr (Nat.le_refl _)) _⟩
        case measure => simp [intOf]
      · have hc : wr.cell? ⟨w.heap.size, 7, none⟩ = some (.int .u8 0) := by rw [hB.cell, beVals_eq]; rfl
        have hf := hB.free 7
        have HB : Hid (∀ v, (beVals n)[7]? = some v → Blk (wr.setCell ⟨w.heap.size, 7, none⟩ v) w.heap.size ((beVals n).take 8 ++ zeroCells8.drop 8)) := by
          intro v hv
          have := hB.set 7 v
          rwa [set_prefix _ _ _ _ hv (by simp [zeroCells8])] at this
        clear hB
        go_wp2
        go_roundw
        case rel => exact ⟨8, by omega, rfl, HB.out _ (by rw [beVals_eq]; exact congrArg (fun z => some (Value.int IntKind.u8 z)) (by omega)), hF.setCell (Or.inr (Nat.le_refl _)) _⟩
        case measure => simp [intOf]

end Go.Proofs.Ytiojkakmlbfiiaa
