/- The program's log: its object raw; first, mark. -/
import Derived.Test.YtiojkakmlbfiiaaGreatM05
import Derived.Test.YtiojkakmlbfiiaaGreatM04
import Derived.Test.YtiojkakmlbfiiaaGreatLib
import Derived.Lib.ConvBytes
import Derived.Test.YtiojkakmlbfiiaaGreatM01
/- The program's log: numbers as bytes. -/
namespace Go.Proofs.YtiojkakmlbfiiaaGreat
open Go.RowKit
open Sp

theorem or_low (x c : Int) (h1 : -9223372036854775808 ≤ x) (h2 : x ≤ 9223372036854775807) (h3 : x % 256 = 0) (h4 : 0 ≤ c) (h5 : c < 256) : bits .or .i64 x c = x + c := by
  obtain ⟨b, rfl⟩ := Int.eq_ofNat_of_zero_le h4
  have e1 : (BitVec.ofInt 64 x).toNat = (x % 18446744073709551616).toNat := by
    rw [BitVec.toNat_ofInt]; rfl
  have e2 : (BitVec.ofInt 64 (b : Int)).toNat = b := by
    rw [BitVec.toNat_ofInt]
    show ((b : Int) % 18446744073709551616).toNat = b
    omega
  have e3 : ((x % 18446744073709551616).toNat) % 2 ^ 8 = 0 := by
    have : (2 : Nat) ^ 8 = 256 := rfl
    rw [this]; omega
  have hb : b < 2 ^ 8 := by have : (2 : Nat) ^ 8 = 256 := rfl; omega
  show IntKind.i64.wrap ((BitVec.ofInt 64 x ||| BitVec.ofInt 64 (b : Int)).toNat : Int) = _
  rw [BitVec.toNat_or, e1, e2, nat_join 8 _ b e3 hb, IntKind.wrap_i64]
  omega

theorem num_snoc (l : List UInt8) (c : UInt8) : num (l ++ [c]) = wrap64 (num l * 256 + (c.toNat : Int)) := by simp [num, List.foldl_append]

theorem wrap64_range (n : Int) : -9223372036854775808 ≤ wrap64 n ∧ wrap64 n ≤ 9223372036854775807 := by unfold wrap64; omega
theorem wrap64_mod (n : Int) : wrap64 (n * 256) % 256 = 0 := by unfold wrap64; omega
theorem wrap64_add (n c : Int) (h : 0 ≤ c) (h' : c < 256) : wrap64 (n * 256) + c = wrap64 (n * 256 + c) := by unfold wrap64; omega

theorem fr_bytesWorld (w : World) (e : TypeId) (s : ByteArray) : Fr [] w (Lib.bytesWorld w e s) :=
  ⟨rfl, rfl, rfl, by rw [Lib.bytesWorld_size]; omega, fun k hk _ => Lib.bytesWorld_at_old w e s k hk⟩

set_option maxRecDepth 100000 in
theorem number_c (s : ByteArray) (w : World) (hs : s.size ≤ 1000) :
    Calls Tryz.prog 62 #[.string s] w fun e w' => e = .returned (.int .i64 (num s.data.toList)) ∧ Fr [] w w' := by
  have hcv := Lib.run_convert_string_bytes (P := Tryz.prog) w 9 42 5 s Tryz.underlying9 Tryz.underlying42 Tryz.underlying5
  have hF := fr_bytesWorld w 5 s
  have hcell := Lib.bytesWorld_cell w 5 s
  generalize Lib.bytesWorld w 5 s = W at hcv hF hcell
  generalize Go.grownCap w s.size 0 5 = C at hcv
  have HC := Lib.hid hcell
  clear hcell
  go_enter Tryz.func62, Tryz.ntmps62
  go_wp2
  go_loop [3, 9] (fun n i => ∃ k : Nat, k ≤ s.size ∧ i = .int .i64 k ∧ n = .int .i64 (num (s.data.toList.take k))) (fun _ i => s.size - (intOf i).toNat)
  case atStart => exact ⟨0, Nat.zero_le _, rfl, rfl⟩
  case round =>
    obtain ⟨k, hk, rfl, rfl⟩ := hrel
    by_cases hlt : k < s.size
    · have hc := HC.out k hlt
      have hgd : s.data.toList.getD k 0 = s[k] := by
        have : k < s.data.toList.length := hlt
        rw [List.getD_eq_getElem?_getD, List.getElem?_eq_getElem this]; rfl
      rw [hgd] at hc
      have hcb : (s[k].toNat : Int) < 256 := by have := s[k].toNat_lt; omega
      have HS : Hid (num (s.data.toList.take (k + 1)) = wrap64 (num (s.data.toList.take k) * 256 + (s[k].toNat : Int))) := by
        show _ = _; rw [take_snoc s k hlt, num_snoc]
      generalize num (s.data.toList.take k) = n at HS ⊢
      have hr := wrap64_range (n * 256)
      have hor := or_low (wrap64 (n * 256)) (s[k].toNat : Int) hr.1 hr.2 (wrap64_mod n) (by omega) hcb
      rw [wrap64_add _ _ (by omega) hcb] at hor
      have hcn : 0 ≤ (s[k].toNat : Int) := by omega
      clear hgd
      generalize (s[k].toNat : Int) = c at *
      clear hr
      go_wp2
      go_round
      case rel => exact ⟨k + 1, by omega, by go_num, by rw [HS.out]⟩
      case measure => simp [intOf]; omega
    · obtain rfl : k = s.size := by omega
      go_wp2
      go_ret
      refine ⟨?_, hF⟩
      rw [List.take_of_length_le (show s.data.toList.length ≤ s.size from Nat.le_refl _)]
      rfl

def zeroCells8 : List Value := List.replicate 8 (.int .u8 0)

theorem set_prefix {α : Type} (a b : List α) (k : Nat) (v : α) (ha : a[k]? = some v) (hb : k < b.length) : (a.take k ++ b.drop k).set k v = a.take (k + 1) ++ b.drop (k + 1) := by
  have hk : k < a.length := by
    rcases Nat.lt_or_ge k a.length with h | h
    · exact h
    · rw [List.getElem?_eq_none h] at ha; cases ha
  have hl : (a.take k).length = k := by rw [List.length_take]; omega
  rw [List.set_append_right _ _ (by omega), hl, Nat.sub_self, List.drop_eq_getElem_cons hb, List.set_cons_zero, List.take_succ_eq_append_getElem hk]
  rw [List.getElem?_eq_getElem hk] at ha
  cases ha
  rw [List.append_assoc]; rfl

def beVals (n : Nat) : List Value := (be 8 n).map fun b => Value.int .u8 (b.toNat : Int)

theorem beVals_eq (n : Nat) : beVals n = [.int .u8 (((n / 256 / 256 / 256 / 256 / 256 / 256 / 256) % 256 : Nat) : Int), .int .u8 (((n / 256 / 256 / 256 / 256 / 256 / 256) % 256 : Nat) : Int), .int .u8 (((n / 256 / 256 / 256 / 256 / 256) % 256 : Nat) : Int), .int .u8 (((n / 256 / 256 / 256 / 256) % 256 : Nat) : Int), .int .u8 (((n / 256 / 256 / 256) % 256 : Nat) : Int), .int .u8 (((n / 256 / 256) % 256 : Nat) : Int), .int .u8 (((n / 256) % 256 : Nat) : Int), .int .u8 ((n % 256 : Nat) : Int)] := by
  have hu : ∀ m : Nat, ((UInt8.ofNat m).toNat : Int) = ((m % 256 : Nat) : Int) := by intro m; simp
  simp only [beVals, be, le, List.reverse_cons, List.reverse_nil, List.nil_append, List.cons_append, List.map_cons, List.map_nil, hu]

set_option maxRecDepth 100000 in
theorem eight_c (n : Nat) (w : World) (hn : n ≤ 9223372036854775807) :
    Calls Tryz.prog 80 #[.int .i64 (n : Int)] w fun e w' => e = .returned (.string (str (be 8 n))) ∧ Fr [] w w' := by
  obtain ⟨i0, hi, hz0, hz1, hz2⟩ := info_parts byteInfo
  have hmk := run_make (P := Tryz.prog) w 42 5 i0 _ Tryz.underlying42 hi hz0 .i64 .i64 8 8 (by omega) (by omega) (by rw [hz2]; omega) (by omega)
  rw [hz1] at hmk
  have e8 : (8 : Int).toNat * 1 = 8 := rfl
  rw [e8, madeCells_bytes] at hmk
  have hB0 : Blk (w.alloc (.cells zeroCells8.toArray 5)) w.heap.size zeroCells8 := Blk.new w zeroCells8 5
  have hF0 : Fr [] w (w.alloc (.cells zeroCells8.toArray 5)) := (Fr.refl _ _).alloc _
  change _ = Result.ok _ (w.alloc (.cells zeroCells8.toArray 5)) at hmk
  generalize w.alloc (.cells zeroCells8.toArray 5) = W at hmk hB0 hF0
  clear hi hz0 hz1 hz2 e8
  go_enter Tryz.func80, Tryz.ntmps80
  go_wp2
  go_loopw [8] (fun i wr => ∃ k : Nat, k ≤ 8 ∧ i = .int .i64 k ∧ Blk wr w.heap.size ((beVals n).take k ++ zeroCells8.drop k) ∧ Fr [] w wr) (fun i _ => 8 - (intOf i).toNat)
  case atStart => exact ⟨0, Nat.zero_le _, rfl, hB0, hF0⟩
  case round =>
    obtain ⟨k, hk, rfl, hB, hF⟩ := hrel
    clear hmk
    rcases (show k = 8 ∨ k < 8 by omega) with rfl | hk'
    · have hcv := conv_bytes (off := 0) (len := 8) (cap := 8) hB (str (be 8 n)) (by rw [str_size, be, List.length_reverse, le_len]) (by
        intro j hj
        rw [Nat.zero_add]
        show (List.take 8 (beVals n) ++ [])[j]? = _
        rw [List.append_nil, List.take_of_length_le (by rw [beVals_eq]; exact Nat.le_refl _)]
        rw [bytesOf, str_data]; rfl)
      go_wp2
      go_ret
      exact ⟨rfl, hF⟩
    · rcases (show k = 0 ∨ k = 1 ∨ k = 2 ∨ k = 3 ∨ k = 4 ∨ k = 5 ∨ k = 6 ∨ k = 7 by omega) with rfl | rfl | rfl | rfl | rfl | rfl | rfl | rfl
      · have hc : wr.cell? ⟨w.heap.size, 0, none⟩ = some (.int .u8 0) := by rw [hB.cell, beVals_eq]; rfl
        have hf := hB.free 0
        have HB : Hid (∀ v, (beVals n)[0]? = some v → Blk (wr.setCell ⟨w.heap.size, 0, none⟩ v) w.heap.size ((beVals n).take 1 ++ zeroCells8.drop 1)) := by
          intro v hv
          have := hB.set 0 v
          rwa [set_prefix _ _ _ _ hv (by simp [zeroCells8])] at this
        clear hB
        go_wp2
        go_roundw
        case rel => exact ⟨1, by omega, rfl, HB.out _ (by rw [beVals_eq]; exact congrArg (fun z => some (Value.int IntKind.u8 z)) (by omega)), hF.setCell (Or.inr (Nat.le_refl _)) _⟩
        case measure => simp [intOf]
      · have hc : wr.cell? ⟨w.heap.size, 1, none⟩ = some (.int .u8 0) := by rw [hB.cell, beVals_eq]; rfl
        have hf := hB.free 1
        have HB : Hid (∀ v, (beVals n)[1]? = some v → Blk (wr.setCell ⟨w.heap.size, 1, none⟩ v) w.heap.size ((beVals n).take 2 ++ zeroCells8.drop 2)) := by
          intro v hv
          have := hB.set 1 v
          rwa [set_prefix _ _ _ _ hv (by simp [zeroCells8])] at this
        clear hB
        go_wp2
        go_roundw
        case rel => exact ⟨2, by omega, rfl, HB.out _ (by rw [beVals_eq]; exact congrArg (fun z => some (Value.int IntKind.u8 z)) (by omega)), hF.setCell (Or.inr (Nat.le_refl _)) _⟩
        case measure => simp [intOf]
      · have hc : wr.cell? ⟨w.heap.size, 2, none⟩ = some (.int .u8 0) := by rw [hB.cell, beVals_eq]; rfl
        have hf := hB.free 2
        have HB : Hid (∀ v, (beVals n)[2]? = some v → Blk (wr.setCell ⟨w.heap.size, 2, none⟩ v) w.heap.size ((beVals n).take 3 ++ zeroCells8.drop 3)) := by
          intro v hv
          have := hB.set 2 v
          rwa [set_prefix _ _ _ _ hv (by simp [zeroCells8])] at this
        clear hB
        go_wp2
        go_roundw
        case rel => exact ⟨3, by omega, rfl, HB.out _ (by rw [beVals_eq]; exact congrArg (fun z => some (Value.int IntKind.u8 z)) (by omega)), hF.setCell (Or.inr (Nat.le_refl _)) _⟩
        case measure => simp [intOf]
      · have hc : wr.cell? ⟨w.heap.size, 3, none⟩ = some (.int .u8 0) := by rw [hB.cell, beVals_eq]; rfl
        have hf := hB.free 3
        have HB : Hid (∀ v, (beVals n)[3]? = some v → Blk (wr.setCell ⟨w.heap.size, 3, none⟩ v) w.heap.size ((beVals n).take 4 ++ zeroCells8.drop 4)) := by
          intro v hv
          have := hB.set 3 v
          rwa [set_prefix _ _ _ _ hv (by simp [zeroCells8])] at this
        clear hB
        go_wp2
        go_roundw
        case rel => exact ⟨4, by omega, rfl, HB.out _ (by rw [beVals_eq]; exact congrArg (fun z => some (Value.int IntKind.u8 z)) (by omega)), hF.setCell (Or.inr (Nat.le_refl _)) _⟩
        case measure => simp [intOf]
      · have hc : wr.cell? ⟨w.heap.size, 4, none⟩ = some (.int .u8 0) := by rw [hB.cell, beVals_eq]; rfl
        have hf := hB.free 4
        have HB : Hid (∀ v, (beVals n)[4]? = some v → Blk (wr.setCell ⟨w.heap.size, 4, none⟩ v) w.heap.size ((beVals n).take 5 ++ zeroCells8.drop 5)) := by
          intro v hv
          have := hB.set 4 v
          rwa [set_prefix _ _ _ _ hv (by simp [zeroCells8])] at this
        clear hB
        go_wp2
        go_roundw
        case rel => exact ⟨5, by omega, rfl, HB.out _ (by rw [beVals_eq]; exact congrArg (fun z => some (Value.int IntKind.u8 z)) (by omega)), hF.setCell (Or.inr (Nat.le_refl _)) _⟩
        case measure => simp [intOf]
      · have hc : wr.cell? ⟨w.heap.size, 5, none⟩ = some (.int .u8 0) := by rw [hB.cell, beVals_eq]; rfl
        have hf := hB.free 5
        have HB : Hid (∀ v, (beVals n)[5]? = some v → Blk (wr.setCell ⟨w.heap.size, 5, none⟩ v) w.heap.size ((beVals n).take 6 ++ zeroCells8.drop 6)) := by
          intro v hv
          have := hB.set 5 v
          rwa [set_prefix _ _ _ _ hv (by simp [zeroCells8])] at this
        clear hB
        go_wp2
        go_roundw
        case rel => exact ⟨6, by omega, rfl, HB.out _ (by rw [beVals_eq]; exact congrArg (fun z => some (Value.int IntKind.u8 z)) (by omega)), hF.setCell (Or.inr (Nat.le_refl _)) _⟩
        case measure => simp [intOf]
      · have hc : wr.cell? ⟨w.heap.size, 6, none⟩ = some (.int .u8 0) := by rw [hB.cell, beVals_eq]; rfl
        have hf := hB.free 6
        have HB : Hid (∀ v, (beVals n)[6]? = some v → Blk (wr.setCell ⟨w.heap.size, 6, none⟩ v) w.heap.size ((beVals n).take 7 ++ zeroCells8.drop 7)) := by
          intro v hv
          have := hB.set 6 v
          rwa [set_prefix _ _ _ _ hv (by simp [zeroCells8])] at this
        clear hB
        go_wp2
        go_roundw
        case rel => exact ⟨7, by omega, rfl, HB.out _ (by rw [beVals_eq]; exact congrArg (fun z => some (Value.int IntKind.u8 z)) (by omega)), hF.setCell (Or.inr (Nat.le_refl _)) _⟩
        case measure => simp [intOf]
      · have hc : wr.cell? ⟨w.heap.size, 7, none⟩ = some (.int .u8 0) := by rw [hB.cell, beVals_eq]; rfl
        have hf := hB.free 7
        have HB : Hid (∀ v, (beVals n)[7]? = some v → Blk (wr.setCell ⟨w.heap.size, 7, none⟩ v) w.heap.size ((beVals n).take 8 ++ zeroCells8.drop 8)) := by
          intro v hv
          have := hB.set 7 v
          rwa [set_prefix _ _ _ _ hv (by simp [zeroCells8])] at this
        clear hB
        go_wp2
        go_roundw
        case rel => exact ⟨8, by omega, rfl, HB.out _ (by rw [beVals_eq]; exact congrArg (fun z => some (Value.int IntKind.u8 z)) (by omega)), hF.setCell (Or.inr (Nat.le_refl _)) _⟩
        case measure => simp [intOf]

end Go.Proofs.YtiojkakmlbfiiaaGreat

/- The program's log: the builder's writing calls, the text of a head. -/
namespace Go.Proofs.YtiojkakmlbfiiaaGreat
open Go.RowKit
open Sp

set_option maxRecDepth 100000 in
theorem copyCheck_c (B b : Nat) (bs : List Value) (w : World) (h : Lib.IsBuilder 100 5 B b bs w) :
    Calls Tryz.prog 81 #[.pointer (some ⟨b, 0, none⟩)] w fun e w' => e = .returned (.tuple #[]) ∧ (Lib.BuilderAt 100 5 B b (.pointer (some ⟨b, 0, none⟩)) bs w' ∧ Below B w w') := by
  obtain ⟨j, hj, hjs⟩ := Option.map_eq_some_iff.1 (show (Tryz.prog.info? 100).map (·.size) = some 2 by kernel_rfl)
  rcases h with h | h
  · have h0 := h.cell0
    have hsh := h.shape
    have hfz := h.frozen0
    go_enter Tryz.func81, Tryz.ntmps81
    go_wp2
    rw [Lib.run_to_unsafe w ⟨b, 0, none⟩ Tryz.underlying98 Tryz.underlying123 hj (by rw [hjs]; decide) hsh (Nat.zero_lt_succ 1)]
    simp only [Result.andThen]
    rw [Oper.upon_value]
    go_wp2
    rw [run_callFunc_extern Tryz.func91 (by kernel_rfl) (by kernel_rfl) (by kernel_rfl) (e := Extern.AbiNoEscape.same) (by kernel_rfl)]
    rw [Lib.run_noEscape]
    simp only [Result.andThen]
    rw [Oper.upon_value]
    go_wp2
    rw [Lib.run_from_unsafe w ⟨b, 0, none⟩ Tryz.underlying123 Tryz.underlying98 hj hsh (by kernel_rfl)]
    simp only [Result.andThen]
    rw [Oper.upon_value]
    go_wp2
    go_end0
    exact ⟨rfl, h.used _, (Below.refl B w).setCell (p := ⟨b, 0, none⟩) h.1 _⟩
  · have h0 := h.cell0
    go_enter Tryz.func81, Tryz.ntmps81
    go_wp2
    rw [Lib.run_neq_ptr_same w _ Tryz.underlying98 hj]
    go_wp2
    go_end0
    exact ⟨rfl, h, Below.refl B _⟩

set_option maxHeartbeats 2000000 in
set_option maxRecDepth 100000 in
theorem writeString_c (B b : Nat) (bs : List Value) (s : ByteArray) (w : World) (h : Lib.IsBuilder 100 5 B b bs w) (hlen : bs.length + s.size ≤ 140737488355328) (hBw : B ≤ w.heap.size) :
    Calls Tryz.prog 65 #[.pointer (some ⟨b, 0, none⟩), .string s] w fun e w' => e = .returned (.tuple #[.int .i64 s.size, .nilIface]) ∧ (Lib.BuilderAt 100 5 B b (.pointer (some ⟨b, 0, none⟩)) (bs ++ Lib.strCells s) w' ∧ Below B w w') := by
  obtain ⟨i0, hi, hz0, hz1, hz2⟩ := info_parts byteInfo
  go_enter Tryz.func65, Tryz.ntmps65
  go_wp2_with (go_at_call 81; refine (copyCheck_c B b bs _ h).mono ?_)
  rintro e w1 ⟨rfl, h1, hb1⟩
  obtain ⟨hB, v, hbk, hown, hne⟩ := h1
  have c0 : w1.cell? ⟨b, 0, none⟩ = some (.pointer (some ⟨b, 0, none⟩)) := by rw [Lib.cell_of_heap hbk]; rfl
  have c1 : w1.cell? ⟨b, 1, none⟩ = some v := by rw [Lib.cell_of_heap hbk]; rfl
  go_wp2_with (at_builtin; refine Lib.wpList_append_own_string _ rfl _ _ 42 9 rfl B 5 i0 Tryz.underlying42 Tryz.underlying9 hi hz0 hz1 hz2 _ _ _ rfl hown s rfl ?c3 ?c4 ?c5 ?_)
  case c3 => unfold maxLen; omega
  case c4 => omega
  case c5 => have := hb1.size; omega
  intro v' w2 hown' hgrow _
  have hlt : b < w1.heap.size := lt_of_block hbk
  have hb2 : w2.heap[b]? = some (.cells #[.pointer (some ⟨b, 0, none⟩), v] 100 (0, 0)) := by
    rw [hgrow.block b hlt (fun e => hne e.symm)]
    exact hbk
  have d0 : w2.cell? ⟨b, 0, none⟩ = some (.pointer (some ⟨b, 0, none⟩)) := by rw [Lib.cell_of_heap hb2]; rfl
  have d1 : w2.cell? ⟨b, 1, none⟩ = some v := by rw [Lib.cell_of_heap hb2]; rfl
  have f1 : w2.frozen? ⟨b, 1, none⟩ = false := Lib.frozen_of_heap hb2 1
  obtain ⟨ao, n', cap, rfl⟩ : ∃ ao n' cap, v' = .slice ao n' cap := by
    rcases hown'.2 with ⟨hv, _⟩ | ⟨g, cap, cur, hv, _⟩
    · exact ⟨_, _, _, hv⟩
    · exact ⟨_, _, _, hv⟩
  go_wp2
  go_ret2
  refine ⟨rfl, ?_, ?_⟩
  · exact Lib.BuilderAt.put (T := 100) (e := 5) hB hb2 (bs' := bs ++ Lib.strCells s) (by simpa [Lib.strCells_length] using hown') (by decide)
  · exact (hb1.grown hgrow (by have := hb1.size; omega) (fun k hk => (hown.lt k hk).1)).setCell (p := ⟨b, 1, none⟩) hB _

theorem repeat_c (s : ByteArray) (c : Nat) (w : World) (hc : c ≤ 9223372036854775807) (hlen : s.size * c ≤ 140737488355328) :
    Calls Tryz.prog 68 #[.string s, .int .i64 (c : Int)] w fun e w' => e = .returned (.string (str (Lib.repeatL s.data.toList c))) ∧ Fr [] w w' :=
  (Tryz.strings_Repeat s c w hc hlen).mono fun e w' ⟨h1, h2⟩ => ⟨h1, Fr.of_below h2⟩

theorem repeatL_zero (n : Nat) : Lib.repeatL [0] n = List.replicate n (0 : UInt8) := by
  induction n with
  | zero => rfl
  | succ n ih => rw [List.replicate_succ, ← ih]; rfl

def Byte1 (x : Nat) (u : Value) (w : World) : Prop := ∃ b, u = .slice (some ⟨b, 0, none⟩) 1 1 ∧ Blk w b [.int .u8 (x : Int)]
theorem byte1_stable (x : Nat) : Stable (Byte1 x) := fun _ _ _ hF ⟨b, h1, h2⟩ => ⟨b, h1, h2.fr hF (by simp)⟩

theorem headPart_len (c a l : Nat) : (headPart c a l).length = 21 := by simp [headPart, be, le_len]

def magicS : ByteArray := ⟨#[82, 69, 68, 79]⟩

theorem head_str (c a l : Nat) : ((⟨#[82, 69, 68, 79]⟩ : ByteArray) ++ str (be 8 c) ++ str [UInt8.ofNat a] ++ str (be 8 l)) = str (headPart c a l) := by
  have : (⟨#[82, 69, 68, 79]⟩ : ByteArray) = str [82, 69, 68, 79] := rfl
  rw [this, str_append, str_append, str_append]; rfl

theorem three (l : List UInt8) : Lib.repeatL l 3 = l ++ l ++ l := by simp [Lib.repeatL]

set_option maxHeartbeats 2000000 in
set_option maxRecDepth 100000 in
theorem head_text_c (c a l : Nat) (w : World) (hc : c ≤ 9223372036854775807) (ha : a < 256) (hl : l ≤ 9223372036854775807) :
    Calls Tryz.prog 63 #[.agg #[.int .i64 (c : Int), .int .i64 (a : Int), .int .i64 (l : Int)]] w fun e w' => e = .returned (.string (headText c a l)) ∧ Fr [] w w' := by
  have hB0 : Blk (w.alloc (.cells #[.int .i64 (c : Int), .int .i64 (a : Int), .int .i64 (l : Int)] 69)) w.heap.size [.int .i64 (c : Int), .int .i64 (a : Int), .int .i64 (l : Int)] := Blk.new _ _ _
  have hF0 : Fr [] w (w.alloc (.cells #[.int .i64 (c : Int), .int .i64 (a : Int), .int .i64 (l : Int)] 69)) := (Fr.refl _ _).alloc _
  go_enter Tryz.func63, Tryz.ntmps63
  go_wp2
  generalize hb : w.heap.size = b at *
  have c0 := hB0.cell 0
  have c1 := hB0.cell 1
  have c2 := hB0.cell 2
  simp only [List.getElem?_cons_zero, List.getElem?_cons_succ] at c0 c1 c2
  generalize hW : w.alloc (.cells #[.int .i64 (c : Int), .int .i64 (a : Int), .int .i64 (l : Int)] 69) = W at *
  have s8 : ∀ n, (str (be 8 n)).size = 8 := fun n => by rw [str_size, be, List.length_reverse, le_len]
  have s1 : (str [UInt8.ofNat a]).size = 1 := by rw [str_size]; rfl
  have s4 : (⟨#[82, 69, 68, 79]⟩ : ByteArray).size = 4 := rfl
  refine wp_region_rel 14 (Ks := [.const (.pointer (some ⟨b, 0, none⟩)), .const (.int .i64 (c : Int)), .const (.string (str (be 8 c))), .const (.string (⟨#[82, 69, 68, 79]⟩ ++ str (be 8 c))),
    .const (.pointer (some ⟨b, 1, none⟩)), .const (.int .i64 (a : Int)), .const (.int .u8 (a : Int)), .var (Byte1 a), .const (.string (str [UInt8.ofNat a])), .const (.string (⟨#[82, 69, 68, 79]⟩ ++ str (be 8 c) ++ str [UInt8.ofNat a])),
    .const (.pointer (some ⟨b, 2, none⟩)), .const (.int .i64 (l : Int)), .const (.string (str (be 8 l))), .const (.string (⟨#[82, 69, 68, 79]⟩ ++ str (be 8 c) ++ str [UInt8.ofNat a] ++ str (be 8 l)))]) (by kernel_rfl) (by kernel_rfl) ?_
  refine r_const rfl (by intro w' hF _; go_simp; try rfl) ?_
  go_frame
  refine r_const rfl (by intro w' hF _; have := (hB0.fr hF (by simp)).cell 0; go_simp; try rfl) ?_
  go_frame
  refine r_call (f := 80) (args := #[.int .i64 (c : Int)]) rfl (by intro w'; go_simp; try rfl) (fun w' _ _ => eight_c c w' hc) ?_
  go_frame
  refine r_const rfl (by intro w' hF _; go_simp; try rfl) ?_
  go_frame
  refine r_const rfl (by intro w' hF _; go_simp; try rfl) ?_
  go_frame
  refine r_const rfl (by intro w' hF _; have := (hB0.fr hF (by simp)).cell 1; go_simp; try rfl) ?_
  go_frame
  refine r_const rfl (by intro w' hF _; go_simp; exact IntKind.wrap_u8 _ |>.trans (by omega)) ?_
  go_frame
  refine r_var _ rfl (byte1_stable a) (by intro w' hF _; go_simp; rw [Upon.value]; exact ⟨⟨_, rfl, Blk.new _ _ _⟩, (Fr.refl _ _).alloc _⟩) ?_
  intro u
  go_frame
  refine r_const rfl (by
    intro w' hF hx
    obtain ⟨bb, rfl, hb1⟩ : Byte1 a u w' := hx _ (List.mem_cons_self ..) (by simp [waitsOn, Region.binds])
    have hcv := conv_bytes (off := 0) (len := 1) (cap := 1) hb1 (str [UInt8.ofNat a]) s1 (by
      intro j hj
      obtain rfl : j = 0 := by omega
      simp [bytesOf, str, UInt8.toNat_ofNat, Nat.mod_eq_of_lt ha])
    go_simp) ?_
  go_frame
  refine r_const rfl (by intro w' hF _; go_simp; try rfl) ?_
  go_frame
  refine r_const rfl (by intro w' hF _; go_simp; try rfl) ?_
  go_frame
  refine r_const rfl (by intro w' hF _; have := (hB0.fr hF (by simp)).cell 2; go_simp; try rfl) ?_
  go_frame
  refine r_call (f := 80) (args := #[.int .i64 (l : Int)]) rfl (by intro w'; go_simp; try rfl) (fun w' _ _ => eight_c l w' hl) ?_
  go_frame
  refine r_const rfl (by intro w' hF _; go_simp; try rfl) ?_
  go_frame
  refine r_nil ?_
  intro w1 hF1 _
  have hr := repeat_c (str (headPart c a l)) 3 w1 (by omega) (by rw [str_size, headPart_len]; omega)
  rw [str_data, three] at hr
  have hs63 : (str (headPart c a l ++ headPart c a l ++ headPart c a l)).size = 63 := by rw [str_size]; simp [headPart_len]
  have hfin : str (headPart c a l ++ headPart c a l ++ headPart c a l) ++ (⟨#[0]⟩ : ByteArray) = headText c a l := by
    rw [show (⟨#[0]⟩ : ByteArray) = str [0] from rfl, str_append]; rfl
  generalize str (headPart c a l ++ headPart c a l ++ headPart c a l) = T at hr hs63 hfin
  have HF := Lib.hid hfin
  clear hfin
  rw [head_str]
  go_wp2_with (go_at_call 68; refine hr.mono ?_; rintro e w2 ⟨rfl, hF2⟩)
  go_ret
  exact ⟨by rw [HF.out]; rfl, (hF0.trans hF1).trans hF2⟩

end Go.Proofs.YtiojkakmlbfiiaaGreat

/- The program's log: its object raw; first, mark. -/
namespace Go.Proofs.YtiojkakmlbfiiaaGreat
open Go.RowKit
open Sp

/-- A log's cells, whatever they say. -/
def rawLog (bd sz count area long : Nat) (tail : ByteArray) (v : Value) (many waits : Nat) : List Value :=
  [.pointer (some ⟨bd, 0, none⟩), .int .i64 ((64 * sz : Nat) : Int), .int .i64 (count : Int), .int .i64 (area : Int), .int .i64 (long : Int), .string tail, v, .int .i64 (many : Int), .int .i64 (waits : Int)]

section
variable {w : World} {bl bd sz count area long : Nat} {tail : ByteArray} {v : Value} {many waits : Nat}
theorem raw_cells (h : Blk w bl (rawLog bd sz count area long tail v many waits)) :
    w.cell? ⟨bl, 0, none⟩ = some (.pointer (some ⟨bd, 0, none⟩)) ∧ w.cell? ⟨bl, 1, none⟩ = some (.int .i64 (64 * (sz : Int))) ∧ w.cell? ⟨bl, 2, none⟩ = some (.int .i64 (count : Int)) ∧
    w.cell? ⟨bl, 3, none⟩ = some (.int .i64 (area : Int)) ∧ w.cell? ⟨bl, 4, none⟩ = some (.int .i64 (long : Int)) ∧ w.cell? ⟨bl, 5, none⟩ = some (.string tail) ∧ w.cell? ⟨bl, 6, none⟩ = some v ∧
    w.cell? ⟨bl, 7, none⟩ = some (.int .i64 (many : Int)) ∧ w.cell? ⟨bl, 8, none⟩ = some (.int .i64 (waits : Int)) :=
  ⟨h.cell 0, by rw [h.cell 1]; simp [rawLog], h.cell 2, h.cell 3, h.cell 4, h.cell 5, h.cell 6, h.cell 7, h.cell 8⟩

theorem first_c (h : Blk w bl (rawLog bd sz count area long tail v many waits)) (a : Nat) (ha : a ≤ 1) (hs : sz ≤ 1023) :
    Calls Tryz.prog 64 #[.pointer (some ⟨bl, 0, none⟩), .int .i64 (a : Int)] w fun e w' => e = .returned (.int .i64 ((2 + a * sz : Nat) : Int)) ∧ w = w' := by
  have c1 := (raw_cells h).2.1
  clear h
  rcases (show a = 0 ∨ a = 1 by omega) with rfl | rfl
  · go_enter Tryz.func64, Tryz.ntmps64
    go_wp2
    go_ret
    exact ⟨ret_int (by simp), rfl⟩
  · have hq : ((1 : Int) * (64 * (sz : Int))).tdiv 64 = (sz : Int) := by rw [Int.tdiv_eq_ediv_of_nonneg (by omega)]; omega
    have hb : (1 : Int) * (64 * (sz : Int)) ≤ 65472 := by omega
    have hb0 : 0 ≤ (1 : Int) * (64 * (sz : Int)) := by omega
    go_enter Tryz.func64, Tryz.ntmps64
    go_wp2
    go_ret
    exact ⟨ret_int (by simp), rfl⟩

theorem room_c (h : Blk w bl (rawLog bd sz count area long tail v many waits)) (hs : sz ≤ 1023) (hl : long ≤ 64 * sz) (hw : waits ≤ 64 * sz) :
    Calls Tryz.prog 19 #[.pointer (some ⟨bl, 0, none⟩)] w fun e w' => e = .returned (.int .i64 (((64 * sz : Nat) : Int) - (long : Int) - (waits : Int))) ∧ Fr [] w w' := by
  obtain ⟨c0, c1, c2, c3, c4, c5, c6, c7, c8⟩ := raw_cells h
  clear h
  go_enter Tryz.func19, Tryz.ntmps19
  go_wp2
  go_quiet (fail)
  go_wp2
  go_ret
  exact ⟨ret_int (by simp), (Fr.refl _ _).drewN _⟩

theorem synced_c (h : Blk w bl (rawLog bd sz count area long tail v many waits)) :
    Calls Tryz.prog 14 #[.pointer (some ⟨bl, 0, none⟩)] w fun e w' => e = .returned (.int .i64 (many : Int)) ∧ w = w' := by
  obtain ⟨c0, c1, c2, c3, c4, c5, c6, c7, c8⟩ := raw_cells h
  clear h
  go_enter Tryz.func14, Tryz.ntmps14
  go_wp2
  go_ret
  exact ⟨rfl, rfl⟩

theorem raw_head {c' a' l' : Nat} (h : Blk w bl (rawLog bd sz count area long tail v many waits)) :
    Blk (((w.setCell ⟨bl, 2, none⟩ (.int .i64 (c' : Int))).setCell ⟨bl, 3, none⟩ (.int .i64 (a' : Int))).setCell ⟨bl, 4, none⟩ (.int .i64 (l' : Int))) bl (rawLog bd sz c' a' l' tail v many waits) :=
  ((h.set 2 _).set 3 _).set 4 _

set_option maxHeartbeats 1000000 in
set_option maxRecDepth 100000 in
theorem mark_c {bo bm : Nat} {d : Dv} (hD : DevAt w bd bo bm d) (h : Blk w bl (rawLog bd sz count area long tail v many waits)) (h1 : bl ≠ bd) (h2 : bl ≠ bo) (h3 : bl ≠ bm) (c a l : Nat) (hc : c ≤ 9223372036854775807) (ha : a < 256) (hl : l ≤ 9223372036854775807) :
    Calls Tryz.prog 34 #[.pointer (some ⟨bl, 0, none⟩), .agg #[.int .i64 (c : Int), .int .i64 (a : Int), .int .i64 (l : Int)]] w fun e w' =>
      e = .returned (.int .i64 (d.wflush (c % 2) (headText c a l)).2) ∧ DevAt w' bd bo bm (d.wflush (c % 2) (headText c a l)).1 ∧ Fr [bd, bo, bm, bl] w w' ∧
      Blk w' bl (if (d.wflush (c % 2) (headText c a l)).2 = 0 then rawLog bd sz c a l tail v many waits else rawLog bd sz count area long tail v many waits) := by
  have hB0 : Blk (w.alloc (.cells #[.int .i64 (c : Int), .int .i64 (a : Int), .int .i64 (l : Int)] 69)) w.heap.size [.int .i64 (c : Int), .int .i64 (a : Int), .int .i64 (l : Int)] := Blk.new _ _ _
  have hF0 : Fr [] w (w.alloc (.cells #[.int .i64 (c : Int), .int .i64 (a : Int), .int .i64 (l : Int)] 69)) := (Fr.refl _ _).alloc _
  have hD0 := hD.fr hF0 (by simp) (by simp) (by simp)
  have hL0 := h.fr hF0 (by simp)
  have hlt := h.lt
  have hx1 := hD.blk.lt
  have hx2 := hD.byt.lt
  have hx3 := hD.map.lt
  have hcm : (c : Int).tmod 2 = ((c % 2 : Nat) : Int) := by rw [Int.tmod_eq_emod_of_nonneg (by omega)]; omega
  generalize hT : headText c a l = T
  have htx := fun W' => head_text_c c a l W' hc ha hl
  rw [hT] at htx
  generalize hW : w.alloc (.cells #[.int .i64 (c : Int), .int .i64 (a : Int), .int .i64 (l : Int)] 69) = W at *
  generalize hb : w.heap.size = b at *
  have k0 := hB0.cell 0
  have k1 := hB0.cell 1
  have k2 := hB0.cell 2
  simp only [List.getElem?_cons_zero, List.getElem?_cons_succ] at k0 k1 k2
  have l0 := (raw_cells hL0).1
  have hm2 : c % 2 < 2 := by omega
  have hwr := fun W' (hF : Fr [] W W') => write_c (hD0.fr hF (by simp) (by simp) (by simp)) ((c % 2 : Nat) : Int) T
  unfold Dv.wflush
  have hm1 : ((c % 2 : Nat) : Int) ≤ 1 := by omega
  have hm0 : 0 ≤ ((c % 2 : Nat) : Int) := by omega
  generalize c % 2 = m at *
  have HL0 := Lib.hid hL0
  have HF0 := Lib.hid hF0
  have HB0 := Lib.hid hB0
  have HT := Lib.hid hT
  have HW := Lib.hid hW
  have HBB := Lib.hid hb
  have HCM := Lib.hid hcm
  have HX : Hid (bl < b ∧ bd < b ∧ bo < b ∧ bm < b) := Lib.hid ⟨hlt, hx1, hx2, hx3⟩
  clear h hD hD0 hB0 hL0 hF0 hT hW hb hcm hlt hx1 hx2 hx3 k0 k1 k2 l0 hm2
  by_cases hw0 : (d.write ((m : Nat) : Int) T).2 = 0
  · rw [if_pos hw0]
    rw [hw0] at hwr
    clear hw0
    generalize (d.write ((m : Nat) : Int) T).1 = d1 at *
    by_cases hf0 : d1.flush.2 = 0
    · rw [if_pos hf0, hf0]
      go_enter Tryz.func34, Tryz.ntmps34
      go_wp2
      rw [HW.out, HBB.out]
      refine wp_region_tail 9 (by kernel_rfl) (by kernel_rfl) ?_
      refine q_val rfl (by intro w' _; go_simp; rfl) ?_
      go_frame
      refine q_val rfl (by intro w' _; go_simp; rfl) ?_
      go_frame
      refine q_val rfl (by intro w' _; go_simp; rfl) ?_
      go_frame
      refine q_val (v := .pointer (some ⟨bd, 0, none⟩)) rfl (by intro w' hF; have := (raw_cells (HL0.out.fr hF (by simp))).1; go_simp) ?_
      go_frame
      refine q_val rfl (by intro w' _; go_simp; rfl) ?_
      go_frame
      refine q_val (v := .int .i64 (c : Int)) rfl (by intro w' hF; have := (HB0.out.fr hF (by simp)).cell 0; go_simp) ?_
      go_frame
      refine q_val (v := .int .i64 (m : Int)) rfl (by intro w' hF; go_simp; exact HCM.out) ?_
      go_frame
      refine q_val (v := .agg #[.int .i64 (c : Int), .int .i64 (a : Int), .int .i64 (l : Int)]) rfl (by intro w' hF; have k0 := (HB0.out.fr hF (by simp)).cell 0; have k1 := (HB0.out.fr hF (by simp)).cell 1; have k2 := (HB0.out.fr hF (by simp)).cell 2; go_simp) ?_
      go_frame
      refine q_call (f := 63) (args := #[.agg #[.int .i64 (c : Int), .int .i64 (a : Int), .int .i64 (l : Int)]]) rfl (by intro w'; go_simp; try rfl) (fun w' _ => htx w') ?_
      go_frame
      refine wpQuiet_nil ?_
      intro w1 hF1
      go_wp2_with (first
        | (go_at_call 57; refine (hwr w1 hF1).mono ?_; rintro e w2 ⟨rfl, hD2, hF2⟩; have hf := flush_c hD2; rw [hf0] at hf; have l0 := (raw_cells ((HL0.out.fr hF1 (by simp)).fr hF2 (by simp [h1, h3]))).1; clear hwr htx)
        | (go_at_call 58; refine hf.mono ?_; rintro e w3 ⟨rfl, hD3, hF3⟩; clear hf
           have HL3 := Lib.hid (((HL0.out.fr hF1 (by simp)).fr hF2 (by simp [h1, h3])).fr hF3 (by simp [h1, h2, h3]))
           have l1 := (raw_cells HL3.out).2.2.1
           have l2 := (raw_cells HL3.out).2.2.2.1
           have l3 := (raw_cells HL3.out).2.2.2.2.1
           have f2 := HL3.out.free 2
           have f3 := HL3.out.free 3
           have f4 := HL3.out.free 4
           have HB3 := Lib.hid ((((HB0.out.fr hF1 (by simp)).fr hF2 (by have := HX.out; simp; omega)).fr hF3 (by have := HX.out; simp; omega)))
           have k0 := HB3.out.cell 0
           have k1 := HB3.out.cell 1
           have k2 := HB3.out.cell 2
           simp only [List.getElem?_cons_zero, List.getElem?_cons_succ] at k0 k1 k2))
      go_ret
      refine ⟨rfl, ?_, ?_, raw_head HL3.out⟩
      · exact hD3.fr (((((Fr.refl [bl] w3).setCell (Or.inl (by simp)) _).setCell (Or.inl (by simp)) _).setCell (Or.inl (by simp)) _)) (by simp [Ne.symm h1]) (by simp [Ne.symm h2]) (by simp [Ne.symm h3])
      · have hA : Fr [bd, bo, bm, bl] w w3 := (((HF0.out.any.trans hF1.any).trans (hF2.mono (by simp)))).trans (hF3.mono (by simp))
        exact ((hA.setCell (Or.inl (by simp)) _).setCell (Or.inl (by simp)) _).setCell (Or.inl (by simp)) _
    · rw [if_neg hf0]
      obtain ⟨e1, he1⟩ : ∃ e1, d1.flush.2 = e1 := ⟨_, rfl⟩
      rw [he1] at hf0 ⊢
      have hne : (e1 == 0) = false := by simpa using hf0
      have HE := Lib.hid he1
      clear he1
      go_enter Tryz.func34, Tryz.ntmps34
      go_wp2
      rw [HW.out, HBB.out]
      refine wp_region_tail 9 (by kernel_rfl) (by kernel_rfl) ?_
      refine q_val rfl (by intro w' _; go_simp; rfl) ?_
      go_frame
      refine q_val rfl (by intro w' _; go_simp; rfl) ?_
      go_frame
      refine q_val rfl (by intro w' _; go_simp; rfl) ?_
      go_frame
      refine q_val (v := .pointer (some ⟨bd, 0, none⟩)) rfl (by intro w' hF; have := (raw_cells (HL0.out.fr hF (by simp))).1; go_simp) ?_
      go_frame
      refine q_val rfl (by intro w' _; go_simp; rfl) ?_
      go_frame
      refine q_val (v := .int .i64 (c : Int)) rfl (by intro w' hF; have := (HB0.out.fr hF (by simp)).cell 0; go_simp) ?_
      go_frame
      refine q_val (v := .int .i64 (m : Int)) rfl (by intro w' hF; go_simp; exact HCM.out) ?_
      go_frame
      refine q_val (v := .agg #[.int .i64 (c : Int), .int .i64 (a : Int), .int .i64 (l : Int)]) rfl (by intro w' hF; have k0 := (HB0.out.fr hF (by simp)).cell 0; have k1 := (HB0.out.fr hF (by simp)).cell 1; have k2 := (HB0.out.fr hF (by simp)).cell 2; go_simp) ?_
      go_frame
      refine q_call (f := 63) (args := #[.agg #[.int .i64 (c : Int), .int .i64 (a : Int), .int .i64 (l : Int)]]) rfl (by intro w'; go_simp; try rfl) (fun w' _ => htx w') ?_
      go_frame
      refine wpQuiet_nil ?_
      intro w1 hF1
      go_wp2_with (first
        | (go_at_call 57; refine (hwr w1 hF1).mono ?_; rintro e w2 ⟨rfl, hD2, hF2⟩; have hf := flush_c hD2; rw [HE.out] at hf; have l0 := (raw_cells ((HL0.out.fr hF1 (by simp)).fr hF2 (by simp [h1, h3]))).1; clear hwr htx)
        | (go_at_call 58; refine hf.mono ?_; rintro e w3 ⟨rfl, hD3, hF3⟩; clear hf))
      go_ret
      exact ⟨rfl, hD3, (((HF0.out.any.trans hF1.any).trans (hF2.mono (by simp)))).trans (hF3.mono (by simp)), ((HL0.out.fr hF1 (by simp)).fr hF2 (by simp [h1, h3])).fr hF3 (by simp [h1, h2, h3])⟩
  · rw [if_neg hw0, if_neg hw0]
    obtain ⟨e1, he1⟩ : ∃ e1, (d.write ((m : Nat) : Int) T).2 = e1 := ⟨_, rfl⟩
    rw [he1] at hw0 hwr ⊢
    have hne : (e1 == 0) = false := by simpa using hw0
    clear he1
    go_enter Tryz.func34, Tryz.ntmps34
    go_wp2
    rw [HW.out, HBB.out]
    refine wp_region_tail 9 (by kernel_rfl) (by kernel_rfl) ?_
    refine q_val rfl (by intro w' _; go_simp; rfl) ?_
    go_frame
    refine q_val rfl (by intro w' _; go_simp; rfl) ?_
    go_frame
    refine q_val rfl (by intro w' _; go_simp; rfl) ?_
    go_frame
    refine q_val (v := .pointer (some ⟨bd, 0, none⟩)) rfl (by intro w' hF; have := (raw_cells (HL0.out.fr hF (by simp))).1; go_simp) ?_
    go_frame
    refine q_val rfl (by intro w' _; go_simp; rfl) ?_
    go_frame
    refine q_val (v := .int .i64 (c : Int)) rfl (by intro w' hF; have := (HB0.out.fr hF (by simp)).cell 0; go_simp) ?_
    go_frame
    refine q_val (v := .int .i64 (m : Int)) rfl (by intro w' hF; go_simp; exact HCM.out) ?_
    go_frame
    refine q_val (v := .agg #[.int .i64 (c : Int), .int .i64 (a : Int), .int .i64 (l : Int)]) rfl (by intro w' hF; have k0 := (HB0.out.fr hF (by simp)).cell 0; have k1 := (HB0.out.fr hF (by simp)).cell 1; have k2 := (HB0.out.fr hF (by simp)).cell 2; go_simp) ?_
    go_frame
    refine q_call (f := 63) (args := #[.agg #[.int .i64 (c : Int), .int .i64 (a : Int), .int .i64 (l : Int)]]) rfl (by intro w'; go_simp; try rfl) (fun w' _ => htx w') ?_
    go_frame
    refine wpQuiet_nil ?_
    intro w1 hF1
    go_wp2_with (go_at_call 57; refine (hwr w1 hF1).mono ?_; rintro e w2 ⟨rfl, hD2, hF2⟩; clear hwr htx)
    go_ret
    exact ⟨rfl, hD2, (HF0.out.any.trans hF1.any).trans (hF2.mono (by simp)), ((HL0.out.fr hF1 (by simp)).fr hF2 (by simp [h1, h3]))⟩
end

end Go.Proofs.YtiojkakmlbfiiaaGreat
