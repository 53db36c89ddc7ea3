/- What a log on a device is, and what its calls make of it. -/
import Derived.Test.YtiojkakmlbfiiaaGreatM01
import Derived.Test.YtiojkakmlbfiiaaGreatChecked
import Derived.Laws.BitsAllLaws
import Derived.Laws.BytesArg
import Derived.WalkSpells
import Derived.Lib.Strings
import Derived.Test.YtiojkakmlbfiiaaGreatM02
/- Check sums and frames: what they are, and the program's functions. -/
namespace Go.Proofs.YtiojkakmlbfiiaaGreat
open Go.RowKit
namespace Sp

def crcBit (x : Nat) : Nat := (x / 2) ^^^ (if x % 2 = 1 then 3988292384 else 0)
def crcBits : Nat → Nat → Nat
  | 0, x => x
  | n + 1, x => crcBit (crcBits n x)
def crcByte (x : Nat) (b : UInt8) : Nat := crcBits 8 (x ^^^ b.toNat)
def crcFrom (x : Nat) (l : List UInt8) : Nat := l.foldl crcByte x
def crc (l : List UInt8) : Nat := crcFrom 4294967295 l ^^^ 4294967295

theorem xor_lt32 {a b : Nat} (ha : a < 4294967296) (hb : b < 4294967296) : a ^^^ b < 4294967296 := Nat.xor_lt_two_pow (n := 32) ha hb
theorem crcBit_lt {x : Nat} (h : x < 4294967296) : crcBit x < 4294967296 := by
  unfold crcBit
  exact xor_lt32 (by omega) (by split <;> omega)
theorem crcBits_lt {x : Nat} (h : x < 4294967296) : ∀ n, crcBits n x < 4294967296
  | 0 => h
  | n + 1 => crcBit_lt (crcBits_lt h n)
theorem crcByte_lt {x : Nat} (h : x < 4294967296) (b : UInt8) : crcByte x b < 4294967296 := crcBits_lt (xor_lt32 h (by have := b.toNat_lt; omega)) 8
theorem crcFrom_lt (l : List UInt8) : ∀ {x : Nat}, x < 4294967296 → crcFrom x l < 4294967296 := by
  induction l with
  | nil => intro x h; exact h
  | cons b l ih => intro x h; exact ih (crcByte_lt h b)
theorem crcFrom_append (x : Nat) (l m : List UInt8) : crcFrom x (l ++ m) = crcFrom (crcFrom x l) m := by simp [crcFrom, List.foldl_append]
theorem crcFrom_snoc (x : Nat) (l : List UInt8) (b : UInt8) : crcFrom x (l ++ [b]) = crcByte (crcFrom x l) b := by simp [crcFrom, List.foldl_append]

/-- A number as bytes, the lowest first. -/
def le : Nat → Nat → List UInt8
  | 0, _ => []
  | k + 1, n => UInt8.ofNat n :: le k (n / 256)

theorem le_len : ∀ k n, (le k n).length = k
  | 0, _ => rfl
  | k + 1, n => by simp [le, le_len k]

def frameL (t : List UInt8) : List UInt8 := (le 2 t.length ++ t) ++ le 4 (crc (le 2 t.length ++ t))
def str (l : List UInt8) : ByteArray := ⟨l.toArray⟩
def frame (t : ByteArray) : ByteArray := str (frameL t.data.toList)
theorem frameL_len (t : List UInt8) : (frameL t).length = t.length + 6 := by simp [frameL, le_len]; omega
theorem frame_size (t : ByteArray) : (frame t).size = t.size + 6 := by
  show (frameL t.data.toList).toArray.size = _
  rw [List.size_toArray, frameL_len]; rfl
theorem str_data (l : List UInt8) : (str l).data.toList = l := by simp [str]
theorem crc_lt (l : List UInt8) : crc l < 4294967296 := xor_lt32 (crcFrom_lt l (by omega)) (by omega)

end Sp
open Sp

theorem take_snoc (s : ByteArray) (k : Nat) (h : k < s.size) : s.data.toList.take (k + 1) = s.data.toList.take k ++ [s[k]] := by
  rw [List.take_succ_eq_append_getElem (by simpa using h)]; rfl

set_option maxHeartbeats 400000 in
theorem take_c (x : Nat) (hx : x < 4294967296) (s : ByteArray) (w : World) (hs : s.size ≤ 9223372036854775807) :
    Calls Tryz.prog 96 #[.int .u32 (x : Int), .string s] w fun e w' => e = .returned (.int .u32 (crcFrom x s.data.toList : Nat)) ∧ w = w' := by
  go_enter Tryz.func96, Tryz.ntmps96
  go_wp2
  go_loop [0, 8] (fun c i => ∃ k : Nat, k ≤ s.size ∧ i = .int .i64 k ∧ c = .int .u32 (crcFrom x (s.data.toList.take k) : Nat)) (fun _ i => s.size - (intOf i).toNat)
  case atStart => exact ⟨0, Nat.zero_le _, rfl, rfl⟩
  case round =>
    obtain ⟨k, hk, rfl, rfl⟩ := hrel
    by_cases hlt : k < s.size
    · have hb := crcFrom_lt (s.data.toList.take k) hx
      have HS : Hid (crcFrom x (s.data.toList.take (k + 1)) = crcByte (crcFrom x (s.data.toList.take k)) s[k]) := (show _ = _ by rw [take_snoc s k hlt, crcFrom_snoc])
      generalize crcFrom x (s.data.toList.take k) = y at hb HS ⊢
      have hby : s[k].toNat < 256 := s[k].toNat_lt
      have hxor : bits .xor .u32 (y : Int) (s[k].toNat : Int) = ((y ^^^ s[k].toNat : Nat) : Int) := u32_xor_nat _ _ hb (by omega)
      have hv0 := xor_lt32 hb (show s[k].toNat < 4294967296 by omega)
      go_wp2
      obtain ⟨v0, hve⟩ : ∃ v0, y ^^^ s[k].toNat = v0 := ⟨_, rfl⟩
      have HV := Lib.hid hve
      rw [hve] at hv0 ⊢
      clear hxor hve
      go_loop [0, 17] (fun c i => ∃ j : Nat, j ≤ 8 ∧ i = .int .i64 j ∧ c = .int .u32 (crcBits j v0 : Nat)) (fun _ i => 8 - (intOf i).toNat)
      case atStart => exact ⟨0, by omega, rfl, rfl⟩
      case round =>
        obtain ⟨j, hj, rfl, rfl⟩ := hrel
        by_cases hj8 : j < 8
        · have hv := crcBits_lt hv0 j
          generalize hh : crcBits j v0 = v at hv ⊢
          have HH : Hid (crcBits j v0 = v) := hh
          clear hh
          have f0 : bits .xor .u32 ((v : Int) / 2) 0 = ((v / 2 : Nat) : Int) := by
            have := u32_xor_nat (v / 2) 0 (by omega) (by omega)
            simpa using this
          have f1 : bits .xor .u32 ((v : Int) / 2) 3988292384 = ((v / 2 ^^^ 3988292384 : Nat) : Int) := by
            have := u32_xor_nat (v / 2) 3988292384 (by omega) (by omega)
            simpa using this
          have g1 : bits .and .u32 3988292384 4294967295 = 3988292384 := by decide
          have g0 : bits .and .u32 3988292384 0 = 0 := by decide
          rcases Nat.mod_two_eq_zero_or_one v with h2 | h2
          · have a0 : bits .and .u32 (v : Int) 1 = 0 := by
              have := u32_and_nat v 1 hv (by omega)
              rw [Nat.and_one_is_mod, h2] at this
              simpa using this
            have HN : Hid (crcBits (j + 1) v0 = v / 2) := (show crcBit (crcBits j v0) = v / 2 by rw [HH.out]; simp [crcBit, h2])
            clear h2
            go_wp2
            go_round
            case rel => exact ⟨j + 1, by omega, by go_num, by rw [HN.out]; go_num⟩
            case measure => simp [intOf]; omega
          · have a1 : bits .and .u32 (v : Int) 1 = 1 := by
              have := u32_and_nat v 1 hv (by omega)
              rw [Nat.and_one_is_mod, h2] at this
              simpa using this
            have HN : Hid (crcBits (j + 1) v0 = v / 2 ^^^ 3988292384) := (show crcBit (crcBits j v0) = v / 2 ^^^ 3988292384 by rw [HH.out]; simp [crcBit, h2])
            clear h2
            go_wp2
            go_round
            case rel => exact ⟨j + 1, by omega, by go_num, by rw [HN.out]⟩
            case measure => simp [intOf]; omega
        · obtain rfl : j = 8 := by omega
          have HE : Hid (crcBits 8 v0 = crcFrom x (s.data.toList.take (k + 1))) := (show _ = _ by rw [HS.out, crcByte, HV.out])
          rw [HE.out]
          go_wp2
          go_round
          case rel => exact ⟨k + 1, by omega, by go_num, rfl⟩
          case measure => simp [intOf]; omega
    · go_wp2
      go_ret
      obtain rfl : k = s.size := by omega
      refine ⟨?_, rfl⟩
      rw [List.take_of_length_le (show s.data.toList.length ≤ s.size from Nat.le_refl _)]
      rfl

def strVals (l : List ByteArray) : List Value := l.map Value.string

theorem catL_snoc (l : List ByteArray) (k : Nat) (x : ByteArray) (h : l[k]? = some x) : (l.take (k + 1)).flatMap (·.data.toList) = (l.take k).flatMap (·.data.toList) ++ x.data.toList := by
  have hk : k < l.length := by
    rcases Nat.lt_or_ge k l.length with h' | h'
    · exact h'
    · rw [List.getElem?_eq_none h'] at h; cases h
  rw [List.take_succ_eq_append_getElem hk, List.flatMap_append]
  rw [List.getElem?_eq_getElem hk] at h
  cases h; simp

set_option maxHeartbeats 400000 in
theorem of_c (w : World) (v : Value) (fp : Option Nat) (l : List ByteArray) (h : SliceAt w v fp (strVals l)) (hl : l.length ≤ 9223372036854775807) (hs : ∀ s ∈ l, s.size ≤ 9223372036854775807) :
    Calls Tryz.prog 87 #[v] w fun e w' => e = .returned (.int .u32 (crc (l.flatMap (·.data.toList)) : Nat)) ∧ w = w' := by
  obtain ⟨va, vc, rfl⟩ : ∃ a c, v = .slice a l.length c := by
    rcases h with ⟨h1, _, a, c, rfl⟩ | ⟨b, o, c, _, rfl, _⟩
    · refine ⟨a, c, ?_⟩
      have : l = [] := by simpa [strVals] using h1
      rw [this]; rfl
    · exact ⟨some ⟨b, o, none⟩, c, by simp [strVals]⟩
  have HH := Lib.hid h
  clear h
  go_enter Tryz.func87, Tryz.ntmps87
  go_wp2
  go_loop [3, 8] (fun c i => ∃ k : Nat, k ≤ l.length ∧ i = .int .i64 k ∧ c = .int .u32 (crcFrom 4294967295 ((l.take k).flatMap (·.data.toList)) : Nat)) (fun _ i => l.length - (intOf i).toNat)
  case atStart => exact ⟨0, Nat.zero_le _, rfl, rfl⟩
  case round =>
    obtain ⟨k, hk, rfl, rfl⟩ := hrel
    have hb := crcFrom_lt ((l.take k).flatMap (·.data.toList)) (show 4294967295 < 4294967296 by omega)
    by_cases hlt : k < l.length
    · obtain ⟨x, hx⟩ : ∃ x, l[k]? = some x := ⟨_, List.getElem?_eq_getElem hlt⟩
      obtain ⟨sb, so, rfl, hc⟩ : ∃ b o, va = some ⟨b, o, none⟩ ∧ w.cell? ⟨b, o + k, none⟩ = some (.string x) := by
        rcases HH.out with ⟨h1, _, _⟩ | ⟨b, o, c', _, hv, hcell⟩
        · have h2 : l = [] := by simpa [strVals] using h1
          rw [h2] at hlt; simp at hlt
        · simp only [Value.slice.injEq] at hv
          exact ⟨b, o, hv.1, hcell k _ (by rw [strVals, List.getElem?_map, hx]; rfl)⟩
      have HS : Hid (crcFrom 4294967295 ((l.take (k + 1)).flatMap (·.data.toList)) = crcFrom (crcFrom 4294967295 ((l.take k).flatMap (·.data.toList))) x.data.toList) := (show _ = _ by rw [catL_snoc l k x hx, crcFrom_append])
      generalize crcFrom 4294967295 ((l.take k).flatMap (·.data.toList)) = y at hb HS ⊢
      have hxs := hs x (List.mem_of_getElem? hx)
      clear hx
      go_wp2_with (go_at_call 96; refine (take_c y hb x _ hxs).mono ?_; rintro e w' ⟨rfl, rfl⟩)
      go_round
      case rel => exact ⟨k + 1, by omega, by go_num, by rw [HS.out]⟩
      case measure => simp [intOf]; omega
    · obtain rfl : k = l.length := by omega
      rw [List.take_length] at hb ⊢
      have hxor := u32_xor_nat _ 4294967295 hb (by omega)
      have HC : Hid (crc (l.flatMap (·.data.toList)) = crcFrom 4294967295 (l.flatMap (·.data.toList)) ^^^ 4294967295) := (show _ = _ from rfl)
      generalize crcFrom 4294967295 (l.flatMap (·.data.toList)) = y at hb hxor HC ⊢
      go_wp2
      go_ret
      exact ⟨by rw [HC.out]; exact ret_int hxor, rfl⟩

end Go.Proofs.YtiojkakmlbfiiaaGreat

/- Frames: the program's functions frame, Frame. -/
namespace Go.Proofs.YtiojkakmlbfiiaaGreat
open Go.RowKit
open Sp

theorem conv_lit (w : World) (xs : List Int) (n : Nat) (hn : xs.length = n) :
    (convert 42 9 (.slice (some ⟨w.heap.size, 0, none⟩) n n)).run Tryz.prog (w.alloc (.cells (xs.map (Value.int .u8)).toArray 5)) =
      .ok (.string (strOfNums xs)) (w.alloc (.cells (xs.map (Value.int .u8)).toArray 5)) :=
  run_convert_bytes_arg (P := Tryz.prog) _ 42 5 Tryz.underlying42 Tryz.underlying5 w.heap.size 0 n n xs hn (by
    intro i hi
    rw [Nat.zero_add, World.cell?_alloc_new]
    have : i < xs.length := by omega
    simp [List.getD, this]) 9 Tryz.underlying9

theorem slice_lit (w : World) (xs : List Value) (T : TypeId) (n : Nat) (hn : xs.length = n) : SliceAt (w.alloc (.cells xs.toArray T)) (.slice (some ⟨w.heap.size, 0, none⟩) n n) (some w.heap.size) xs := by
  subst hn
  refine Or.inr ⟨_, 0, xs.length, rfl, rfl, fun i x hx => ?_⟩
  rw [Nat.zero_add, World.cell?_alloc_new]; simpa using hx

theorem nums_le2 (n : Nat) (h : n < 65536) : strOfNums [(n : Int) % 256, (n : Int) / 256] = str (le 2 n) := by
  apply ba_ext
  rw [strOfNums_data, str_data]
  have h1 : ((n : Int) % 256).toNat = n % 256 := by omega
  have h2 : ((n : Int) / 256).toNat = n / 256 := by omega
  simp only [List.map_cons, List.map_nil, le, h1, h2, UInt8.ofNat_mod_size]
  congr 1
  exact (UInt8.ofNat_mod_size (x := n)).symm ▸ rfl

theorem nums_le4 (n : Nat) (h : n < 4294967296) : strOfNums [(n : Int) % 256, (n : Int) / 256 % 256, (n : Int) / 65536 % 256, (n : Int) / 16777216] = str (le 4 n) := by
  apply ba_ext
  rw [strOfNums_data, str_data]
  have h1 : ((n : Int) % 256).toNat = n % 256 := by omega
  have h2 : ((n : Int) / 256 % 256).toNat = n / 256 % 256 := by omega
  have h3 : ((n : Int) / 65536 % 256).toNat = n / 256 / 256 % 256 := by omega
  have h4 : ((n : Int) / 16777216).toNat = n / 256 / 256 / 256 := by omega
  simp only [List.map_cons, List.map_nil, le, h1, h2, h3, h4, UInt8.ofNat_mod_size]
  simp only [show ∀ m : Nat, UInt8.ofNat (m % 256) = UInt8.ofNat m from fun m => UInt8.ofNat_mod_size (x := m)]

theorem str_append (a b : List UInt8) : str a ++ str b = str (a ++ b) := by
  apply ba_ext; rw [ByteArray.data_append, Array.toList_append, str_data, str_data, str_data]
theorem str_of (s : ByteArray) : str s.data.toList = s := ba_ext (str_data _)
theorem str_size (l : List UInt8) : (str l).size = l.length := by simp [str, ByteArray.size]

set_option maxRecDepth 100000 in
theorem sframe_c (s : ByteArray) (w : World) (hs : s.size ≤ 4096) :
    Calls Tryz.prog 69 #[.string s] w fun e w' => e = .returned (.string (frame s)) ∧ Fr [] w w' := by
  have hc1 := conv_lit w [(s.size : Int) % 256, (s.size : Int) / 256] 2 rfl
  rw [nums_le2 s.size (by omega)] at hc1
  simp only [List.map_cons, List.map_nil] at hc1
  have hL : (str (le 2 s.size)).size = 2 := rfl
  obtain ⟨L, hLe⟩ : ∃ L, str (le 2 s.size) = L := ⟨_, rfl⟩
  rw [hLe] at hc1 hL
  have HL := Lib.hid hLe
  have hL2 : L.size ≤ 2 := by omega
  clear hLe hL
  have hof := of_c ((w.alloc (.cells #[.int .u8 ((s.size : Int) % 256), .int .u8 ((s.size : Int) / 256)] 5)).alloc (.cells #[.string L, .string s] 9)) _ _ [L, s] (slice_lit _ [.string L, .string s] 9 2 rfl) (by simp) (by intro x hx; simp at hx; rcases hx with rfl | rfl; omega; omega)
  simp only [World.size_alloc] at hof
  have hc := crc_lt ([L, s].flatMap (·.data.toList))
  obtain ⟨c, hce⟩ : ∃ c, crc ([L, s].flatMap (·.data.toList)) = c := ⟨_, rfl⟩
  rw [hce] at hof hc
  have HC := Lib.hid hce
  clear hce
  have hc2 := conv_lit ((w.alloc (.cells #[.int .u8 ((s.size : Int) % 256), .int .u8 ((s.size : Int) / 256)] 5)).alloc (.cells #[.string L, .string s] 9)) [(c : Int) % 256, (c : Int) / 256 % 256, (c : Int) / 65536 % 256, (c : Int) / 16777216] 4 rfl
  rw [nums_le4 c hc] at hc2
  simp only [List.map_cons, List.map_nil, World.size_alloc] at hc2
  have hR : (str (le 4 c)).size = 4 := rfl
  obtain ⟨R, hRe⟩ : ∃ R, str (le 4 c) = R := ⟨_, rfl⟩
  rw [hRe] at hc2 hR
  have HR := Lib.hid hRe
  have hR4 : R.size ≤ 4 := by omega
  clear hRe hR
  go_enter Tryz.func69, Tryz.ntmps69
  go_wp2_with (go_at_call 87; refine hof.mono ?_; clear hof; rintro e w' ⟨rfl, rfl⟩)
  go_ret
  refine ⟨?_, ((((Fr.refl _ _).alloc _).alloc _).alloc _)⟩
  have e1 : L ++ s ++ R = frame s := by
    rw [frame, frameL, ← HR.out, ← HC.out, ← HL.out]
    rw [← str_append, ← str_append, str_of]
    simp [str_data]
  exact congrArg (fun x => Ending.returned (.string x)) e1

theorem sFrame_c (s : ByteArray) (w : World) (hs : s.size ≤ 9223372036854775807) :
    Calls Tryz.prog 37 #[.string s] w fun e w' => e = .returned (.tuple (if s.size ≤ 4096 then #[.string (frame s), .int .i64 0] else #[.string ByteArray.empty, .int .i64 2])) ∧ Fr [] w w' := by
  by_cases h : s.size ≤ 4096
  · rw [if_pos h]
    have hf := sframe_c s w h
    go_enter Tryz.func37, Tryz.ntmps37
    go_wp2_with (go_at_call 69; refine hf.mono ?_; clear hf; rintro e w' ⟨rfl, hF⟩)
    go_ret2
    exact ⟨rfl, hF⟩
  · rw [if_neg h]
    go_enter Tryz.func37, Tryz.ntmps37
    go_wp2
    go_ret2
    exact ⟨rfl, Fr.refl _ _⟩

end Go.Proofs.YtiojkakmlbfiiaaGreat

/- Frames, one behind the other: the program's functions Next, All. -/
namespace Go.Proofs.YtiojkakmlbfiiaaGreat
open Go.RowKit
open Sp
namespace Sp
/-- The first frame of bytes: what is wrong (0: nothing), and its text. -/
def nextL (r : List UInt8) : Int × List UInt8 :=
  if r.length < 2 then (50, [])
  else
    let n := (r.getD 0 0).toNat + 256 * (r.getD 1 0).toNat
    if 4096 < n then (2, []) else if r.length < n + 6 then (50, [])
    else if frameL ((r.drop 2).take n) = r.take (n + 6) then (0, (r.drop 2).take n) else (51, [])
end Sp

theorem ret_sii {a a' : ByteArray} {i i' j j' : Int} (h1 : a = a') (h2 : i = i') (h3 : j = j') : Ending.returned (.tuple #[.string a, .int .i64 i, .int .i64 j]) = .returned (.tuple #[.string a', .int .i64 i', .int .i64 j']) := by
  rw [h1, h2, h3]

theorem run_idx (R : ByteArray) (i : Nat) (hi : i < R.size) (w : World) : (Instr.index 9 (.string R) (.int .i64 (i : Int))).run Tryz.prog w = .ok (.int .u8 ((R.data.toList.getD i 0).toNat : Int)) w := by
  have hg : R[i]? = some (R.data.toList.getD i 0) := by
    rw [show R[i]? = some R[i] from getElem?_pos R i hi]
    have : i < R.data.toList.length := hi
    rw [List.getD_eq_getElem?_getD, List.getElem?_eq_getElem this]
    rfl
  simp [Instr.index, asIntOf, run_underlying Tryz.underlying9, hg, Result.andThen]

theorem i64_or_nat (a b : Nat) (ha : a < 65536) (hb : b < 65536) : bits .or .i64 (a : Int) (b : Int) = ((a ||| b : Nat) : Int) :=
  (bits_nat .i64 16 (by decide) (fun n h0 h1 => by rw [IntKind.wrap_i64]; omega) a b ha hb).2

set_option maxRecDepth 100000 in
theorem next_c (s : ByteArray) (k : Nat) (w : World) (hs : s.size ≤ 4611686018427387904) (hk : k ≤ s.size) :
    Calls Tryz.prog 82 #[.string s, .int .i64 (k : Int)] w fun e w' =>
      e = .returned (.tuple #[.string (str (nextL (s.data.toList.drop k)).2), .int .i64 (if (nextL (s.data.toList.drop k)).1 = 0 then ((k + (nextL (s.data.toList.drop k)).2.length + 6 : Nat) : Int) else 0), .int .i64 (nextL (s.data.toList.drop k)).1]) ∧ Fr [] w w' := by
  obtain ⟨R, hR⟩ : ∃ R, s.extract k s.size = R := ⟨_, rfl⟩
  have hRd : R.data.toList = s.data.toList.drop k := by
    rw [← hR]
    simp only [ByteArray.data_extract, Array.toList_extract, List.extract_eq_take_drop]
    rw [List.take_of_length_le]
    rw [List.length_drop]; exact Nat.le_refl _
  rw [← hRd]
  have hRs : R.size = R.data.toList.length := rfl
  have hRl : R.size ≤ 4611686018427387904 := by rw [← hR, ByteArray.size_extract]; omega
  clear hRd
  by_cases h2 : R.size < 2
  · rw [show nextL R.data.toList = (50, []) by simp only [nextL]; rw [if_pos (by omega)]]
    clear hRs
    go_enter Tryz.func82, Tryz.ntmps82
    go_wp2
    go_ret3
    exact ⟨rfl, Fr.refl _ _⟩
  have i0 : ∀ w, (Instr.index 9 (.string R) (.int .i64 0)).run Tryz.prog w = _ := run_idx R 0 (by omega)
  have i1 : ∀ w, (Instr.index 9 (.string R) (.int .i64 1)).run Tryz.prog w = _ := run_idx R 1 (by omega)
  have hb0 : (R.data.toList.getD 0 0).toNat < 256 := (R.data.toList.getD 0 0).toNat_lt
  have hb1 : (R.data.toList.getD 1 0).toNat < 256 := (R.data.toList.getD 1 0).toNat_lt
  have hnx : nextL R.data.toList = (let n := (R.data.toList.getD 0 0).toNat + 256 * (R.data.toList.getD 1 0).toNat
    if 4096 < n then (2, []) else if R.data.toList.length < n + 6 then (50, [])
    else if frameL ((R.data.toList.drop 2).take n) = R.data.toList.take (n + 6) then (0, (R.data.toList.drop 2).take n) else (51, [])) := by
    simp only [nextL]; rw [if_neg (by omega)]
  generalize (R.data.toList.getD 0 0).toNat = b0 at i0 hb0 hnx
  generalize (R.data.toList.getD 1 0).toNat = b1 at i1 hb1 hnx
  have hor : bits .or .i64 (b0 : Int) ((b1 : Int) * 256) = ((b0 + 256 * b1 : Nat) : Int) := by
    have := i64_or_nat b0 (b1 * 256) (by omega) (by omega)
    rw [show b0 ||| b1 * 256 = b0 + 256 * b1 by rw [Nat.or_comm, nat_join 8 (b1 * 256) b0 (by omega) (by omega)]; omega] at this
    simpa using this
  have hor' : bits .or .i64 (b0 : Int) (IntKind.i64.wrap ((b1 : Int) * 256)) = ((b0 + 256 * b1 : Nat) : Int) := by
    rw [IntWalk.i64_in _ (by omega)]; exact hor
  have hn : b0 + 256 * b1 < 65536 := by omega
  generalize b0 + 256 * b1 = n at hor hor' hnx hn
  simp only at hnx
  have HN := Lib.hid hnx
  have HRs := Lib.hid hRs
  clear hnx hRs
  by_cases h1 : 4096 < n
  · have h1' : (4096 : Int) < (n : Int) := by omega
    rw [show nextL R.data.toList = (2, []) by rw [HN.out, if_pos h1]]
    go_enter Tryz.func82, Tryz.ntmps82
    go_wp2
    go_quiet (fail)
    clear hor hor' i0 i1
    go_wp2
    go_ret3
    exact ⟨rfl, (Fr.refl _ _).drewN _⟩
  by_cases h3 : R.size < n + 6
  · rw [show nextL R.data.toList = (50, []) by rw [HN.out, if_neg h1, if_pos (by rw [← HRs.out]; exact h3)]]
    go_enter Tryz.func82, Tryz.ntmps82
    go_wp2
    go_quiet (fail)
    clear hor hor' i0 i1
    go_wp2
    go_ret3
    exact ⟨rfl, (Fr.refl _ _).drewN _⟩
  obtain ⟨T, hT⟩ : ∃ T, R.extract 2 (2 + n) = T := ⟨_, rfl⟩
  obtain ⟨V, hV⟩ : ∃ V, R.extract 0 (2 + n + 4) = V := ⟨_, rfl⟩
  have hTs : T.size ≤ 4096 := by rw [← hT, ByteArray.size_extract]; omega
  have hTd : T.data.toList = (R.data.toList.drop 2).take n := by
    rw [← hT]
    simp only [ByteArray.data_extract, Array.toList_extract, List.extract_eq_take_drop]
    rw [show 2 + n - 2 = n by omega]
  have hVd : V.data.toList = R.data.toList.take (n + 6) := by
    rw [← hV]
    simp only [ByteArray.data_extract, Array.toList_extract, List.extract_eq_take_drop, List.drop_zero]
    rw [show 2 + n + 4 - 0 = n + 6 by omega]
  have hl3 : ¬ R.data.toList.length < n + 6 := by rw [← HRs.out]; exact h3
  by_cases hq : frame T = V
  · have e1 : nextL R.data.toList = (0, T.data.toList) := by
      rw [HN.out, if_neg h1, if_neg hl3, if_pos, hTd]
      rw [← hTd, ← hVd, ← hq, frame, str_data]
    have e2 : T.data.toList.length = n := by
      rw [hTd, List.length_take, List.length_drop]; omega
    rw [e1]
    simp only [if_true, str_of, e2]
    have HQ : Hid (frame T = V) := Lib.hid hq
    have HTd := Lib.hid hTd
    clear hTd hVd hl3 e1 e2 hq
    go_enter Tryz.func82, Tryz.ntmps82
    go_wp2
    go_quiet (fail)
    clear hor hor' i0 i1
    go_wp2
    rw [hT]
    refine wp_region_fr (by kernel_rfl) (by kernel_rfl) ?_
    refine q_val rfl (by intro w' _; go_simp; rfl) ?_
    go_frame
    refine q_call (f := 69) (args := #[.string T]) rfl (by intro w'; go_simp; try rfl) (fun w' _ => sframe_c T w' hTs) ?_
    go_frame
    refine q_val rfl (by intro w' _; go_simp; rfl) ?_
    go_frame
    refine q_val rfl (by intro w' _; go_simp; rfl) ?_
    go_frame
    refine q_val (v := .string V) rfl (by intro w' _; go_simp; rw [if_pos (by omega), show (2 + (n : Int) + 4).toNat = 2 + n + 4 by omega, hV]) ?_
    go_frame
    refine q_val (v := .bool false) rfl (by intro w' _; go_simp; rw [HQ.out]) ?_
    go_frame
    refine wpQuiet_nil ?_
    intro w1 hF1
    go_wp2
    go_ret3
    exact ⟨ret_sii rfl (by omega) rfl, ((Fr.refl _ _).drewN _).trans hF1⟩
  · have e1 : nextL R.data.toList = (51, []) := by
      rw [HN.out, if_neg h1, if_neg hl3, if_neg]
      rw [← hTd, ← hVd]
      intro e
      exact hq (ba_ext (by rw [frame, str_data]; exact e))
    rw [e1]
    have HQ : Hid (¬ (frame T).toList = V.toList) := Lib.hid (fun e => hq (by rw [Lib.toList_data, Lib.toList_data] at e; exact ba_ext e))
    clear hTd hVd hl3 e1 hq
    go_enter Tryz.func82, Tryz.ntmps82
    go_wp2
    go_quiet (fail)
    clear hor hor' i0 i1
    go_wp2
    rw [hT]
    refine wp_region_fr (by kernel_rfl) (by kernel_rfl) ?_
    refine q_val rfl (by intro w' _; go_simp; rfl) ?_
    go_frame
    refine q_call (f := 69) (args := #[.string T]) rfl (by intro w'; go_simp; try rfl) (fun w' _ => sframe_c T w' hTs) ?_
    go_frame
    refine q_val rfl (by intro w' _; go_simp; rfl) ?_
    go_frame
    refine q_val rfl (by intro w' _; go_simp; rfl) ?_
    go_frame
    refine q_val (v := .string V) rfl (by intro w' _; go_simp; rw [if_pos (by omega), show (2 + (n : Int) + 4).toNat = 2 + n + 4 by omega, hV]) ?_
    go_frame
    refine q_val (v := .bool true) rfl (by intro w' _; go_simp; exact HQ.out) ?_
    go_frame
    refine wpQuiet_nil ?_
    intro w1 hF1
    go_wp2
    go_ret3
    exact ⟨rfl, ((Fr.refl _ _).drewN _).trans hF1⟩

end Go.Proofs.YtiojkakmlbfiiaaGreat

/- All frames of a text: the program's function All. -/
namespace Go.Proofs.YtiojkakmlbfiiaaGreat
open Go.RowKit
open Sp
namespace Sp
/-- All frames of bytes, from the first on; none: they are no frames. -/
def allN : Nat → List UInt8 → Option (List ByteArray)
  | 0, _ => some []
  | n + 1, r => if r = [] then some [] else if (nextL r).1 = 0 then (allN n (r.drop ((nextL r).2.length + 6))).map (str (nextL r).2 :: ·) else none
def allL (r : List UInt8) : Option (List ByteArray) := allN r.length r

theorem allN_fuel : ∀ (n m : Nat) (r : List UInt8), r.length ≤ n → r.length ≤ m → allN n r = allN m r
  | 0, 0, _, _, _ => rfl
  | 0, m + 1, r, h, _ => by have : r = [] := List.eq_nil_of_length_eq_zero (by omega); simp [allN, this]
  | n + 1, 0, r, _, h => by have : r = [] := List.eq_nil_of_length_eq_zero (by omega); simp [allN, this]
  | n + 1, m + 1, r, h1, h2 => by
    simp only [allN]
    split
    · rfl
    · rename_i hr
      have hp : 0 < r.length := by
        rcases Nat.eq_zero_or_pos r.length with h | h
        · exact absurd (List.eq_nil_of_length_eq_zero h) hr
        · exact h
      rw [allN_fuel n m _ (by rw [List.length_drop]; omega) (by rw [List.length_drop]; omega)]

theorem allL_step (r : List UInt8) (h : r ≠ []) : allL r = if (nextL r).1 = 0 then (allL (r.drop ((nextL r).2.length + 6))).map (str (nextL r).2 :: ·) else none := by
  have hp : 0 < r.length := by
    rcases Nat.eq_zero_or_pos r.length with h' | h'
    · exact absurd (List.eq_nil_of_length_eq_zero h') h
    · exact h'
  obtain ⟨n, hn⟩ : ∃ n, r.length = n + 1 := ⟨r.length - 1, by omega⟩
  rw [allL, hn, allN, if_neg h, allL]
  rw [allN_fuel n _ _ (by rw [List.length_drop]; omega) (Nat.le_refl _)]
theorem allL_nil : allL [] = some [] := rfl

theorem nextL_len (r : List UInt8) (h : (nextL r).1 = 0) : (nextL r).2.length + 6 ≤ r.length := by
  unfold nextL at h ⊢
  split
  · rename_i h1; rw [if_pos h1] at h; simp at h
  · rename_i h1
    rw [if_neg h1] at h
    simp only at h ⊢
    split
    · rename_i h2; rw [if_pos h2] at h; simp at h
    · rename_i h2
      rw [if_neg h2] at h
      split
      · rename_i h3; rw [if_pos h3] at h; simp at h
      · rename_i h3
        rw [if_neg h3] at h
        split
        · simp only [List.length_take, List.length_drop]; omega
        · rename_i h4; rw [if_neg h4] at h; simp at h
end Sp

theorem strInfo : (Tryz.prog.info? 9).map (fun i => (i.zero, i.size, i.bytes)) = some (some (.string ByteArray.empty), 1, 16) := by kernel_rfl

def AllPost (s : ByteArray) (w : World) (e : Ending) (w' : World) : Prop :=
  (∀ l, allL s.data.toList = some l → ∃ v, e = .returned (.tuple #[v, .int .i64 (s.size : Int), .int .i64 0]) ∧ w'.ownsRow w.heap.size 9 1 v l.length (strVals l)) ∧
  (allL s.data.toList = none → ∃ v a c, e = .returned (.tuple #[v, .int .i64 a, .int .i64 c]) ∧ c ≠ 0) ∧ Fr [] w w'

set_option maxRecDepth 100000 in
set_option maxHeartbeats 1000000 in
theorem all_c (s : ByteArray) (w : World) (hs : s.size ≤ 1000000) : Calls Tryz.prog 67 #[.string s] w (AllPost s w) := by
  obtain ⟨i0, hi, hz0, hz1, hz2⟩ := info_parts strInfo
  have HI := Lib.hid (show _ ∧ _ ∧ _ ∧ _ from ⟨hi, hz0, hz1, hz2⟩)
  clear hi hz0 hz1 hz2
  go_enter Tryz.func67, Tryz.ntmps67
  go_wp2
  go_loopw [2, 3] (fun l i wr => ∃ (k : Nat) (done : List ByteArray), k ≤ s.size ∧ done.length ≤ k ∧ i = .int .i64 k ∧ wr.ownsRow w.heap.size 9 1 l done.length (strVals done) ∧
      Hid ((allL (s.data.toList.drop k)).map (done ++ ·) = allL s.data.toList) ∧ Fr [] w wr)
    (fun _ i _ => s.size - (intOf i).toNat)
  case atStart => exact ⟨0, [], Nat.zero_le _, Nat.le_refl _, rfl, World.ownsRow_nil _ _ _ _, by show Option.map _ _ = _; simp, Fr.refl _ _⟩
  case round =>
    obtain ⟨k, done, hk, hdk, rfl, hown, hR, hF⟩ := hrel
    obtain ⟨la, lc, rfl⟩ := own_shape hown
    by_cases hlt : k < s.size
    · have hne : s.data.toList.drop k ≠ [] := by
        intro e
        have := congrArg List.length e
        rw [List.length_drop] at this
        have h2 : s.data.toList.length = s.size := rfl
        simp at this; omega
      have hnx := next_c s k wr (by omega) hk
      have hst := allL_step _ hne
      have hln := nextL_len (s.data.toList.drop k)
      by_cases hz : (nextL (s.data.toList.drop k)).1 = 0
      · rw [hz] at hnx
        rw [if_pos hz] at hst
        have hln' := hln hz
        rw [List.length_drop] at hln'
        have h2 : s.data.toList.length = s.size := rfl
        simp only [if_true] at hnx
        generalize (nextL (s.data.toList.drop k)).2 = t at hnx hst hln'
        have hR2 : Hid ((allL (s.data.toList.drop (k + t.length + 6))).map ((done ++ [str t]) ++ ·) = allL s.data.toList) := by
          show _ = _
          rw [← hR.out, hst, Option.map_map, List.drop_drop, ← Nat.add_assoc]
          congr 1
          funext x; simp
        have hk2 : k + t.length + 6 ≤ s.size := by omega
        clear hst hln hln' h2 hz hne hR
        generalize str t = T at hnx hR2
        generalize hm : t.length = m at hnx hR2 hk2
        clear hm
        go_wp2_with (first
          | (go_at_call 82; refine hnx.mono ?_; clear hnx; rintro e w2 ⟨rfl, hF2⟩; have hown2 := own_fr hown hF2 (by simp))
          | (at_builtin; refine wpList_append_own _ rfl _ _ 37 rfl w.heap.size 9 i0 (.string ByteArray.empty) 1 16 Tryz.underlying37 HI.out.1 HI.out.2.1 HI.out.2.2.1 HI.out.2.2.2 rfl (by decide) _ _ _ rfl (hown2.alloc _) ⟨w2.heap.size, 0, none⟩ 1 1 [.string T] rfl rfl ?c1 ?c2 ?c3 ?c4 ?c5 ?_))
        case c1 => intro j u hu; cases j with
          | zero => simp at hu; subst hu; simp [Addr.add]
          | succ j => simp at hu
        case c2 => intro u hu; simp at hu; subst hu; rfl
        case c3 => unfold maxLen; omega
        case c4 => omega
        case c5 => have h1 := hF.size; have h2 := hF2.size; simp; omega
        intro v' w3 hown3 hg3 _
        have hF3 : Fr [] w w3 := ((hF.trans hF2).alloc _).grown hg3 (fun b hb => Or.inr (own_base hown2 b hb).1)
        have hown4 : w3.ownsRow w.heap.size 9 1 v' (done ++ [T]).length (strVals (done ++ [T])) := by simpa [strVals] using hown3
        obtain ⟨a', c', rfl⟩ := own_shape hown4
        have HO := Lib.hid hown4
        clear hown hown2 hown3 hown4 hg3
        go_wp2
        go_roundw
        case rel => exact ⟨k + m + 6, done ++ [T], hk2, by simp; omega, rfl, HO.out, hR2, hF3⟩
        case measure => simp [intOf]; omega
      · rw [if_neg hz] at hst hnx
        have hnone : Hid (allL s.data.toList = none) := (show _ = _ by rw [← hR.out, hst]; rfl)
        have hz' : ((nextL (s.data.toList.drop k)).1 != 0) = true := by simpa using hz
        have HZ := Lib.hid hz
        generalize (nextL (s.data.toList.drop k)).1 = c at hnx hz' HZ
        generalize str (nextL (s.data.toList.drop k)).2 = T at hnx
        clear hst hln hz hne
        go_wp2_with (go_at_call 82; refine hnx.mono ?_; clear hnx; rintro e w2 ⟨rfl, hF2⟩)
        go_ret3
        refine ⟨?_, ?_, hF.trans hF2⟩
        · intro l hl; rw [hnone.out] at hl; cases hl
        · intro _; exact ⟨_, _, _, rfl, HZ.out⟩
    · obtain rfl : k = s.size := by omega
      have hE : Hid (allL s.data.toList = some done) := by
        show _ = _
        rw [← hR.out, List.drop_of_length_le (show s.data.toList.length ≤ s.size from Nat.le_refl _), allL_nil]
        simp
      have HO := Lib.hid hown
      clear hown
      go_wp2
      go_ret3
      refine ⟨?_, ?_, hF⟩
      · intro l hl
        rw [hE.out] at hl; cases hl
        exact ⟨_, rfl, HO.out⟩
      · intro h; rw [hE.out] at h; cases h

end Go.Proofs.YtiojkakmlbfiiaaGreat

/- What a log on a device is, and what its calls make of it. -/
namespace Go.Proofs.YtiojkakmlbfiiaaGreat
namespace Sp
open Go.RowKit (wrap64)

/-- A number as bytes, the highest first; the number of bytes, as Go's int has it. -/
def be (k n : Nat) : List UInt8 := (le k n).reverse
def num (l : List UInt8) : Int := l.foldl (fun n c => wrap64 (n * 256 + (c.toNat : Int))) 0

def headPart (count area long : Nat) : List UInt8 := [82, 69, 68, 79] ++ be 8 count ++ [UInt8.ofNat area] ++ be 8 long
def headText (count area long : Nat) : ByteArray := str (headPart count area long ++ headPart count area long ++ headPart count area long ++ [0])

/-- The bytes of an area of a device of n sectors. -/
def areaOf (n : Nat) : Nat := 64 * ((n - 2) / 2)

/-- A sector's head: its count, area and length. -/
def parseHead (size : Nat) (s : ByteArray) : Option (Nat × Nat × Nat) :=
  let c := num ((s.data.toList.drop 4).take 8)
  let a := (s.data.toList.getD 12 0).toNat
  let l := num ((s.data.toList.drop 13).take 8)
  if c < 1 ∨ 4611686018427387904 < c ∨ 1 < a ∨ l < 0 ∨ (size : Int) < l then none
  else if s = headText c.toNat a l.toNat then some (c.toNat, a, l.toNat) else none

/-- A write, and a flush. -/
def Dv.wflush (d : Dv) (i : Nat) (s : ByteArray) : Dv × Int :=
  if (d.write i s).2 = 0 then (d.write i s).1.flush else d.write i s

def Dv.writes (d : Dv) (i : Nat) : List ByteArray → Dv × Int
  | [] => (d, 0)
  | s :: l => if (d.write i s).2 = 0 then (d.write i s).1.writes (i + 1) l else d.write i s

def padTo (l : List UInt8) : List UInt8 := l ++ List.replicate (64 - l.length) 0
def chunks : Nat → List UInt8 → List ByteArray
  | 0, _ => []
  | n + 1, l => if l = [] then [] else str (padTo (l.take 64)) :: chunks n (l.drop 64)

/-- Bytes are settled behind old ones, in an area; the head of the count. -/
def Dv.settle (d : Dv) (area long : Nat) (count : Nat) (tail more : List UInt8) : Dv × Int :=
  let r := if more = [] then (d, 0) else
    (let w := d.writes (2 + area * ((d.on.length - 2) / 2) + long / 64) (chunks (tail ++ more).length (tail ++ more))
     if w.2 = 0 then w.1.flush else w)
  if r.2 = 0 then r.1.wflush ((count + 1) % 2) (headText (count + 1) area (long + more.length)) else r

structure Lg where
  count : Nat
  area : Nat
  bytes : List UInt8
  texts : List ByteArray
  many : Nat

def framesL (l : List ByteArray) : List UInt8 := l.flatMap fun t => frameL t.data.toList

def Lg.waits (g : Lg) : List UInt8 := framesL (g.texts.drop g.many)
def Lg.tail (g : Lg) : List UInt8 := g.bytes.drop (64 * (g.bytes.length / 64))
def Lg.room (g : Lg) (size : Nat) : Int := (size : Int) - g.bytes.length - g.waits.length

def Lg.append (g : Lg) (size : Nat) (t : ByteArray) : Lg × Int :=
  if 4096 < t.size then (g, 2) else if g.room size < ((t.size + 6 : Nat) : Int) then (g, 100) else ({ g with texts := g.texts ++ [t] }, 0)

def Lg.sync (g : Lg) (d : Dv) : Lg × Dv × Int :=
  if g.many = g.texts.length then (g, d, 0)
  else
    let r := d.settle g.area g.bytes.length g.count g.tail g.waits
    if r.2 = 0 then ({ g with count := g.count + 1, bytes := g.bytes ++ g.waits, many := g.texts.length }, r) else (g, r)

def Lg.restart (g : Lg) (d : Dv) (l : List ByteArray) : Lg × Dv × Int :=
  if l.any fun t => 4096 < t.size then (g, d, 2)
  else if areaOf d.on.length < (framesL l).length then (g, d, 100)
  else
    let r := d.settle (1 - g.area) 0 g.count [] (framesL l)
    if r.2 = 0 then ({ count := g.count + 1, area := 1 - g.area, bytes := framesL l, texts := l, many := l.length }, r) else (g, r)

/-- The sector of the next head is made bare, if a crash has torn it. -/
def Dv.bareNext (d : Dv) (count : Nat) : Dv × Int :=
  let s := (d.read (((count + 1) % 2 : Nat) : Int)).1
  if s = zeros then (d, 0)
  else if (parseHead (areaOf d.on.length) s).isSome then (d, 0)
  else d.wflush ((count + 1) % 2) zeros

def Dv.head (d : Dv) (i : Nat) : Option (Nat × Nat × Nat) := parseHead (areaOf d.on.length) (d.text i)

/-- The head that counts. -/
def Dv.best (d : Dv) : Option (Nat × Nat × Nat) :=
  match d.head 0, d.head 1 with
  | some a, some b => if a.1 < b.1 then some b else some a
  | some a, none => some a
  | none, x => x

def Dv.stored (d : Dv) (area long : Nat) : List UInt8 :=
  ((List.range (d.on.length)).flatMap fun i => if 64 * i < long then (d.text (2 + area * ((d.on.length - 2) / 2) + i)).data.toList else []).take long

def openLog (d : Dv) : Dv × Option Lg × Int :=
  if d.on.length < 4 then (d, none, 4)
  else if d.down = true then (d, none, 90)
  else match d.best with
    | none =>
      let r := d.wflush 1 (headText 1 0 0)
      if r.2 = 0 then
        (let q := r.1.bareNext 1
         if q.2 = 0 then (q.1, some ⟨1, 0, [], [], 0⟩, 0) else (q.1, none, q.2))
      else (r.1, none, r.2)
    | some (c, a, l) =>
      match allL (d.stored a l) with
      | none => (d, none, 101)
      | some texts =>
        let q := d.bareNext c
        if q.2 = 0 then (q.1, some ⟨c, a, d.stored a l, texts, texts.length⟩, 0) else (q.1, none, q.2)

end Sp
end Go.Proofs.YtiojkakmlbfiiaaGreat
