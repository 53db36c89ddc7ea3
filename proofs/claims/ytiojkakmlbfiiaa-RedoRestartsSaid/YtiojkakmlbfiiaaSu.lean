/- Check sums and frames: what they are, and the program's functions. -/
import Derived.Test.YtiojkakmlbfiiaaHp
import Derived.Test.YtiojkakmlbfiiaaChecked
import Derived.Laws.BitsAllLaws
namespace Go.Proofs.Ytiojkakmlbfiiaa
open Go.RowKit
namespace Sp

def crcBit (x : Nat) : Nat := (x / 2) ^^^ (if x % 2 = 1 then 3988292384 else 0)
def crcBits : Nat → Nat → Nat
  | 0, x => x
  | n + 1, x => crcBit (crcBits n x)
def crcByte (x : Nat) (b : UInt8) : Nat := crcBits 8 (x ^^^ b.toNat)
def crcFrom (x : Nat) (l : List UInt8) : Nat := l.foldl crcByte x
def crc (l : List UInt8) : Nat := crcFrom 4294967295 l ^^^ 4294967295

theorem xor_lt32 {a b : Nat} (ha : a < 4294967296) (hb : b < 4294967296) : a ^^^ b < 4294967296 := Nat.xor_lt_two_pow (n := 32) ha hb
theorem crcBit_lt {x : Nat} (h : x < 4294967296) : crcBit x < 4294967296 := by
  unfold crcBit
  exact xor_lt32 (by omega) (by split <;> omega)
theorem crcBits_lt {x : Nat} (h : x < 4294967296) : ∀ n, crcBits n x < 4294967296
  | 0 => h
  | n + 1 => crcBit_lt (crcBits_lt h n)
theorem crcByte_lt {x : Nat} (h : x < 4294967296) (b : UInt8) : crcByte x b < 4294967296 := crcBits_lt (xor_lt32 h (by have := b.toNat_lt; omega)) 8
theorem crcFrom_lt (l : List UInt8) : ∀ {x : Nat}, x < 4294967296 → crcFrom x l < 4294967296 := by
  induction l with
  | nil => intro x h; exact h
  | cons b l ih => intro x h; exact ih (crcByte_lt h b)
theorem crcFrom_append (x : Nat) (l m : List UInt8) : crcFrom x (l ++ m) = crcFrom (crcFrom x l) m := by simp [crcFrom, List.foldl_append]
theorem crcFrom_snoc (x : Nat) (l : List UInt8) (b : UInt8) : crcFrom x (l ++ [b]) = crcByte (crcFrom x l) b := by simp [crcFrom, List.foldl_append]

/-- A number as bytes, the lowest first. -/
def le : Nat → Nat → List UInt8
  | 0, _ => []
  | k + 1, n => UInt8.ofNat n :: le k (n / 256)

theorem le_len : ∀ k n, (le k n).length = k
  | 0, _ => rfl
  | k + 1, n => by simp [le, le_len k]

def frameL (t : List UInt8) : List UInt8 := (le 2 t.length ++ t) ++ le 4 (crc (le 2 t.length ++ t))
def str (l : List UInt8) : ByteArray := ⟨l.toArray⟩
def frame (t : ByteArray) : ByteArray := str (frameL t.data.toList)
theorem frameL_len (t : List UInt8) : (frameL t).length = t.length + 6 := by simp [frameL, le_len]; omega
theorem frame_size (t : ByteArray) : (frame t).size = t.size + 6 := by
  show (frameL t.data.toList).toArray.size = _
  rw [List.size_toArray, frameL_len]; rfl
theorem str_data (l : List UInt8) : (str l).data.toList = l := by simp [str]
theorem crc_lt (l : List UInt8) : crc l < 4294967296 := xor_lt32 (crcFrom_lt l (by omega)) (by omega)

end Sp
open Sp

theorem take_snoc (s : ByteArray) (k : Nat) (h : k < s.size) : s.data.toList.take (k + 1) = s.data.toList.take k ++ [s[k]] := by
  rw [List.take_succ_eq_append_getElem (by simpa using h)]; rfl

set_option maxHeartbeats 400000 in
theorem take_c (x : Nat) (hx : x < 4294967296) (s : ByteArray) (w : World) (hs : s.size ≤ 9223372036854775807) :
    Calls Try.prog 60 #[.int .u32 (x : Int), .string s] w fun e w' => e = .returned (.int .u32 (crcFrom x s.data.toList : Nat)) ∧ w = w' := by
  go_enter Try.func60, Try.ntmps60
  go_wp2
  go_loop [0, 8] (fun c i => ∃ k : Nat, k ≤ s.size ∧ i = .int .i64 k ∧ c = .int .u32 (crcFrom x (s.data.toList.take k) : Nat)) (fun _ i => s.size - (intOf i).toNat)
  case atStart => exact ⟨0, Nat.zero_le _, rfl, rfl⟩
  case round =>
    obtain ⟨k, hk, rfl, rfl⟩ := hrel
    by_cases hlt : k < s.size
    · have hb := crcFrom_lt (s.data.toList.take k) hx
      have HS : Hid (crcFrom x (s.data.toList.take (k + 1)) = crcByte (crcFrom x (s.data.toList.take k)) s[k]) := (show _ = _ by rw [take_snoc s k hlt, crcFrom_snoc])
      generalize crcFrom x (s.data.toList.take k) = y at hb HS ⊢
      have hby : s[k].toNat < 256 := s[k].toNat_lt
      have hxor : bits .xor .u32 (y : Int) (s[k].toNat : Int) = ((y ^^^ s[k].toNat : Nat) : Int) := u32_xor_nat _ _ hb (by omega)
      have hv0 := xor_lt32 hb (show s[k].toNat < 4294967296 by omega)
      go_wp2
      obtain ⟨v0, hve⟩ : ∃ v0, y ^^^ s[k].toNat = v0 := ⟨_, rfl⟩
      have HV := Lib.hid hve
      rw [hve] at hv0 ⊢
      clear hxor hve
      go_loop [0, 17] (fun c i => ∃ j : Nat, j ≤ 8 ∧ i = .int .i64 j ∧ c = .int .u32 (crcBits j v0 : Nat)) (fun _ i => 8 - (intOf i).toNat)
      case atStart => exact ⟨0, by omega, rfl, rfl⟩
      case round =>
        obtain ⟨j, hj, rfl, rfl⟩ := hrel
        by_cases hj8 : j < 8
        · have hv := crcBits_lt hv0 j
          generalize hh : crcBits j v0 = v at hv ⊢
          have HH : Hid (crcBits j v0 = v) := hh
          clear hh
          have f0 : bits .xor .u32 ((v : Int) / 2) 0 = ((v / 2 : Nat) : Int) := by
            have := u32_xor_nat (v / 2) 0 (by omega) (by omega)
            simpa using this
          have f1 : bits .xor .u32 ((v : Int) / 2) 3988292384 = ((v / 2 ^^^ 3988292384 : Nat) : Int) := by
            have := u32_xor_nat (v / 2) 3988292384 (by omega) (by omega)
            simpa using this
          have g1 : bits .and .u32 3988292384 4294967295 = 3988292384 := by decide
          have g0 : bits .and .u32 3988292384 0 = 0 := by decide
          rcases Nat.mod_two_eq_zero_or_one v with h2 | h2
          · have a0 : bits .and .u32 (v : Int) 1 = 0 := by
              have := u32_and_nat v 1 hv (by omega)
              rw [Nat.and_one_is_mod, h2] at this
              simpa using this
            have HN : Hid (crcBits (j + 1) v0 = v / 2) := (show crcBit (crcBits j v0) = v / 2 by rw [HH.out]; simp [crcBit, h2])
            clear h2
            go_wp2
            go_round
            case rel => exact ⟨j + 1, by omega, by go_num, by rw [HN.out]; go_num⟩
            case measure => simp [intOf]; omega
          · have a1 : bits .and .u32 (v : Int) 1 = 1 := by
              have := u32_and_nat v 1 hv (by omega)
              rw [Nat.and_one_is_mod, h2] at this
              simpa using this
            have HN : Hid (crcBits (j + 1) v0 = v / 2 ^^^ 3988292384) := (show crcBit (crcBits j v0) = v / 2 ^^^ 3988292384 by rw [HH.out]; simp [crcBit, h2])
            clear h2
            go_wp2
            go_round
            case rel => exact ⟨j + 1, by omega, by go_num, by rw [HN.out]⟩
            case measure => simp [intOf]; omega
        · obtain rfl : j = 8 := by omega
          have HE : Hid (crcBits 8 v0 = crcFrom x (s.data.toList.take (k + 1))) := (show _ = _ by rw [HS.out, crcByte, HV.out])
          rw [HE.out]
          go_wp2
          go_round
          case rel => exact ⟨k + 1, by omega, by go_num, rfl⟩
          case measure => simp [intOf]; omega
    · go_wp2
      go_ret
      obtain rfl : k = s.size := by omega
      refine ⟨?_, rfl⟩
      rw [List.take_of_length_le (show s.data.toList.length ≤ s.size from Nat.le_refl _)]
      rfl

def strVals (l : List ByteArray) : List Value := l.map Value.string

theorem catL_snoc (l : List ByteArray) (k : Nat) (x : ByteArray) (h : l[k]? = some x) : (l.take (k + 1)).flatMap (·.data.toList) = (l.take k).flatMap (·.data.toList) ++ x.data.toList := by
  have hk : k < l.length := by
    rcases Nat.lt_or_ge k l.length with h' | h'
    · exact h'
    · rw [List.getElem?_eq_none h'] at h; cases h
  rw [List.take_succ_eq_append_getElem hk, List.flatMap_append]
  rw [List.getElem?_eq_getElem hk] at h
  cases h; simp

set_option maxHeartbeats 400000 in
theorem of_c (w : World) (v : Value) (fp : Option Nat) (l : List ByteArray) (h : SliceAt w v fp (strVals l)) (hl : l.length ≤ 9223372036854775807) (hs : ∀ s ∈ l, s.size ≤ 9223372036854775807) :
    Calls Try.prog 51 #[v] w fun e w' => e = .returned (.int .u32 (crc (l.flatMap (·.data.toList)) : Nat)) ∧ w = w' := by
  obtain ⟨va, vc, rfl⟩ : ∃ a c, v = .slice a l.length c := by
    rcases h with ⟨h1, _, a, c, rfl⟩ | ⟨b, o, c, _, rfl, _⟩
    · refine ⟨a, c, ?_⟩
      have : l = [] := by simpa [strVals] using h1
      rw [this]; rfl
    · exact ⟨some ⟨b, o, none⟩, c, by simp [strVals]⟩
  have HH := Lib.hid h
  clear h
  go_enter Try.func51, Try.ntmps51
  go_wp2
  go_loop [3, 8] (fun c i => ∃ k : Nat, k ≤ l.length ∧ i = .int .i64 k ∧ c = .int .u32 (crcFrom 4294967295 ((l.take k).flatMap (·.data.toList)) : Nat)) (fun _ i => l.length - (intOf i).toNat)
  case atStart => exact ⟨0, Nat.zero_le _, rfl, rfl⟩
  case round =>
    obtain ⟨k, hk, rfl, rfl⟩ := hrel
    have hb := crcFrom_lt ((l.take k).flatMap (·.data.toList)) (show 4294967295 < 4294967296 by omega)
    by_cases hlt : k < l.length
    · obtain ⟨x, hx⟩ : ∃ x, l[k]? = some x := ⟨_, List.getElem?_eq_getElem hlt⟩
      obtain ⟨sb, so, rfl, hc⟩ : ∃ b o, va = some ⟨b, o, none⟩ ∧ w.cell? ⟨b, o + k, none⟩ = some (.string x) := by
        rcases HH.out with ⟨h1, _, _⟩ | ⟨b, o, c', _, hv, hcell⟩
        · have h2 : l = [] := by simpa [strVals] using h1
          rw [h2] at hlt; simp at hlt
        · simp only [Value.slice.injEq] at hv
          exact ⟨b, o, hv.1, hcell k _ (by rw [strVals, List.getElem?_map, hx]; rfl)⟩
      have HS : Hid (crcFrom 4294967295 ((l.take (k + 1)).flatMap (·.data.toList)) = crcFrom (crcFrom 4294967295 ((l.take k).flatMap (·.data.toList))) x.data.toList) := (show _ = _ by rw [catL_snoc l k x hx, crcFrom_append])
      generalize crcFrom 4294967295 ((l.take k).flatMap (·.data.toList)) = y at hb HS ⊢
      have hxs := hs x (List.mem_of_getElem? hx)
      clear hx
      go_wp2_with (go_at_call 60; refine (take_c y hb x _ hxs).mono ?_; rintro e w' ⟨rfl, rfl⟩)
      go_round
      case rel => exact ⟨k + 1, by omega, by go_num, by rw [HS.out]⟩
      case measure => simp [intOf]; omega
    · obtain rfl : k = l.length := by omega
      rw [List.take_length] at hb ⊢
      have hxor := u32_xor_nat _ 4294967295 hb (by omega)
      have HC : Hid (crc (l.flatMap (·.data.toList)) = crcFrom 4294967295 (l.flatMap (·.data.toList)) ^^^ 4294967295) := (show _ = _ from rfl)
      generalize crcFrom 4294967295 (l.flatMap (·.data.toList)) = y at hb hxor HC ⊢
      go_wp2
      go_ret
      exact ⟨by rw [HC.out]; exact ret_int hxor, rfl⟩

end Go.Proofs.Ytiojkakmlbfiiaa
