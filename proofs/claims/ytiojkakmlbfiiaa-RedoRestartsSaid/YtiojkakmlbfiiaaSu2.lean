/- Frames: the program's functions frame, Frame. -/
import Derived.Test.YtiojkakmlbfiiaaSu
import Derived.Laws.BytesArg
import Derived.WalkSpells
namespace Go.Proofs.Ytiojkakmlbfiiaa
open Go.RowKit
open Sp

theorem conv_lit (w : World) (xs : List Int) (n : Nat) (hn : xs.length = n) :
    (convert 39 9 (.slice (some ⟨w.heap.size, 0, none⟩) n n)).run Try.prog (w.alloc (.cells (xs.map (Value.int .u8)).toArray 5)) =
      .ok (.string (strOfNums xs)) (w.alloc (.cells (xs.map (Value.int .u8)).toArray 5)) :=
  run_convert_bytes_arg (P := Try.prog) _ 39 5 Try.underlying39 Try.underlying5 w.heap.size 0 n n xs hn (by
    intro i hi
    rw [Nat.zero_add, World.cell?_alloc_new]
    have : i < xs.length := by omega
    simp [List.getD, this]) 9 Try.underlying9

theorem slice_lit (w : World) (xs : List Value) (T : TypeId) (n : Nat) (hn : xs.length = n) : SliceAt (w.alloc (.cells xs.toArray T)) (.slice (some ⟨w.heap.size, 0, none⟩) n n) (some w.heap.size) xs := by
  subst hn
  refine Or.inr ⟨_, 0, xs.length, rfl, rfl, fun i x hx => ?_⟩
  rw [Nat.zero_add, World.cell?_alloc_new]; simpa using hx

theorem nums_le2 (n : Nat) (h : n < 65536) : strOfNums [(n : Int) % 256, (n : Int) / 256] = str (le 2 n) := by
  apply ba_ext
  rw [strOfNums_data, str_data]
  have h1 : ((n : Int) % 256).toNat = n % 256 := by omega
  have h2 : ((n : Int) / 256).toNat = n / 256 := by omega
  simp only [List.map_cons, List.map_nil, le, h1, h2, UInt8.ofNat_mod_size]
  congr 1
  exact (UInt8.ofNat_mod_size (x := n)).symm ▸ rfl

theorem nums_le4 (n : Nat) (h : n < 4294967296) : strOfNums [(n : Int) % 256, (n : Int) / 256 % 256, (n : Int) / 65536 % 256, (n : Int) / 16777216] = str (le 4 n) := by
  apply ba_ext
  rw [strOfNums_data, str_data]
  have h1 : ((n : Int) % 256).toNat = n % 256 := by omega
  have h2 : ((n : Int) / 256 % 256).toNat = n / 256 % 256 := by omega
  have h3 : ((n : Int) / 65536 % 256).toNat = n / 256 / 256 % 256 := by omega
  have h4 : ((n : Int) / 16777216).toNat = n / 256 / 256 / 256 := by omega
  simp only [List.map_cons, List.map_nil, le, h1, h2, h3, h4, UInt8.ofNat_mod_size]
  simp only [show ∀ m : Nat, UInt8.ofNat (m % 256) = UInt8.ofNat m from fun m => UInt8.ofNat_mod_size (x := m)]

theorem str_append (a b : List UInt8) : str a ++ str b = str (a ++ b) := by
  apply ba_ext; rw [ByteArray.data_append, Array.toList_append, str_data, str_data, str_data]
theorem str_of (s : ByteArray) : str s.data.toList = s := ba_ext (str_data _)
theorem str_size (l : List UInt8) : (str l).size = l.length := by simp [str, ByteArray.size]

set_option maxRecDepth 100000 in
theorem sframe_c (s : ByteArray) (w : World) (hs : s.size ≤ 4096) :
    Calls Try.prog 38 #[.string s] w fun e w' => e = .returned (.string (frame s)) ∧ Fr [] w w' := by
  have hc1 := conv_lit w [(s.size : Int) % 256, (s.size : Int) / 256] 2 rfl
  rw [nums_le2 s.size (by omega)] at hc1
  simp only [List.map_cons, List.map_nil] at hc1
  have hL : (str (le 2 s.size)).size = 2 := rfl
  obtain ⟨L, hLe⟩ : ∃ L, str (le 2 s.size) = L := ⟨_, rfl⟩
  rw [hLe] at hc1 hL
  have HL := Lib.hid hLe
  have hL2 : L.size ≤ 2 := by omega
  clear hLe hL
  have hof := of_c ((w.alloc (.cells #[.int .u8 ((s.size : Int) % 256), .int .u8 ((s.size : Int) / 256)] 5)).alloc (.cells #[.string L, .string s] 9)) _ _ [L, s] (slice_lit _ [.string L, .string s] 9 2 rfl) (by simp) (by intro x hx; simp at hx; rcases hx with rfl | rfl; omega; omega)
  simp only [World.size_alloc] at hof
  have hc := crc_lt ([L, s].flatMap (·.data.toList))
  obtain ⟨c, hce⟩ : ∃ c, crc ([L, s].flatMap (·.data.toList)) = c := ⟨_, rfl⟩
  rw [hce] at hof hc
  have HC := Lib.hid hce
  clear hce
  have hc2 := conv_lit ((w.alloc (.cells #[.int .u8 ((s.size : Int) % 256), .int .u8 ((s.size : Int) / 256)] 5)).alloc (.cells #[.string L, .string s] 9)) [(c : Int) % 256, (c : Int) / 256 % 256, (c : Int) / 65536 % 256, (c : Int) / 16777216] 4 rfl
  rw [nums_le4 c hc] at hc2
  simp only [List.map_cons, List.map_nil, World.size_alloc] at hc2
  have hR : (str (le 4 c)).size = 4 := rfl
  obtain ⟨R, hRe⟩ : ∃ R, str (le 4 c) = R := ⟨_, rfl⟩
  rw [hRe] at hc2 hR
  have HR := Lib.hid hRe
  have hR4 : R.size ≤ 4 := by omega
  clear hRe hR
  go_enter Try.func38, Try.ntmps38
  go_wp2_with (go_at_call 51; refine hof.mono ?_; clear hof; rintro e w' ⟨rfl, rfl⟩)
  go_ret
  refine ⟨?_, ((((Fr.refl _ _).alloc _).alloc _).alloc _)⟩
  have e1 : L ++ s ++ R = frame s := by
    rw [frame, frameL, ← HR.out, ← HC.out, ← HL.out]
    rw [← str_append, ← str_append, str_of]
    simp [str_data]
  exact congrArg (fun x => Ending.returned (.string x)) e1

theorem sFrame_c (s : ByteArray) (w : World) (hs : s.size ≤ 9223372036854775807) :
    Calls Try.prog 20 #[.string s] w fun e w' => e = .returned (.tuple (if s.size ≤ 4096 then #[.string (frame s), .int .i64 0] else #[.string ByteArray.empty, .int .i64 2])) ∧ Fr [] w w' := by
  by_cases h : s.size ≤ 4096
  · rw [if_pos h]
    have hf := sframe_c s w h
    go_enter Try.func20, Try.ntmps20
    go_wp2_with (go_at_call 38; refine hf.mono ?_; clear hf; rintro e w' ⟨rfl, hF⟩)
    go_ret2
    exact ⟨rfl, hF⟩
  · rw [if_neg h]
    go_enter Try.func20, Try.ntmps20
    go_wp2
    go_ret2
    exact ⟨rfl, Fr.refl _ _⟩

end Go.Proofs.Ytiojkakmlbfiiaa
