/- The program's log: the builder's writing calls, the text of a head. -/
import Derived.Test.YtiojkakmlbfiiaaRw1
import Derived.Test.YtiojkakmlbfiiaaHr
namespace Go.Proofs.Ytiojkakmlbfiiaa
open Go.RowKit
open Sp

set_option maxRecDepth 100000 in
theorem copyCheck_c (B b : Nat) (bs : List Value) (w : World) (h : Lib.IsBuilder 68 5 B b bs w) :
    Calls Try.prog 45 #[.pointer (some ⟨b, 0, none⟩)] w fun e w' => e = .returned (.tuple #[]) ∧ (Lib.BuilderAt 68 5 B b (.pointer (some ⟨b, 0, none⟩)) bs w' ∧ Below B w w') := by
  obtain ⟨j, hj, hjs⟩ := Option.map_eq_some_iff.1 (show (Try.prog.info? 68).map (·.size) = some 2 by kernel_rfl)
  rcases h with h | h
  · have h0 := h.cell0
    have hsh := h.shape
    have hfz := h.frozen0
    go_enter Try.func45, Try.ntmps45
    go_wp2
    rw [Lib.run_to_unsafe w ⟨b, 0, none⟩ Try.underlying66 Try.underlying96 hj (by rw [hjs]; decide) hsh (Nat.zero_lt_succ 1)]
    simp only [Result.andThen]
    rw [Oper.upon_value]
    go_wp2
    rw [run_callFunc_extern Try.func55 (by kernel_rfl) (by kernel_rfl) (by kernel_rfl) (e := Extern.AbiNoEscape.same) (by kernel_rfl)]
    rw [Lib.run_noEscape]
    simp only [Result.andThen]
    rw [Oper.upon_value]
    go_wp2
    rw [Lib.run_from_unsafe w ⟨b, 0, none⟩ Try.underlying96 Try.underlying66 hj hsh (by kernel_rfl)]
    simp only [Result.andThen]
    rw [Oper.upon_value]
    go_wp2
    go_end0
    exact ⟨rfl, h.used _, (Below.refl B w).setCell (p := ⟨b, 0, none⟩) h.1 _⟩
  · have h0 := h.cell0
    go_enter Try.func45, Try.ntmps45
    go_wp2
    rw [Lib.run_neq_ptr_same w _ Try.underlying66 hj]
    go_wp2
    go_end0
    exact ⟨rfl, h, Below.refl B _⟩

set_option maxHeartbeats 2000000 in
set_option maxRecDepth 100000 in
theorem writeString_c (B b : Nat) (bs : List Value) (s : ByteArray) (w : World) (h : Lib.IsBuilder 68 5 B b bs w) (hlen : bs.length + s.size ≤ 140737488355328) (hBw : B ≤ w.heap.size) :
    Calls Try.prog 34 #[.pointer (some ⟨b, 0, none⟩), .string s] w fun e w' => e = .returned (.tuple #[.int .i64 s.size, .nilIface]) ∧ (Lib.BuilderAt 68 5 B b (.pointer (some ⟨b, 0, none⟩)) (bs ++ Lib.strCells s) w' ∧ Below B w w') := by
  obtain ⟨i0, hi, hz0, hz1, hz2⟩ := info_parts byteInfo
  go_enter Try.func34, Try.ntmps34
  go_wp2_with (go_at_call 45; refine (copyCheck_c B b bs _ h).mono ?_)
  rintro e w1 ⟨rfl, h1, hb1⟩
  obtain ⟨hB, v, hbk, hown, hne⟩ := h1
  have c0 : w1.cell? ⟨b, 0, none⟩ = some (.pointer (some ⟨b, 0, none⟩)) := by rw [Lib.cell_of_heap hbk]; rfl
  have c1 : w1.cell? ⟨b, 1, none⟩ = some v := by rw [Lib.cell_of_heap hbk]; rfl
  go_wp2_with (at_builtin; refine Lib.wpList_append_own_string _ rfl _ _ 39 9 rfl B 5 i0 Try.underlying39 Try.underlying9 hi hz0 hz1 hz2 _ _ _ rfl hown s rfl ?c3 ?c4 ?c5 ?_)
  case c3 => unfold maxLen; omega
  case c4 => omega
  case c5 => have := hb1.size; omega
  intro v' w2 hown' hgrow _
  have hlt : b < w1.heap.size := lt_of_block hbk
  have hb2 : w2.heap[b]? = some (.cells #[.pointer (some ⟨b, 0, none⟩), v] 68 (0, 0)) := by
    rw [hgrow.block b hlt (fun e => hne e.symm)]
    exact hbk
  have d0 : w2.cell? ⟨b, 0, none⟩ = some (.pointer (some ⟨b, 0, none⟩)) := by rw [Lib.cell_of_heap hb2]; rfl
  have d1 : w2.cell? ⟨b, 1, none⟩ = some v := by rw [Lib.cell_of_heap hb2]; rfl
  have f1 : w2.frozen? ⟨b, 1, none⟩ = false := Lib.frozen_of_heap hb2 1
  obtain ⟨ao, n', cap, rfl⟩ : ∃ ao n' cap, v' = .slice ao n' cap := by
    rcases hown'.2 with ⟨hv, _⟩ | ⟨g, cap, cur, hv, _⟩
    · exact ⟨_, _, _, hv⟩
    · exact ⟨_, _, _, hv⟩
  go_wp2
  go_ret2
  refine ⟨rfl, ?_, ?_⟩
  · exact Lib.BuilderAt.put (T := 68) (e := 5) hB hb2 (bs' := bs ++ Lib.strCells s) (by simpa [Lib.strCells_length] using hown') (by decide)
  · exact (hb1.grown hgrow (by have := hb1.size; omega) (fun k hk => (hown.lt k hk).1)).setCell (p := ⟨b, 1, none⟩) hB _

theorem repeat_c (s : ByteArray) (c : Nat) (w : World) (hc : c ≤ 9223372036854775807) (hlen : s.size * c ≤ 140737488355328) :
    Calls Try.prog 37 #[.string s, .int .i64 (c : Int)] w fun e w' => e = .returned (.string (str (Lib.repeatL s.data.toList c))) ∧ Fr [] w w' :=
  (Try.strings_Repeat s c w hc hlen).mono fun e w' ⟨h1, h2⟩ => ⟨h1, Fr.of_below h2⟩

theorem repeatL_zero (n : Nat) : Lib.repeatL [0] n = List.replicate n (0 : UInt8) := by
  induction n with
  | zero => rfl
  | succ n ih => rw [List.replicate_succ, ← ih]; rfl

def Byte1 (x : Nat) (u : Value) (w : World) : Prop := ∃ b, u = .slice (some ⟨b, 0, none⟩) 1 1 ∧ Blk w b [.int .u8 (x : Int)]
theorem byte1_stable (x : Nat) : Stable (Byte1 x) := fun _ _ _ hF ⟨b, h1, h2⟩ => ⟨b, h1, h2.fr hF (by simp)⟩

theorem headPart_len (c a l : Nat) : (headPart c a l).length = 21 := by simp [headPart, be, le_len]

def magicS : ByteArray := ⟨#[82, 69, 68, 79]⟩

theorem head_str (c a l : Nat) : ((⟨#[82, 69, 68, 79]⟩ : ByteArray) ++ str (be 8 c) ++ str [UInt8.ofNat a] ++ str (be 8 l)) = str (headPart c a l) := by
  have : (⟨#[82, 69, 68, 79]⟩ : ByteArray) = str [82, 69, 68, 79] := rfl
  rw [this, str_append, str_append, str_append]; rfl

theorem three (l : List UInt8) : Lib.repeatL l 3 = l ++ l ++ l := by simp [Lib.repeatL]

set_option maxHeartbeats 2000000 in
set_option maxRecDepth 100000 in
theorem head_text_c (c a l : Nat) (w : World) (hc : c ≤ 9223372036854775807) (ha : a < 256) (hl : l ≤ 9223372036854775807) :
    Calls Try.prog 30 #[.agg #[.int .i64 (c : Int), .int .i64 (a : Int), .int .i64 (l : Int)]] w fun e w' => e = .returned (.string (headText c a l)) ∧ Fr [] w w' := by
  have hB0 : Blk (w.alloc (.cells #[.int .i64 (c : Int), .int .i64 (a : Int), .int .i64 (l : Int)] 45)) w.heap.size [.int .i64 (c : Int), .int .i64 (a : Int), .int .i64 (l : Int)] := Blk.new _ _ _
  have hF0 : Fr [] w (w.alloc (.cells #[.int .i64 (c : Int), .int .i64 (a : Int), .int .i64 (l : Int)] 45)) := (Fr.refl _ _).alloc _
  go_enter Try.func30, Try.ntmps30
  go_wp2
  generalize hb : w.heap.size = b at *
  have c0 := hB0.cell 0
  have c1 := hB0.cell 1
  have c2 := hB0.cell 2
  simp only [List.getElem?_cons_zero, List.getElem?_cons_succ] at c0 c1 c2
  generalize hW : w.alloc (.cells #[.int .i64 (c : Int), .int .i64 (a : Int), .int .i64 (l : Int)] 45) = W at *
  have s8 : ∀ n, (str (be 8 n)).size = 8 := fun n => by rw [str_size, be, List.length_reverse, le_len]
  have s1 : (str [UInt8.ofNat a]).size = 1 := by rw [str_size]; rfl
  have s4 : (⟨#[82, 69, 68, 79]⟩ : ByteArray).size = 4 := rfl
  refine wp_region_rel 14 (Ks := [.const (.pointer (some ⟨b, 0, none⟩)), .const (.int .i64 (c : Int)), .const (.string (str (be 8 c))), .const (.string (⟨#[82, 69, 68, 79]⟩ ++ str (be 8 c))),
    .const (.pointer (some ⟨b, 1, none⟩)), .const (.int .i64 (a : Int)), .const (.int .u8 (a : Int)), .var (Byte1 a), .const (.string (str [UInt8.ofNat a])), .const (.string (⟨#[82, 69, 68, 79]⟩ ++ str (be 8 c) ++ str [UInt8.ofNat a])),
    .const (.pointer (some ⟨b, 2, none⟩)), .const (.int .i64 (l : Int)), .const (.string (str (be 8 l))), .const (.string (⟨#[82, 69, 68, 79]⟩ ++ str (be 8 c) ++ str [UInt8.ofNat a] ++ str (be 8 l)))]) (by kernel_rfl) (by kernel_rfl) ?_
  refine r_const rfl (by intro w' hF _; go_simp; try rfl) ?_
  go_frame
  refine r_const rfl (by intro w' hF _; have := (hB0.fr hF (by simp)).cell 0; go_simp; try rfl) ?_
  go_frame
  refine r_call (f := 43) (args := #[.int .i64 (c : Int)]) rfl (by intro w'; go_simp; try rfl) (fun w' _ _ => eight_c c w' hc) ?_
  go_frame
  refine r_const rfl (by intro w' hF _; go_simp; try rfl) ?_
  go_frame
  refine r_const rfl (by intro w' hF _; go_simp; try rfl) ?_
  go_frame
  refine r_const rfl (by intro w' hF _; have := (hB0.fr hF (by simp)).cell 1; go_simp; try rfl) ?_
  go_frame
  refine r_const rfl (by intro w' hF _; go_simp; exact IntKind.wrap_u8 _ |>.trans (by omega)) ?_
  go_frame
  refine r_var _ rfl (byte1_stable a) (by intro w' hF _; go_simp; rw [Upon.value]; exact ⟨⟨_, rfl, Blk.new _ _ _⟩, (Fr.refl _ _).alloc _⟩) ?_
  intro u
  go_frame
  refine r_const rfl (by
    intro w' hF hx
    obtain ⟨bb, rfl, hb1⟩ : Byte1 a u w' := hx _ (List.mem_cons_self ..) (by simp [waitsOn, Region.binds])
    have hcv := conv_bytes (off := 0) (len := 1) (cap := 1) hb1 (str [UInt8.ofNat a]) s1 (by
      intro j hj
      obtain rfl : j = 0 := by omega
      simp [bytesOf, str, UInt8.toNat_ofNat, Nat.mod_eq_of_lt ha])
    go_simp) ?_
  go_frame
  refine r_const rfl (by intro w' hF _; go_simp; try rfl) ?_
  go_frame
  refine r_const rfl (by intro w' hF _; go_simp; try rfl) ?_
  go_frame
  refine r_const rfl (by intro w' hF _; have := (hB0.fr hF (by simp)).cell 2; go_simp; try rfl) ?_
  go_frame
  refine r_call (f := 43) (args := #[.int .i64 (l : Int)]) rfl (by intro w'; go_simp; try rfl) (fun w' _ _ => eight_c l w' hl) ?_
  go_frame
  refine r_const rfl (by intro w' hF _; go_simp; try rfl) ?_
  go_frame
  refine r_nil ?_
  intro w1 hF1 _
  have hr := repeat_c (str (headPart c a l)) 3 w1 (by omega) (by rw [str_size, headPart_len]; omega)
  rw [str_data, three] at hr
  have hs63 : (str (headPart c a l ++ headPart c a l ++ headPart c a l)).size = 63 := by rw [str_size]; simp [headPart_len]
  have hfin : str (headPart c a l ++ headPart c a l ++ headPart c a l) ++ (⟨#[0]⟩ : ByteArray) = headText c a l := by
    rw [show (⟨#[0]⟩ : ByteArray) = str [0] from rfl, str_append]; rfl
  generalize str (headPart c a l ++ headPart c a l ++ headPart c a l) = T at hr hs63 hfin
  have HF := Lib.hid hfin
  clear hfin
  rw [head_str]
  go_wp2_with (go_at_call 37; refine hr.mono ?_; rintro e w2 ⟨rfl, hF2⟩)
  go_ret
  exact ⟨by rw [HF.out]; rfl, (hF0.trans hF1).trans hF2⟩

end Go.Proofs.Ytiojkakmlbfiiaa
