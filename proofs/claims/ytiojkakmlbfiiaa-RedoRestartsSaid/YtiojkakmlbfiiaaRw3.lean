/- The program's log: its object raw; first, mark. -/
import Derived.Test.YtiojkakmlbfiiaaRw2
namespace Go.Proofs.Ytiojkakmlbfiiaa
open Go.RowKit
open Sp

/-- A log's cells, whatever they say. -/
def rawLog (bd sz count area long : Nat) (tail : ByteArray) (v : Value) (many waits : Nat) : List Value :=
  [.pointer (some ⟨bd, 0, none⟩), .int .i64 ((64 * sz : Nat) : Int), .int .i64 (count : Int), .int .i64 (area : Int), .int .i64 (long : Int), .string tail, v, .int .i64 (many : Int), .int .i64 (waits : Int)]

section
variable {w : World} {bl bd sz count area long : Nat} {tail : ByteArray} {v : Value} {many waits : Nat}
theorem raw_cells (h : Blk w bl (rawLog bd sz count area long tail v many waits)) :
    w.cell? ⟨bl, 0, none⟩ = some (.pointer (some ⟨bd, 0, none⟩)) ∧ w.cell? ⟨bl, 1, none⟩ = some (.int .i64 (64 * (sz : Int))) ∧ w.cell? ⟨bl, 2, none⟩ = some (.int .i64 (count : Int)) ∧
    w.cell? ⟨bl, 3, none⟩ = some (.int .i64 (area : Int)) ∧ w.cell? ⟨bl, 4, none⟩ = some (.int .i64 (long : Int)) ∧ w.cell? ⟨bl, 5, none⟩ = some (.string tail) ∧ w.cell? ⟨bl, 6, none⟩ = some v ∧
    w.cell? ⟨bl, 7, none⟩ = some (.int .i64 (many : Int)) ∧ w.cell? ⟨bl, 8, none⟩ = some (.int .i64 (waits : Int)) :=
  ⟨h.cell 0, by rw [h.cell 1]; simp [rawLog], h.cell 2, h.cell 3, h.cell 4, h.cell 5, h.cell 6, h.cell 7, h.cell 8⟩

theorem first_c (h : Blk w bl (rawLog bd sz count area long tail v many waits)) (a : Nat) (ha : a ≤ 1) (hs : sz ≤ 1023) :
    Calls Try.prog 33 #[.pointer (some ⟨bl, 0, none⟩), .int .i64 (a : Int)] w fun e w' => e = .returned (.int .i64 ((2 + a * sz : Nat) : Int)) ∧ w = w' := by
  have c1 := (raw_cells h).2.1
  clear h
  rcases (show a = 0 ∨ a = 1 by omega) with rfl | rfl
  · go_enter Try.func33, Try.ntmps33
    go_wp2
    go_ret
    exact ⟨ret_int (by simp), rfl⟩
  · have hq : ((1 : Int) * (64 * (sz : Int))).tdiv 64 = (sz : Int) := by rw [Int.tdiv_eq_ediv_of_nonneg (by omega)]; omega
    have hb : (1 : Int) * (64 * (sz : Int)) ≤ 65472 := by omega
    have hb0 : 0 ≤ (1 : Int) * (64 * (sz : Int)) := by omega
    go_enter Try.func33, Try.ntmps33
    go_wp2
    go_ret
    exact ⟨ret_int (by simp), rfl⟩

theorem room_c (h : Blk w bl (rawLog bd sz count area long tail v many waits)) (hs : sz ≤ 1023) (hl : long ≤ 64 * sz) (hw : waits ≤ 64 * sz) :
    Calls Try.prog 9 #[.pointer (some ⟨bl, 0, none⟩)] w fun e w' => e = .returned (.int .i64 (((64 * sz : Nat) : Int) - (long : Int) - (waits : Int))) ∧ Fr [] w w' := by
  obtain ⟨c0, c1, c2, c3, c4, c5, c6, c7, c8⟩ := raw_cells h
  clear h
  go_enter Try.func9, Try.ntmps9
  go_wp2
  go_quiet (fail)
  go_wp2
  go_ret
  exact ⟨ret_int (by simp), (Fr.refl _ _).drewN _⟩

theorem synced_c (h : Blk w bl (rawLog bd sz count area long tail v many waits)) :
    Calls Try.prog 12 #[.pointer (some ⟨bl, 0, none⟩)] w fun e w' => e = .returned (.int .i64 (many : Int)) ∧ w = w' := by
  obtain ⟨c0, c1, c2, c3, c4, c5, c6, c7, c8⟩ := raw_cells h
  clear h
  go_enter Try.func12, Try.ntmps12
  go_wp2
  go_ret
  exact ⟨rfl, rfl⟩

theorem raw_head {c' a' l' : Nat} (h : Blk w bl (rawLog bd sz count area long tail v many waits)) :
    Blk (((w.setCell ⟨bl, 2, none⟩ (.int .i64 (c' : Int))).setCell ⟨bl, 3, none⟩ (.int .i64 (a' : Int))).setCell ⟨bl, 4, none⟩ (.int .i64 (l' : Int))) bl (rawLog bd sz c' a' l' tail v many waits) :=
  ((h.set 2 _).set 3 _).set 4 _

set_option maxHeartbeats 1000000 in
set_option maxRecDepth 100000 in
theorem mark_c {bo bm : Nat} {d : Dv} (hD : DevAt w bd bo bm d) (h : Blk w bl (rawLog bd sz count area long tail v many waits)) (h1 : bl ≠ bd) (h2 : bl ≠ bo) (h3 : bl ≠ bm) (c a l : Nat) (hc : c ≤ 9223372036854775807) (ha : a < 256) (hl : l ≤ 9223372036854775807) :
    Calls Try.prog 17 #[.pointer (some ⟨bl, 0, none⟩), .agg #[.int .i64 (c : Int), .int .i64 (a : Int), .int .i64 (l : Int)]] w fun e w' =>
      e = .returned (.int .i64 (d.wflush (c % 2) (headText c a l)).2) ∧ DevAt w' bd bo bm (d.wflush (c % 2) (headText c a l)).1 ∧ Fr [bd, bo, bm, bl] w w' ∧
      Blk w' bl (if (d.wflush (c % 2) (headText c a l)).2 = 0 then rawLog bd sz c a l tail v many waits else rawLog bd sz count area long tail v many waits) := by
  have hB0 : Blk (w.alloc (.cells #[.int .i64 (c : Int), .int .i64 (a : Int), .int .i64 (l : Int)] 45)) w.heap.size [.int .i64 (c : Int), .int .i64 (a : Int), .int .i64 (l : Int)] := Blk.new _ _ _
  have hF0 : Fr [] w (w.alloc (.cells #[.int .i64 (c : Int), .int .i64 (a : Int), .int .i64 (l : Int)] 45)) := (Fr.refl _ _).alloc _
  have hD0 := hD.fr hF0 (by simp) (by simp) (by simp)
  have hL0 := h.fr hF0 (by simp)
  have hlt := h.lt
  have hx1 := hD.blk.lt
  have hx2 := hD.byt.lt
  have hx3 := hD.map.lt
  have hcm : (c : Int).tmod 2 = ((c % 2 : Nat) : Int) := by rw [Int.tmod_eq_emod_of_nonneg (by omega)]; omega
  generalize hT : headText c a l = T
  have htx := fun W' => head_text_c c a l W' hc ha hl
  rw [hT] at htx
  generalize hW : w.alloc (.cells #[.int .i64 (c : Int), .int .i64 (a : Int), .int .i64 (l : Int)] 45) = W at *
  generalize hb : w.heap.size = b at *
  have k0 := hB0.cell 0
  have k1 := hB0.cell 1
  have k2 := hB0.cell 2
  simp only [List.getElem?_cons_zero, List.getElem?_cons_succ] at k0 k1 k2
  have l0 := (raw_cells hL0).1
  have hm2 : c % 2 < 2 := by omega
  have hwr := fun W' (hF : Fr [] W W') => write_c (hD0.fr hF (by simp) (by simp) (by simp)) ((c % 2 : Nat) : Int) T
  unfold Dv.wflush
  have hm1 : ((c % 2 : Nat) : Int) ≤ 1 := by omega
  have hm0 : 0 ≤ ((c % 2 : Nat) : Int) := by omega
  generalize c % 2 = m at *
  have HL0 := Lib.hid hL0
  have HF0 := Lib.hid hF0
  have HB0 := Lib.hid hB0
  have HT := Lib.hid hT
  have HW := Lib.hid hW
  have HBB := Lib.hid hb
  have HCM := Lib.hid hcm
  have HX : Hid (bl < b ∧ bd < b ∧ bo < b ∧ bm < b) := Lib.hid ⟨hlt, hx1, hx2, hx3⟩
  clear h hD hD0 hB0 hL0 hF0 hT hW hb hcm hlt hx1 hx2 hx3 k0 k1 k2 l0 hm2
  by_cases hw0 : (d.write ((m : Nat) : Int) T).2 = 0
  · rw [if_pos hw0]
    rw [hw0] at hwr
    clear hw0
    generalize (d.write ((m : Nat) : Int) T).1 = d1 at *
    by_cases hf0 : d1.flush.2 = 0
    · rw [if_pos hf0, hf0]
      go_enter Try.func17, Try.ntmps17
      go_wp2
      rw [HW.out, HBB.out]
      refine wp_region_tail 9 (by kernel_rfl) (by kernel_rfl) ?_
      refine q_val rfl (by intro w' _; go_simp; rfl) ?_
      go_frame
      refine q_val rfl (by intro w' _; go_simp; rfl) ?_
      go_frame
      refine q_val rfl (by intro w' _; go_simp; rfl) ?_
      go_frame
      refine q_val (v := .pointer (some ⟨bd, 0, none⟩)) rfl (by intro w' hF; have := (raw_cells (HL0.out.fr hF (by simp))).1; go_simp) ?_
      go_frame
      refine q_val rfl (by intro w' _; go_simp; rfl) ?_
      go_frame
      refine q_val (v := .int .i64 (c : Int)) rfl (by intro w' hF; have := (HB0.out.fr hF (by simp)).cell 0; go_simp) ?_
      go_frame
      refine q_val (v := .int .i64 (m : Int)) rfl (by intro w' hF; go_simp; exact HCM.out) ?_
      go_frame
      refine q_val (v := .agg #[.int .i64 (c : Int), .int .i64 (a : Int), .int .i64 (l : Int)]) rfl (by intro w' hF; have k0 := (HB0.out.fr hF (by simp)).cell 0; have k1 := (HB0.out.fr hF (by simp)).cell 1; have k2 := (HB0.out.fr hF (by simp)).cell 2; go_simp) ?_
      go_frame
      refine q_call (f := 30) (args := #[.agg #[.int .i64 (c : Int), .int .i64 (a : Int), .int .i64 (l : Int)]]) rfl (by intro w'; go_simp; try rfl) (fun w' _ => htx w') ?_
      go_frame
      refine wpQuiet_nil ?_
      intro w1 hF1
      go_wp2_with (first
        | (go_at_call 31; refine (hwr w1 hF1).mono ?_; rintro e w2 ⟨rfl, hD2, hF2⟩; have hf := flush_c hD2; rw [hf0] at hf; have l0 := (raw_cells ((HL0.out.fr hF1 (by simp)).fr hF2 (by simp [h1, h3]))).1; clear hwr htx)
        | (go_at_call 32; refine hf.mono ?_; rintro e w3 ⟨rfl, hD3, hF3⟩; clear hf
           have HL3 := Lib.hid (((HL0.out.fr hF1 (by simp)).fr hF2 (by simp [h1, h3])).fr hF3 (by simp [h1, h2, h3]))
           have l1 := (raw_cells HL3.out).2.2.1
           have l2 := (raw_cells HL3.out).2.2.2.1
           have l3 := (raw_cells HL3.out).2.2.2.2.1
           have f2 := HL3.out.free 2
           have f3 := HL3.out.free 3
           have f4 := HL3.out.free 4
           have HB3 := Lib.hid ((((HB0.out.fr hF1 (by simp)).fr hF2 (by have := HX.out; simp; omega)).fr hF3 (by have := HX.out; simp; omega)))
           have k0 := HB3.out.cell 0
           have k1 := HB3.out.cell 1
           have k2 := HB3.out.cell 2
           simp only [List.getElem?_cons_zero, List.getElem?_cons_succ] at k0 k1 k2))
      go_ret
      refine ⟨rfl, ?_, ?_, raw_head HL3.out⟩
      · exact hD3.fr (((((Fr.refl [bl] w3).setCell (Or.inl (by simp)) _).setCell (Or.inl (by simp)) _).setCell (Or.inl (by simp)) _)) (by simp [Ne.symm h1]) (by simp [Ne.symm h2]) (by simp [Ne.symm h3])
      · have hA : Fr [bd, bo, bm, bl] w w3 := (((HF0.out.any.trans hF1.any).trans (hF2.mono (by simp)))).trans (hF3.mono (by simp))
        exact ((hA.setCell (Or.inl (by simp)) _).setCell (Or.inl (by simp)) _).setCell (Or.inl (by simp)) _
    · rw [if_neg hf0]
      obtain ⟨e1, he1⟩ : ∃ e1, d1.flush.2 = e1 := ⟨_, rfl⟩
      rw [he1] at hf0 ⊢
      have hne : (e1 == 0) = false := by simpa using hf0
      have HE := Lib.hid he1
      clear he1
      go_enter Try.func17, Try.ntmps17
      go_wp2
      rw [HW.out, HBB.out]
      refine wp_region_tail 9 (by kernel_rfl) (by kernel_rfl) ?_
      refine q_val rfl (by intro w' _; go_simp; rfl) ?_
      go_frame
      refine q_val rfl (by intro w' _; go_simp; rfl) ?_
      go_frame
      refine q_val rfl (by intro w' _; go_simp; rfl) ?_
      go_frame
      refine q_val (v := .pointer (some ⟨bd, 0, none⟩)) rfl (by intro w' hF; have := (raw_cells (HL0.out.fr hF (by simp))).1; go_simp) ?_
      go_frame
      refine q_val rfl (by intro w' _; go_simp; rfl) ?_
      go_frame
      refine q_val (v := .int .i64 (c : Int)) rfl (by intro w' hF; have := (HB0.out.fr hF (by simp)).cell 0; go_simp) ?_
      go_frame
      refine q_val (v := .int .i64 (m : Int)) rfl (by intro w' hF; go_simp; exact HCM.out) ?_
      go_frame
      refine q_val (v := .agg #[.int .i64 (c : Int), .int .i64 (a : Int), .int .i64 (l : Int)]) rfl (by intro w' hF; have k0 := (HB0.out.fr hF (by simp)).cell 0; have k1 := (HB0.out.fr hF (by simp)).cell 1; have k2 := (HB0.out.fr hF (by simp)).cell 2; go_simp) ?_
      go_frame
      refine q_call (f := 30) (args := #[.agg #[.int .i64 (c : Int), .int .i64 (a : Int), .int .i64 (l : Int)]]) rfl (by intro w'; go_simp; try rfl) (fun w' _ => htx w') ?_
      go_frame
      refine wpQuiet_nil ?_
      intro w1 hF1
      go_wp2_with (first
        | (go_at_call 31; refine (hwr w1 hF1).mono ?_; rintro e w2 ⟨rfl, hD2, hF2⟩; have hf := flush_c hD2; rw [HE.out] at hf; have l0 := (raw_cells ((HL0.out.fr hF1 (by simp)).fr hF2 (by simp [h1, h3]))).1; clear hwr htx)
        | (go_at_call 32; refine hf.mono ?_; rintro e w3 ⟨rfl, hD3, hF3⟩; clear hf))
      go_ret
      exact ⟨rfl, hD3, (((HF0.out.any.trans hF1.any).trans (hF2.mono (by simp)))).trans (hF3.mono (by simp)), ((HL0.out.fr hF1 (by simp)).fr hF2 (by simp [h1, h3])).fr hF3 (by simp [h1, h2, h3])⟩
  · rw [if_neg hw0, if_neg hw0]
    obtain ⟨e1, he1⟩ : ∃ e1, (d.write ((m : Nat) : Int) T).2 = e1 := ⟨_, rfl⟩
    rw [he1] at hw0 hwr ⊢
    have hne : (e1 == 0) = false := by simpa using hw0
    clear he1
    go_enter Try.func17, Try.ntmps17
    go_wp2
    rw [HW.out, HBB.out]
    refine wp_region_tail 9 (by kernel_rfl) (by kernel_rfl) ?_
    refine q_val rfl (by intro w' _; go_simp; rfl) ?_
    go_frame
    refine q_val rfl (by intro w' _; go_simp; rfl) ?_
    go_frame
    refine q_val rfl (by intro w' _; go_simp; rfl) ?_
    go_frame
    refine q_val (v := .pointer (some ⟨bd, 0, none⟩)) rfl (by intro w' hF; have := (raw_cells (HL0.out.fr hF (by simp))).1; go_simp) ?_
    go_frame
    refine q_val rfl (by intro w' _; go_simp; rfl) ?_
    go_frame
    refine q_val (v := .int .i64 (c : Int)) rfl (by intro w' hF; have := (HB0.out.fr hF (by simp)).cell 0; go_simp) ?_
    go_frame
    refine q_val (v := .int .i64 (m : Int)) rfl (by intro w' hF; go_simp; exact HCM.out) ?_
    go_frame
    refine q_val (v := .agg #[.int .i64 (c : Int), .int .i64 (a : Int), .int .i64 (l : Int)]) rfl (by intro w' hF; have k0 := (HB0.out.fr hF (by simp)).cell 0; have k1 := (HB0.out.fr hF (by simp)).cell 1; have k2 := (HB0.out.fr hF (by simp)).cell 2; go_simp) ?_
    go_frame
    refine q_call (f := 30) (args := #[.agg #[.int .i64 (c : Int), .int .i64 (a : Int), .int .i64 (l : Int)]]) rfl (by intro w'; go_simp; try rfl) (fun w' _ => htx w') ?_
    go_frame
    refine wpQuiet_nil ?_
    intro w1 hF1
    go_wp2_with (go_at_call 31; refine (hwr w1 hF1).mono ?_; rintro e w2 ⟨rfl, hD2, hF2⟩; clear hwr htx)
    go_ret
    exact ⟨rfl, hD2, (HF0.out.any.trans hF1.any).trans (hF2.mono (by simp)), ((HL0.out.fr hF1 (by simp)).fr hF2 (by simp [h1, h3]))⟩
end

end Go.Proofs.Ytiojkakmlbfiiaa
