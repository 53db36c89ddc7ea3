/- The program's log: read. -/
import Derived.Test.YtiojkakmlbfiiaaGreatM06
import Derived.Laws.ResultCell
/- The program's log: read. -/
namespace Go.Proofs.YtiojkakmlbfiiaaGreat
open Go.RowKit
open Sp
namespace Sp
/-- What the reading of a head answers. -/
def Dv.readHead (d : Dv) (sz : Nat) (i : Int) : (Nat × Nat × Nat) × Int := if d.wrong i = 0 then ((parseHead (64 * sz) (d.text i.toNat)).getD (0, 0, 0), 0) else ((0, 0, 0), d.wrong i)
end Sp

def headAgg (h : Nat × Nat × Nat) : Value := .agg #[.int .i64 (h.1 : Int), .int .i64 (h.2.1 : Int), .int .i64 (h.2.2 : Int)]

def Zeros3 (B : Nat) (u : Value) (w : World) : Prop := ∃ b, u = .pointer (some ⟨b, 0, none⟩) ∧ B ≤ b ∧ Blk w b [.int .i64 0, .int .i64 0, .int .i64 0]
theorem zeros3_stable (B : Nat) : Stable (Zeros3 B) := fun _ _ _ hF ⟨b, h1, h2, h3⟩ => ⟨b, h1, h2, h3.fr hF (by simp)⟩

theorem q_valw {P : Program} {ops : Array Oper} {Q : Act → Prop} {a : Act} {o : Oper} {rest : List Oper} {w0 : World} {v : Value} (hg : Region.wanted o (yielded ops a.tmps) = true) (h : ∀ w', Fr [] w0 w' → (execOp a.eval o).run P w' = .ok (.value v) w') (hK : wpQuiet P ops (fun w' => Fr [] w0 w') Q rest (a.put o.dst v)) :
    wpQuiet P ops (fun w' => Fr [] w0 w') Q (o :: rest) a := by
  unfold wpQuiet
  rw [if_pos hg]
  exact ⟨v, fun w' hw' => by unfold Oper.quietAt; rw [h w' hw']; exact ⟨rfl, rfl⟩, hK⟩
theorem q_callw {P : Program} {ops : Array Oper} {Q : Act → Prop} {a : Act} {o : Oper} {rest : List Oper} {w0 : World} {v : Value} {f : FuncId} {args : Array Value} (hg : Region.wanted o (yielded ops a.tmps) = true) (h : ∀ w', (execOp a.eval o).run P w' = .ok (.enter f args) w')
    (hc : ∀ w', Fr [] w0 w' → Calls P f args w' fun e w'' => e = .returned v ∧ Fr [] w' w'') (hK : wpQuiet P ops (fun w' => Fr [] w0 w') Q rest (a.put o.dst v)) :
    wpQuiet P ops (fun w' => Fr [] w0 w') Q (o :: rest) a := by
  unfold wpQuiet
  rw [if_pos hg]
  exact ⟨v, fun w' hw' => by
    unfold Oper.quietAt; rw [h w']
    exact ⟨rfl, (hc w' hw').mono fun _ _ ⟨h1, h2⟩ => ⟨h1, hw'.trans h2⟩⟩, hK⟩

theorem num_range (l : List UInt8) : -9223372036854775808 ≤ num l ∧ num l ≤ 9223372036854775807 := by
  rcases List.eq_nil_or_concat l with rfl | ⟨l', c, rfl⟩
  · simp [num]
  · rw [List.concat_eq_append, num_snoc]; exact wrap64_range _

section
variable {w : World} {bl bd bo bm sz count area long : Nat} {tail : ByteArray} {v : Value} {many waits : Nat} {d : Dv}

theorem text_size (hD : d.Wf) (i : Nat) (hi : i < d.on.length) : (d.text i).size = 64 := by
  unfold Dv.text
  have h1 : d.nw[i]? = some (d.nw.getD i none) := by
    have : i < d.nw.length := by rw [hD.len]; exact hi
    rw [List.getD_eq_getElem?_getD, List.getElem?_eq_getElem this]; rfl
  cases h : d.nw.getD i none with
  | none =>
    have h2 : d.on[i]? = some (d.on.getD i ByteArray.empty) := by rw [List.getD_eq_getElem?_getD, List.getElem?_eq_getElem hi]; rfl
    simp only [Option.getD_none]
    exact hD.on64 _ (List.mem_of_getElem? h2)
  | some s =>
    rw [h] at h1
    simp only [Option.getD_some]
    exact hD.nw64 _ (List.mem_of_getElem? h1)

set_option maxHeartbeats 8000000 in
set_option maxRecDepth 100000 in
theorem rread_c (hD : DevAt w bd bo bm d) (h : Blk w bl (rawLog bd sz count area long tail v many waits)) (hs : sz ≤ 1023) (i : Int) :
    Calls Tryz.prog 33 #[.pointer (some ⟨bl, 0, none⟩), .int .i64 i] w fun e w' =>
      e = .returned (.tuple #[headAgg (d.readHead sz i).1, .int .i64 (d.readHead sz i).2]) ∧ Fr [] w w' := by
  have hB0 : Blk (w.alloc (.cells #[.int .i64 0, .int .i64 0, .int .i64 0] 69)) w.heap.size [.int .i64 0, .int .i64 0, .int .i64 0] := Blk.new _ _ _
  have hF0 : Fr [] w (w.alloc (.cells #[.int .i64 0, .int .i64 0, .int .i64 0] 69)) := (Fr.refl _ _).alloc _
  have hr := read_c (hD.fr hF0 (by simp) (by simp) (by simp)) i
  have hL0 := h.fr hF0 (by simp)
  by_cases h0 : d.wrong i = 0
  · have hq : d.read i = (d.text i.toNat, 0) := by simp [Dv.read, h0]
    have hq2 : d.readHead sz i = ((parseHead (64 * sz) (d.text i.toNat)).getD (0, 0, 0), 0) := by simp [Dv.readHead, h0]
    obtain ⟨_, k, rfl, hk⟩ := wrong_zero h0
    have hts := text_size hD.wf k hk
    rw [hq2]
    rw [hq] at hr
    simp only [Int.toNat_natCast] at hr ⊢
    clear hq hq2 h0 hD
    generalize d.text k = s at *
    have hnc := fun W' => number_c (s.extract 4 12) W' (by rw [ByteArray.size_extract]; omega)
    have hnl := fun W' => number_c (s.extract 13 21) W' (by rw [ByteArray.size_extract]; omega)
    have e1 : (s.extract 4 12).data.toList = (s.data.toList.drop 4).take 8 := by
      simp only [ByteArray.data_extract, Array.toList_extract, List.extract_eq_take_drop]
    have e2 : (s.extract 13 21).data.toList = (s.data.toList.drop 13).take 8 := by
      simp only [ByteArray.data_extract, Array.toList_extract, List.extract_eq_take_drop]
    have hix : ∀ w, (Instr.index 9 (.string s) (.int .i64 12)).run Tryz.prog w = _ := run_idx s 12 (by omega)
    have hab : (s.data.toList.getD 12 0).toNat < 256 := (s.data.toList.getD 12 0).toNat_lt
    have hrc := num_range ((s.data.toList.drop 4).take 8)
    have hrl := num_range ((s.data.toList.drop 13).take 8)
    have hp : parseHead (64 * sz) s = (let c := num ((s.data.toList.drop 4).take 8); let a := (s.data.toList.getD 12 0).toNat; let l := num ((s.data.toList.drop 13).take 8);
      if c < 1 ∨ 4611686018427387904 < c ∨ 1 < a ∨ l < 0 ∨ ((64 * sz : Nat) : Int) < l then none else if s = headText c.toNat a l.toNat then some (c.toNat, a, l.toNat) else none) := rfl
    rw [e1] at hnc
    rw [e2] at hnl
    generalize num ((s.data.toList.drop 4).take 8) = c at *
    generalize num ((s.data.toList.drop 13).take 8) = l at *
    generalize (s.data.toList.getD 12 0).toNat = a at *
    simp only at hp
    clear e1 e2
    have HP := Lib.hid hp
    clear hp
    have l0 := (raw_cells hL0).1
    obtain ⟨W, hW⟩ : ∃ W, w.alloc (.cells #[.int .i64 0, .int .i64 0, .int .i64 0] 69) = W := ⟨_, rfl⟩
    obtain ⟨b, hb⟩ : ∃ b, w.heap.size = b := ⟨_, rfl⟩
    have HL0 : Hid (Blk W bl (rawLog bd sz count area long tail v many waits)) := Lib.hid (hW ▸ hL0)
    have HF0 : Hid (Fr [] w W) := Lib.hid (hW ▸ hF0)
    have HB0 : Hid (Blk W b [.int .i64 0, .int .i64 0, .int .i64 0]) := Lib.hid (hW ▸ hb ▸ hB0)
    have HB := Lib.hid hb
    have HW := Lib.hid hW
    have HWs : Hid (b < W.heap.size) := Lib.hid HB0.out.lt
    clear hb hW hL0 hF0 hB0 h
    obtain ⟨X, hX⟩ : ∃ X, (parseHead (64 * sz) s).getD (0, 0, 0) = X := ⟨_, rfl⟩
    rw [hX]
    have HX := Lib.hid hX
    clear hX
    go_enter Tryz.func33, Tryz.ntmps33
    go_wp2_with (go_at_call 22; refine hr.mono ?_; rintro e w' ⟨rfl, rfl⟩; clear hr)
    rw [HB.out, HW.out]
    clear l0
    refine wp_region_rel 11 (Ks := [.const (.string s), .const (.string (s.extract 4 12)), .const (.int .i64 c), .const (.string s), .const (.int .u8 (a : Int)), .const (.int .i64 (a : Int)), .const (.string s), .const (.string (s.extract 13 21)), .const (.int .i64 l),
      .const (.agg #[.int .i64 c, .int .i64 (a : Int), .int .i64 l]), .var (Zeros3 W.heap.size)]) (by kernel_rfl) (by kernel_rfl) ?_
    refine r_const rfl (by intro w' hF _; go_simp; try rfl) ?_
    go_frame
    refine r_const rfl (by intro w' hF _; go_simp; try rfl) ?_
    go_frame
    refine r_call (f := 62) (args := #[.string (s.extract 4 12)]) rfl (by intro w'; go_simp; try rfl) (fun w' _ _ => hnc w') ?_
    go_frame
    refine r_const rfl (by intro w' hF _; go_simp; try rfl) ?_
    go_frame
    refine r_const rfl (by intro w' hF _; go_simp; try rfl) ?_
    go_frame
    refine r_const rfl (by intro w' hF _; go_simp; exact IntKind.wrap_i64 _ |>.trans (by omega)) ?_
    go_frame
    refine r_const rfl (by intro w' hF _; go_simp; try rfl) ?_
    go_frame
    refine r_const rfl (by intro w' hF _; go_simp; try rfl) ?_
    go_frame
    refine r_call (f := 62) (args := #[.string (s.extract 13 21)]) rfl (by intro w'; go_simp; try rfl) (fun w' _ _ => hnl w') ?_
    go_frame
    refine r_const rfl (by intro w' hF _; go_simp; try rfl) ?_
    go_frame
    refine r_var _ rfl (zeros3_stable _) (by intro w' hF _; go_simp; rw [Upon.value]; exact ⟨⟨_, rfl, hF.size, Blk.new _ _ _⟩, (Fr.refl _ _).alloc _⟩) ?_
    intro u
    go_frame
    refine r_nil ?_
    intro w1 hF1 hx
    obtain ⟨g, rfl, hgW, hg⟩ : Zeros3 W.heap.size u w1 := hx _ (List.mem_cons_self ..)
    clear hx hnc hnl hix
    have f0 := hg.free 0
    have f1 := hg.free 1
    have f2 := hg.free 2
    have z0 := hg.cell 0
    have z1 := hg.cell 1
    have z2 := hg.cell 2
    simp only [List.getElem?_cons_zero, List.getElem?_cons_succ] at z0 z1 z2
    go_wp2
    have HG : Hid (Blk (((w1.setCell ⟨g, 0, none⟩ (.int .i64 c)).setCell ⟨g, 1, none⟩ (.int .i64 (a : Int))).setCell ⟨g, 2, none⟩ (.int .i64 l)) g [.int .i64 c, .int .i64 (a : Int), .int .i64 l]) := Lib.hid (((hg.set 0 _).set 1 _).set 2 _)
    have HF2 : Hid (Fr [] W (((w1.setCell ⟨g, 0, none⟩ (.int .i64 c)).setCell ⟨g, 1, none⟩ (.int .i64 (a : Int))).setCell ⟨g, 2, none⟩ (.int .i64 l))) := Lib.hid (((hF1.setCell (Or.inr hgW) _).setCell (Or.inr hgW) _).setCell (Or.inr hgW) _)
    generalize (((w1.setCell ⟨g, 0, none⟩ (.int .i64 c)).setCell ⟨g, 1, none⟩ (.int .i64 (a : Int))).setCell ⟨g, 2, none⟩ (.int .i64 l)) = W2 at HG HF2 ⊢
    clear hg hF1 f0 f1 f2 z0 z1 z2
    have z0 := HG.out.cell 0
    have z1 := HG.out.cell 1
    have z2 := HG.out.cell 2
    simp only [List.getElem?_cons_zero, List.getElem?_cons_succ] at z0 z1 z2
    have HB2 := Lib.hid (HB0.out.fr HF2.out (by simp))
    have b0 := HB2.out.cell 0
    have b1 := HB2.out.cell 1
    have b2 := HB2.out.cell 2
    simp only [List.getElem?_cons_zero, List.getElem?_cons_succ] at b0 b1 b2
    have f0 := HB2.out.free 0
    have f1 := HB2.out.free 1
    have f2 := HB2.out.free 2
    have l1 := (raw_cells (HL0.out.fr HF2.out (by simp))).2.1
    by_cases h1 : c < 1
    · go_quiet (fail)
      go_wp2
      (try simp only [Exit.inBlock, Exit.then])
      refine bodyPost_ret (v := .tuple #[headAgg (0, 0, 0), .int .i64 0]) (by rw [results_cell_tmp rfl]; go_simp; try rfl) rfl ⟨?_, ?_⟩
      · rw [← HX.out, show parseHead (64 * sz) s = none by rw [HP.out, if_pos (Or.inl h1)]]; rfl
      have hbw : w.heap.size ≤ b := by rw [HB.out]; exact Nat.le_refl _
      exact ((((HF0.out.trans HF2.out).drewN _).setCell (Or.inr hbw) _).setCell (Or.inr hbw) _).setCell (Or.inr hbw) _
    by_cases h2 : 4611686018427387904 < c
    · go_quiet (fail)
      go_wp2
      (try simp only [Exit.inBlock, Exit.then])
      refine bodyPost_ret (v := .tuple #[headAgg (0, 0, 0), .int .i64 0]) (by rw [results_cell_tmp rfl]; go_simp; try rfl) rfl ⟨?_, ?_⟩
      · rw [← HX.out, show parseHead (64 * sz) s = none by rw [HP.out, if_pos (Or.inr (Or.inl h2))]]; rfl
      have hbw : w.heap.size ≤ b := by rw [HB.out]; exact Nat.le_refl _
      exact ((((HF0.out.trans HF2.out).drewN _).setCell (Or.inr hbw) _).setCell (Or.inr hbw) _).setCell (Or.inr hbw) _
    have h1' : (1 : Int) ≤ c := by omega
    have h2' : c ≤ 4611686018427387904 := by omega
    clear h1 h2
    by_cases h3 : 1 < a
    · have h3' : (1 : Int) < (a : Int) := by omega
      go_quiet (fail)
      go_wp2
      (try simp only [Exit.inBlock, Exit.then])
      refine bodyPost_ret (v := .tuple #[headAgg (0, 0, 0), .int .i64 0]) (by rw [results_cell_tmp rfl]; go_simp; try rfl) rfl ⟨?_, ?_⟩
      · rw [← HX.out, show parseHead (64 * sz) s = none by rw [HP.out, if_pos (Or.inr (Or.inr (Or.inl h3)))]]; rfl
      have hbw : w.heap.size ≤ b := by rw [HB.out]; exact Nat.le_refl _
      exact ((((HF0.out.trans HF2.out).drewN _).setCell (Or.inr hbw) _).setCell (Or.inr hbw) _).setCell (Or.inr hbw) _
    have h3' : (a : Int) ≤ 1 := by omega
    have h3n : ¬ 1 < a := h3
    clear h3
    by_cases h4 : l < 0
    · go_quiet (fail)
      go_wp2
      (try simp only [Exit.inBlock, Exit.then])
      refine bodyPost_ret (v := .tuple #[headAgg (0, 0, 0), .int .i64 0]) (by rw [results_cell_tmp rfl]; go_simp; try rfl) rfl ⟨?_, ?_⟩
      · rw [← HX.out, show parseHead (64 * sz) s = none by rw [HP.out, if_pos (Or.inr (Or.inr (Or.inr (Or.inl h4))))]]; rfl
      have hbw : w.heap.size ≤ b := by rw [HB.out]; exact Nat.le_refl _
      exact ((((HF0.out.trans HF2.out).drewN _).setCell (Or.inr hbw) _).setCell (Or.inr hbw) _).setCell (Or.inr hbw) _
    have h4' : (0 : Int) ≤ l := by omega
    clear h4
    by_cases h5 : ((64 * sz : Nat) : Int) < l
    · have h5' : 64 * (sz : Int) < l := by omega
      go_quiet (fail)
      go_wp2
      (try simp only [Exit.inBlock, Exit.then])
      refine bodyPost_ret (v := .tuple #[headAgg (0, 0, 0), .int .i64 0]) (by rw [results_cell_tmp rfl]; go_simp; try rfl) rfl ⟨?_, ?_⟩
      · rw [← HX.out, show parseHead (64 * sz) s = none by rw [HP.out, if_pos (Or.inr (Or.inr (Or.inr (Or.inr h5))))]]; rfl
      have hbw : w.heap.size ≤ b := by rw [HB.out]; exact Nat.le_refl _
      exact ((((HF0.out.trans HF2.out).drewN _).setCell (Or.inr hbw) _).setCell (Or.inr hbw) _).setCell (Or.inr hbw) _
    have h5' : l ≤ 64 * (sz : Int) := by omega
    obtain ⟨cn, rfl⟩ := Int.eq_ofNat_of_zero_le (show 0 ≤ c by omega)
    obtain ⟨ln, rfl⟩ := Int.eq_ofNat_of_zero_le (show 0 ≤ l by omega)
    have htx := fun W' => head_text_c cn a ln W' (by omega) (by omega) (by omega)
    obtain ⟨T, hT⟩ : ∃ T, headText cn a ln = T := ⟨_, rfl⟩
    rw [hT] at htx
    have HT := Lib.hid hT
    clear hT h5 hab hrc hrl
    by_cases h6 : s = T
    · have HQ := Lib.hid h6
      clear h6
      refine wp_region_fr (by kernel_rfl) (by kernel_rfl) ?_
      refine q_valw (by rfl) (by intro w' _; go_simp; rfl) ?_
      go_frame
      refine q_valw (v := .int .i64 (cn : Int)) (by rfl) (by intro w' hF; have := (HG.out.fr hF (by simp)).cell 0; go_simp) ?_
      go_frame
      refine q_valw (v := .bool false) (by rfl) (by intro w' _; go_simp; try omega) ?_
      go_frame
      refine q_valw (by rfl) (by intro w' _; go_simp; rfl) ?_
      go_frame
      refine q_valw (by rfl) (by intro w' _; go_simp; rfl) ?_
      go_frame
      refine q_valw (v := .int .i64 (cn : Int)) (by rfl) (by intro w' hF; have := (HG.out.fr hF (by simp)).cell 0; go_simp) ?_
      go_frame
      refine q_valw (v := .bool false) (by rfl) (by intro w' _; go_simp; try omega) ?_
      go_frame
      refine q_valw (v := .bool false) (by rfl) (by intro w' _; go_simp) ?_
      go_frame
      refine q_valw (by rfl) (by intro w' _; go_simp; rfl) ?_
      go_frame
      refine q_valw (by rfl) (by intro w' _; go_simp; rfl) ?_
      go_frame
      refine q_valw (v := .int .i64 (a : Int)) (by rfl) (by intro w' hF; have := (HG.out.fr hF (by simp)).cell 1; go_simp) ?_
      go_frame
      refine q_valw (v := .bool false) (by rfl) (by intro w' _; go_simp; try omega) ?_
      go_frame
      refine q_valw (v := .bool false) (by rfl) (by intro w' _; go_simp) ?_
      go_frame
      refine q_valw (by rfl) (by intro w' _; go_simp; rfl) ?_
      go_frame
      refine q_valw (by rfl) (by intro w' _; go_simp; rfl) ?_
      go_frame
      refine q_valw (v := .int .i64 (ln : Int)) (by rfl) (by intro w' hF; have := (HG.out.fr hF (by simp)).cell 2; go_simp) ?_
      go_frame
      refine q_valw (v := .bool false) (by rfl) (by intro w' _; go_simp; try omega) ?_
      go_frame
      refine q_valw (v := .bool false) (by rfl) (by intro w' _; go_simp) ?_
      go_frame
      refine q_valw (by rfl) (by intro w' _; go_simp; rfl) ?_
      go_frame
      refine q_valw (by rfl) (by intro w' _; go_simp; rfl) ?_
      go_frame
      refine q_valw (v := .int .i64 (ln : Int)) (by rfl) (by intro w' hF; have := (HG.out.fr hF (by simp)).cell 2; go_simp) ?_
      go_frame
      refine q_valw (by rfl) (by intro w' _; go_simp; rfl) ?_
      go_frame
      refine q_valw (by rfl) (by intro w' _; go_simp; rfl) ?_
      go_frame
      refine q_valw (by rfl) (by intro w' _; go_simp; rfl) ?_
      go_frame
      refine q_valw (v := .int .i64 (64 * (sz : Int))) (by rfl) (by intro w' hF; have := (raw_cells ((HL0.out.fr HF2.out (by simp)).fr hF (by simp))).2.1; go_simp) ?_
      go_frame
      refine q_valw (v := .bool false) (by rfl) (by intro w' _; go_simp; try omega) ?_
      go_frame
      refine q_valw (v := .bool false) (by rfl) (by intro w' _; go_simp) ?_
      go_frame
      refine q_valw (by rfl) (by intro w' _; go_simp; rfl) ?_
      go_frame
      refine q_valw (by rfl) (by intro w' _; go_simp; rfl) ?_
      go_frame
      refine q_valw (v := .agg #[.int .i64 (cn : Int), .int .i64 (a : Int), .int .i64 (ln : Int)]) (by rfl) (by intro w' hF; have k0 := (HG.out.fr hF (by simp)).cell 0; have k1 := (HG.out.fr hF (by simp)).cell 1; have k2 := (HG.out.fr hF (by simp)).cell 2; go_simp) ?_
      go_frame
      refine q_callw (f := 63) (args := #[.agg #[.int .i64 (cn : Int), .int .i64 (a : Int), .int .i64 (ln : Int)]]) (by rfl) (by intro w'; go_simp; try rfl) (fun w' _ => htx w') ?_
      go_frame
      refine q_valw (v := .bool false) (by rfl) (by intro w' _; go_simp; rw [HQ.out]) ?_
      go_frame
      refine q_valw (v := .bool false) (by rfl) (by intro w' _; go_simp) ?_
      go_frame
      refine wpQuiet_nil ?_
      intro W3 hF3
      clear b0 b1 b2 f0 f1 f2 l1 z0 z1 z2
      have HB3 := Lib.hid (HB2.out.fr hF3 (by simp))
      have b0 := HB3.out.cell 0
      have b1 := HB3.out.cell 1
      have b2 := HB3.out.cell 2
      simp only [List.getElem?_cons_zero, List.getElem?_cons_succ] at b0 b1 b2
      have f0 := HB3.out.free 0
      have f1 := HB3.out.free 1
      have f2 := HB3.out.free 2
      have z0 := (HG.out.fr hF3 (by simp)).cell 0
      have z1 := (HG.out.fr hF3 (by simp)).cell 1
      have z2 := (HG.out.fr hF3 (by simp)).cell 2
      simp only [List.getElem?_cons_zero, List.getElem?_cons_succ] at z0 z1 z2
      go_wp2
      (try simp only [Exit.inBlock, Exit.then])
      refine bodyPost_ret (v := .tuple #[headAgg (cn, a, ln), .int .i64 0]) (by rw [results_cell_tmp rfl]; go_simp; try rfl) rfl ⟨?_, ?_⟩
      · rw [← HX.out, show parseHead (64 * sz) s = some (cn, a, ln) by rw [HP.out, if_neg (by simp only [not_or]; omega), if_pos (by rw [HQ.out]; simpa using HT.out.symm)]; rfl]; rfl
      have hbw : w.heap.size ≤ b := by rw [HB.out]; exact Nat.le_refl _
      exact ((((HF0.out.trans HF2.out).trans hF3).setCell (Or.inr hbw) _).setCell (Or.inr hbw) _).setCell (Or.inr hbw) _
    · have HN := Lib.hid h6
      have HQ : Hid (¬ s.toList = T.toList) := Lib.hid (fun e => h6 (by rw [Lib.toList_data, Lib.toList_data] at e; exact ba_ext e))
      clear h6
      refine wp_region_fr (by kernel_rfl) (by kernel_rfl) ?_
      refine q_valw (by rfl) (by intro w' _; go_simp; rfl) ?_
      go_frame
      refine q_valw (v := .int .i64 (cn : Int)) (by rfl) (by intro w' hF; have := (HG.out.fr hF (by simp)).cell 0; go_simp) ?_
      go_frame
      refine q_valw (v := .bool false) (by rfl) (by intro w' _; go_simp; try omega) ?_
      go_frame
      refine q_valw (by rfl) (by intro w' _; go_simp; rfl) ?_
      go_frame
      refine q_valw (by rfl) (by intro w' _; go_simp; rfl) ?_
      go_frame
      refine q_valw (v := .int .i64 (cn : Int)) (by rfl) (by intro w' hF; have := (HG.out.fr hF (by simp)).cell 0; go_simp) ?_
      go_frame
      refine q_valw (v := .bool false) (by rfl) (by intro w' _; go_simp; try omega) ?_
      go_frame
      refine q_valw (v := .bool false) (by rfl) (by intro w' _; go_simp) ?_
      go_frame
      refine q_valw (by rfl) (by intro w' _; go_simp; rfl) ?_
      go_frame
      refine q_valw (by rfl) (by intro w' _; go_simp; rfl) ?_
      go_frame
      refine q_valw (v := .int .i64 (a : Int)) (by rfl) (by intro w' hF; have := (HG.out.fr hF (by simp)).cell 1; go_simp) ?_
      go_frame
      refine q_valw (v := .bool false) (by rfl) (by intro w' _; go_simp; try omega) ?_
      go_frame
      refine q_valw (v := .bool false) (by rfl) (by intro w' _; go_simp) ?_
      go_frame
      refine q_valw (by rfl) (by intro w' _; go_simp; rfl) ?_
      go_frame
      refine q_valw (by rfl) (by intro w' _; go_simp; rfl) ?_
      go_frame
      refine q_valw (v := .int .i64 (ln : Int)) (by rfl) (by intro w' hF; have := (HG.out.fr hF (by simp)).cell 2; go_simp) ?_
      go_frame
      refine q_valw (v := .bool false) (by rfl) (by intro w' _; go_simp; try omega) ?_
      go_frame
      refine q_valw (v := .bool false) (by rfl) (by intro w' _; go_simp) ?_
      go_frame
      refine q_valw (by rfl) (by intro w' _; go_simp; rfl) ?_
      go_frame
      refine q_valw (by rfl) (by intro w' _; go_simp; rfl) ?_
      go_frame
      refine q_valw (v := .int .i64 (ln : Int)) (by rfl) (by intro w' hF; have := (HG.out.fr hF (by simp)).cell 2; go_simp) ?_
      go_frame
      refine q_valw (by rfl) (by intro w' _; go_simp; rfl) ?_
      go_frame
      refine q_valw (by rfl) (by intro w' _; go_simp; rfl) ?_
      go_frame
      refine q_valw (by rfl) (by intro w' _; go_simp; rfl) ?_
      go_frame
      refine q_valw (v := .int .i64 (64 * (sz : Int))) (by rfl) (by intro w' hF; have := (raw_cells ((HL0.out.fr HF2.out (by simp)).fr hF (by simp))).2.1; go_simp) ?_
      go_frame
      refine q_valw (v := .bool false) (by rfl) (by intro w' _; go_simp; try omega) ?_
      go_frame
      refine q_valw (v := .bool false) (by rfl) (by intro w' _; go_simp) ?_
      go_frame
      refine q_valw (by rfl) (by intro w' _; go_simp; rfl) ?_
      go_frame
      refine q_valw (by rfl) (by intro w' _; go_simp; rfl) ?_
      go_frame
      refine q_valw (v := .agg #[.int .i64 (cn : Int), .int .i64 (a : Int), .int .i64 (ln : Int)]) (by rfl) (by intro w' hF; have k0 := (HG.out.fr hF (by simp)).cell 0; have k1 := (HG.out.fr hF (by simp)).cell 1; have k2 := (HG.out.fr hF (by simp)).cell 2; go_simp) ?_
      go_frame
      refine q_callw (f := 63) (args := #[.agg #[.int .i64 (cn : Int), .int .i64 (a : Int), .int .i64 (ln : Int)]]) (by rfl) (by intro w'; go_simp; try rfl) (fun w' _ => htx w') ?_
      go_frame
      refine q_valw (v := .bool true) (by rfl) (by intro w' _; go_simp; exact HQ.out) ?_
      go_frame
      refine q_valw (v := .bool true) (by rfl) (by intro w' _; go_simp) ?_
      go_frame
      refine wpQuiet_nil ?_
      intro W3 hF3
      clear b0 b1 b2 f0 f1 f2 l1 z0 z1 z2
      have HB3 := Lib.hid (HB2.out.fr hF3 (by simp))
      have b0 := HB3.out.cell 0
      have b1 := HB3.out.cell 1
      have b2 := HB3.out.cell 2
      simp only [List.getElem?_cons_zero, List.getElem?_cons_succ] at b0 b1 b2
      have f0 := HB3.out.free 0
      have f1 := HB3.out.free 1
      have f2 := HB3.out.free 2
      have z0 := (HG.out.fr hF3 (by simp)).cell 0
      have z1 := (HG.out.fr hF3 (by simp)).cell 1
      have z2 := (HG.out.fr hF3 (by simp)).cell 2
      simp only [List.getElem?_cons_zero, List.getElem?_cons_succ] at z0 z1 z2
      go_wp2
      (try simp only [Exit.inBlock, Exit.then])
      refine bodyPost_ret (v := .tuple #[headAgg (0, 0, 0), .int .i64 0]) (by rw [results_cell_tmp rfl]; go_simp; try rfl) rfl ⟨?_, ?_⟩
      · rw [← HX.out, show parseHead (64 * sz) s = none by rw [HP.out, if_neg (by simp only [not_or]; omega), if_neg (by intro e; exact HN.out (by rw [e]; simpa using HT.out))]]; rfl
      have hbw : w.heap.size ≤ b := by rw [HB.out]; exact Nat.le_refl _
      exact ((((HF0.out.trans HF2.out).trans hF3).setCell (Or.inr hbw) _).setCell (Or.inr hbw) _).setCell (Or.inr hbw) _
  · have hq : d.read i = (ByteArray.empty, d.wrong i) := by simp [Dv.read, h0]
    have hq2 : d.readHead sz i = ((0, 0, 0), d.wrong i) := by simp [Dv.readHead, h0]
    rw [hq2]
    rw [hq] at hr
    have hne : (d.wrong i != 0) = true := by simpa using h0
    generalize d.wrong i = x at *
    have l0 := (raw_cells hL0).1
    have f0 := hB0.free 0
    have f1 := hB0.free 1
    have f2 := hB0.free 2
    have b0 := hB0.cell 0
    have b1 := hB0.cell 1
    have b2 := hB0.cell 2
    simp only [List.getElem?_cons_zero, List.getElem?_cons_succ] at b0 b1 b2
    have HF0 := Lib.hid hF0
    clear hq hq2 h0 hD hL0 hF0 hB0 h
    go_enter Tryz.func33, Tryz.ntmps33
    go_wp2_with (go_at_call 22; refine hr.mono ?_; rintro e w' ⟨rfl, rfl⟩; clear hr)
    (try simp only [Exit.inBlock, Exit.then])
    refine bodyPost_ret (v := .tuple #[headAgg (0, 0, 0), .int .i64 x]) (by rw [results_cell_tmp rfl]; go_simp; try rfl) rfl ⟨rfl, ?_⟩
    exact HF0.out
end

end Go.Proofs.YtiojkakmlbfiiaaGreat
