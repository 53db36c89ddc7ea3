/- The document's device: None, Make. -/
import Derived.Test.YtiojkakmlbfiiaaGreatM16
import Derived.Test.YtiojkakmlbfiiaaGreatM05
import Derived.Deep.RegionHeld3
import Derived.Maps.AppendAt
import Derived.Deep.AppendLies
import Derived.Deep.RegionLaw
/- The document's device: None, Make. -/
namespace Go.Proofs.YtiojkakmlbfiiaaGreat
open Go.RowKit
open Sp

set_option maxRecDepth 100000 in
theorem rNone_c (w : World) : Calls Tryz.prog 10 #[] w fun e w' => e = .returned (.string zeros) ∧ Fr [] w w' := by
  obtain ⟨i0, hi, hz0, hz1, hz2⟩ := info_parts byteInfo
  have hmk := run_make (P := Tryz.prog) w 42 5 i0 _ Tryz.underlying42 hi hz0 .i64 .i64 64 64 (by omega) (by omega) (by rw [hz2]; omega) (by omega)
  rw [hz1] at hmk
  have e8 : (64 : Int).toNat * 1 = 64 := rfl
  rw [e8, madeCells_bytes] at hmk
  have hB : Blk (w.alloc (.cells (List.replicate 64 (Value.int .u8 0)).toArray 5)) w.heap.size (List.replicate 64 (Value.int .u8 0)) := Blk.new _ _ _
  have hcv := conv_bytes (off := 0) (len := 64) (cap := 64) hB zeros zeros_size (by
    intro j hj
    rw [Nat.zero_add]
    have : bytesOf zeros = List.replicate 64 (Value.int .u8 0) := by simp [bytesOf, zeros]
    rw [this])
  have hF : Fr [] w (w.alloc (.cells (List.replicate 64 (Value.int .u8 0)).toArray 5)) := (Fr.refl _ _).alloc _
  change _ = Result.ok (Value.slice (some ⟨w.heap.size, 0, none⟩) 64 64) _ at hmk
  generalize w.alloc (.cells (List.replicate 64 (Value.int .u8 0)).toArray 5) = W at hmk hcv hF
  clear hB hi hz0 hz1 hz2 e8
  go_enter Tryz.func10, Tryz.ntmps10
  go_wp2
  go_ret
  exact ⟨rfl, hF⟩

theorem own_weak0 {w : World} {base T size : Nat} {v : Value} {n : Nat} {xs : List Value} (h : w.ownsRow base T size v n xs) : w.ownsRow 0 T size v n xs := by
  refine ⟨h.1, ?_⟩
  rcases h.2 with h2 | ⟨g, cap, cur, hv, hg, r⟩
  · exact Or.inl h2
  · exact Or.inr ⟨g, cap, cur, hv, Nat.zero_le _, r⟩

theorem step_call {P : Program} {w : World} {ops : Array Oper} {o : Oper} {a : Act} {K : Act → World → Prop} {Q : Exit → Act → World → Prop} {E : Prop} (hgd : o.guard = none) (f : FuncId) (args : Array Value)
    (hrun : (execOp a.eval o).run P w = .ok (.enter f args) w) {v : Value} {F : World → Prop} (hc : Calls P f args w fun e w' => e = .returned v ∧ F w') (h : ∀ w', F w' → K (a.put o.dst v) w') :
    if Region.wanted o (yielded ops a.tmps) = true then Oper.wp P o a w K Q else E := by
  have hw : Region.wanted o (yielded ops a.tmps) = true := by simp [Region.wanted, hgd]
  rw [if_pos hw]
  unfold Oper.wp
  rw [hrun]
  exact hc.mono fun e w' ⟨he, hF⟩ => by subst he; exact h w' hF

theorem strVals_snoc (l : List ByteArray) (s : ByteArray) : strVals (l ++ [s]) = strVals l ++ [.string s] := by simp [strVals]
theorem nwVals_snoc (l : List (Option ByteArray)) : nwVals (l ++ [none]) = nwVals l ++ [.string ⟨#[]⟩] := by simp [nwVals]; rfl

set_option maxHeartbeats 4000000 in
set_option maxRecDepth 100000 in
theorem rMake_c (w : World) (n : Nat) (h1 : 1 ≤ n) (h2 : n ≤ 2048) :
    Calls Tryz.prog 5 #[.int .i64 (n : Int)] w fun e w' => ∃ rd ro rn co cn, e = .returned (.tuple #[.pointer (some ⟨rd, 0, none⟩), .int .i64 0]) ∧ RefAt w' rd ro rn co cn (Dv.make n) ∧ Fr [] w w' ∧ w.heap.size ≤ rd ∧ w.heap.size ≤ ro ∧ w.heap.size ≤ rn := by
  obtain ⟨i0, hi, hz0, hz1, hz2⟩ := info_parts strInfo
  have HI := Lib.hid (show _ ∧ _ ∧ _ ∧ _ from ⟨hi, hz0, hz1, hz2⟩)
  clear hi hz0 hz1 hz2
  have hB0 : Blk (w.alloc (.cells #[.slice none 0 0, .slice none 0 0, .int .i64 0, .bool false] 47)) w.heap.size [.slice none 0 0, .slice none 0 0, .int .i64 0, .bool false] := Blk.new _ _ _
  have hF0 : Fr [] w (w.alloc (.cells #[.slice none 0 0, .slice none 0 0, .int .i64 0, .bool false] 47)) := (Fr.refl _ _).alloc _
  have HB0 := Lib.hid hB0
  have HF0 := Lib.hid hF0
  clear hB0 hF0
  go_enter Tryz.func5, Tryz.ntmps5
  go_wp2
  generalize w.alloc (.cells #[.slice none 0 0, .slice none 0 0, .int .i64 0, .bool false] 47) = W at HB0 HF0 ⊢
  obtain ⟨rd, hrd⟩ : ∃ rd, w.heap.size = rd := ⟨_, rfl⟩
  rw [hrd] at HB0 ⊢
  have HRD := Lib.hid hrd
  clear hrd
  go_loopw [5] (fun i wr => ∃ (k : Nat) (v1 v2 : Value), k ≤ n ∧ i = .int .i64 (k : Int) ∧ Hid (Blk wr rd [v1, v2, .int .i64 0, .bool false]) ∧ Hid (wr.ownsRow (rd + 1) 9 1 v1 k (strVals (List.replicate k zeros))) ∧
      Hid (wr.ownsRow (rd + 1) 9 1 v2 k (nwVals (List.replicate k none))) ∧ Hid (Fr [] w wr) ∧ Hid (∀ g, v1.ownBlock = some g → v2.ownBlock ≠ some g)) (fun i _ => n - (intOf i).toNat)
  case atStart => exact ⟨0, _, _, Nat.zero_le _, rfl, HB0, Lib.hid (World.ownsRow_nil _ _ _ _), Lib.hid (World.ownsRow_nil _ _ _ _), HF0, Lib.hid (by simp [Value.ownBlock])⟩
  case round =>
    obtain ⟨k, v1, v2, hk, rfl, hB, hO, hN, hF, hne⟩ := hrel
    by_cases hlt : k < n
    · obtain ⟨a1, c1, rfl⟩ := own_shape hO.out
      obtain ⟨a2, c2, rfl⟩ := own_shape hN.out
      have hltI : (k : Int) < (n : Int) := by omega
      have hcell := hB.out.cell 0
      simp only [List.getElem?_cons_zero] at hcell
      have hrlt := hB.out.lt
      have hnr1 : rd ∉ (Value.ownBlock (.slice a1 k c1)).toList := by
        intro hm
        cases ho : Value.ownBlock (.slice a1 k c1) with
        | none => rw [ho] at hm; simp at hm
        | some b =>
          rw [ho] at hm
          have e : rd = b := by simpa using hm
          have := (own_base hO.out b ho).1
          omega
      go_wp2
      go_region_law (first
        | (refine step_call (by rfl) 10 #[] (by go_simp; try rfl) (rNone_c _) ?_
           intro w2 hF2
           have hF2' : Fr [] wr w2 := ((Fr.refl [] wr).drewN 1).trans hF2
           have hk2 : w2.cell? ⟨rd, 0, none⟩ = some (.slice a1 k c1) := by rw [World.cell?_of_block (hF2'.block rd hrlt (by simp))]; exact hcell
           have hlt2 : rd < w2.heap.size := Nat.lt_of_lt_of_le hrlt hF2'.size
           have hk3 : (w2.alloc (.cells #[.string zeros] 9)).cell? ⟨rd, 0, none⟩ = some (.slice a1 k c1) := by rw [World.cell?_of_block (Below.heap_alloc _ _ _ hlt2)]; exact hk2)
        | (refine step_append_lies _ (by rfl) _ _ 37 (by rfl) (rd + 1) 9 i0 (.string ByteArray.empty) 1 16 Tryz.underlying37 HI.out.1 HI.out.2.1 HI.out.2.2.1 HI.out.2.2.2 rfl (by decide) (.slice a1 k c1) k (strVals (List.replicate k zeros)) (by rfl) ((own_fr hO.out hF2' (by simp)).alloc _) ⟨w2.heap.size, 0, none⟩ 1 1 [.string zeros] (by rfl) (by rfl) (World.news_of_block (heap_alloc_new w2 _)) (by intro u hu; simp at hu; subst hu; rfl) (by omega) (by unfold maxLen; omega) (by omega) (by simp; omega) (w2.heap.size + 1) (by simp) ?_
           intro g cap w3 hown3 hgrow hat hlt3
           have hg3 : Fr (Value.ownBlock (.slice a1 k c1)).toList wr w3 := (hF2'.any.alloc _).grown hgrow (fun b hb => Or.inl (by rw [hb]; simp))
           have HB3 := Lib.hid (hB.out.fr hg3 hnr1)
           have hk4 : w3.cell? ⟨rd, 0, none⟩ = some (.slice a1 k c1) := HB3.out.cell 0
           have hf4 := HB3.out.free 0
           have HO3 := Lib.hid hown3
           have HAT := Lib.hid hat
           have HS3 : Hid (wr.heap.size ≤ w2.heap.size) := Lib.hid hF2'.size
           clear hown3 hgrow hat))
      all_goals
        (have HB4 := Lib.hid (HB3.out.set 0 (.slice (some ⟨g, 0, none⟩) (k + 1) cap))
         have hg4 : Fr (rd :: (Value.ownBlock (.slice a1 k c1)).toList) wr (w3.setCell ⟨rd, 0, none⟩ (.slice (some ⟨g, 0, none⟩) (k + 1) cap)) := (hg3.mono (fun x hx => List.mem_cons_of_mem _ hx)).setCell (Or.inl (by simp)) _
         have HO4 := Lib.hid (own_fr HO3.out ((Fr.refl [rd] w3).setCell (p := ⟨rd, 0, none⟩) (Or.inl (by simp)) (.slice (some ⟨g, 0, none⟩) (k + 1) cap)) (fun b hb => by have := (own_base HO3.out b hb).1; simp; omega))
         have hl4 := HB4.out.lt
         have hc4 := HB4.out.cell 1
         have hf41 := HB4.out.free 1
         generalize w3.setCell ⟨rd, 0, none⟩ (.slice (some ⟨g, 0, none⟩) (k + 1) cap) = W4 at *
         simp only [List.set_cons_zero, List.getElem?_cons_succ, List.getElem?_cons_zero] at hc4)
      all_goals
        (have hN4 := Lib.hid (own_fr hN.out hg4 (fun b hb => by
           intro hm
           rcases List.mem_cons.1 hm with e | e
           · have := (own_base hN.out b hb).1; omega
           · cases ho : Value.ownBlock (.slice a1 k c1) with
             | none => rw [ho] at e; simp at e
             | some b1 =>
               rw [ho] at e
               have e2 : b = b1 := by simpa using e
               exact hne.out b1 ho (by rw [← e2]; exact hb)))
         go_wp2_with (at_builtin; refine wpList_append_at _ rfl _ _ 37 rfl (rd + 1) 9 i0 (.string ByteArray.empty) 1 16 Tryz.underlying37 HI.out.1 HI.out.2.1 HI.out.2.2.1 HI.out.2.2.2 rfl (by decide) _ _ _ rfl (hN4.out.alloc _) ⟨W4.heap.size, 0, none⟩ 1 1 [.string ⟨#[]⟩] rfl rfl (World.news_of_block (heap_alloc_new W4 _)) (by intro u hu; simp at hu; subst hu; rfl) (by unfold maxLen; omega) (by omega) (by simp; omega) ?_))
      all_goals
        (intro v' w5 hown5 hgr5 hmv5
         obtain ⟨a5, c5, hv5⟩ := own_shape hown5
         subst hv5
         have hg5 : Fr (Value.ownBlock (.slice a2 k c2)).toList W4 w5 := ((Fr.refl _ _).alloc _).grown hgr5 (fun b hb => Or.inl (by rw [hb]; simp))
         have hbl2 : ∀ b, Value.ownBlock (.slice a2 k c2) = some b → rd + 1 ≤ b ∧ b < wr.heap.size := fun b hb => own_base hN.out b hb
         have hgb : ∀ b, Value.ownBlock (.slice a2 k c2) = some b → b ≠ g := by
           intro b hb e
           subst e
           rcases HAT.out with h | h
           · exact hne.out b h hb
           · have := (hbl2 b hb).2; have := HS3.out; omega
         have hin : ∀ x, x ∈ (Value.ownBlock (.slice a2 k c2)).toList → Value.ownBlock (.slice a2 k c2) = some x := by
           intro x hx
           cases ho : Value.ownBlock (.slice a2 k c2) with
           | none => rw [ho] at hx; simp at hx
           | some b => rw [ho] at hx; have : x = b := by simpa using hx
                       rw [this]
         have HB5 := Lib.hid (HB4.out.fr hg5 (fun hm => by have := (hbl2 rd (hin rd hm)).1; omega))
         have HO5 := Lib.hid (own_fr HO4.out hg5 (fun b hb hm => hgb b (hin b hm) (by simp [Value.ownBlock] at hb; exact hb.symm)))
         have l1 := HB5.out.cell 1
         have f1 := HB5.out.free 1
         simp only [List.set_cons_zero, List.getElem?_cons_succ, List.getElem?_cons_zero] at l1
         have HN5 := Lib.hid hown5
         have HM5 := Lib.hid hmv5
         have hgl : g < W4.heap.size := (own_base HO4.out g rfl).2
         clear hown5 hgr5 hmv5 hc4 hf41
         go_wp2
         have hs5 : Fr [rd] w5 (w5.setCell ⟨rd, 1, none⟩ (.slice a5 (k + 1) c5)) := (Fr.refl _ _).setCell (Or.inl (by simp)) _
         have hge1 : ∀ x, x ∈ rd :: (Value.ownBlock (.slice a1 k c1)).toList → x ∈ ([] : List Nat) ∨ w.heap.size ≤ x := by
           intro x hx
           right
           rcases List.mem_cons.1 hx with e | e
           · rw [e, HRD.out]; exact Nat.le_refl _
           · cases ho : Value.ownBlock (.slice a1 k c1) with
             | none => rw [ho] at e; simp at e
             | some b => rw [ho] at e; have e2 : x = b := by simpa using e
                         have := (own_base hO.out b ho).1; have := HRD.out; omega
         have hge2 : ∀ x, x ∈ (Value.ownBlock (.slice a2 k c2)).toList → x ∈ ([] : List Nat) ∨ w.heap.size ≤ x := by
           intro x hx
           right
           have := (hbl2 x (hin x hx)).1; have := HRD.out; omega
         go_roundw
         case rel => exact ⟨k + 1, .slice (some ⟨g, 0, none⟩) (k + 1) cap, .slice a5 (k + 1) c5, by omega, by go_num, Lib.hid (HB5.out.set 1 (.slice a5 (k + 1) c5)),
           Lib.hid (by rw [List.replicate_succ', strVals_snoc]; exact own_fr HO5.out hs5 (fun b hb => by have := (own_base HO5.out b hb).1; simp; omega)),
           Lib.hid (by rw [List.replicate_succ', nwVals_snoc]; exact own_fr HN5.out hs5 (fun b hb => by have := (own_base HN5.out b hb).1; simp; omega)),
           Lib.hid (((hF.out.then hg4 hge1).then hg5 hge2).then hs5 (fun x hx => by right; simp at hx; rw [hx, HRD.out]; exact Nat.le_refl _)),
           Lib.hid (fun b hb hb5 => by
             have e : b = g := by simpa [Value.ownBlock] using hb.symm
             subst e
             rcases HM5.out with h | h
             · rw [h] at hb5; exact hgb b hb5 rfl
             · have := h b hb5; simp at this; omega)⟩
         case measure => simp [intOf]; omega)
    · obtain rfl : k = n := by omega
      obtain ⟨a1, c1, rfl⟩ := own_shape hO.out
      obtain ⟨a2, c2, rfl⟩ := own_shape hN.out
      obtain ⟨ro, hro⟩ : ∃ ro, a1 = some ⟨ro, 0, none⟩ := by
        rcases hO.out.2 with ⟨hv2, h0⟩ | ⟨g, cap, cur, hv2, _⟩
        · omega
        · simp only [Value.slice.injEq] at hv2; exact ⟨g, hv2.1⟩
      obtain ⟨rn, hrn⟩ : ∃ rn, a2 = some ⟨rn, 0, none⟩ := by
        rcases hN.out.2 with ⟨hv2, h0⟩ | ⟨g, cap, cur, hv2, _⟩
        · omega
        · simp only [Value.slice.injEq] at hv2; exact ⟨g, hv2.1⟩
      subst hro hrn
      have ho1 := own_base hO.out ro rfl
      have ho2 := own_base hN.out rn rfl
      have hdn := hne.out ro rfl
      have hlen : (Dv.make k).on.length = k := by simp [Dv.make]
      have hfin : RefAt wr rd ro rn c1 c2 (Dv.make k) := by
        refine ⟨Dv.wf_make k h1 h2, ?_, ?_, ?_, by omega, by omega, fun e => hdn (by rw [e]; rfl)⟩
        · rw [hlen]; exact hB.out
        · rw [hlen]; exact own_weak0 hO.out
        · rw [hlen]; exact own_weak0 hN.out
      have HFIN := Lib.hid hfin
      clear hfin hlen hdn
      go_wp2
      go_ret2
      have hr := HRD.out
      first
        | exact ⟨rd, ro, rn, c1, c2, rfl, HFIN.out, hF.out, by omega, by omega, by omega⟩
        | trace_state

end Go.Proofs.YtiojkakmlbfiiaaGreat
