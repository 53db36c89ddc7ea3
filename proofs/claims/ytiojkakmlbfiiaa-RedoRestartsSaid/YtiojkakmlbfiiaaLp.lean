/- RedoRestarts: for every list of texts and of picks the call returns true, and both lists read behind it as they read before. No condition. -/
import Derived.Test.YtiojkakmlbfiiaaLr
import Derived.Test.YtiojkakmlbfiiaaRows
import Derived.WalkKit
import Derived.ProofKit
import Derived.OpenShut
import Derived.SliceStrings
import Derived.ChangeSlices
import Derived.Carry
namespace Go.Proofs.Ytiojkakmlbfiiaa
open Go.ChangeShapes Go.WideShapes Go.ChangeAt Go.RowKit
open Sp

theorem rrOwn : ownKnob Try.prog.godebug = none := by kernel_rfl
theorem rrLaid : laidOutB Try.prog = true := by kernel_rfl
theorem rrCellsS : Try.prog.cellsOf 9 = 1 := by kernel_rfl
theorem rrCellsI : Try.prog.cellsOf 3 = 1 := by kernel_rfl

theorem slice_of_cells {α : Type} (mk : α → Value) (z : α) {W : World} {a : Addr} {len cap : Nat} {xs : List α} (hl : len ≤ cap) (hz : xs.length = cap) (hcell : ∀ i, i < xs.length → W.cell? (a.add i) = some (mk (xs.getD i z))) :
    ∃ fp, SliceAt W (.slice (some a) len cap) fp ((xs.take len).map mk) ∧ ∀ b, fp = some b → b < W.heap.size := by
  by_cases h0 : len = 0
  · subst h0
    exact ⟨none, Or.inl ⟨by simp, rfl, _, _, rfl⟩, by simp⟩
  · obtain ⟨b, off, spot⟩ := a
    have hspot : spot = none := by simpa [Addr.add] using World.cell?_spot (hcell 0 (by omega))
    subst hspot
    have hlen : ((xs.take len).map mk).length = len := by rw [List.length_map, List.length_take]; omega
    have hadd : ∀ i, (⟨b, off, none⟩ : Addr).add i = ⟨b, off + i, none⟩ := by
      intro i; unfold Addr.add; split <;> simp_all
    refine ⟨some b, Or.inr ⟨b, off, cap, rfl, by rw [hlen], fun i x hx => ?_⟩, fun c hc => ?_⟩
    · have hi : i < len := by
        rcases Nat.lt_or_ge i len with h | h
        · exact h
        · rw [List.getElem?_eq_none (by rw [hlen]; exact h)] at hx; cases hx
      have hc := hcell i (by omega)
      rw [hadd] at hc
      rw [hc, ← hx, List.getElem?_map, List.getElem?_take, if_pos hi, List.getD_eq_getElem?_getD, List.getElem?_eq_getElem (show i < xs.length by omega)]
      rfl
    · cases hc
      exact World.block_lt_of_cell? W _ (hcell 0 (by omega))

set_option maxRecDepth 100000 in
theorem redo_restarts_lifted (os : Os) (started : os.Started) (H : Type) (enc : TypeId × Value → H) :
    ReturnsInHanded {} Try.checked os 3 .any (Rows.redoRestartsSpec.pre6 enc Try.prog Try.f3 Rows.redoRestartsRow.domain false) (Rows.redoRestartsSpec.post enc Try.prog Try.f3 false true false false) := by
  refine returnsInHanded_of_change (C := Try.checked) rrOwn started (by kernel_rfl) Try.func3
    (ChangeSpec.witness6 (enc := enc) (C := Try.checked) false ⟨#[], #[.slice none 0 0, .slice none 0 0], []⟩ 8 (by kernel_rfl) (by kernel_rfl) (by kernel_rfl) (by kernel_rfl)) ?_
  intro W base args ds gs before hval0 hW _ _
  have hval : ∀ (j : Nat) t v, Try.f3.params[j]? = some t → args[j]? = some v → Value.okWide Try.prog W .any base t v := hval0
  have hW' := hW
  obtain ⟨p, q, hA0, hV, rfl, _, _⟩ := hW
  have hA : DataW.TrodAll enc Try.prog W 0 (fun _ => true) true Try.f3.params.toList args.toList ds p := hA0
  rw [Try.params3] at hA hval
  obtain ⟨v0, vs0, d0, ds0, p0, q0, hargs, rfl, rfl, h0, r0⟩ := trodAll_cons hA
  obtain ⟨v1, vs1, d1, ds1, p1, q1, rfl, rfl, rfl, h1, r1⟩ := trodAll_cons r0
  obtain ⟨rfl, rfl, rfl⟩ := trodAll_nil r1
  obtain rfl : args = #[v0, v1] := by cases args; simp_all
  obtain ⟨rfl, rfl⟩ := trodVars_none hV
  obtain ⟨a0, len0, cap0, rfl⟩ := okWide_slice Try.underlying22 (hval 0 22 v0 rfl rfl)
  obtain ⟨a1, len1, cap1, rfl⟩ := okWide_slice Try.underlying23 (hval 1 23 v1 rfl rfl)
  have h0k := h0
  have h1k := h1
  obtain ⟨fuel0, hf0⟩ := h0
  obtain ⟨fuel1, hf1⟩ := h1
  clear hA0 hval0
  simp only [List.append_nil] at hW'
  have hlt : ∀ x ∈ p0 ++ p1, x.block < W.heap.size := fun x hx => by simpa using hW'.lt x hx
  have s0 : ∃ f0 ts, SliceAt W (.slice a0 len0 cap0) f0 (strVals ts) ∧ (∀ t ∈ ts, t.size ≤ 9223372036854775807) ∧ ts.length ≤ 9223372036854775807 := by
    rcases open_strings Try.underlying22 Try.underlying9 rrCellsS hf0 with ⟨hcs, hx⟩ | ⟨a, len', cap', ss, hcs, _, hl, hm, hz, hx, hcell, hws⟩
    · simp [Value.cells] at hcs
      obtain ⟨rfl, rfl, rfl⟩ := hcs
      exact ⟨none, [], Or.inl ⟨rfl, rfl, _, _, rfl⟩, by simp, by simp⟩
    · simp [Value.cells] at hcs
      obtain ⟨rfl, rfl, rfl⟩ := hcs
      simp only [if_true] at hz
      obtain ⟨fp, hs, _⟩ := slice_of_cells Value.string ByteArray.empty hl hz hcell
      have hmx : maxLen ≤ 9223372036854775807 := by decide
      exact ⟨fp, ss.take len0, hs, fun t ht => Nat.le_trans (hws t (List.mem_of_mem_take ht)) hmx, by rw [List.length_take]; omega⟩
  have s1 : ∃ f1 ps, SliceAt W (.slice a1 len1 cap1) f1 (intVals ps) ∧ (∀ b, f1 = some b → b < W.heap.size) ∧ (∀ p ∈ ps, -9223372036854775808 ≤ p ∧ p ≤ 9223372036854775807) ∧ ps.length ≤ 9223372036854775807 := by
    rcases open_ints Try.underlying23 Try.underlying3 rrCellsI hf1 with ⟨hcs, hx⟩ | ⟨a, len', cap', zs, hcs, _, hl, hm, hz, hx, hcell, hws⟩
    · simp [Value.cells] at hcs
      obtain ⟨rfl, rfl, rfl⟩ := hcs
      exact ⟨none, [], Or.inl ⟨rfl, rfl, _, _, rfl⟩, by simp, by simp, by simp⟩
    · simp [Value.cells] at hcs
      obtain ⟨rfl, rfl, rfl⟩ := hcs
      simp only [if_true] at hz
      obtain ⟨fp, hs, hb⟩ := slice_of_cells (Value.int .i64) 0 hl hz hcell
      have hmx : maxLen ≤ 9223372036854775807 := by decide
      refine ⟨fp, zs.take len1, hs, hb, fun t ht => ?_, by rw [List.length_take]; omega⟩
      have := hws t (List.mem_of_mem_take ht)
      have e1 : IntKind.i64.min = -9223372036854775808 := rfl
      have e2 : IntKind.i64.max = 9223372036854775807 := rfl
      simp only [Lit.wf, Bool.and_eq_true, decide_eq_true_eq, e1, e2] at this
      exact this
  obtain ⟨f0, ts, hs0, hts, htl⟩ := s0
  obtain ⟨f1, ps, hs1, hb1, hps, hpl⟩ := s1
  refine (restarts_c W _ _ f0 f1 ts ps hs0 hs1 hb1 hts hps htl hpl).mono fun e W' ⟨he, hF⟩ => ?_
  subst he
  have hnx := hF.to_below
  refine ⟨_, rfl, _, _, _, [] ++ [], p0 ++ p1, [], hW', ?_, ?_, rfl, hnx.frame _, fun h => by cases h⟩
  · exact trodAll_mk1 (shut_bool Try.underlying4 true)
  · exact trodAll_mk2 (Below.trod rrLaid (by kernel_rfl) (of_decide_eq_true (by kernel_rfl)) h0k hnx (fun x hx => hlt x (List.mem_append_left _ hx)))
      (Below.trod rrLaid (by kernel_rfl) (of_decide_eq_true (by kernel_rfl)) h1k hnx (fun x hx => hlt x (List.mem_append_right _ hx)))

theorem redo_restarts_holds : Rows.RedoRestartsSaid :=
  OpenClaim.holds_of_wide 3 Try.f3 rfl rfl rfl rfl rfl rfl rfl ⟨rfl, rfl, rfl, rfl, rfl⟩ rfl rfl rfl rfl rfl (by kernel_rfl) Try.func3 (by kernel_rfl)
    (of_decide_eq_true (by kernel_rfl)) (by unfold Func.isWrapper; first | (rw [if_pos (by decide +kernel)]; kernel_rfl) | (rw [if_neg (by decide +kernel)]; exact ⟨rfl, rfl⟩))
    (fun os started H enc _ => redo_restarts_lifted os started H enc)

#print axioms redo_restarts_holds
end Go.Proofs.Ytiojkakmlbfiiaa
