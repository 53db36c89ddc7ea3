/- The document's log: Room, Append. -/
import Derived.Test.YtiojkakmlbfiiaaGreatM19
import Derived.Test.YtiojkakmlbfiiaaGreatM10
/- The document's log: waiting, Room. -/
namespace Go.Proofs.YtiojkakmlbfiiaaGreat
open Go.RowKit
open Sp

structure RLogAt (w : World) (rl rd ro rn sz : Nat) (g : Lg) (v : Value) : Prop where
  wf : g.Wf sz
  sz1 : sz ≤ 1023
  blk : Blk w rl (rawRef rd g.count g.area (str g.bytes) v g.many)
  own : w.ownsRow (rl + 1) 9 1 v g.texts.length (strVals g.texts)
  n1 : rd < rl
  n2 : ro < rl
  n3 : rn < rl

theorem RLogAt.fr {w w' : World} {rl rd ro rn sz : Nat} {g : Lg} {v : Value} {S : List Nat} (h : RLogAt w rl rd ro rn sz g v) (hf : Fr S w w') (h1 : rl ∉ S) (h2 : ∀ b, v.ownBlock = some b → b ∉ S) : RLogAt w' rl rd ro rn sz g v :=
  ⟨h.wf, h.sz1, h.blk.fr hf h1, own_fr h.own hf h2, h.n1, h.n2, h.n3⟩
theorem RLogAt.fr0 {w w' : World} {rl rd ro rn sz : Nat} {g : Lg} {v : Value} (h : RLogAt w rl rd ro rn sz g v) (hf : Fr [] w w') : RLogAt w' rl rd ro rn sz g v := h.fr hf (by simp) (by simp)

theorem own_some {w : World} {base T n : Nat} {a : Option Addr} {c : Nat} {xs : List Value} (h : w.ownsRow base T 1 (.slice a n c) n xs) (hn : 0 < n) : ∃ b, a = some ⟨b, 0, none⟩ := by
  rcases h.2 with ⟨hv2, h0⟩ | ⟨g, cap, cur, hv2, _⟩
  · omega
  · simp only [Value.slice.injEq] at hv2; exact ⟨g, hv2.1⟩

section
variable {w : World} {rl rd ro rn co cn sz : Nat} {g : Lg} {v : Value} {d : Dv}

set_option maxHeartbeats 2000000 in
set_option maxRecDepth 100000 in
theorem rWaiting_c (h : RLogAt w rl rd ro rn sz g v) :
    Calls Tryz.prog 53 #[.pointer (some ⟨rl, 0, none⟩)] w fun e w' => e = .returned (.string (str g.waits)) ∧ Fr [] w w' := by
  obtain ⟨a, c, rfl⟩ := own_shape h.own
  have k5 := (ref_cells h.blk).2.2.2.2.2
  have hm := h.wf.many
  have hcnt := h.wf.count
  have hs1 := h.sz1
  have hW : g.waits = framesL ((g.texts.drop g.many).take (g.texts.length - g.many)) := by
    rw [List.take_of_length_le (by rw [List.length_drop]; exact Nat.le_refl _)]; rfl
  rw [hW]
  have HWL : Hid (∀ j, (framesL ((g.texts.drop g.many).take j)).length ≤ 65472) := Lib.hid (by
    intro j
    have e1 : (framesL (g.texts.drop g.many)).length ≤ (framesL g.texts).length := by rw [← h.wf.len]; show g.waits.length ≤ _; omega
    have e2 : framesL (g.texts.drop g.many) = framesL ((g.texts.drop g.many).take j) ++ framesL ((g.texts.drop g.many).drop j) := by rw [← framesL_append, List.take_append_drop]
    have e3 := congrArg List.length e2
    rw [List.length_append] at e3
    have := h.wf.room; omega)
  have HSN : Hid (∀ j x, (g.texts.drop g.many)[j]? = some x → framesL ((g.texts.drop g.many).take (j + 1)) = framesL ((g.texts.drop g.many).take j) ++ frameL x.data.toList) := Lib.hid (fun j x hx => framesL_snoc _ j x hx)
  have HSM : Hid (∀ x ∈ g.texts, x.size ≤ 4096) := Lib.hid h.wf.small
  have HAT : Hid (∀ j, g.many + j < g.texts.length → ∃ x, g.texts[g.many + j]? = some x) := Lib.hid (fun j hj => ⟨_, List.getElem?_eq_getElem hj⟩)
  generalize hn : g.texts.length = n at *
  generalize hmm : g.many = m at *
  have HH := Lib.hid h
  have HN := Lib.hid hn
  have HM := Lib.hid hmm
  clear h hW hn hmm
  go_enter Tryz.func53, Tryz.ntmps53
  go_wp2
  go_loopw [3, 4] (fun s i wr => ∃ j : Nat, m + j ≤ n ∧ i = .int .i64 ((m + j : Nat) : Int) ∧ s = .string (str (framesL ((g.texts.drop m).take j))) ∧ Hid (Fr [] w wr)) (fun _ i _ => n - (intOf i).toNat)
  case atStart => exact ⟨0, hm, rfl, rfl, Lib.hid (Fr.refl _ _)⟩
  case round =>
    obtain ⟨j, hj, rfl, rfl, hF⟩ := hrel
    have hHH := HH.out.fr0 hF.out
    have k4 := (ref_cells hHH.blk).2.2.2.2.1
    have hwl := HWL.out j
    have hsz0 : (str (framesL ((g.texts.drop m).take j))).size ≤ 65472 := by rw [str_size]; exact hwl
    by_cases hlt : m + j < n
    · obtain ⟨x, hx⟩ := HAT.out j hlt
      have hO := hHH.own
      rw [HN.out] at hO
      obtain ⟨b, rfl⟩ := own_some hO (by omega)
      have hcx := (own_cell hO (m + j) (.string x) (by rw [strVals, List.getElem?_map, hx]; rfl)).1
      have hxs := HSM.out x (List.mem_of_getElem? hx)
      have HE : Hid (str (framesL ((g.texts.drop m).take (j + 1))) = str (framesL ((g.texts.drop m).take j)) ++ frame x) := Lib.hid (by
        rw [HSN.out j x (by rw [List.getElem?_drop]; exact hx), ← str_append]; rfl)
      have hone := fun W' => rOne_c x W' hxs
      have hfs := frame_size x
      have hfs1 : (frame x).size ≤ 5000 := by omega
      generalize str (framesL ((g.texts.drop m).take j)) = S at *
      generalize frame x = X at *
      clear hx hO hHH hfs hwl
      go_wp2_with (go_at_call 60; refine (hone _).mono ?_; rintro e w2 ⟨rfl, hF2⟩; clear hone)
      go_roundw
      case rel => exact ⟨j + 1, by omega, by go_num, by rw [HE.out], Lib.hid (hF.out.trans hF2)⟩
      case measure => simp [intOf]; omega
    · obtain rfl : j = n - m := by omega
      generalize hSS : str (framesL ((g.texts.drop m).take (n - m))) = S at *
      have HSS := Lib.hid hSS
      clear hHH hSS
      go_wp2
      go_ret
      exact ⟨by rw [HSS.out]; rfl, hF.out⟩

end

end Go.Proofs.YtiojkakmlbfiiaaGreat

/- The document's log: Room, Append. -/
namespace Go.Proofs.YtiojkakmlbfiiaaGreat
open Go.RowKit
open Sp

theorem strVals_one (l : List ByteArray) : ∀ u ∈ strVals l, u.oneCell' = true := by
  intro u hu
  obtain ⟨s, _, rfl⟩ := List.mem_map.1 hu
  rfl

section
variable {w : World} {rl rd ro rn co cn sz : Nat} {g : Lg} {v : Value} {d : Dv}

set_option maxHeartbeats 2000000 in
set_option maxRecDepth 100000 in
theorem rRoom_c (h : RLogAt w rl rd ro rn sz g v) (hD : RefAt w rd ro rn co cn d) (hsz : sz = (d.on.length - 2) / 2) (h4 : 4 ≤ d.on.length) :
    Calls Tryz.prog 20 #[.pointer (some ⟨rl, 0, none⟩)] w fun e w' => e = .returned (.int .i64 (g.room (64 * sz))) ∧ Fr [] w w' := by
  have hwt := fun W' (hW : Fr [] w W') => rWaiting_c (h.fr0 hW)
  have har := fun W' (hW : Fr [] w W') => rArea_c (hD.fr hW (by simp) (by simp) (by simp)) h4
  rw [← hsz] at har
  have hroom : g.room (64 * sz) = 64 * (sz : Int) - ((str g.bytes).size : Int) - ((str g.waits).size : Int) := by
    rw [str_size, str_size]; unfold Lg.room; omega
  rw [hroom]
  have hb1 : (str g.bytes).size ≤ 65472 := by rw [str_size]; have := h.wf.len; have := h.wf.room; have := h.sz1; omega
  have hb2 : (str g.waits).size ≤ 65472 := by rw [str_size]; have := h.wf.len; have := h.wf.room; have := h.sz1; omega
  have hs1 := h.sz1
  have HB := Lib.hid h.blk
  generalize str g.waits = V at *
  generalize str g.bytes = T at *
  clear h hD hsz h4 hroom
  go_enter Tryz.func20, Tryz.ntmps20
  go_wp2
  refine wp_region_fr (by kernel_rfl) (by kernel_rfl) ?_
  refine q_val rfl (by intro w' _; go_simp; rfl) ?_
  go_frame
  refine q_val rfl (by intro w' _; go_simp; rfl) ?_
  go_frame
  refine q_val rfl (by intro w' _; go_simp; rfl) ?_
  go_frame
  refine q_val (v := .pointer (some ⟨rd, 0, none⟩)) rfl (by intro w' hW'; have := (ref_cells (HB.out.fr hW' (by simp))).1; go_simp) ?_
  go_frame
  refine q_call (f := 52) (args := #[.pointer (some ⟨rd, 0, none⟩)]) (v := .int .i64 (64 * (sz : Int))) rfl (by intro w'; go_simp; try rfl) (fun w' hW' => (har w' hW').mono fun e w'' ⟨h1, h2⟩ => ⟨h1, h2 ▸ Fr.refl _ _⟩) ?_
  go_frame
  refine q_val rfl (by intro w' _; go_simp; rfl) ?_
  go_frame
  refine q_val rfl (by intro w' _; go_simp; rfl) ?_
  go_frame
  refine q_val rfl (by intro w' _; go_simp; rfl) ?_
  go_frame
  refine q_val (v := .string T) rfl (by intro w' hW'; have := (ref_cells (HB.out.fr hW' (by simp))).2.2.2.1; go_simp) ?_
  go_frame
  refine q_val (v := .int .i64 (T.size : Int)) rfl (by intro w' _; go_simp; try rfl) ?_
  go_frame
  refine q_val (v := .int .i64 (64 * (sz : Int) - (T.size : Int))) rfl (by intro w' _; go_simp; try exact IntWalk.i64_in _ (by omega)) ?_
  go_frame
  refine q_val rfl (by intro w' _; go_simp; rfl) ?_
  go_frame
  refine q_call (f := 53) (args := #[.pointer (some ⟨rl, 0, none⟩)]) (v := .string V) rfl (by intro w'; go_simp; try rfl) (fun w' hW' => hwt w' hW') ?_
  go_frame
  refine q_val (v := .int .i64 (V.size : Int)) rfl (by intro w' _; go_simp; try rfl) ?_
  go_frame
  refine q_val (v := .int .i64 (64 * (sz : Int) - (T.size : Int) - (V.size : Int))) rfl (by intro w' _; go_simp; try exact IntWalk.i64_in _ (by omega)) ?_
  go_frame
  refine q_val rfl (by intro w' _; go_simp; rfl) ?_
  go_frame
  refine wpQuiet_nil ?_
  intro w1 hF1
  go_wp2
  go_ret
  exact ⟨rfl, hF1⟩

set_option maxHeartbeats 2000000 in
set_option maxRecDepth 100000 in
theorem rAppend_c (h : RLogAt w rl rd ro rn sz g v) (hD : RefAt w rd ro rn co cn d) (hsz : sz = (d.on.length - 2) / 2) (h4 : 4 ≤ d.on.length) (t : ByteArray) (ht : t.size ≤ 9223372036854775807) :
    Calls Tryz.prog 26 #[.pointer (some ⟨rl, 0, none⟩), .string t] w fun e w' => ∃ v', e = .returned (.int .i64 (g.append (64 * sz) t).2) ∧
      RLogAt w' rl rd ro rn sz (g.append (64 * sz) t).1 v' ∧ Moved w v v' ∧ Fr [rl] w w' := by
  have HH := Lib.hid h
  by_cases h1 : 4096 < t.size
  · have e : g.append (64 * sz) t = (g, 2) := by unfold Lg.append; rw [if_pos h1]
    rw [e]
    have h1' : 4096 < (t.size : Int) := by omega
    clear e h1
    go_enter Tryz.func26, Tryz.ntmps26
    go_wp2
    go_ret
    exact ⟨v, rfl, HH.out, Or.inl rfl, Fr.refl _ _⟩
  · have hone := fun W' => rOne_c t W' (by omega)
    have hrm := fun W' (hW : Fr [] w W') => rRoom_c (h.fr0 hW) (hD.fr hW (by simp) (by simp) (by simp)) hsz h4
    have hfs := frame_size t
    have hfs1 : (frame t).size ≤ 4102 := by omega
    have h1' : (t.size : Int) ≤ 4096 := by omega
    have hrb : -200000 ≤ g.room (64 * sz) ∧ g.room (64 * sz) ≤ 65472 := by
      have := h.wf.len; have := h.wf.room; have := h.sz1
      unfold Lg.room; omega
    obtain ⟨rm, hrm0⟩ : ∃ rm, g.room (64 * sz) = rm := ⟨_, rfl⟩
    rw [hrm0] at hrb
    simp only [hrm0] at hrm
    have HFS := Lib.hid hfs
    have HR := Lib.hid hrm0
    have HN1 := Lib.hid h1
    clear hfs hrm0 h1
    by_cases h2 : rm < ((t.size + 6 : Nat) : Int)
    · have e : g.append (64 * sz) t = (g, 100) := by unfold Lg.append; rw [if_neg HN1.out, HR.out, if_pos h2]
      rw [e]
      have h2' : rm < ((frame t).size : Int) := by rw [HFS.out]; exact h2
      clear e h2 h hD
      generalize frame t = X at *
      go_enter Tryz.func26, Tryz.ntmps26
      go_wp2_with (first
        | (go_at_call 60; refine (hone _).mono ?_; rintro e w2 ⟨rfl, hF2⟩; have hrm2 := hrm w2 hF2; clear hone)
        | (go_at_call 20; refine hrm2.mono ?_; rintro e w3 ⟨rfl, hF3⟩; clear hrm2))
      go_ret
      have hF := hF2.trans hF3
      exact ⟨v, rfl, HH.out.fr0 hF, Or.inl rfl, hF.any⟩
    · have e : g.append (64 * sz) t = ({ g with texts := g.texts ++ [t] }, 0) := by unfold Lg.append; rw [if_neg HN1.out, HR.out, if_neg h2]
      rw [e]
      have h2' : ((frame t).size : Int) ≤ rm := by rw [HFS.out]; omega
      have hpush : Lg.Wf sz { g with texts := g.texts ++ [t] } := h.wf.push t (by omega) (by
        have e1 := h.wf.len
        have e2 := HR.out
        unfold Lg.room at e2
        omega)
      have HP := Lib.hid hpush
      obtain ⟨i0, hi, hz0, hz1, hz2⟩ := info_parts strInfo
      obtain ⟨fp, hsl⟩ := own_slice h.own
      obtain ⟨a, c, rfl⟩ := own_shape h.own
      have hcnt := h.wf.count
      have hs1 := h.sz1
      have hlen : (strVals g.texts).length = g.texts.length := by simp [strVals]
      have HI := Lib.hid (show _ ∧ _ ∧ _ ∧ _ from ⟨hi, hz0, hz1, hz2⟩)
      have HSL := Lib.hid hsl
      have HLN := Lib.hid hlen
      obtain ⟨N, hN⟩ : ∃ N, w.heap.size = N := ⟨_, rfl⟩
      have hrlN : rl < N := by rw [← hN]; exact h.blk.lt
      have HN := Lib.hid hN
      clear e h2 h hD hpush hi hz0 hz1 hz2 hsl hlen HR HFS HN1 hN
      generalize frame t = X at *
      go_enter Tryz.func26, Tryz.ntmps26
      go_wp2_with (first
        | (go_at_call 60; refine (hone _).mono ?_; rintro e w2 ⟨rfl, hF2⟩; have hrm2 := hrm w2 hF2; clear hone)
        | (go_at_call 20; refine hrm2.mono ?_; rintro e w3 ⟨rfl, hF3⟩; clear hrm2 hrm
           have hF := hF2.trans hF3
           have hH3 := HH.out.fr0 hF
           have k4 := (ref_cells hH3.blk).2.2.2.2.1
           have hblt := hH3.blk.lt
           have HH3 := Lib.hid hH3
           have HFF := Lib.hid hF
           have hle : N ≤ w3.heap.size := by rw [← HN.out]; exact hF.size
           clear hH3 hF)
        | (at_builtin; refine wpList_append_sl _ rfl (.tmp 15) (.tmp 19) 37 rfl N 9 i0 (.string ByteArray.empty) 16 Tryz.underlying37 HI.out.1 HI.out.2.1 HI.out.2.2.1 HI.out.2.2.2 rfl
             (.slice (some ⟨w3.heap.size, 0, none⟩) 0 0) 0 [] rfl (World.ownsRow_lit w3 #[] 0 (by omega) (by unfold maxLen; omega) rfl) (.slice a g.texts.length c) fp (strVals g.texts) rfl (HSL.out.fr (S := []) ((HFF.out.alloc _)) (by simp)) (strVals_one _) (by rw [HLN.out]; unfold maxLen; omega) (by rw [HLN.out]; omega) (by simp; omega) ?_
           intro v1 w4 hown1 hgr1 _
           simp only [Nat.zero_add, List.nil_append, HLN.out] at hown1
           have hF4 : Fr [] w w4 := (HFF.out.alloc _).grown hgr1 (fun b hb => Or.inr (by simp [Value.ownBlock] at hb; rw [HN.out]; omega))
           have HF4 := Lib.hid hF4
           have HO4 := Lib.hid hown1
           have hle4 : N ≤ w4.heap.size := by rw [← HN.out]; exact hF4.size
           obtain ⟨a1, c1, rfl⟩ := own_shape hown1
           clear hown1 hgr1 hF4)
        | (at_builtin; refine wpList_append_sl _ rfl (.tmp 20) (.tmp 22) 37 rfl N 9 i0 (.string ByteArray.empty) 16 Tryz.underlying37 HI.out.1 HI.out.2.1 HI.out.2.2.1 HI.out.2.2.2 rfl
             (.slice a1 g.texts.length c1) g.texts.length (strVals g.texts) rfl (own_fr HO4.out ((Fr.refl [] w4).alloc _) (by simp)) (.slice (some ⟨w4.heap.size, 0, none⟩) 1 1) (some w4.heap.size) [.string t] rfl (slice_lit w4 [.string t] _ 1 rfl) (by intro u hu; simp at hu; subst hu; rfl) (by unfold maxLen; simp; omega) (by simp; omega) (by simp; omega) ?_
           intro v2 w5 hown2 hgr2 _
           simp only [List.length_cons, List.length_nil, Nat.zero_add] at hown2
           have hF5 : Fr [] w w5 := (HF4.out.alloc _).grown hgr2 (fun b hb => Or.inr (by have := (own_base HO4.out b hb).1; rw [HN.out]; omega))
           have HF5 := Lib.hid hF5
           have HO5 := Lib.hid hown2
           have hle5 : N ≤ w5.heap.size := by rw [← HN.out]; exact hF5.size
           have HH5 := Lib.hid (HH.out.fr0 hF5)
           obtain ⟨a2, c2, rfl⟩ := own_shape hown2
           have k45 := (ref_cells HH5.out.blk).2.2.2.2.1
           have f45 := HH5.out.blk.free 4
           clear hown2 hgr2 hF5))
      go_ret
      have hset : Fr [rl] w5 (w5.setCell ⟨rl, 4, none⟩ (.slice a2 (g.texts.length + 1) c2)) := (Fr.refl _ _).setCell (Or.inl (by simp)) _
      have hge : ∀ b, Value.ownBlock (.slice a2 (g.texts.length + 1) c2) = some b → N ≤ b := fun b hb => (own_base HO5.out b hb).1
      refine ⟨.slice a2 (g.texts.length + 1) c2, rfl, ⟨HP.out, HH.out.sz1, HH5.out.blk.set 4 _, ?_, HH.out.n1, HH.out.n2, HH.out.n3⟩, Or.inr (fun b hb => by rw [HN.out]; exact hge b hb), HF5.out.any.trans hset⟩
      have h1 := own_weak (own_fr HO5.out hset (fun b hb => by have := hge b hb; simp; omega)) (show rl + 1 ≤ N by omega)
      show World.ownsRow _ _ _ _ _ (g.texts ++ [t]).length (strVals (g.texts ++ [t]))
      rw [strVals_snoc, List.length_append]
      exact h1

end

end Go.Proofs.YtiojkakmlbfiiaaGreat
