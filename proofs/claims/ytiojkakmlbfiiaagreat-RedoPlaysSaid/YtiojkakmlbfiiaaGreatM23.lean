/- The document's log: Open. -/
import Derived.Test.YtiojkakmlbfiiaaGreatM22
import Derived.Test.YtiojkakmlbfiiaaGreatM12
/- The document's log: Open. -/
namespace Go.Proofs.YtiojkakmlbfiiaaGreat
open Go.RowKit
open Sp

def ROpenPost (w : World) (rd ro rn co cn : Nat) (d : Dv) (r : Dv × Option Lg × Int) (e : Ending) (w' : World) : Prop :=
  RefAt w' rd ro rn co cn r.1 ∧ Fr [rd, ro, rn] w w' ∧
  (r.2.1 = none → e = .returned (.tuple #[.pointer none, .int .i64 r.2.2])) ∧
  (∀ g, r.2.1 = some g → ∃ rl v, e = .returned (.tuple #[.pointer (some ⟨rl, 0, none⟩), .int .i64 r.2.2]) ∧ w.heap.size ≤ rl ∧ RLogAt w' rl rd ro rn ((d.on.length - 2) / 2) g v)

section
variable {w : World} {rd ro rn co cn : Nat} {d : Dv}

set_option maxHeartbeats 16000000 in
set_option maxRecDepth 100000 in
theorem rOpen_c (hD : RefAt w rd ro rn co cn d) : Calls Tryz.prog 18 #[.pointer (some ⟨rd, 0, none⟩)] w (ROpenPost w rd ro rn co cn d (openLog d)) := by
  obtain ⟨RS, hRS⟩ : ∃ RS, openLog d = RS := ⟨_, rfl⟩
  rw [hRS]
  have HRS := Lib.hid hRS
  have HD := Lib.hid hD
  have hle := hD.wf.most
  have c0 := hD.cells.1
  have hb1 := hD.blk.lt
  have hb2 := (own_base hD.on ro rfl).2
  have hb3 := (own_base hD.nw rn rfl).2
  clear hRS
  obtain ⟨n, hn⟩ : ∃ n, d.on.length = n := ⟨_, rfl⟩
  rw [hn] at hle c0
  have HN := Lib.hid hn
  clear hn
  by_cases h4 : n < 4
  · have HR : Hid (RS = (d, none, 4)) := Lib.hid (by rw [← HRS.out]; unfold openLog; rw [if_pos (by rw [HN.out]; exact h4)])
    clear hD
    go_enter Tryz.func18, Tryz.ntmps18
    go_wp2
    go_ret2
    rw [HR.out]
    exact ⟨HD.out, Fr.refl _ _, fun _ => rfl, fun g hg => by (cases hg)⟩
  obtain ⟨sz, hs⟩ : ∃ sz, (n - 2) / 2 = sz := ⟨_, rfl⟩
  have hs1 : sz ≤ 1023 := by omega
  have hn4 : 4 ≤ n := by omega
  have HS := Lib.hid hs
  have HBL : Hid (rd < w.heap.size ∧ ro < w.heap.size ∧ rn < w.heap.size) := Lib.hid ⟨hb1, hb2, hb3⟩
  have hW : Blk (w.alloc (.cells #[.pointer (some ⟨rd, 0, none⟩), .int .i64 0, .int .i64 0, .string ⟨#[]⟩, .slice none 0 0, .int .i64 0] 60)) w.heap.size (rawRef rd 0 0 ByteArray.empty (.slice none 0 0) 0) :=
    Blk.new w [.pointer (some ⟨rd, 0, none⟩), .int .i64 0, .int .i64 0, .string ⟨#[]⟩, .slice none 0 0, .int .i64 0] 60
  have hF0 : Fr [] w (w.alloc (.cells #[.pointer (some ⟨rd, 0, none⟩), .int .i64 0, .int .i64 0, .string ⟨#[]⟩, .slice none 0 0, .int .i64 0] 60)) := (Fr.refl _ _).alloc _
  have HW := Lib.hid hW
  have HF0 := Lib.hid hF0
  have hc0 := c0
  clear hW hF0 h4 hs hb1 hb2 hb3
  by_cases hdn : d.down = true
  · have HR : Hid (RS = (d, none, 90)) := Lib.hid (by rw [← HRS.out]; unfold openLog; rw [if_neg (by have := HN.out; omega), if_pos hdn])
    have hrd : ∀ k : Int, d.read k = (ByteArray.empty, 90) := by intro k; unfold Dv.read Dv.wrong; rw [if_pos hdn, if_neg (by omega)]
    have HRD := Lib.hid hrd
    clear hrd hdn hD
    go_enter Tryz.func18, Tryz.ntmps18
    go_wp2
    generalize w.alloc (.cells #[.pointer (some ⟨rd, 0, none⟩), .int .i64 0, .int .i64 0, .string ⟨#[]⟩, .slice none 0 0, .int .i64 0] 60) = W at HW HF0 ⊢
    go_loopw [7] (fun i wr => i = .int .i64 0 ∧ Hid (Fr [] w wr)) (fun i _ => 0)
    case atStart => exact ⟨rfl, HF0⟩
    case round =>
      obtain ⟨rfl, hF⟩ := hrel
      have hr := rRead_c (HD.out.fr hF.out (by simp) (by simp) (by simp)) 0
      rw [HRD.out] at hr
      go_wp2_with (go_at_call 23; refine hr.mono ?_; rintro e w' ⟨rfl, rfl⟩)
      go_ret2
      rw [HR.out]
      exact ⟨HD.out.fr hF.out (by simp) (by simp) (by simp), hF.out.any, fun _ => rfl, fun g hg => by (cases hg)⟩
  · rw [Bool.not_eq_true] at hdn
    have HRDK : Hid (∀ k : Nat, k < 2 → d.read (k : Int) = (d.text k, 0)) := Lib.hid (fun k hk => read_ok hdn k (by have := HN.out; omega))
    have HTS : Hid (∀ k : Nat, k < 2 → (d.text k).size = 64) := Lib.hid (fun k hk => text64 hD.wf k (by have := HN.out; omega))
    have HDN := Lib.hid hdn
    have har : areaOf d.on.length = 64 * sz := by rw [areaOf, HN.out, HS.out]
    have HAR := Lib.hid har
    have HUP := Lib.hid (d.upto_ok)
    have HU2 := Lib.hid (d.upto_two)
    have HRB : Hid (RS = match d.best with
      | none => (if (d.wflush 1 (headText 1 0 0)).2 = 0 then (if ((d.wflush 1 (headText 1 0 0)).1.bareNext 1).2 = 0 then (((d.wflush 1 (headText 1 0 0)).1.bareNext 1).1, some ⟨1, 0, [], [], 0⟩, 0) else (((d.wflush 1 (headText 1 0 0)).1.bareNext 1).1, none, ((d.wflush 1 (headText 1 0 0)).1.bareNext 1).2))
        else ((d.wflush 1 (headText 1 0 0)).1, none, (d.wflush 1 (headText 1 0 0)).2))
      | some (c, a, l) => match allL (d.stored a l) with
        | none => (d, none, 101)
        | some texts => if (d.bareNext c).2 = 0 then ((d.bareNext c).1, some ⟨c, a, d.stored a l, texts, texts.length⟩, 0) else ((d.bareNext c).1, none, (d.bareNext c).2)) := Lib.hid (by
      rw [← HRS.out]; unfold openLog
      rw [if_neg (by have := HN.out; omega), if_neg (by rw [hdn]; simp)]
      rcases d.best with _ | ⟨c, a, l⟩
      · rfl
      · show _ = _
        simp only
        cases allL (d.stored a l) <;> rfl)
    have HDH : Hid (∀ k : Nat, d.head k = parseHead (64 * sz) (d.text k)) := Lib.hid (fun k => by unfold Dv.head; rw [HAR.out])
    clear hdn har hD
    go_enter Tryz.func18, Tryz.ntmps18
    go_wp2
    generalize w.alloc (.cells #[.pointer (some ⟨rd, 0, none⟩), .int .i64 0, .int .i64 0, .string ⟨#[]⟩, .slice none 0 0, .int .i64 0] 60) = W at HW HF0 ⊢
    obtain ⟨rl, hrl⟩ : ∃ rl, w.heap.size = rl := ⟨_, rfl⟩
    rw [hrl] at HW HBL ⊢
    have HRL := Lib.hid hrl
    have HNE : Hid (rl ≠ rd ∧ rl ≠ ro ∧ rl ≠ rn) := Lib.hid (by have := HBL.out; omega)
    clear hrl
    go_loopw [5, 6, 7] (fun long found i wr => ∃ k : Nat, k ≤ 2 ∧ i = .int .i64 (k : Int) ∧ long = .int .i64 ((d.upto k).2.2 : Int) ∧ found = .bool (!decide ((d.upto k).1 = 0)) ∧
      Hid (Blk wr rl (rawRef rd (d.upto k).1 (d.upto k).2.1 ByteArray.empty (.slice none 0 0) 0)) ∧ Hid (Fr [] w wr)) (fun _ _ i _ => 2 - (intOf i).toNat)
    case atStart => exact ⟨0, by omega, rfl, rfl, rfl, HW, HF0⟩
    case round =>
      obtain ⟨k, hk, rfl, rfl, rfl, hB, hF⟩ := hrel
      by_cases hk2 : k < 2
      · have hDw := HD.out.fr hF.out (by simp) (by simp) (by simp)
        have hr := rRead_c hDw (k : Int)
        rw [HRDK.out k hk2] at hr
        have hre := rread0_c hDw (by rw [HN.out]; exact hn4) (d.text k) (HTS.out k hk2)
        rw [HAR.out] at hre
        have hup : d.upto (k + 1) = if (d.upto k).1 < ((d.head k).getD (0, 0, 0)).1 then (d.head k).getD (0, 0, 0) else d.upto k := rfl
        rw [HDH.out k] at hup
        generalize d.text k = s at *
        generalize d.upto k = U at *
        obtain ⟨U1, U2, U3⟩ := U
        simp only at hB hup ⊢
        have HB := hB
        clear hDw hB
        cases hp : parseHead (64 * sz) s with
        | none =>
          rw [hp] at hre hup
          have HUPK : Hid (d.upto (k + 1) = (U1, U2, U3)) := Lib.hid (by rw [hup, if_neg (by show ¬ U1 < 0; omega)])
          clear hup hp
          simp only [Option.isSome_none] at hre
          have hab : hA s < 256 := (s.data.toList.getD 12 0).toNat_lt
          generalize hC s = c at *
          generalize hL s = l at *
          generalize hA s = a at *
          go_wp2_with (first
            | (go_at_call 23; refine hr.mono ?_; rintro e w2 ⟨rfl, rfl⟩; clear hr)
            | (go_at_call 45; refine hre.mono ?_; rintro e w3 ⟨rfl, hF3⟩; clear hre))
          go_roundw
          case rel => exact ⟨k + 1, by omega, by go_num, by rw [HUPK.out], by rw [HUPK.out], Lib.hid (by rw [HUPK.out]; exact HB.out.fr hF3 (by simp)), Lib.hid (hF.out.trans hF3)⟩
          case measure => simp [intOf]; omega
        | some h =>
          obtain ⟨c, a, l⟩ := h
          obtain ⟨p1, p2, p3⟩ := parse_parts hp
          rw [hp] at hre hup
          rw [p1, p2, p3] at hre
          simp only [Option.isSome_some, Option.getD_some] at hre hup
          have hpo := parse_one hp
          obtain ⟨q1, q2, q3, q4⟩ := hpo
          have HUPK := Lib.hid hup
          clear hup hp p1 p2 p3
          by_cases hu0 : U1 = 0
          · have HK : Hid (d.upto (k + 1) = (c, a, l)) := Lib.hid (by rw [HUPK.out, if_pos (by omega)])
            have hc0 : decide (c = 0) = false := by simp; omega
            have HC0 := Lib.hid hc0
            subst hu0
            clear hc0
            go_wp2_with (first
              | (go_at_call 23; refine hr.mono ?_; rintro e w2 ⟨rfl, rfl⟩; clear hr)
              | (go_at_call 45; refine hre.mono ?_; rintro e w3 ⟨rfl, hF3⟩; clear hre
                 have HB3 := Lib.hid (HB.out.fr hF3 (by simp))
                 have k1 := (ref_cells HB3.out).2.1
                 have k2 := (ref_cells HB3.out).2.2.1
                 have f1 := HB3.out.free 1
                 have f2 := HB3.out.free 2))
            go_roundw
            case rel => exact ⟨k + 1, by omega, by go_num, by rw [HK.out], by rw [HK.out]; show _ = Value.bool (!decide (c = 0)); rw [HC0.out]; rfl, Lib.hid (by rw [HK.out]; exact (HB3.out.set 1 _).set 2 _), Lib.hid (((hF.out.trans hF3).setCell (Or.inr (by rw [HRL.out]; exact Nat.le_refl _)) _).setCell (Or.inr (by rw [HRL.out]; exact Nat.le_refl _)) _)⟩
            case measure => simp [intOf]; omega
          · have hf : decide (U1 = 0) = false := by simpa using hu0
            by_cases hlt : U1 < c
            · have hltI : (U1 : Int) < (c : Int) := by omega
              have HK : Hid (d.upto (k + 1) = (c, a, l)) := Lib.hid (by rw [HUPK.out, if_pos hlt])
              have hc0 : decide (c = 0) = false := by simp; omega
              have HC0 := Lib.hid hc0
              clear hc0 hlt hu0
              go_wp2_with (first
                | (go_at_call 23; refine hr.mono ?_; rintro e w2 ⟨rfl, rfl⟩; clear hr)
                | (go_at_call 45; refine hre.mono ?_; rintro e w3 ⟨rfl, hF3⟩; clear hre
                   have HB3 := Lib.hid (HB.out.fr hF3 (by simp))
                   have k1 := (ref_cells HB3.out).2.1
                   have k2 := (ref_cells HB3.out).2.2.1
                   have f1 := HB3.out.free 1
                   have f2 := HB3.out.free 2))
              go_roundw
              case rel => exact ⟨k + 1, by omega, by go_num, by rw [HK.out], by rw [HK.out]; show _ = Value.bool (!decide (c = 0)); rw [HC0.out]; rfl, Lib.hid (by rw [HK.out]; exact (HB3.out.set 1 _).set 2 _), Lib.hid (((hF.out.trans hF3).setCell (Or.inr (by rw [HRL.out]; exact Nat.le_refl _)) _).setCell (Or.inr (by rw [HRL.out]; exact Nat.le_refl _)) _)⟩
              case measure => simp [intOf]; omega
            · have hltI : (c : Int) ≤ (U1 : Int) := by omega
              have HK : Hid (d.upto (k + 1) = (U1, U2, U3)) := Lib.hid (by rw [HUPK.out, if_neg hlt])
              have HF := Lib.hid hf
              clear hlt hu0
              go_wp2_with (first
                | (go_at_call 23; refine hr.mono ?_; rintro e w2 ⟨rfl, rfl⟩; clear hr)
                | (go_at_call 45; refine hre.mono ?_; rintro e w3 ⟨rfl, hF3⟩; clear hre
                   have HB3 := Lib.hid (HB.out.fr hF3 (by simp))
                   have k1 := (ref_cells HB3.out).2.1))
              go_roundw
              case rel => exact ⟨k + 1, by omega, by go_num, by rw [HK.out], by rw [HK.out]; show _ = Value.bool (!decide (U1 = 0)); rw [HF.out]; rfl, Lib.hid (by rw [HK.out]; exact HB3.out), Lib.hid (hF.out.trans hF3)⟩
              case measure => simp [intOf]; omega
      · obtain rfl : k = 2 := by omega
        clear hk hk2
        have hu2 := HU2.out
        have hok := HUP.out 2
        obtain ⟨⟨c, a, l⟩, hU⟩ : ∃ U, d.upto 2 = U := ⟨_, rfl⟩
        rw [hU] at hu2 hok hB ⊢
        simp only at hB hu2 hok ⊢
        have HB := hB
        have hs2 : sz = (d.on.length - 2) / 2 := by rw [HN.out, HS.out]
        clear hU HU2 HUP hB
        by_cases hc0 : c = 0
        · have hbn : d.best = none := hu2.2.2 hc0
          have hrb := HRB.out
          rw [hbn] at hrb hu2
          simp only at hrb
          have hz : (c, a, l) = ((0 : Nat), (0 : Nat), (0 : Nat)) := hu2.1
          simp only [Prod.mk.injEq] at hz
          obtain ⟨rfl, rfl, rfl⟩ := hz
          clear hu2 hbn hok hc0
          have k1 := (ref_cells HB.out).2.1
          have f1 := HB.out.free 1
          have HB1 : Hid (Blk (wr.setCell ⟨rl, 1, none⟩ (.int .i64 1)) rl (rawRef rd 1 0 ByteArray.empty (.slice none 0 0) 0)) := Lib.hid (HB.out.set 1 (.int .i64 1))
          have HF1 : Hid (Fr [] w (wr.setCell ⟨rl, 1, none⟩ (.int .i64 1))) := Lib.hid (hF.out.setCell (Or.inr (by rw [HRL.out]; exact Nat.le_refl _)) _)
          have HD1 := Lib.hid (HD.out.fr HF1.out (by simp) (by simp) (by simp))
          have hhd : ∀ W', Calls Tryz.prog 47 #[.int .i64 1, .int .i64 0, .int .i64 0] W' fun e w' => e = .returned (.string (headText 1 0 0)) ∧ Fr [] W' w' := fun W' => rHead_c 1 0 0 W' (by omega) (by omega) (by omega)
          have hhs : (headText 1 0 0).size = 64 := headText_size _ _ _
          obtain ⟨H, hH⟩ : ∃ H, headText 1 0 0 = H := ⟨_, rfl⟩
          rw [hH] at hrb hhd hhs
          have hwr := fun W' (hW' : Fr [] (wr.setCell ⟨rl, 1, none⟩ (.int .i64 1)) W') => rWrite_c (HD1.out.fr hW' (by simp) (by simp) (by simp)) 1 H
          clear hH hhs
          by_cases hw0 : (d.write 1 H).2 = 0
          · obtain ⟨M, hM⟩ : ∃ M, (d.write 1 H).1.flush = M := ⟨_, rfl⟩
            have hwf : d.wflush 1 H = M := by rw [← hM]; unfold Dv.wflush; exact if_pos hw0
            rw [hwf] at hrb
            have hMl : M.1.on.length = d.on.length := by rw [← hwf]; exact Dv.wflush_len HD.out.wf _ _
            have hMo : M.2 = 0 → M.1.down = false := by rw [← hwf]; exact Dv.wflush_ok
            have HW0 := Lib.hid hw0
            have HM := Lib.hid hM
            have HRB3 := Lib.hid hrb
            clear hrb hwf hM hw0
            by_cases hM0 : M.2 = 0
            · have HMZ := Lib.hid hM0
              have hMd := hMo hM0
              have HRS2 : Hid (RS = match allL (M.1.stored 0 0) with
                | none => (M.1, none, 101)
                | some texts => if (M.1.bareNext 1).2 = 0 then ((M.1.bareNext 1).1, some ⟨1, 0, M.1.stored 0 0, texts, texts.length⟩, 0) else ((M.1.bareNext 1).1, none, (M.1.bareNext 1).2)) := Lib.hid (by
                  rw [HRB3.out, if_pos hM0, show M.1.stored 0 0 = [] from List.take_zero, allL_nil]; rfl)
              clear hMo hM0 HRB3
              have hM4 : 4 ≤ M.1.on.length := by rw [hMl, HN.out]; exact hn4
              have hs3 : (M.1.on.length - 2) / 2 = (d.on.length - 2) / 2 := by rw [hMl]
              obtain ⟨ST, hST⟩ : ∃ ST, M.1.stored 0 0 = ST := ⟨_, rfl⟩
              have hSTL : ST.length = 0 := by rw [← hST]; rfl
              have HST := Lib.hid hST
              rw [hST] at HRS2
              have hSTB : ST.length ≤ 65472 := by omega
              have HSTL := Lib.hid hSTL
              clear hSTL hST
              have HSTS : Hid ((str ST).data.toList = ST) := Lib.hid (str_data ST)
              have hall := fun W' => rAll_c (str ST) W' (by rw [str_size]; omega)
              have HALL : Hid (∀ W', Calls Tryz.prog 50 #[.string (str ST)] W' (fun e w' =>
                  (∀ x, allL ST = some x → ∃ v, e = .returned (.tuple #[v, .int .i64 ((str ST).size : Int), .int .i64 0]) ∧ w'.ownsRow W'.heap.size 9 1 v x.length (strVals x)) ∧
                  (allL ST = none → ∃ v a c, e = .returned (.tuple #[v, .int .i64 a, .int .i64 c]) ∧ c ≠ 0) ∧ Fr [] W' w')) := Lib.hid (fun W' => by
                have := hall W'; unfold AllPost at this; rw [HSTS.out] at this; exact this)
              clear hall
              have HGT := Lib.hid (allL_frames ST.length ST)
              obtain ⟨S, hS⟩ : ∃ S, str ST = S := ⟨_, rfl⟩
              rw [hS] at HALL
              have hSz : S.size ≤ 65472 := by rw [← hS, str_size]; omega
              have HSS := Lib.hid hS
              try rw [hS] at hst
              clear hSTB
              cases hA : allL ST with
              | none =>
                rw [hA] at HRS2
                have HX : Hid (RS = (M.1, none, 101)) := Lib.hid HRS2.out
                have HA := Lib.hid hA
                clear hA hS
                go_wp2_with (first
                  | (go_at_call 47; refine (hhd _).mono ?_; rintro e w3 ⟨rfl, hF3⟩; have hwr3 := hwr w3 hF3; rw [HW0.out] at hwr3; clear hhd hwr)
                  | (go_at_call 46; refine hwr3.mono ?_; rintro e w4 ⟨rfl, hD4, hF4⟩; have hfl := rFlush_c hD4; rw [HM.out, HMZ.out] at hfl
                     have HB4 := Lib.hid ((HB1.out.fr hF3 (by simp)).fr hF4 (by have := HNE.out; simp; omega))
                     have HF4 := Lib.hid ((HF1.out.trans hF3).any.trans hF4)
                     clear hwr3)
                  | (go_at_call 48; refine hfl.mono ?_; rintro e w5 ⟨rfl, hD5, hF5⟩; clear hfl
                     have HD5 := Lib.hid hD5
                     have HB5 := Lib.hid (HB4.out.fr hF5 (by have := HNE.out; simp; omega))
                     have HF5 : Hid (Fr [rd, ro, rn] w w5) := Lib.hid ((HF4.out.mono (by simp)).trans hF5)
                     have k2 := (ref_cells HB5.out).2.2.1
                     have k3 := (ref_cells HB5.out).2.2.2.1
                     have f3 := HB5.out.free 3
                     have hst : Calls Tryz.prog 49 #[.pointer (some ⟨rd, 0, none⟩), .int .i64 0, .int .i64 0] w5 fun e w' => e = .returned (.string (str (M.1.stored 0 0))) ∧ w5 = w' := rStored_c HD5.out hM4 hMd 0 0 (by omega) (by omega)
                     rw [HST.out, HSS.out] at hst
                     clear hD5 hF5)
                  | (go_at_call 49; refine hst.mono ?_; rintro e w6 ⟨rfl, rfl⟩; clear hst)
                  | (go_at_call 50; refine (HALL.out _).mono ?_; rintro e w7 ⟨-, hn, hF7⟩; obtain ⟨av, aa, ac, rfl, hacn⟩ := hn HA.out; clear hn
                     have hne7 : (ac != 0) = true := by simpa using hacn))
                go_ret2
                rw [HX.out]
                have hset : Fr [rd, ro, rn] w (w5.setCell ⟨rl, 3, none⟩ (.string S)) := HF5.out.setCell (Or.inr (by rw [HRL.out]; exact Nat.le_refl _)) _
                have hset0 : Fr [rl] w5 (w5.setCell ⟨rl, 3, none⟩ (.string S)) := (Fr.refl _ _).setCell (Or.inl (by simp)) _
                exact ⟨(HD5.out.fr hset0 (by have := HNE.out; simp; omega) (by have := HNE.out; simp; omega) (by have := HNE.out; simp; omega)).fr hF7 (by simp) (by simp) (by simp), hset.trans hF7.any, fun _ => rfl, fun g hg => by (cases hg)⟩
              | some ts =>
                rw [hA] at HRS2
                obtain ⟨Q, hQ⟩ : ∃ Q, M.1.bareNext 1 = Q := ⟨_, rfl⟩
                have hrs := HRS2.out
                simp only [hQ] at hrs
                have HRS3 := Lib.hid hrs
                have HA := Lib.hid hA
                have HQ := Lib.hid hQ
                have hts := HGT.out ts (Nat.le_refl _) hA
                have hts6 := framesL_six ts
                have HTS2 := Lib.hid hts
                have htl : ts.length ≤ 20000 := by have h1 := congrArg List.length hts.1; have := HSTL.out; omega
                clear hrs hQ hA hS hts hts6
                by_cases hQ0 : Q.2 = 0
                · have HQ0 := Lib.hid hQ0
                  have HX : Hid (RS = (Q.1, some ⟨1, 0, ST, ts, ts.length⟩, 0)) := Lib.hid (by rw [HRS3.out, if_pos hQ0])
                  clear hQ0
                  go_wp2_with (first
                    | (go_at_call 47; refine (hhd _).mono ?_; rintro e w3 ⟨rfl, hF3⟩; have hwr3 := hwr w3 hF3; rw [HW0.out] at hwr3; clear hhd hwr)
                    | (go_at_call 46; refine hwr3.mono ?_; rintro e w4 ⟨rfl, hD4, hF4⟩; have hfl := rFlush_c hD4; rw [HM.out, HMZ.out] at hfl
                       have HB4 := Lib.hid ((HB1.out.fr hF3 (by simp)).fr hF4 (by have := HNE.out; simp; omega))
                       have HF4 := Lib.hid ((HF1.out.trans hF3).any.trans hF4)
                       clear hwr3)
                    | (go_at_call 48; refine hfl.mono ?_; rintro e w5 ⟨rfl, hD5, hF5⟩; clear hfl
                       have HD5 := Lib.hid hD5
                       have HB5 := Lib.hid (HB4.out.fr hF5 (by have := HNE.out; simp; omega))
                       have HF5 : Hid (Fr [rd, ro, rn] w w5) := Lib.hid ((HF4.out.mono (by simp)).trans hF5)
                       have k2 := (ref_cells HB5.out).2.2.1
                       have k3 := (ref_cells HB5.out).2.2.2.1
                       have f3 := HB5.out.free 3
                       have hst : Calls Tryz.prog 49 #[.pointer (some ⟨rd, 0, none⟩), .int .i64 0, .int .i64 0] w5 fun e w' => e = .returned (.string (str (M.1.stored 0 0))) ∧ w5 = w' := rStored_c HD5.out hM4 hMd 0 0 (by omega) (by omega)
                       rw [HST.out, HSS.out] at hst
                       clear hD5 hF5)
                    | (go_at_call 49; refine hst.mono ?_; rintro e w6 ⟨rfl, rfl⟩; clear hst)
                    | (go_at_call 50; refine (HALL.out _).mono ?_; rintro e w7 ⟨hn, -, hF7⟩; obtain ⟨av, rfl, hO7⟩ := hn ts HA.out; clear hn
                       obtain ⟨aa, ac, rfl⟩ := own_shape hO7
                       have hset : Fr [rd, ro, rn] w (w5.setCell ⟨rl, 3, none⟩ (.string S)) := HF5.out.setCell (Or.inr (by rw [HRL.out]; exact Nat.le_refl _)) _
                       have hset0 : Fr [rl] w5 (w5.setCell ⟨rl, 3, none⟩ (.string S)) := (Fr.refl _ _).setCell (Or.inl (by simp)) _
                       have HD7 := Lib.hid ((HD5.out.fr hset0 (by have := HNE.out; simp; omega) (by have := HNE.out; simp; omega) (by have := HNE.out; simp; omega)).fr hF7 (by simp) (by simp) (by simp))
                       have HB7 : Hid (Blk w7 rl (rawRef rd 1 0 S (.slice none 0 0) 0)) := Lib.hid ((HB5.out.set 3 (.string S)).fr hF7 (by simp))
                       have HF7 := Lib.hid (hset.trans hF7.any)
                       have HO7 := Lib.hid hO7
                       have hcl := rClean_c HD7.out HB7.out HNE.out.1 HNE.out.2.1 HNE.out.2.2 hM4 hMd (by omega)
                       rw [HQ.out] at hcl
                       clear hset hset0 hO7 hF7)
                    | (go_at_call 51; rw [HQ0.out] at hcl; refine hcl.mono ?_; rintro e w8 ⟨rfl, hD8, hF8⟩; clear hcl
                       have HB8 := Lib.hid (HB7.out.fr hF8 (by have := HNE.out; simp; omega))
                       have k84 := (ref_cells HB8.out).2.2.2.2.1
                       have k85 := (ref_cells HB8.out).2.2.2.2.2
                       have f84 := HB8.out.free 4
                       have f85 := HB8.out.free 5))
                  go_ret2
                  rw [HX.out]
                  have hst8 : Fr [rl] w8 ((w8.setCell ⟨rl, 4, none⟩ (.slice aa ts.length ac)).setCell ⟨rl, 5, none⟩ (.int .i64 (ts.length : Int))) := ((Fr.refl _ _).setCell (Or.inl (by simp)) _).setCell (Or.inl (by simp)) _
                  have hst9 : Fr [rd, ro, rn] w ((w8.setCell ⟨rl, 4, none⟩ (.slice aa ts.length ac)).setCell ⟨rl, 5, none⟩ (.int .i64 (ts.length : Int))) :=
                    ((HF7.out.trans hF8).setCell (Or.inr (by rw [HRL.out]; exact Nat.le_refl _)) _).setCell (Or.inr (by rw [HRL.out]; exact Nat.le_refl _)) _
                  have hb57 : rl < w5.heap.size := HB5.out.lt
                  have hO8 : World.ownsRow ((w8.setCell ⟨rl, 4, none⟩ (.slice aa ts.length ac)).setCell ⟨rl, 5, none⟩ (.int .i64 (ts.length : Int))) (rl + 1) 9 1 (.slice aa ts.length ac) ts.length (strVals ts) := by
                    have hbase : ∀ x, Value.ownBlock (.slice aa ts.length ac) = some x → rl + 1 ≤ x := fun x hx => by
                      have := (own_base HO7.out x hx).1
                      simp at this; omega
                    refine own_weak (own_fr (own_fr HO7.out hF8 (fun x hx => ?_)) hst8 (fun x hx => ?_)) (by simp; omega)
                    · have := hbase x hx; have := HBL.out; simp; omega
                    · have := hbase x hx; simp; omega
                  refine ⟨hD8.fr hst8 (by have := HNE.out; simp; omega) (by have := HNE.out; simp; omega) (by have := HNE.out; simp; omega), hst9, fun hg => by (cases hg), fun g hg => ?_⟩
                  cases hg
                  refine ⟨rl, .slice aa ts.length ac, rfl, by rw [HRL.out]; exact Nat.le_refl _, ?_⟩
                  rw [← hs2]
                  obtain ⟨hg1, hg2⟩ := HTS2.out
                  refine ⟨⟨by show ST = _; rw [List.take_length]; exact hg1, Nat.le_refl _, hg2, by show (framesL ts).length ≤ _; rw [← hg1, HSTL.out]; omega, by show 0 ≤ 1; omega, by show 1 ≤ 1; omega⟩, hs1, ?_, hO8, HBL.out.1, HBL.out.2.1, HBL.out.2.2⟩
                  show Blk _ rl (rawRef rd 1 0 (str ST) (.slice aa ts.length ac) ts.length)
                  rw [HSS.out]
                  exact (HB8.out.set 4 _).set 5 _
                · have HQ0 := Lib.hid hQ0
                  have HX : Hid (RS = (Q.1, none, Q.2)) := Lib.hid (by rw [HRS3.out, if_neg hQ0])
                  have hneQ : (Q.2 != 0) = true := by simpa using hQ0
                  clear hQ0
                  go_wp2_with (first
                    | (go_at_call 47; refine (hhd _).mono ?_; rintro e w3 ⟨rfl, hF3⟩; have hwr3 := hwr w3 hF3; rw [HW0.out] at hwr3; clear hhd hwr)
                    | (go_at_call 46; refine hwr3.mono ?_; rintro e w4 ⟨rfl, hD4, hF4⟩; have hfl := rFlush_c hD4; rw [HM.out, HMZ.out] at hfl
                       have HB4 := Lib.hid ((HB1.out.fr hF3 (by simp)).fr hF4 (by have := HNE.out; simp; omega))
                       have HF4 := Lib.hid ((HF1.out.trans hF3).any.trans hF4)
                       clear hwr3)
                    | (go_at_call 48; refine hfl.mono ?_; rintro e w5 ⟨rfl, hD5, hF5⟩; clear hfl
                       have HD5 := Lib.hid hD5
                       have HB5 := Lib.hid (HB4.out.fr hF5 (by have := HNE.out; simp; omega))
                       have HF5 : Hid (Fr [rd, ro, rn] w w5) := Lib.hid ((HF4.out.mono (by simp)).trans hF5)
                       have k2 := (ref_cells HB5.out).2.2.1
                       have k3 := (ref_cells HB5.out).2.2.2.1
                       have f3 := HB5.out.free 3
                       have hst : Calls Tryz.prog 49 #[.pointer (some ⟨rd, 0, none⟩), .int .i64 0, .int .i64 0] w5 fun e w' => e = .returned (.string (str (M.1.stored 0 0))) ∧ w5 = w' := rStored_c HD5.out hM4 hMd 0 0 (by omega) (by omega)
                       rw [HST.out, HSS.out] at hst
                       clear hD5 hF5)
                    | (go_at_call 49; refine hst.mono ?_; rintro e w6 ⟨rfl, rfl⟩; clear hst)
                    | (go_at_call 50; refine (HALL.out _).mono ?_; rintro e w7 ⟨hn, -, hF7⟩; obtain ⟨av, rfl, hO7⟩ := hn ts HA.out; clear hn
                       obtain ⟨aa, ac, rfl⟩ := own_shape hO7
                       have hset : Fr [rd, ro, rn] w (w5.setCell ⟨rl, 3, none⟩ (.string S)) := HF5.out.setCell (Or.inr (by rw [HRL.out]; exact Nat.le_refl _)) _
                       have hset0 : Fr [rl] w5 (w5.setCell ⟨rl, 3, none⟩ (.string S)) := (Fr.refl _ _).setCell (Or.inl (by simp)) _
                       have HD7 := Lib.hid ((HD5.out.fr hset0 (by have := HNE.out; simp; omega) (by have := HNE.out; simp; omega) (by have := HNE.out; simp; omega)).fr hF7 (by simp) (by simp) (by simp))
                       have HB7 : Hid (Blk w7 rl (rawRef rd 1 0 S (.slice none 0 0) 0)) := Lib.hid ((HB5.out.set 3 (.string S)).fr hF7 (by simp))
                       have HF7 := Lib.hid (hset.trans hF7.any)
                       have HO7 := Lib.hid hO7
                       have hcl := rClean_c HD7.out HB7.out HNE.out.1 HNE.out.2.1 HNE.out.2.2 hM4 hMd (by omega)
                       rw [HQ.out] at hcl
                       clear hset hset0 hO7 hF7)
                    | (go_at_call 51; refine hcl.mono ?_; rintro e w8 ⟨rfl, hD8, hF8⟩; clear hcl
                       have HB8 := Lib.hid (HB7.out.fr hF8 (by have := HNE.out; simp; omega))
                       have k84 := (ref_cells HB8.out).2.2.2.2.1
                       have k85 := (ref_cells HB8.out).2.2.2.2.2
                       have f84 := HB8.out.free 4
                       have f85 := HB8.out.free 5))
                  go_ret2
                  rw [HX.out]
                  exact ⟨hD8, HF7.out.trans hF8, fun _ => rfl, fun g hg => by (cases hg)⟩
            · have HMZ := Lib.hid hM0
              have HX : Hid (RS = (M.1, none, M.2)) := Lib.hid (by rw [HRB3.out, if_neg hM0])
              have hne : (M.2 != 0) = true := by simpa using hM0
              clear hM0 HRB3 hMo
              go_wp2_with (first
                | (go_at_call 47; refine (hhd _).mono ?_; rintro e w3 ⟨rfl, hF3⟩; have hwr3 := hwr w3 hF3; rw [HW0.out] at hwr3; clear hhd hwr)
                | (go_at_call 46; refine hwr3.mono ?_; rintro e w4 ⟨rfl, hD4, hF4⟩; have hfl := rFlush_c hD4; rw [HM.out] at hfl; clear hwr3)
                | (go_at_call 48; refine hfl.mono ?_; rintro e w5 ⟨rfl, hD5, hF5⟩; clear hfl))
              go_ret2
              rw [HX.out]
              exact ⟨hD5, ((HF1.out.trans hF3).any.trans (hF4.mono (by simp))).trans hF5, fun _ => rfl, fun g hg => by (cases hg)⟩
          · have hwf : d.wflush 1 H = d.write 1 H := by unfold Dv.wflush; exact if_neg hw0
            rw [hwf] at hrb
            have HX : Hid (RS = ((d.write 1 H).1, none, (d.write 1 H).2)) := Lib.hid (by rw [hrb, if_neg hw0])
            have hne : ((d.write 1 H).2 != 0) = true := by simpa using hw0
            clear hrb hwf hw0
            go_wp2_with (first
              | (go_at_call 47; refine (hhd _).mono ?_; rintro e w3 ⟨rfl, hF3⟩; have hwr3 := hwr w3 hF3; clear hhd hwr)
              | (go_at_call 46; refine hwr3.mono ?_; rintro e w4 ⟨rfl, hD4, hF4⟩; clear hwr3))
            go_ret2
            rw [HX.out]
            exact ⟨hD4, (HF1.out.trans hF3).any.trans (hF4.mono (by simp)), fun _ => rfl, fun g hg => by (cases hg)⟩
        · have hbn : d.best = some (c, a, l) := by
            rcases hb : d.best with _ | x
            · exact absurd (hu2.2.1 hb) hc0
            · have := hu2.1; rw [hb] at this; simp at this; rw [this]
          have hrb := HRB.out
          rw [hbn] at hrb
          simp only at hrb
          have HRS2 := Lib.hid hrb
          have hl64 : l ≤ 64 * sz := by have := HAR.out; omega
          have hc1 : 1 ≤ c := by omega
          have hc62 := hok.1
          have ha1 := hok.2.1
          have hcd : decide (c = 0) = false := by simpa using hc0
          clear hrb hbn hu2 hok HRB hc0
          have hM4 : 4 ≤ d.on.length := by rw [HN.out]; exact hn4
          obtain ⟨ST, hST⟩ : ∃ ST, d.stored a l = ST := ⟨_, rfl⟩
          have hSTL : ST.length = l := by rw [← hST]; exact stored_len HD.out.wf a l ha1 (by rw [← hs2]; exact hl64)
          have HD5 := Lib.hid (HD.out.fr hF.out (by simp) (by simp) (by simp))
          have HB5 := HB
          have HF5 : Hid (Fr [rd, ro, rn] w wr) := Lib.hid hF.out.any
          have k2 := (ref_cells HB5.out).2.2.1
          have k3 := (ref_cells HB5.out).2.2.2.1
          have f3 := HB5.out.free 3
          have hst := rStored_c HD5.out hM4 HDN.out a l ha1 (by rw [← hs2]; exact hl64)
          rw [hST] at hst
          rw [hST] at HRS2
          have hSTB : ST.length ≤ 65472 := by omega
          have HSTL := Lib.hid hSTL
          clear hSTL hST
          have HSTS : Hid ((str ST).data.toList = ST) := Lib.hid (str_data ST)
          have hall := fun W' => rAll_c (str ST) W' (by rw [str_size]; omega)
          have HALL : Hid (∀ W', Calls Tryz.prog 50 #[.string (str ST)] W' (fun e w' =>
              (∀ x, allL ST = some x → ∃ v, e = .returned (.tuple #[v, .int .i64 ((str ST).size : Int), .int .i64 0]) ∧ w'.ownsRow W'.heap.size 9 1 v x.length (strVals x)) ∧
              (allL ST = none → ∃ v a c, e = .returned (.tuple #[v, .int .i64 a, .int .i64 c]) ∧ c ≠ 0) ∧ Fr [] W' w')) := Lib.hid (fun W' => by
            have := hall W'; unfold AllPost at this; rw [HSTS.out] at this; exact this)
          clear hall
          have HGT := Lib.hid (allL_frames ST.length ST)
          obtain ⟨S, hS⟩ : ∃ S, str ST = S := ⟨_, rfl⟩
          rw [hS] at HALL
          have hSz : S.size ≤ 65472 := by rw [← hS, str_size]; omega
          have HSS := Lib.hid hS
          try rw [hS] at hst
          clear hSTB
          cases hA : allL ST with
          | none =>
            rw [hA] at HRS2
            have HX : Hid (RS = (d, none, 101)) := Lib.hid HRS2.out
            have HA := Lib.hid hA
            clear hA hS
            go_wp2_with (first
              | (go_at_call 49; refine hst.mono ?_; rintro e w6 ⟨rfl, rfl⟩; clear hst)
              | (go_at_call 50; refine (HALL.out _).mono ?_; rintro e w7 ⟨-, hn, hF7⟩; obtain ⟨av, aa, ac, rfl, hacn⟩ := hn HA.out; clear hn
                 have hne7 : (ac != 0) = true := by simpa using hacn))
            go_ret2
            rw [HX.out]
            have hset : Fr [rd, ro, rn] w (wr.setCell ⟨rl, 3, none⟩ (.string S)) := HF5.out.setCell (Or.inr (by rw [HRL.out]; exact Nat.le_refl _)) _
            have hset0 : Fr [rl] wr (wr.setCell ⟨rl, 3, none⟩ (.string S)) := (Fr.refl _ _).setCell (Or.inl (by simp)) _
            exact ⟨(HD5.out.fr hset0 (by have := HNE.out; simp; omega) (by have := HNE.out; simp; omega) (by have := HNE.out; simp; omega)).fr hF7 (by simp) (by simp) (by simp), hset.trans hF7.any, fun _ => rfl, fun g hg => by (cases hg)⟩
          | some ts =>
            rw [hA] at HRS2
            obtain ⟨Q, hQ⟩ : ∃ Q, d.bareNext c = Q := ⟨_, rfl⟩
            have hrs := HRS2.out
            simp only [hQ] at hrs
            have HRS3 := Lib.hid hrs
            have HA := Lib.hid hA
            have HQ := Lib.hid hQ
            have hts := HGT.out ts (Nat.le_refl _) hA
            have hts6 := framesL_six ts
            have HTS2 := Lib.hid hts
            have htl : ts.length ≤ 20000 := by have h1 := congrArg List.length hts.1; have := HSTL.out; omega
            clear hrs hQ hA hS hts hts6
            by_cases hQ0 : Q.2 = 0
            · have HQ0 := Lib.hid hQ0
              have HX : Hid (RS = (Q.1, some ⟨c, a, ST, ts, ts.length⟩, 0)) := Lib.hid (by rw [HRS3.out, if_pos hQ0])
              clear hQ0
              go_wp2_with (first
                | (go_at_call 49; refine hst.mono ?_; rintro e w6 ⟨rfl, rfl⟩; clear hst)
                | (go_at_call 50; refine (HALL.out _).mono ?_; rintro e w7 ⟨hn, -, hF7⟩; obtain ⟨av, rfl, hO7⟩ := hn ts HA.out; clear hn
                   obtain ⟨aa, ac, rfl⟩ := own_shape hO7
                   have hset : Fr [rd, ro, rn] w (wr.setCell ⟨rl, 3, none⟩ (.string S)) := HF5.out.setCell (Or.inr (by rw [HRL.out]; exact Nat.le_refl _)) _
                   have hset0 : Fr [rl] wr (wr.setCell ⟨rl, 3, none⟩ (.string S)) := (Fr.refl _ _).setCell (Or.inl (by simp)) _
                   have HD7 := Lib.hid ((HD5.out.fr hset0 (by have := HNE.out; simp; omega) (by have := HNE.out; simp; omega) (by have := HNE.out; simp; omega)).fr hF7 (by simp) (by simp) (by simp))
                   have HB7 : Hid (Blk w7 rl (rawRef rd c a S (.slice none 0 0) 0)) := Lib.hid ((HB5.out.set 3 (.string S)).fr hF7 (by simp))
                   have HF7 := Lib.hid (hset.trans hF7.any)
                   have HO7 := Lib.hid hO7
                   have hcl := rClean_c HD7.out HB7.out HNE.out.1 HNE.out.2.1 HNE.out.2.2 hM4 HDN.out (by omega)
                   rw [HQ.out] at hcl
                   clear hset hset0 hO7 hF7)
                | (go_at_call 51; rw [HQ0.out] at hcl; refine hcl.mono ?_; rintro e w8 ⟨rfl, hD8, hF8⟩; clear hcl
                   have HB8 := Lib.hid (HB7.out.fr hF8 (by have := HNE.out; simp; omega))
                   have k84 := (ref_cells HB8.out).2.2.2.2.1
                   have k85 := (ref_cells HB8.out).2.2.2.2.2
                   have f84 := HB8.out.free 4
                   have f85 := HB8.out.free 5))
              go_ret2
              rw [HX.out]
              have hst8 : Fr [rl] w8 ((w8.setCell ⟨rl, 4, none⟩ (.slice aa ts.length ac)).setCell ⟨rl, 5, none⟩ (.int .i64 (ts.length : Int))) := ((Fr.refl _ _).setCell (Or.inl (by simp)) _).setCell (Or.inl (by simp)) _
              have hst9 : Fr [rd, ro, rn] w ((w8.setCell ⟨rl, 4, none⟩ (.slice aa ts.length ac)).setCell ⟨rl, 5, none⟩ (.int .i64 (ts.length : Int))) :=
                ((HF7.out.trans hF8).setCell (Or.inr (by rw [HRL.out]; exact Nat.le_refl _)) _).setCell (Or.inr (by rw [HRL.out]; exact Nat.le_refl _)) _
              have hb57 : rl < wr.heap.size := HB5.out.lt
              have hO8 : World.ownsRow ((w8.setCell ⟨rl, 4, none⟩ (.slice aa ts.length ac)).setCell ⟨rl, 5, none⟩ (.int .i64 (ts.length : Int))) (rl + 1) 9 1 (.slice aa ts.length ac) ts.length (strVals ts) := by
                have hbase : ∀ x, Value.ownBlock (.slice aa ts.length ac) = some x → rl + 1 ≤ x := fun x hx => by
                  have := (own_base HO7.out x hx).1
                  simp at this; omega
                refine own_weak (own_fr (own_fr HO7.out hF8 (fun x hx => ?_)) hst8 (fun x hx => ?_)) (by simp; omega)
                · have := hbase x hx; have := HBL.out; simp; omega
                · have := hbase x hx; simp; omega
              refine ⟨hD8.fr hst8 (by have := HNE.out; simp; omega) (by have := HNE.out; simp; omega) (by have := HNE.out; simp; omega), hst9, fun hg => by (cases hg), fun g hg => ?_⟩
              cases hg
              refine ⟨rl, .slice aa ts.length ac, rfl, by rw [HRL.out]; exact Nat.le_refl _, ?_⟩
              rw [← hs2]
              obtain ⟨hg1, hg2⟩ := HTS2.out
              refine ⟨⟨by show ST = _; rw [List.take_length]; exact hg1, Nat.le_refl _, hg2, by show (framesL ts).length ≤ _; rw [← hg1, HSTL.out]; omega, by show a ≤ 1; omega, by show 1 ≤ c; omega⟩, hs1, ?_, hO8, HBL.out.1, HBL.out.2.1, HBL.out.2.2⟩
              show Blk _ rl (rawRef rd c a (str ST) (.slice aa ts.length ac) ts.length)
              rw [HSS.out]
              exact (HB8.out.set 4 _).set 5 _
            · have HQ0 := Lib.hid hQ0
              have HX : Hid (RS = (Q.1, none, Q.2)) := Lib.hid (by rw [HRS3.out, if_neg hQ0])
              have hneQ : (Q.2 != 0) = true := by simpa using hQ0
              clear hQ0
              go_wp2_with (first
                | (go_at_call 49; refine hst.mono ?_; rintro e w6 ⟨rfl, rfl⟩; clear hst)
                | (go_at_call 50; refine (HALL.out _).mono ?_; rintro e w7 ⟨hn, -, hF7⟩; obtain ⟨av, rfl, hO7⟩ := hn ts HA.out; clear hn
                   obtain ⟨aa, ac, rfl⟩ := own_shape hO7
                   have hset : Fr [rd, ro, rn] w (wr.setCell ⟨rl, 3, none⟩ (.string S)) := HF5.out.setCell (Or.inr (by rw [HRL.out]; exact Nat.le_refl _)) _
                   have hset0 : Fr [rl] wr (wr.setCell ⟨rl, 3, none⟩ (.string S)) := (Fr.refl _ _).setCell (Or.inl (by simp)) _
                   have HD7 := Lib.hid ((HD5.out.fr hset0 (by have := HNE.out; simp; omega) (by have := HNE.out; simp; omega) (by have := HNE.out; simp; omega)).fr hF7 (by simp) (by simp) (by simp))
                   have HB7 : Hid (Blk w7 rl (rawRef rd c a S (.slice none 0 0) 0)) := Lib.hid ((HB5.out.set 3 (.string S)).fr hF7 (by simp))
                   have HF7 := Lib.hid (hset.trans hF7.any)
                   have HO7 := Lib.hid hO7
                   have hcl := rClean_c HD7.out HB7.out HNE.out.1 HNE.out.2.1 HNE.out.2.2 hM4 HDN.out (by omega)
                   rw [HQ.out] at hcl
                   clear hset hset0 hO7 hF7)
                | (go_at_call 51; refine hcl.mono ?_; rintro e w8 ⟨rfl, hD8, hF8⟩; clear hcl
                   have HB8 := Lib.hid (HB7.out.fr hF8 (by have := HNE.out; simp; omega))
                   have k84 := (ref_cells HB8.out).2.2.2.2.1
                   have k85 := (ref_cells HB8.out).2.2.2.2.2
                   have f84 := HB8.out.free 4
                   have f85 := HB8.out.free 5))
              go_ret2
              rw [HX.out]
              exact ⟨hD8, HF7.out.trans hF8, fun _ => rfl, fun g hg => by (cases hg)⟩
end

end Go.Proofs.YtiojkakmlbfiiaaGreat
