/- The law's own functions: both.same. -/
import Derived.Test.YtiojkakmlbfiiaaGreatM24
/- The law's own functions: both.same. -/
namespace Go.Proofs.YtiojkakmlbfiiaaGreat
open Go.RowKit
open Sp

set_option maxHeartbeats 8000000 in
set_option maxRecDepth 100000 in
theorem bSame_c {w0 w : World} {x : Bx} {n K : Nat} {d : Dv} {og : Option Lg} (h : BothAt w0 w x n K d og) :
    Calls Tryz.prog 8 #[.pointer (some ⟨x.bb, 0, none⟩)] w fun e w' => e = .returned (.bool true) ∧ Fr [] w w' := by
  have hn := h.base.dev.wf.most
  rw [h.base.len] at hn
  cases og with
  | none =>
    have HC := Lib.hid (h.none_ rfl)
    have HB := Lib.hid h.base
    have k2 := HC.out.cell 2
    simp only [List.getElem?_cons_succ, List.getElem?_cons_zero] at k2
    clear h
    go_enter Tryz.func8, Tryz.ntmps8
    go_wp2
    go_loop [4] (fun i => ∃ k : Nat, k ≤ n ∧ i = .int .i64 (k : Int)) (fun i => n - (intOf i).toNat)
    case atStart => exact ⟨0, Nat.zero_le _, rfl⟩
    case round =>
      obtain ⟨k, hk, rfl⟩ := hrel
      have hr1 := read_c HB.out.dev (k : Int)
      have hr2 := rRead_c HB.out.ref (k : Int)
      have kd := HC.out.cell 0
      have kr := HC.out.cell 1
      have ko := HB.out.ref.cells.1
      rw [HB.out.len] at ko
      simp only [List.getElem?_cons_succ, List.getElem?_cons_zero] at kd kr
      generalize d.read (k : Int) = R at hr1 hr2
      obtain ⟨S, e0⟩ := R
      simp only at hr1 hr2
      by_cases hlt : k < n
      · go_wp2_with (first
          | (go_at_call 22; refine hr1.mono ?_; clear hr1; rintro e w3 ⟨rfl, rfl⟩)
          | (go_at_call 23; refine hr2.mono ?_; clear hr2; rintro e w3 ⟨rfl, rfl⟩))
        go_round
        case rel => exact ⟨k + 1, by omega, by go_num⟩
        case measure => simp [intOf]; omega
      · obtain rfl : k = n := by omega
        clear hr1 hr2
        go_wp2
        go_ret
        exact ⟨rfl, Fr.refl _ _⟩
  | some g =>
    obtain ⟨hcnt, bl, v, rl, rv, hL⟩ := h.some_ g rfl
    have HC := Lib.hid hL.cells
    have HB := Lib.hid h.base
    have k1 := HC.out.cell 1
    have k2 := HC.out.cell 2
    have k3 := HC.out.cell 3
    simp only [List.getElem?_cons_succ, List.getElem?_cons_zero] at k1 k2 k3
    have kdn := h.base.ref.cells.2.2.2
    by_cases hdn : d.down = true
    · rw [hdn] at kdn
      clear h hL hdn
      go_enter Tryz.func8, Tryz.ntmps8
      go_wp2
      go_loop [4] (fun i => ∃ k : Nat, k ≤ n ∧ i = .int .i64 (k : Int)) (fun i => n - (intOf i).toNat)
      case atStart => exact ⟨0, Nat.zero_le _, rfl⟩
      case round =>
        obtain ⟨k, hk, rfl⟩ := hrel
        have hr1 := read_c HB.out.dev (k : Int)
        have hr2 := rRead_c HB.out.ref (k : Int)
        have kd := HC.out.cell 0
        have kr := HC.out.cell 1
        have ko := HB.out.ref.cells.1
        rw [HB.out.len] at ko
        simp only [List.getElem?_cons_succ, List.getElem?_cons_zero] at kd kr
        generalize d.read (k : Int) = R at hr1 hr2
        obtain ⟨S, e0⟩ := R
        simp only at hr1 hr2
        by_cases hlt : k < n
        · go_wp2_with (first
            | (go_at_call 22; refine hr1.mono ?_; clear hr1; rintro e w3 ⟨rfl, rfl⟩)
            | (go_at_call 23; refine hr2.mono ?_; clear hr2; rintro e w3 ⟨rfl, rfl⟩))
          go_round
          case rel => exact ⟨k + 1, by omega, by go_num⟩
          case measure => simp [intOf]; omega
        · obtain rfl : k = n := by omega
          clear hr1 hr2
          go_wp2
          go_ret
          exact ⟨rfl, Fr.refl _ _⟩
    · rw [Bool.not_eq_true] at hdn
      rw [hdn] at kdn
      have HL := Lib.hid hL
      have htx := texts_c hL.prog
      have hs1 := hL.prog.sz1
      have hcn := hL.prog.wf.count
      obtain ⟨sz, hsz⟩ : ∃ sz, (n - 2) / 2 = sz := ⟨_, rfl⟩
      rw [hsz] at hs1 hcn
      have HSZ := Lib.hid hsz
      obtain ⟨m, hm⟩ : ∃ m, g.many = m := ⟨_, rfl⟩
      obtain ⟨rm, hrm⟩ : ∃ rm, g.room (64 * sz) = rm := ⟨_, rfl⟩
      have HM := Lib.hid hm
      have HRM := Lib.hid hrm
      have htl : g.texts.length ≤ 20000 := by omega
      clear h hL hdn hsz hm hrm
      go_enter Tryz.func8, Tryz.ntmps8
      go_wp2_with (go_at_call 17; refine htx.mono ?_; clear htx; rintro e w1 ⟨xv, rfl, hO1, hF1⟩)
      have HC1 := Lib.hid (HC.out.fr hF1 (by simp))
      have HL1 := Lib.hid (HL.out.fr0 hF1)
      have HB1 := Lib.hid (HB.out.fr0 hF1)
      have HR1 : Hid (Blk w1 rl (rawRef x.rd g.count g.area (str g.bytes) rv m)) := Lib.hid (by rw [← HM.out]; exact HL1.out.ref.blk)
      have HO1 := Lib.hid hO1
      have HF1 := Lib.hid hF1
      have hsame : ∀ w', Fr [] w1 w' → Calls Tryz.prog 16 #[xv, rv] w' fun e w'' => e = .returned (.bool true) ∧ Fr [] w' w'' := by
        intro w' hW'
        obtain ⟨f1, h1⟩ := own_slice (own_fr HO1.out hW' (by simp))
        obtain ⟨f2, h2⟩ := own_slice (own_fr HL1.out.ref.own hW' (by simp))
        exact same_c w' xv rv f1 f2 g.texts h1 h2 (by omega)
      have hsyn : ∀ w', Fr [] w1 w' → Calls Tryz.prog 14 #[.pointer (some ⟨bl, 0, none⟩)] w' fun e w'' => e = .returned (.int .i64 (m : Int)) ∧ w' = w'' := by
        intro w' hW'
        rw [← HM.out]
        exact synced_c (HL1.out.fr0 hW').prog.blk
      have hrmp : ∀ w', Fr [] w1 w' → Calls Tryz.prog 19 #[.pointer (some ⟨bl, 0, none⟩)] w' fun e w'' => e = .returned (.int .i64 rm) ∧ Fr [] w' w'' := by
        intro w' hW'
        have hp := (HL1.out.fr0 hW').prog
        have e1 := hp.wf.len
        have e2 := hp.wf.room
        have := room_c hp.blk hp.sz1 (by omega) (by omega)
        rw [HSZ.out] at this
        rw [← HRM.out]
        exact this
      have hrmd : ∀ w', Fr [] w1 w' → Calls Tryz.prog 20 #[.pointer (some ⟨rl, 0, none⟩)] w' fun e w'' => e = .returned (.int .i64 rm) ∧ Fr [] w' w'' := by
        intro w' hW'
        have hp := HL1.out.fr0 hW'
        have := rRoom_c hp.ref (HB1.out.fr0 hW').ref (by rw [HB1.out.len]) (by rw [HB1.out.len]; exact hp.n4)
        rw [HSZ.out, HRM.out] at this
        exact this
      clear k1 k2 k3 kdn hO1 hF1
      refine wp_region_fr (by kernel_rfl) (by kernel_rfl) ?_
      refine q_val rfl (by intro w' _; go_simp; rfl) ?_
      go_frame
      refine q_val rfl (by intro w' _; go_simp; rfl) ?_
      go_frame
      refine q_val rfl (by intro w' _; go_simp; rfl) ?_
      go_frame
      refine q_val rfl (by intro w' _; go_simp; rfl) ?_
      go_frame
      refine q_val (v := .pointer (some ⟨rl, 0, none⟩)) rfl (by intro w' hW'; have := (HC1.out.fr hW' (by simp)).cell 3; go_simp) ?_
      go_frame
      refine q_val rfl (by intro w' _; go_simp; rfl) ?_
      go_frame
      refine q_val rfl (by intro w' _; go_simp; rfl) ?_
      go_frame
      refine q_val (v := rv) rfl (by intro w' hW'; have := (ref_cells (HR1.out.fr hW' (by simp))).2.2.2.2.1; go_simp) ?_
      go_frame
      refine q_call (f := 16) (args := #[xv, rv]) (v := .bool true) rfl (by intro w'; go_simp; try rfl) (fun w' hW' => hsame w' hW') ?_
      go_frame
      refine q_val (v := .bool false) rfl (by intro w' _; go_simp) ?_
      go_frame
      refine q_val (v := .bool false) rfl (by intro w' _; go_simp) ?_
      go_frame
      refine q_valw (by rfl) (by intro w' _; go_simp; rfl) ?_
      go_frame
      refine q_valw (by rfl) (by intro w' _; go_simp; rfl) ?_
      go_frame
      refine q_valw (by rfl) (by intro w' _; go_simp; rfl) ?_
      go_frame
      refine q_valw (v := .pointer (some ⟨bl, 0, none⟩)) (by rfl) (by intro w' hW'; have := (HC1.out.fr hW' (by simp)).cell 2; go_simp) ?_
      go_frame
      refine q_callw (f := 14) (args := #[.pointer (some ⟨bl, 0, none⟩)]) (v := .int .i64 (m : Int)) (by rfl) (by intro w'; go_simp; try rfl) (fun w' hW' => (hsyn w' hW').mono fun e w'' ⟨h1, h2⟩ => ⟨h1, h2 ▸ Fr.refl _ _⟩) ?_
      go_frame
      refine q_valw (by rfl) (by intro w' _; go_simp; rfl) ?_
      go_frame
      refine q_valw (by rfl) (by intro w' _; go_simp; rfl) ?_
      go_frame
      refine q_valw (by rfl) (by intro w' _; go_simp; rfl) ?_
      go_frame
      refine q_valw (v := .pointer (some ⟨rl, 0, none⟩)) (by rfl) (by intro w' hW'; have := (HC1.out.fr hW' (by simp)).cell 3; go_simp) ?_
      go_frame
      refine q_valw (by rfl) (by intro w' _; go_simp; rfl) ?_
      go_frame
      refine q_valw (by rfl) (by intro w' _; go_simp; rfl) ?_
      go_frame
      refine q_valw (v := .int .i64 (m : Int)) (by rfl) (by intro w' hW'; have := (ref_cells (HR1.out.fr hW' (by simp))).2.2.2.2.2; go_simp) ?_
      go_frame
      refine q_valw (v := .bool false) (by rfl) (by intro w' _; go_simp) ?_
      go_frame
      refine q_val (v := .bool false) rfl (by intro w' _; go_simp) ?_
      go_frame
      refine q_val (v := .bool false) rfl (by intro w' _; go_simp) ?_
      go_frame
      refine q_valw (by rfl) (by intro w' _; go_simp; rfl) ?_
      go_frame
      refine q_valw (by rfl) (by intro w' _; go_simp; rfl) ?_
      go_frame
      refine q_valw (by rfl) (by intro w' _; go_simp; rfl) ?_
      go_frame
      refine q_valw (v := .pointer (some ⟨bl, 0, none⟩)) (by rfl) (by intro w' hW'; have := (HC1.out.fr hW' (by simp)).cell 2; go_simp) ?_
      go_frame
      refine q_callw (f := 19) (args := #[.pointer (some ⟨bl, 0, none⟩)]) (v := .int .i64 rm) (by rfl) (by intro w'; go_simp; try rfl) (fun w' hW' => hrmp w' hW') ?_
      go_frame
      refine q_valw (by rfl) (by intro w' _; go_simp; rfl) ?_
      go_frame
      refine q_valw (by rfl) (by intro w' _; go_simp; rfl) ?_
      go_frame
      refine q_valw (by rfl) (by intro w' _; go_simp; rfl) ?_
      go_frame
      refine q_valw (v := .pointer (some ⟨rl, 0, none⟩)) (by rfl) (by intro w' hW'; have := (HC1.out.fr hW' (by simp)).cell 3; go_simp) ?_
      go_frame
      refine q_callw (f := 20) (args := #[.pointer (some ⟨rl, 0, none⟩)]) (v := .int .i64 rm) (by rfl) (by intro w'; go_simp; try rfl) (fun w' hW' => hrmd w' hW') ?_
      go_frame
      refine q_valw (v := .bool false) (by rfl) (by intro w' _; go_simp) ?_
      go_frame
      refine q_val (v := .bool false) rfl (by intro w' _; go_simp) ?_
      go_frame
      refine wpQuiet_nil ?_
      intro w2 hF2
      have hsp := spoil_c w2 xv w.heap.size g.texts.length (strVals g.texts) (own_fr HO1.out hF2 (by simp)) (by omega)
      clear hsame hsyn hrmp hrmd
      go_wp2_with (go_at_call 21; refine hsp.mono ?_; clear hsp; rintro e w3 ⟨rfl, hF3⟩
                   have HF3 : Hid (Fr [] w w3) := Lib.hid ((HF1.out.trans hF2).then hF3 (fun b hb => Or.inr (by
                     cases ho : xv.ownBlock with
                     | none => rw [ho] at hb; simp at hb
                     | some y => rw [ho] at hb; have e : b = y := by simpa using hb
                                 rw [e]; exact (own_base HO1.out y ho).1)))
                   have HB3 := Lib.hid (HB.out.fr0 HF3.out)
                   have HC3 := Lib.hid (HC.out.fr HF3.out (by simp)))
      go_loop [4] (fun i => ∃ k : Nat, k ≤ n ∧ i = .int .i64 (k : Int)) (fun i => n - (intOf i).toNat)
      case atStart => exact ⟨0, Nat.zero_le _, rfl⟩
      case round =>
        obtain ⟨k, hk, rfl⟩ := hrel
        have hr1 := read_c HB3.out.dev (k : Int)
        have hr2 := rRead_c HB3.out.ref (k : Int)
        have kd := HC3.out.cell 0
        have kr := HC3.out.cell 1
        have ko := HB3.out.ref.cells.1
        rw [HB3.out.len] at ko
        simp only [List.getElem?_cons_succ, List.getElem?_cons_zero] at kd kr
        generalize d.read (k : Int) = R at hr1 hr2
        obtain ⟨S, e0⟩ := R
        simp only at hr1 hr2
        by_cases hlt : k < n
        · go_wp2_with (first
            | (go_at_call 22; refine hr1.mono ?_; clear hr1; rintro e w3 ⟨rfl, rfl⟩)
            | (go_at_call 23; refine hr2.mono ?_; clear hr2; rintro e w3 ⟨rfl, rfl⟩))
          go_round
          case rel => exact ⟨k + 1, by omega, by go_num⟩
          case measure => simp [intOf]; omega
        · obtain rfl : k = n := by omega
          clear hr1 hr2
          go_wp2
          go_ret
          exact ⟨rfl, HF3.out⟩

end Go.Proofs.YtiojkakmlbfiiaaGreat
