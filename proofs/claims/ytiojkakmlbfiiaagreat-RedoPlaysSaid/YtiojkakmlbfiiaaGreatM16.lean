/- The document's device: Crash. -/
import Derived.Test.YtiojkakmlbfiiaaGreatM15
/- The document's device: Crash. -/
namespace Go.Proofs.YtiojkakmlbfiiaaGreat
open Go.RowKit
open Sp

section
variable {w : World} {rd ro rn co cn : Nat} {d : Dv}

theorem int_cell {w : World} {a : Option Addr} {n c : Nat} {fp : Option Nat} {l : List Int} (h : SliceAt w (.slice a n c) fp (intVals l)) (k : Nat) (hk : k < l.length) (x : Int) (hx : l[k]? = some x) :
    ∃ b o, a = some ⟨b, o, none⟩ ∧ fp = some b ∧ w.cell? ⟨b, o + k, none⟩ = some (.int .i64 x) := by
  rcases h with ⟨h1, _, _⟩ | ⟨b, o, c', hf, hv, hcell⟩
  · have h2 : l = [] := by simpa [intVals] using h1
    rw [h2] at hk; simp at hk
  · simp only [Value.slice.injEq] at hv
    exact ⟨b, o, hv.1, hf, hcell k _ (by rw [intVals, List.getElem?_map, hx]; rfl)⟩

theorem int_shape {w : World} {v : Value} {fp : Option Nat} {l : List Int} (h : SliceAt w v fp (intVals l)) : ∃ a c, v = .slice a l.length c := by
  rcases h with ⟨h1, _, a, c, rfl⟩ | ⟨b, o, c, _, rfl, _⟩
  · refine ⟨a, c, ?_⟩
    have : l = [] := by simpa [intVals] using h1
    rw [this]; rfl
  · exact ⟨some ⟨b, o, none⟩, c, by simp [intVals]⟩

set_option maxHeartbeats 8000000 in
set_option maxRecDepth 100000 in
theorem rCrash_c (h : RefAt w rd ro rn co cn d) {pv : Value} {pfp : Option Nat} {ps : List Int} (hp : SliceAt w pv pfp (intVals ps)) (hpn : ∀ b, pfp = some b → b ≠ rd ∧ b ≠ ro ∧ b ≠ rn)
    (hps : ∀ p ∈ ps, -9223372036854775808 ≤ p ∧ p ≤ 9223372036854775807) (hpl : ps.length ≤ 9223372036854775807) :
    Calls Tryz.prog 59 #[.pointer (some ⟨rd, 0, none⟩), pv] w fun e w' =>
      e = .returned (.tuple #[]) ∧ RefAt w' rd ro rn co cn (d.crash ps) ∧ Fr [rd, ro, rn] w w' := by
  obtain ⟨pa, pc, rfl⟩ := int_shape hp
  have HP := Lib.hid hp
  have HH := Lib.hid h
  have hwf := h.wf
  have hn := hwf.most
  have hlen := hwf.len
  obtain ⟨n, hnn⟩ : ∃ n, d.on.length = n := ⟨_, rfl⟩
  rw [hnn] at hn hlen
  clear h hp
  go_enter Tryz.func59, Tryz.ntmps59
  go_wp2
  go_loopw [4, 5] (fun jv iv wr => ∃ (i j : Nat) (done : List ByteArray), i ≤ n ∧ j ≤ i ∧ done.length = i ∧ iv = .int .i64 (i : Int) ∧ jv = .int .i64 (j : Int) ∧
      Hid (RefAt wr rd ro rn co cn { d with on := done ++ d.on.drop i, nw := List.replicate i none ++ d.nw.drop i }) ∧
      Hid (tear d.on d.nw ps = done ++ tear (d.on.drop i) (d.nw.drop i) (ps.drop j)) ∧ Hid (Fr [rd, ro, rn] w wr)) (fun _ iv _ => n - (intOf iv).toNat)
  case atStart => exact ⟨0, 0, [], Nat.zero_le _, Nat.zero_le _, rfl, rfl, rfl, Lib.hid (by simpa using HH.out), Lib.hid (by simp), Lib.hid (Fr.refl _ _)⟩
  case round =>
    obtain ⟨i, j, done, hk, hji, hdl, rfl, rfl, hR, hO, hFr⟩ := hrel
    have hnl : (done ++ d.on.drop i).length = n := by rw [List.length_append, List.length_drop, hdl, hnn]; omega
    have hc := hR.out.cells
    simp only [hnl] at hc
    obtain ⟨c0, c1, -, -⟩ := hc
    by_cases hlt : i < n
    · obtain ⟨o, ho⟩ : ∃ o, d.on[i]? = some o := ⟨_, List.getElem?_eq_getElem (by omega)⟩
      obtain ⟨x, hx⟩ : ∃ x, d.nw[i]? = some x := ⟨_, List.getElem?_eq_getElem (by omega)⟩
      have hrep : (List.replicate i (none : Option ByteArray)).length = i := by simp
      have hnwk : (List.replicate i none ++ d.nw.drop i)[i]? = some x := by rw [done_at _ _ _ hrep, hx]
      have hcell := own_cell hR.out.nw i (.string (x.getD ByteArray.empty)) (by show (nwVals (List.replicate i none ++ d.nw.drop i))[i]? = _; rw [nwVals, List.getElem?_map, hnwk]; rfl)
      have hcello := own_cell hR.out.on i (.string o) (by show (strVals (done ++ d.on.drop i))[i]? = _; rw [strVals, List.getElem?_map, done_at _ _ _ hdl, ho]; rfl)
      have h1 := hcell.1
      clear hcell
      cases x with
      | none =>
        have hte : tear (d.on.drop i) (d.nw.drop i) (ps.drop j) = o :: tear (d.on.drop (i + 1)) (d.nw.drop (i + 1)) (ps.drop j) := by
          rw [drop_at _ _ _ ho, drop_at _ _ _ hx]; rfl
        have HR2 : Hid (RefAt wr rd ro rn co cn { d with on := (done ++ [o]) ++ d.on.drop (i + 1), nw := List.replicate (i + 1) none ++ d.nw.drop (i + 1) }) := Lib.hid (by
          rw [List.replicate_succ', ← keep_done done d.on i o ho, ← keep_done _ d.nw i none hx]; exact hR.out)
        have HO2 : Hid (tear d.on d.nw ps = (done ++ [o]) ++ tear (d.on.drop (i + 1)) (d.nw.drop (i + 1)) (ps.drop j)) := Lib.hid (by rw [hO.out, hte]; simp)
        simp only [Option.getD_none] at h1
        clear hcello ho hx hnwk hte hrep
        go_wp2
        go_roundw
        case rel => exact ⟨i + 1, j, done ++ [o], by omega, by omega, by simp [hdl], by go_num, rfl, HR2, HO2, hFr⟩
        case measure => simp [intOf]; omega
      | some s =>
        have hs64 : s.size = 64 := hwf.nw64 s (List.mem_of_getElem? hx)
        have ho64 : o.size = 64 := hwf.on64 o (List.mem_of_getElem? ho)
        obtain ⟨p, hpd⟩ : ∃ p, (ps.drop j).headD 0 = p := ⟨_, rfl⟩
        have hte : tear (d.on.drop i) (d.nw.drop i) (ps.drop j) = tornBy o s (cut p) :: tear (d.on.drop (i + 1)) (d.nw.drop (i + 1)) (ps.drop (j + 1)) := by
          rw [drop_at _ _ _ ho, drop_at _ _ _ hx]
          simp only [tear, hpd, List.tail_drop]
        obtain ⟨nn, hnn2⟩ : ∃ nn, cut p = nn := ⟨_, rfl⟩
        have hnle : nn ≤ 64 := by rw [← hnn2]; exact cut_le p
        obtain ⟨S1, hS1⟩ : ∃ S1, s.extract 0 nn = S1 := ⟨_, rfl⟩
        obtain ⟨S2, hS2⟩ : ∃ S2, o.extract nn 64 = S2 := ⟨_, rfl⟩
        obtain ⟨T, hT⟩ : ∃ T, S1 ++ S2 = T := ⟨_, rfl⟩
        have hs1s : S1.size ≤ 64 := by rw [← hS1, ByteArray.size_extract]; omega
        have hs2s : S2.size ≤ 64 := by rw [← hS2, ByteArray.size_extract]; omega
        have hTT : tornBy o s (cut p) = T := by rw [hnn2, tornBy, ho64, hS1, hS2, hT]
        have hT64 : T.size = 64 := by rw [← hTT]; exact size_tornBy o s _ ho64 hs64 (cut_le p)
        rw [hTT] at hte
        have HS1 := Lib.hid hS1
        have HS2 := Lib.hid hS2
        have HT := Lib.hid hT
        have HR2 : Hid (∀ w4, Fr [] wr w4 → Hid (RefAt ((w4.setCell ⟨ro, i, none⟩ (.string T)).setCell ⟨rn, i, none⟩ (.string ⟨#[]⟩)) rd ro rn co cn { d with on := (done ++ [T]) ++ d.on.drop (i + 1), nw := List.replicate (i + 1) none ++ d.nw.drop (i + 1) })) := Lib.hid (fun w4 hF4 => Lib.hid (by
          have := (hR.out.fr hF4 (by simp) (by simp) (by simp)).both i T hT64
          simp only [set_done done d.on i o T hdl ho, set_done (List.replicate i none) d.nw i (some s) none hrep hx] at this
          rw [List.replicate_succ']; exact this))
        have HO2 : Hid (tear d.on d.nw ps = (done ++ [T]) ++ tear (d.on.drop (i + 1)) (d.nw.drop (i + 1)) (ps.drop (j + 1))) := Lib.hid (by rw [hO.out, hte]; simp)
        simp only [Option.getD_some] at h1
        have hne : s.toList.isEmpty = false := by
          rw [Lib.toList_data]
          cases hl : s.data.toList with
          | nil =>
            have : s.size = 0 := by show s.data.toList.length = 0; rw [hl]; rfl
            omega
          | cons a b => rfl
        have hn1 := hR.out.n1
        have hn2 := hR.out.n2
        have hn3 := hR.out.n3
        have HX : ∀ w4, Fr [] wr w4 → w4.cell? ⟨ro, i, none⟩ = some (.string o) ∧ w4.frozen? ⟨ro, i, none⟩ = false ∧ w4.cell? ⟨rn, i, none⟩ = some (.string s) ∧ w4.frozen? ⟨rn, i, none⟩ = false := by
          intro w4 hF4
          have hR4 := hR.out.fr hF4 (by simp) (by simp) (by simp)
          have a1 := own_cell hR4.on i (.string o) (by show (strVals (done ++ d.on.drop i))[i]? = _; rw [strVals, List.getElem?_map, done_at _ _ _ hdl, ho]; rfl)
          have a2 := own_cell hR4.nw i (.string s) (by show (nwVals (List.replicate i none ++ d.nw.drop i))[i]? = _; rw [nwVals, List.getElem?_map, hnwk]; rfl)
          exact ⟨a1.1, a1.2, a2.1, a2.2⟩
        have HC : ∀ w4, Fr [] wr w4 → w4.cell? ⟨rd, 0, none⟩ = some (.slice (some ⟨ro, 0, none⟩) n co) ∧ w4.cell? ⟨rd, 1, none⟩ = some (.slice (some ⟨rn, 0, none⟩) n cn) ∧ w4.cell? ⟨rn, i, none⟩ = some (.string s) ∧ w4.cell? ⟨ro, i, none⟩ = some (.string o) := by
          intro w4 hF4
          have hc4 := (hR.out.fr hF4 (by simp) (by simp) (by simp)).cells
          simp only [hnl] at hc4
          exact ⟨hc4.1, hc4.2.1, (HX w4 hF4).2.2.1, (HX w4 hF4).1⟩
        have HNN := Lib.hid hnn2
        have HOS := Lib.hid ho64
        have hnI : (nn : Int) ≤ 64 := by omega
        clear hcello ho hx hnwk hte hrep hTT hT64 hS1 hS2 hT hnn2
        by_cases hj : j < ps.length
        · have hp2 : ps[j]? = some p := by
            have e := drop_at ps j _ (List.getElem?_eq_getElem hj)
            have e2 : (ps.drop j).headD 0 = ps[j] := by rw [e]; rfl
            rw [List.getElem?_eq_getElem hj, ← hpd, e2]
          obtain ⟨pb, po, rfl, hfp, hpc⟩ := int_cell HP.out j hj p hp2
          have hpb := hpn pb hfp
          have hbw : pb < w.heap.size := World.block_lt_of_cell? w ⟨pb, po + j, none⟩ hpc
          have hpcw := (World.cell?_of_block (w := w) (hFr.out.block pb hbw (by simp; exact ⟨hpb.1, hpb.2.1, hpb.2.2⟩))).trans hpc
          clear hpc
          by_cases hp0 : p = 0
          · subst hp0
            have hnn0 : nn = 0 := by rw [← HNN.out]; decide
            subst hnn0
            clear HNN hpd hp2
            go_wp2
            refine wp_region_tail 24 (by kernel_rfl) (by kernel_rfl) ?_
            refine q_val rfl (by intro w' _; go_simp; rfl) ?_
            go_frame
            refine q_val rfl (by intro w' _; go_simp; rfl) ?_
            go_frame
            refine q_val rfl (by intro w' _; go_simp; rfl) ?_
            go_frame
            refine q_val (v := .slice (some ⟨ro, 0, none⟩) n co) rfl (by intro w' hW; have := (HC w' hW).1; go_simp) ?_
            go_frame
            refine q_val rfl (by intro w' _; go_simp; rfl) ?_
            go_frame
            refine q_val rfl (by intro w' _; go_simp; rfl) ?_
            go_frame
            refine q_val rfl (by intro w' _; go_simp; rfl) ?_
            go_frame
            refine q_val rfl (by intro w' _; go_simp; rfl) ?_
            go_frame
            refine q_val (v := .slice (some ⟨rn, 0, none⟩) n cn) rfl (by intro w' hW; have := (HC w' hW).2.1; go_simp) ?_
            go_frame
            refine q_val rfl (by intro w' _; go_simp; rfl) ?_
            go_frame
            refine q_val (v := .pointer (some ⟨rn, i, none⟩)) rfl (by intro w' hW; go_simp) ?_
            go_frame
            refine q_val (v := .string s) rfl (by intro w' hW; have := (HC w' hW).2.2.1; go_simp) ?_
            go_frame
            refine q_val rfl (by intro w' _; go_simp; rfl) ?_
            go_frame
            refine q_val (v := .string S1) rfl (by intro w' hW; go_simp; first | done | exact HS1.out | (rw [HS1.out]) | (rw [← HS1.out]; apply ba_ext; simp)) ?_
            go_frame
            refine q_val rfl (by intro w' _; go_simp; rfl) ?_
            go_frame
            refine q_val rfl (by intro w' _; go_simp; rfl) ?_
            go_frame
            refine q_val rfl (by intro w' _; go_simp; rfl) ?_
            go_frame
            refine q_val (v := .slice (some ⟨ro, 0, none⟩) n co) rfl (by intro w' hW; have := (HC w' hW).1; go_simp) ?_
            go_frame
            refine q_val rfl (by intro w' _; go_simp; rfl) ?_
            go_frame
            refine q_val (v := .pointer (some ⟨ro, i, none⟩)) rfl (by intro w' hW; go_simp) ?_
            go_frame
            refine q_val (v := .string o) rfl (by intro w' hW; have := (HC w' hW).2.2.2; go_simp) ?_
            go_frame
            refine q_val rfl (by intro w' _; go_simp; rfl) ?_
            go_frame
            refine q_val (v := .string S2) rfl (by intro w' hW; go_simp; first | done | exact HS2.out | (rw [HS2.out]) | (rw [← HS2.out]; apply ba_ext; simp)) ?_
            go_frame
            refine q_val (v := .string T) rfl (by intro w' hW; go_simp; first | done | (rw [if_neg (by omega), HT.out]) | (rw [HT.out, if_neg (by omega)]) | (rw [if_neg (by omega)]) | exact HT.out | (rw [HT.out])) ?_
            go_frame
            refine wpQuiet_nil ?_
            intro w4 hF4
            have HR4 := Lib.hid (hR.out.fr hF4 (by simp) (by simp) (by simp))
            have hc4 := HR4.out.cells
            simp only [hnl] at hc4
            obtain ⟨e0, e1, -, -⟩ := hc4
            obtain ⟨g1, g2, g3, g4⟩ := HX w4 hF4
            go_wp2
            go_roundw
            case rel => exact ⟨i + 1, j + 1, done ++ [T], by omega, by omega, by simp [hdl], by go_num, by go_num, HR2.out w4 hF4, HO2, Lib.hid (((hFr.out.trans hF4.any).setCell (Or.inl (by simp)) _).setCell (Or.inl (by simp)) _)⟩
            case measure => simp [intOf]; omega
          by_cases hp1 : p = 1
          · subst hp1
            have hnn0 : nn = 64 := by rw [← HNN.out]; decide
            subst hnn0
            clear HNN hpd hp2
            go_wp2
            refine wp_region_tail 24 (by kernel_rfl) (by kernel_rfl) ?_
            refine q_val rfl (by intro w' _; go_simp; rfl) ?_
            go_frame
            refine q_val rfl (by intro w' _; go_simp; rfl) ?_
            go_frame
            refine q_val rfl (by intro w' _; go_simp; rfl) ?_
            go_frame
            refine q_val (v := .slice (some ⟨ro, 0, none⟩) n co) rfl (by intro w' hW; have := (HC w' hW).1; go_simp) ?_
            go_frame
            refine q_val rfl (by intro w' _; go_simp; rfl) ?_
            go_frame
            refine q_val rfl (by intro w' _; go_simp; rfl) ?_
            go_frame
            refine q_val rfl (by intro w' _; go_simp; rfl) ?_
            go_frame
            refine q_val rfl (by intro w' _; go_simp; rfl) ?_
            go_frame
            refine q_val (v := .slice (some ⟨rn, 0, none⟩) n cn) rfl (by intro w' hW; have := (HC w' hW).2.1; go_simp) ?_
            go_frame
            refine q_val rfl (by intro w' _; go_simp; rfl) ?_
            go_frame
            refine q_val (v := .pointer (some ⟨rn, i, none⟩)) rfl (by intro w' hW; go_simp) ?_
            go_frame
            refine q_val (v := .string s) rfl (by intro w' hW; have := (HC w' hW).2.2.1; go_simp) ?_
            go_frame
            refine q_val rfl (by intro w' _; go_simp; rfl) ?_
            go_frame
            refine q_val (v := .string S1) rfl (by intro w' hW; go_simp; first | done | exact HS1.out | (rw [HS1.out]) | (rw [← HS1.out]; apply ba_ext; simp)) ?_
            go_frame
            refine q_val rfl (by intro w' _; go_simp; rfl) ?_
            go_frame
            refine q_val rfl (by intro w' _; go_simp; rfl) ?_
            go_frame
            refine q_val rfl (by intro w' _; go_simp; rfl) ?_
            go_frame
            refine q_val (v := .slice (some ⟨ro, 0, none⟩) n co) rfl (by intro w' hW; have := (HC w' hW).1; go_simp) ?_
            go_frame
            refine q_val rfl (by intro w' _; go_simp; rfl) ?_
            go_frame
            refine q_val (v := .pointer (some ⟨ro, i, none⟩)) rfl (by intro w' hW; go_simp) ?_
            go_frame
            refine q_val (v := .string o) rfl (by intro w' hW; have := (HC w' hW).2.2.2; go_simp) ?_
            go_frame
            refine q_val rfl (by intro w' _; go_simp; rfl) ?_
            go_frame
            refine q_val (v := .string S2) rfl (by intro w' hW; go_simp; first | done | exact HS2.out | (rw [HS2.out]) | (rw [← HS2.out]; apply ba_ext; simp)) ?_
            go_frame
            refine q_val (v := .string T) rfl (by intro w' hW; go_simp; first | done | (rw [if_neg (by omega), HT.out]) | (rw [HT.out, if_neg (by omega)]) | (rw [if_neg (by omega)]) | exact HT.out | (rw [HT.out])) ?_
            go_frame
            refine wpQuiet_nil ?_
            intro w4 hF4
            have HR4 := Lib.hid (hR.out.fr hF4 (by simp) (by simp) (by simp))
            have hc4 := HR4.out.cells
            simp only [hnl] at hc4
            obtain ⟨e0, e1, -, -⟩ := hc4
            obtain ⟨g1, g2, g3, g4⟩ := HX w4 hF4
            go_wp2
            go_roundw
            case rel => exact ⟨i + 1, j + 1, done ++ [T], by omega, by omega, by simp [hdl], by go_num, by go_num, HR2.out w4 hF4, HO2, Lib.hid (((hFr.out.trans hF4.any).setCell (Or.inl (by simp)) _).setCell (Or.inl (by simp)) _)⟩
            case measure => simp [intOf]; omega
          have hb0 : (p == 0) = false := by simpa using hp0
          have hb1 : (p == 1) = false := by simpa using hp1
          have hcut := cut_of p hp1
          rw [HNN.out] at hcut
          have hy1 := Int.tmod_lt_of_pos p (show (0 : Int) < 64 by omega)
          have hy0 : -64 < p.tmod 64 := by have := Int.lt_tmod_of_pos p (show (0 : Int) < 64 by omega); omega
          obtain ⟨y, hy⟩ : ∃ y, p.tmod 64 = y := ⟨_, rfl⟩
          rw [hy] at hcut hy0 hy1
          have hz : (y + 64).tmod 64 = (nn : Int) := by have : 0 ≤ (y + 64).tmod 64 := Int.tmod_nonneg _ (by omega); omega
          clear HNN hpd hp2 hp0 hp1 hcut
          go_wp2
          refine wp_region_tail 24 (by kernel_rfl) (by kernel_rfl) ?_
          refine q_val rfl (by intro w' _; go_simp; rfl) ?_
          go_frame
          refine q_val rfl (by intro w' _; go_simp; rfl) ?_
          go_frame
          refine q_val rfl (by intro w' _; go_simp; rfl) ?_
          go_frame
          refine q_val (v := .slice (some ⟨ro, 0, none⟩) n co) rfl (by intro w' hW; have := (HC w' hW).1; go_simp) ?_
          go_frame
          refine q_val rfl (by intro w' _; go_simp; rfl) ?_
          go_frame
          refine q_val rfl (by intro w' _; go_simp; rfl) ?_
          go_frame
          refine q_val rfl (by intro w' _; go_simp; rfl) ?_
          go_frame
          refine q_val rfl (by intro w' _; go_simp; rfl) ?_
          go_frame
          refine q_val (v := .slice (some ⟨rn, 0, none⟩) n cn) rfl (by intro w' hW; have := (HC w' hW).2.1; go_simp) ?_
          go_frame
          refine q_val rfl (by intro w' _; go_simp; rfl) ?_
          go_frame
          refine q_val (v := .pointer (some ⟨rn, i, none⟩)) rfl (by intro w' hW; go_simp) ?_
          go_frame
          refine q_val (v := .string s) rfl (by intro w' hW; have := (HC w' hW).2.2.1; go_simp) ?_
          go_frame
          refine q_val rfl (by intro w' _; go_simp; rfl) ?_
          go_frame
          refine q_val (v := .string S1) rfl (by intro w' hW; go_simp; first | done | exact HS1.out | (rw [HS1.out]) | (rw [← HS1.out]; apply ba_ext; simp)) ?_
          go_frame
          refine q_val rfl (by intro w' _; go_simp; rfl) ?_
          go_frame
          refine q_val rfl (by intro w' _; go_simp; rfl) ?_
          go_frame
          refine q_val rfl (by intro w' _; go_simp; rfl) ?_
          go_frame
          refine q_val (v := .slice (some ⟨ro, 0, none⟩) n co) rfl (by intro w' hW; have := (HC w' hW).1; go_simp) ?_
          go_frame
          refine q_val rfl (by intro w' _; go_simp; rfl) ?_
          go_frame
          refine q_val (v := .pointer (some ⟨ro, i, none⟩)) rfl (by intro w' hW; go_simp) ?_
          go_frame
          refine q_val (v := .string o) rfl (by intro w' hW; have := (HC w' hW).2.2.2; go_simp) ?_
          go_frame
          refine q_val rfl (by intro w' _; go_simp; rfl) ?_
          go_frame
          refine q_val (v := .string S2) rfl (by intro w' hW; go_simp; first | done | exact HS2.out | (rw [HS2.out]) | (rw [← HS2.out]; apply ba_ext; simp)) ?_
          go_frame
          refine q_val (v := .string T) rfl (by intro w' hW; go_simp; first | done | (rw [if_neg (by omega), HT.out]) | (rw [HT.out, if_neg (by omega)]) | (rw [if_neg (by omega)]) | exact HT.out | (rw [HT.out])) ?_
          go_frame
          refine wpQuiet_nil ?_
          intro w4 hF4
          have HR4 := Lib.hid (hR.out.fr hF4 (by simp) (by simp) (by simp))
          have hc4 := HR4.out.cells
          simp only [hnl] at hc4
          obtain ⟨e0, e1, -, -⟩ := hc4
          obtain ⟨g1, g2, g3, g4⟩ := HX w4 hF4
          go_wp2
          go_roundw
          case rel => exact ⟨i + 1, j + 1, done ++ [T], by omega, by omega, by simp [hdl], by go_num, by go_num, HR2.out w4 hF4, HO2, Lib.hid (((hFr.out.trans hF4.any).setCell (Or.inl (by simp)) _).setCell (Or.inl (by simp)) _)⟩
          case measure => simp [intOf]; omega
        · have hp0 : p = 0 := by rw [← hpd, List.drop_eq_nil_of_le (by omega)]; rfl
          subst hp0
          have hnn0 : nn = 0 := by rw [← HNN.out]; decide
          subst hnn0
          clear HNN hpd
          go_wp2
          refine wp_region_tail 24 (by kernel_rfl) (by kernel_rfl) ?_
          refine q_val rfl (by intro w' _; go_simp; rfl) ?_
          go_frame
          refine q_val rfl (by intro w' _; go_simp; rfl) ?_
          go_frame
          refine q_val rfl (by intro w' _; go_simp; rfl) ?_
          go_frame
          refine q_val (v := .slice (some ⟨ro, 0, none⟩) n co) rfl (by intro w' hW; have := (HC w' hW).1; go_simp) ?_
          go_frame
          refine q_val rfl (by intro w' _; go_simp; rfl) ?_
          go_frame
          refine q_val rfl (by intro w' _; go_simp; rfl) ?_
          go_frame
          refine q_val rfl (by intro w' _; go_simp; rfl) ?_
          go_frame
          refine q_val rfl (by intro w' _; go_simp; rfl) ?_
          go_frame
          refine q_val (v := .slice (some ⟨rn, 0, none⟩) n cn) rfl (by intro w' hW; have := (HC w' hW).2.1; go_simp) ?_
          go_frame
          refine q_val rfl (by intro w' _; go_simp; rfl) ?_
          go_frame
          refine q_val (v := .pointer (some ⟨rn, i, none⟩)) rfl (by intro w' hW; go_simp) ?_
          go_frame
          refine q_val (v := .string s) rfl (by intro w' hW; have := (HC w' hW).2.2.1; go_simp) ?_
          go_frame
          refine q_val rfl (by intro w' _; go_simp; rfl) ?_
          go_frame
          refine q_val (v := .string S1) rfl (by intro w' hW; go_simp; first | done | exact HS1.out | (rw [HS1.out]) | (rw [← HS1.out]; apply ba_ext; simp)) ?_
          go_frame
          refine q_val rfl (by intro w' _; go_simp; rfl) ?_
          go_frame
          refine q_val rfl (by intro w' _; go_simp; rfl) ?_
          go_frame
          refine q_val rfl (by intro w' _; go_simp; rfl) ?_
          go_frame
          refine q_val (v := .slice (some ⟨ro, 0, none⟩) n co) rfl (by intro w' hW; have := (HC w' hW).1; go_simp) ?_
          go_frame
          refine q_val rfl (by intro w' _; go_simp; rfl) ?_
          go_frame
          refine q_val (v := .pointer (some ⟨ro, i, none⟩)) rfl (by intro w' hW; go_simp) ?_
          go_frame
          refine q_val (v := .string o) rfl (by intro w' hW; have := (HC w' hW).2.2.2; go_simp) ?_
          go_frame
          refine q_val rfl (by intro w' _; go_simp; rfl) ?_
          go_frame
          refine q_val (v := .string S2) rfl (by intro w' hW; go_simp; first | done | exact HS2.out | (rw [HS2.out]) | (rw [← HS2.out]; apply ba_ext; simp)) ?_
          go_frame
          refine q_val (v := .string T) rfl (by intro w' hW; go_simp; first | done | (rw [if_neg (by omega), HT.out]) | (rw [HT.out, if_neg (by omega)]) | (rw [if_neg (by omega)]) | exact HT.out | (rw [HT.out])) ?_
          go_frame
          refine wpQuiet_nil ?_
          intro w4 hF4
          have HR4 := Lib.hid (hR.out.fr hF4 (by simp) (by simp) (by simp))
          have hc4 := HR4.out.cells
          simp only [hnl] at hc4
          obtain ⟨e0, e1, -, -⟩ := hc4
          obtain ⟨g1, g2, g3, g4⟩ := HX w4 hF4
          go_wp2
          go_roundw
          case rel => exact ⟨i + 1, j + 1, done ++ [T], by omega, by omega, by simp [hdl], by go_num, by go_num, HR2.out w4 hF4, HO2, Lib.hid (((hFr.out.trans hF4.any).setCell (Or.inl (by simp)) _).setCell (Or.inl (by simp)) _)⟩
          case measure => simp [intOf]; omega
    · obtain rfl : i = n := by omega
      have hfin : Hid ({ d with on := done ++ d.on.drop i, nw := List.replicate i none ++ d.nw.drop i, left := 0, down := false } = d.crash ps) := Lib.hid (by
        have e1 : d.on.drop i = [] := List.drop_eq_nil_of_le (by omega)
        have e2 : d.nw.drop i = [] := List.drop_eq_nil_of_le (by omega)
        have e3 : tear d.on d.nw ps = done := by rw [hO.out, e1]; simp [tear]
        unfold Dv.crash
        rw [e1, e2, e3, hlen, List.append_nil, List.append_nil])
      have hc := hR.out.cells
      obtain ⟨-, -, c2, c3⟩ := hc
      have f2 := hR.out.blk.free 2
      have f3 := hR.out.blk.free 3
      have HB := Lib.hid hR.out.blk
      simp only at c2 c3
      go_wp2
      go_end0
      refine ⟨rfl, ?_, (hFr.out.setCell (Or.inl (by simp)) _).setCell (Or.inl (by simp)) _⟩
      rw [← hfin.out]
      exact hR.out.four (x := 0) (y := false) (by omega) (by omega) (by simp) (((Fr.refl _ _).setCell (Or.inl (by simp)) _).setCell (Or.inl (by simp)) _) ((HB.out.set 2 _).set 3 _)
end

end Go.Proofs.YtiojkakmlbfiiaaGreat
