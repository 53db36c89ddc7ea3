/- The statement's function RedoRestarts: it returns true, and what was there stays. -/
import Derived.Test.YtiojkakmlbfiiaaLw
namespace Go.Proofs.Ytiojkakmlbfiiaa
open Go.RowKit
open Sp

theorem Sp.Lg.Wf.bytesLe {sz : Nat} {g : Lg} (h : g.Wf sz) : g.bytes.length ≤ 64 * sz := by
  have := h.len
  have := h.room
  omega

theorem append_form (l : List ByteArray) (size : Nat) (t : ByteArray) : ∃ l', (Lg.append ⟨1, 0, [], l, 0⟩ size t).1 = ⟨1, 0, [], l', 0⟩ := by
  unfold Lg.append
  split
  · exact ⟨l, rfl⟩
  · split
    · exact ⟨l, rfl⟩
    · exact ⟨l ++ [t], rfl⟩

set_option maxHeartbeats 8000000 in
set_option maxRecDepth 100000 in
theorem restarts_c (w : World) (v0 v1 : Value) (f0 f1 : Option Nat) (ts : List ByteArray) (ps : List Int) (h0 : SliceAt w v0 f0 (strVals ts)) (h1 : SliceAt w v1 f1 (intVals ps)) (hb1 : ∀ b, f1 = some b → b < w.heap.size)
    (hts : ∀ t ∈ ts, t.size ≤ 9223372036854775807) (hps : ∀ p ∈ ps, -9223372036854775808 ≤ p ∧ p ≤ 9223372036854775807) (htl : ts.length ≤ 9223372036854775807) (hpl : ps.length ≤ 9223372036854775807) :
    Calls Try.prog 3 #[v0, v1] w fun e w' => e = .returned (.bool true) ∧ Fr [] w w' := by
  obtain ⟨a0, k0, rfl⟩ := slice_lit_shape h0
  obtain ⟨d1, o1, c1, y1, t0, t1⟩ := openLog_fresh 60 (by omega) (by omega)
  have hnew := new_c 60 w (by omega) (by omega)
  have hn60 : ((60 : Nat) : Int) = 60 := rfl
  rw [hn60] at hnew
  have HL1 := Lib.hid o1
  have HC1 := Lib.hid c1
  have HT1 := Lib.hid t1
  have H0 := Lib.hid h0
  have H1 := Lib.hid h1
  clear o1 c1 y1 t0 t1 h0 h1
  go_enter Try.func3, Try.ntmps3
  go_wp2_with (first
    | (go_at_call 4; refine hnew.mono ?_; clear hnew; rintro e wa ⟨bd, bo, bm, rfl, hD0, hF0, hb1', hb2, hb3⟩; have HD0 := Lib.hid hD0; clear hD0; have hwk := works_c wa)
    | (go_at_call 5; refine hwk.mono ?_; clear hwk; rintro e wb ⟨rfl, hFw⟩; have HOP := Lib.hid (open_c (HD0.out.fr hFw (by simp) (by simp) (by simp))); rw [HL1.out] at HOP)
    | (go_at_call 6; refine HOP.out.mono ?_; clear HOP; rintro e wc ⟨hD1, hF1, -, hs⟩; obtain ⟨bl, v1, rfl, hbl, hg1⟩ := hs _ rfl; clear hs
       have HG1 : Hid (LogAt wc bl bd bo bm 29 ⟨1, 0, [], [], 0⟩ v1) := Lib.hid hg1
       have HFc := Lib.hid (fr_three (hF0.trans hFw) hb1' hb2 hb3 hF1)
       have hbl0 : w.heap.size ≤ bl := Nat.le_trans (hF0.trans hFw).size hbl
       have HD1 := Lib.hid hD1
       clear hg1 hD1 hF1))
  go_loopw [8] (fun i wr => ∃ (k : Nat) (l : List ByteArray) (v : Value), k ≤ ts.length ∧ k ≤ 20 ∧ i = .int .i64 (k : Int) ∧ Hid (LogAt wr bl bd bo bm 29 ⟨1, 0, [], l, 0⟩ v) ∧ Hid (DevAt wr bd bo bm d1) ∧ Hid (Fr [] w wr)) (fun i _ => 20 - (intOf i).toNat)
  case atStart => exact ⟨0, [], _, Nat.zero_le _, by omega, rfl, HG1, HD1, HFc⟩
  case round =>
    obtain ⟨k, l, v, hk, hk20, rfl, hG, hD, hF⟩ := hrel
    by_cases hlt : k < ts.length ∧ k < 20
    · obtain ⟨hl1, hl2⟩ := hlt
      obtain ⟨x, hx⟩ : ∃ x, ts[k]? = some x := ⟨_, List.getElem?_eq_getElem hl1⟩
      obtain ⟨sb, so, rfl, hcell⟩ := slice_cell (H0.out.fr hF.out (by simp)) k hl1 x hx
      have hap := append_c hG.out x (hts x (List.mem_of_getElem? hx))
      obtain ⟨l', hl'⟩ := append_form l (64 * 29) x
      rw [hl'] at hap
      have HAP := Lib.hid hap
      clear hap hx hl'
      go_wp2_with (go_at_call 7; refine HAP.out.mono ?_; clear HAP; rintro e w2 ⟨v2, rfl, hg2, -, hF2⟩; have HG2 := Lib.hid hg2; clear hg2)
      go_roundw
      case rel => exact ⟨k + 1, l', v2, by omega, by omega, by go_num, HG2, Lib.hid (dev_append hG.out hD.out hF2), Lib.hid (fr_append hF.out hbl0 hG.out hF2)⟩
      case measure => simp [intOf]; omega
    · have hwf := hG.out.wf
      have hroom := hwf.room
      have hsm := hwf.small
      obtain ⟨d2, s2, c2, y2, o2⟩ := restart_second HC1.out (by omega) (by omega) HT1.out l hsm hroom
      have HS2 := Lib.hid s2
      have HO2 := Lib.hid o2
      have HC2 := Lib.hid c2
      have hll : l.length ≤ 10912 := by have := hwf.count; simp at this; omega
      obtain ⟨Rm, hRm⟩ : ∃ Rm : Int, 1856 - ((framesL l).length : Int) = Rm := ⟨_, rfl⟩
      have hw0 : (Lg.waits ⟨1, 0, [], l, 0⟩).length = (framesL l).length := rfl
      have hrm1 : ∀ W', Fr [] wr W' → Calls Try.prog 9 #[.pointer (some ⟨bl, 0, none⟩)] W' fun e w' => e = .returned (.int .i64 Rm) ∧ Fr [] W' w' := by
        intro W' hW
        have := room_c (hG.out.blk.fr hW (by simp)) (by omega) (by simp) (by rw [hw0]; exact hroom)
        rw [hw0, show (((64 * 29 : Nat) : Int) - (((Lg.bytes ⟨1, 0, [], l, 0⟩).length : Nat) : Int) - ((framesL l).length : Int)) = Rm by rw [← hRm]; show (1856 : Int) - ((0 : Nat) : Int) - _ = _; omega] at this
        exact this
      have HTX := Lib.hid (texts_c hG.out)
      have HRM := Lib.hid hRm
      have HRM1 := Lib.hid hrm1
      have HRO := Lib.hid hroom
      have hex : ¬ ((k : Int) < (ts.length : Int) ∧ (k : Int) < 20) := by omega
      have hk20' : (k : Int) ≤ 20 := by omega
      have hszc : ((d2.crash ps).on.length - 2) / 2 = 29 := by rw [show (d2.crash ps).on.length = d2.on.length from tear_len _ _ _, c2.len]
      clear hwf hroom hsm s2 o2 c2 y2 hRm hw0 hrm1
      have hgl : bl < wr.heap.size := hG.out.blk.lt
      have HSZ : Hid (((d2.crash ps).on.length - 2) / 2 = 29) := Lib.hid hszc
      by_cases hl1 : k < ts.length
      · have hke : ¬ (k : Int) < 20 := by omega
        have hl1' : (k : Int) < (ts.length : Int) := by omega
        clear hlt hl1 hex
        go_wp2_with (first
          | (go_at_call 8; refine HTX.out.mono ?_; clear HTX; rintro e wd ⟨v7, rfl, ho7, hF7⟩
             obtain ⟨a7, c7, rfl⟩ := own_shape ho7
             obtain ⟨fp7, hsl7, hfp7⟩ := SliceAt.of_row ho7
             have HSL7 := Lib.hid hsl7
             have HFP7 := Lib.hid hfp7
             have HRMa := Lib.hid (HRM1.out wd hF7)
             clear ho7 hsl7 hfp7)
          | (go_at_call 9; refine HRMa.out.mono ?_; clear HRMa; rintro e we ⟨rfl, hF8⟩
             have hF78 := hF7.trans hF8
             have hrs := restart_c (hG.out.fr hF78 (by simp) (by simp)) (hD.out.fr hF78 (by simp) (by simp) (by simp)) (by rw [HC1.out.len]) (by show 1 + 1 ≤ 9223372036854775807; omega) (.slice a7 l.length c7) fp7 l (HSL7.out.fr hF8 (by simp))
               (fun b hb => by have := (HFP7.out b hb).1; omega) (by omega) (fun t ht => by have := hG.out.wf.small t ht; omega)
             rw [HS2.out] at hrs
             have HRS := Lib.hid hrs
             clear hrs)
          | (go_at_call 10; refine HRS.out.mono ?_; clear HRS; rintro e wf ⟨v8, rfl, hg8, -, hD8, hF9⟩
             have HG8 := Lib.hid hg8
             have HD8 := Lib.hid hD8
             have hFf := fr_four (hF.out.trans hF78) hb1' hb2 hb3 hbl0 hF9
             have hnb : ∀ b, fp7 = some b → b ∉ [bd, bo, bm, bl] := fun b hb => by
               have := (HFP7.out b hb).1
               have h1 := hg8.n1; have h2 := hg8.n2; have h3 := hg8.n3
               simp; omega
             have HSLf := Lib.hid ((HSL7.out.fr hF8 (by simp)).fr hF9 hnb)
             have HTXb := Lib.hid (texts_c hg8)
             clear hg8 hD8 hnb)
          | (go_at_call 8; refine HTXb.out.mono ?_; clear HTXb; rintro e wg ⟨v9, rfl, ho9, hF10⟩
             obtain ⟨fp9, hsl9⟩ := own_slice ho9
             have HSM := Lib.hid (same_c wg v9 _ fp9 fp7 l hsl9 (HSLf.out.fr hF10 (by simp)) (by omega))
             clear ho9 hsl9)
          | (go_at_call 11; refine HSM.out.mono ?_; clear HSM; rintro e wh ⟨rfl, hF11⟩
             have hF1011 := hF10.trans hF11
             have HSY := Lib.hid (synced_c (HG8.out.blk.fr hF1011 (by simp)))
             have hrm2 := room_c (HG8.out.blk.fr hF1011 (by simp)) (by omega) HRO.out (by show (framesL (l.drop l.length)).length ≤ _; rw [List.drop_length]; simp [framesL])
             rw [show (((64 * 29 : Nat) : Int) - (((Lg.bytes ⟨2, 1, framesL l, l, l.length⟩).length : Nat) : Int) - (((Lg.waits ⟨2, 1, framesL l, l, l.length⟩).length : Nat) : Int)) = Rm by
               rw [← HRM.out]; show (1856 : Int) - ((framesL l).length : Int) - (((framesL (l.drop l.length)).length : Nat) : Int) = _; rw [List.drop_length]; simp [framesL]] at hrm2
             have HRMb := Lib.hid hrm2
             clear hrm2)
          | (go_at_call 12; refine HSY.out.mono ?_; clear HSY; rintro e wi ⟨rfl, rfl⟩)
          | (go_at_call 9; refine HRMb.out.mono ?_; clear HRMb; rintro e wj ⟨rfl, hF12⟩
             have hFj := (hFf.trans hF1011).trans hF12
             have hF1012 := hF1011.trans hF12
             have HCR := Lib.hid (crash_c (HD8.out.fr hF1012 (by simp) (by simp) (by simp)) (H1.out.fr hFj (by simp)) (fun b hb => by have := hb1 b hb; omega) hps hpl))
          | (go_at_call 13; refine HCR.out.mono ?_; clear HCR; rintro e wk ⟨rfl, hD13, hF13⟩
             have hFk := fr_three hFj hb1' hb2 hb3 hF13
             have hop := open_c hD13
             rw [HO2.out ps] at hop
             have HOPb := Lib.hid hop
             have hnb : ∀ b, fp7 = some b → b ∉ [bd, bo, bm] := fun b hb => by
               have := (HFP7.out b hb).1
               have h1 := HG8.out.n1; have h2 := HG8.out.n2; have h3 := HG8.out.n3
               simp; omega
             have HSLk := Lib.hid ((HSLf.out.fr hF1012 (by simp)).fr hF13 hnb)
             have HNB := Lib.hid hnb
             clear hop hD13 hnb)
          | (go_at_call 6; refine HOPb.out.mono ?_; clear HOPb; rintro e wl ⟨hD14, hF14, -, hs⟩; obtain ⟨bl2, v14, rfl, hbl2, hg14⟩ := hs _ rfl; clear hs
             have hg14 : LogAt wl bl2 bd bo bm (((d2.crash ps).on.length - 2) / 2) ⟨2, 1, framesL l, l, l.length⟩ v14 := hg14
             have hFl := fr_three hFk hb1' hb2 hb3 hF14
             have HG14 := Lib.hid hg14
             have HSLl := Lib.hid (HSLk.out.fr hF14 HNB.out)
             have HTXc := Lib.hid (texts_c hg14)
             clear hg14 hD14)
          | (go_at_call 8; refine HTXc.out.mono ?_; clear HTXc; rintro e wm ⟨v15, rfl, ho15, hF15⟩
             obtain ⟨fp15, hsl15⟩ := own_slice ho15
             have HSMb := Lib.hid (same_c wm v15 _ fp15 fp7 l hsl15 (HSLl.out.fr hF15 (by simp)) (by omega))
             clear ho15 hsl15)
          | (go_at_call 11; refine HSMb.out.mono ?_; clear HSMb; rintro e wn ⟨rfl, hF16⟩
             have hF1516 := hF15.trans hF16
             have hrm3 := room_c (HG14.out.blk.fr hF1516 (by simp)) HG14.out.sz1 HG14.out.wf.bytesLe (by show (framesL (l.drop l.length)).length ≤ _; rw [List.drop_length]; simp [framesL])
             rw [HSZ.out, show (((64 * 29 : Nat) : Int) - (((Lg.bytes ⟨2, 1, framesL l, l, l.length⟩).length : Nat) : Int) - (((Lg.waits ⟨2, 1, framesL l, l, l.length⟩).length : Nat) : Int)) = Rm by
               rw [← HRM.out]; show (1856 : Int) - ((framesL l).length : Int) - (((framesL (l.drop l.length)).length : Nat) : Int) = _; rw [List.drop_length]; simp [framesL]] at hrm3
             have HRMc := Lib.hid hrm3
             clear hrm3)
          | (go_at_call 9; refine HRMc.out.mono ?_; clear HRMc; rintro e wo ⟨rfl, hF17⟩))
        go_ret
        exact ⟨rfl, (hFl.trans hF1516).trans hF17⟩
      · have hl1' : ¬ (k : Int) < (ts.length : Int) := by omega
        clear hlt hl1 hex
        go_wp2_with (first
          | (go_at_call 8; refine HTX.out.mono ?_; clear HTX; rintro e wd ⟨v7, rfl, ho7, hF7⟩
             obtain ⟨a7, c7, rfl⟩ := own_shape ho7
             obtain ⟨fp7, hsl7, hfp7⟩ := SliceAt.of_row ho7
             have HSL7 := Lib.hid hsl7
             have HFP7 := Lib.hid hfp7
             have HRMa := Lib.hid (HRM1.out wd hF7)
             clear ho7 hsl7 hfp7)
          | (go_at_call 9; refine HRMa.out.mono ?_; clear HRMa; rintro e we ⟨rfl, hF8⟩
             have hF78 := hF7.trans hF8
             have hrs := restart_c (hG.out.fr hF78 (by simp) (by simp)) (hD.out.fr hF78 (by simp) (by simp) (by simp)) (by rw [HC1.out.len]) (by show 1 + 1 ≤ 9223372036854775807; omega) (.slice a7 l.length c7) fp7 l (HSL7.out.fr hF8 (by simp))
               (fun b hb => by have := (HFP7.out b hb).1; omega) (by omega) (fun t ht => by have := hG.out.wf.small t ht; omega)
             rw [HS2.out] at hrs
             have HRS := Lib.hid hrs
             clear hrs)
          | (go_at_call 10; refine HRS.out.mono ?_; clear HRS; rintro e wf ⟨v8, rfl, hg8, -, hD8, hF9⟩
             have HG8 := Lib.hid hg8
             have HD8 := Lib.hid hD8
             have hFf := fr_four (hF.out.trans hF78) hb1' hb2 hb3 hbl0 hF9
             have hnb : ∀ b, fp7 = some b → b ∉ [bd, bo, bm, bl] := fun b hb => by
               have := (HFP7.out b hb).1
               have h1 := hg8.n1; have h2 := hg8.n2; have h3 := hg8.n3
               simp; omega
             have HSLf := Lib.hid ((HSL7.out.fr hF8 (by simp)).fr hF9 hnb)
             have HTXb := Lib.hid (texts_c hg8)
             clear hg8 hD8 hnb)
          | (go_at_call 8; refine HTXb.out.mono ?_; clear HTXb; rintro e wg ⟨v9, rfl, ho9, hF10⟩
             obtain ⟨fp9, hsl9⟩ := own_slice ho9
             have HSM := Lib.hid (same_c wg v9 _ fp9 fp7 l hsl9 (HSLf.out.fr hF10 (by simp)) (by omega))
             clear ho9 hsl9)
          | (go_at_call 11; refine HSM.out.mono ?_; clear HSM; rintro e wh ⟨rfl, hF11⟩
             have hF1011 := hF10.trans hF11
             have HSY := Lib.hid (synced_c (HG8.out.blk.fr hF1011 (by simp)))
             have hrm2 := room_c (HG8.out.blk.fr hF1011 (by simp)) (by omega) HRO.out (by show (framesL (l.drop l.length)).length ≤ _; rw [List.drop_length]; simp [framesL])
             rw [show (((64 * 29 : Nat) : Int) - (((Lg.bytes ⟨2, 1, framesL l, l, l.length⟩).length : Nat) : Int) - (((Lg.waits ⟨2, 1, framesL l, l, l.length⟩).length : Nat) : Int)) = Rm by
               rw [← HRM.out]; show (1856 : Int) - ((framesL l).length : Int) - (((framesL (l.drop l.length)).length : Nat) : Int) = _; rw [List.drop_length]; simp [framesL]] at hrm2
             have HRMb := Lib.hid hrm2
             clear hrm2)
          | (go_at_call 12; refine HSY.out.mono ?_; clear HSY; rintro e wi ⟨rfl, rfl⟩)
          | (go_at_call 9; refine HRMb.out.mono ?_; clear HRMb; rintro e wj ⟨rfl, hF12⟩
             have hFj := (hFf.trans hF1011).trans hF12
             have hF1012 := hF1011.trans hF12
             have HCR := Lib.hid (crash_c (HD8.out.fr hF1012 (by simp) (by simp) (by simp)) (H1.out.fr hFj (by simp)) (fun b hb => by have := hb1 b hb; omega) hps hpl))
          | (go_at_call 13; refine HCR.out.mono ?_; clear HCR; rintro e wk ⟨rfl, hD13, hF13⟩
             have hFk := fr_three hFj hb1' hb2 hb3 hF13
             have hop := open_c hD13
             rw [HO2.out ps] at hop
             have HOPb := Lib.hid hop
             have hnb : ∀ b, fp7 = some b → b ∉ [bd, bo, bm] := fun b hb => by
               have := (HFP7.out b hb).1
               have h1 := HG8.out.n1; have h2 := HG8.out.n2; have h3 := HG8.out.n3
               simp; omega
             have HSLk := Lib.hid ((HSLf.out.fr hF1012 (by simp)).fr hF13 hnb)
             have HNB := Lib.hid hnb
             clear hop hD13 hnb)
          | (go_at_call 6; refine HOPb.out.mono ?_; clear HOPb; rintro e wl ⟨hD14, hF14, -, hs⟩; obtain ⟨bl2, v14, rfl, hbl2, hg14⟩ := hs _ rfl; clear hs
             have hg14 : LogAt wl bl2 bd bo bm (((d2.crash ps).on.length - 2) / 2) ⟨2, 1, framesL l, l, l.length⟩ v14 := hg14
             have hFl := fr_three hFk hb1' hb2 hb3 hF14
             have HG14 := Lib.hid hg14
             have HSLl := Lib.hid (HSLk.out.fr hF14 HNB.out)
             have HTXc := Lib.hid (texts_c hg14)
             clear hg14 hD14)
          | (go_at_call 8; refine HTXc.out.mono ?_; clear HTXc; rintro e wm ⟨v15, rfl, ho15, hF15⟩
             obtain ⟨fp15, hsl15⟩ := own_slice ho15
             have HSMb := Lib.hid (same_c wm v15 _ fp15 fp7 l hsl15 (HSLl.out.fr hF15 (by simp)) (by omega))
             clear ho15 hsl15)
          | (go_at_call 11; refine HSMb.out.mono ?_; clear HSMb; rintro e wn ⟨rfl, hF16⟩
             have hF1516 := hF15.trans hF16
             have hrm3 := room_c (HG14.out.blk.fr hF1516 (by simp)) HG14.out.sz1 HG14.out.wf.bytesLe (by show (framesL (l.drop l.length)).length ≤ _; rw [List.drop_length]; simp [framesL])
             rw [HSZ.out, show (((64 * 29 : Nat) : Int) - (((Lg.bytes ⟨2, 1, framesL l, l, l.length⟩).length : Nat) : Int) - (((Lg.waits ⟨2, 1, framesL l, l, l.length⟩).length : Nat) : Int)) = Rm by
               rw [← HRM.out]; show (1856 : Int) - ((framesL l).length : Int) - (((framesL (l.drop l.length)).length : Nat) : Int) = _; rw [List.drop_length]; simp [framesL]] at hrm3
             have HRMc := Lib.hid hrm3
             clear hrm3)
          | (go_at_call 9; refine HRMc.out.mono ?_; clear HRMc; rintro e wo ⟨rfl, hF17⟩))
        go_ret
        exact ⟨rfl, (hFl.trans hF1516).trans hF17⟩

end Go.Proofs.Ytiojkakmlbfiiaa
