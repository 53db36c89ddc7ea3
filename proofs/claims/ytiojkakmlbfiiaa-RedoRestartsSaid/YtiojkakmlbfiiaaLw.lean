/- The statements' own functions: SameTexts at equal lists, works. -/
import Derived.Test.YtiojkakmlbfiiaaPl2
namespace Go.Proofs.Ytiojkakmlbfiiaa
open Go.RowKit
open Sp

theorem slice_lit_shape {w : World} {v : Value} {fp : Option Nat} {l : List ByteArray} (h : SliceAt w v fp (strVals l)) : ∃ a c, v = .slice a l.length c := by
  rcases h with ⟨h1, _, a, c, rfl⟩ | ⟨b, o, c, _, rfl, _⟩
  · refine ⟨a, c, ?_⟩
    have : l = [] := by simpa [strVals] using h1
    rw [this]; rfl
  · exact ⟨some ⟨b, o, none⟩, c, by simp [strVals]⟩

theorem slice_cell {w : World} {a : Option Addr} {n c : Nat} {fp : Option Nat} {l : List ByteArray} (h : SliceAt w (.slice a n c) fp (strVals l)) (k : Nat) (hk : k < l.length) (x : ByteArray) (hx : l[k]? = some x) :
    ∃ b o, a = some ⟨b, o, none⟩ ∧ w.cell? ⟨b, o + k, none⟩ = some (.string x) := by
  rcases h with ⟨h1, _, _⟩ | ⟨b, o, c', _, hv, hcell⟩
  · have h2 : l = [] := by simpa [strVals] using h1
    rw [h2] at hk; simp at hk
  · simp only [Value.slice.injEq] at hv
    exact ⟨b, o, hv.1, hcell k _ (by rw [strVals, List.getElem?_map, hx]; rfl)⟩

set_option maxRecDepth 100000 in
theorem same_c (w : World) (v1 v2 : Value) (f1 f2 : Option Nat) (l : List ByteArray) (h1 : SliceAt w v1 f1 (strVals l)) (h2 : SliceAt w v2 f2 (strVals l)) (hl : l.length ≤ 1000000000) :
    Calls Try.prog 11 #[v1, v2] w fun e w' => e = .returned (.bool true) ∧ Fr [] w w' := by
  obtain ⟨a1, c1, rfl⟩ := slice_lit_shape h1
  obtain ⟨a2, c2, rfl⟩ := slice_lit_shape h2
  have H1 := Lib.hid h1
  have H2 := Lib.hid h2
  clear h1 h2
  go_enter Try.func11, Try.ntmps11
  go_wp2
  go_loopw [5] (fun i wr => ∃ k : Nat, k ≤ l.length ∧ i = .int .i64 (k : Int) ∧ Hid (Fr [] w wr)) (fun i _ => l.length - (intOf i).toNat)
  case atStart => exact ⟨0, Nat.zero_le _, rfl, Lib.hid (Fr.refl _ _)⟩
  case round =>
    obtain ⟨k, hk, rfl, hF⟩ := hrel
    by_cases hlt : k < l.length
    · obtain ⟨x, hx⟩ : ∃ x, l[k]? = some x := ⟨_, List.getElem?_eq_getElem hlt⟩
      obtain ⟨b1, o1, rfl, hc1⟩ := slice_cell (H1.out.fr hF.out (by simp)) k hlt x hx
      obtain ⟨b2, o2, rfl, hc2⟩ := slice_cell (H2.out.fr hF.out (by simp)) k hlt x hx
      clear hx
      go_wp2
      go_quiet (fail)
      go_wp2
      go_roundw
      case rel => exact ⟨k + 1, by omega, by go_num, Lib.hid (hF.out.drewN _)⟩
      case measure => simp [intOf]; omega
    · obtain rfl : k = l.length := by omega
      go_wp2
      go_ret
      exact ⟨rfl, hF.out⟩

theorem dev_append {w w' : World} {bl bd bo bm sz : Nat} {g : Lg} {v : Value} {d : Dv} (h : LogAt w bl bd bo bm sz g v) (hD : DevAt w bd bo bm d) (hF : Fr (bl :: v.ownBlock.toList) w w') : DevAt w' bd bo bm d := by
  have key : ∀ x, x < bl → x ∉ bl :: v.ownBlock.toList := by
    intro x hx hm
    rcases List.mem_cons.1 hm with e | e
    · omega
    · cases ho : v.ownBlock with
      | none => rw [ho] at e; simp at e
      | some b =>
        rw [ho] at e
        have hb : x = b := by simpa using e
        have := (own_base h.own b ho).1
        omega
  exact hD.fr hF (key _ h.n1) (key _ h.n2) (key _ h.n3)

theorem fr_append {w0 w w' : World} {bl bd bo bm sz : Nat} {g : Lg} {v : Value} (h0 : Fr [] w0 w) (hb : w0.heap.size ≤ bl) (h : LogAt w bl bd bo bm sz g v) (hF : Fr (bl :: v.ownBlock.toList) w w') : Fr [] w0 w' :=
  h0.then hF (fun x hx => by
    right
    rcases List.mem_cons.1 hx with e | e
    · omega
    · cases ho : v.ownBlock with
      | none => rw [ho] at e; simp at e
      | some b =>
        rw [ho] at e
        have hb : x = b := by simpa using e
        have := (own_base h.own b ho).1
        omega)

theorem fr_four {w0 w w' : World} {bl bd bo bm : Nat} (h0 : Fr [] w0 w) (h1 : w0.heap.size ≤ bd) (h2 : w0.heap.size ≤ bo) (h3 : w0.heap.size ≤ bm) (h4 : w0.heap.size ≤ bl) (hF : Fr [bd, bo, bm, bl] w w') : Fr [] w0 w' :=
  h0.then hF (fun x hx => by simp at hx; omega)
theorem fr_three {w0 w w' : World} {bd bo bm : Nat} (h0 : Fr [] w0 w) (h1 : w0.heap.size ≤ bd) (h2 : w0.heap.size ≤ bo) (h3 : w0.heap.size ≤ bm) (hF : Fr [bd, bo, bm] w w') : Fr [] w0 w' :=
  h0.then hF (fun x hx => by simp at hx; omega)

theorem textA : (⟨#[97]⟩ : ByteArray).size = 1 := rfl
theorem textB : (⟨#[98]⟩ : ByteArray).size = 1 := rfl

theorem append_small (g : Lg) (size : Nat) (t : ByteArray) (h1 : t.size = 1) (h2 : (g.bytes.length : Int) + g.waits.length + 7 ≤ size) : g.append size t = ({ g with texts := g.texts ++ [t] }, 0) := by
  unfold Lg.append Lg.room
  rw [if_neg (by omega), if_neg (by omega)]

set_option maxHeartbeats 8000000 in
set_option maxRecDepth 100000 in
theorem works_c (w : World) : Calls Try.prog 5 #[] w fun e w' => e = .returned (.bool true) ∧ Fr [] w w' := by
  obtain ⟨d1, o1, c1, y1, t0, t1⟩ := openLog_fresh 20 (by omega) (by omega)
  have hsm : ∀ t ∈ [(⟨#[97]⟩ : ByteArray)], t.size ≤ 4096 := by intro t ht; simp at ht; subst ht; decide
  have hfl : (framesL [(⟨#[97]⟩ : ByteArray)]).length = 7 := by rw [framesL_one]; rfl
  obtain ⟨d2, s2, c2, y2, o2⟩ := sync_second c1 (by omega) (by omega) t1 [⟨#[97]⟩] hsm (by rw [hfl]; decide) (by decide)
  have ap1 : Lg.append ⟨1, 0, [], [], 0⟩ (64 * 9) ⟨#[97]⟩ = (⟨1, 0, [], [⟨#[97]⟩], 0⟩, 0) := append_small _ _ _ rfl (by simp [Lg.waits, framesL])
  have ap2 : Lg.append ⟨2, 0, framesL [⟨#[97]⟩], [⟨#[97]⟩], 1⟩ (64 * 9) ⟨#[98]⟩ = (⟨2, 0, framesL [⟨#[97]⟩], [⟨#[97]⟩, ⟨#[98]⟩], 1⟩, 0) := append_small _ _ _ rfl (by
    have e : (Lg.waits ⟨2, 0, framesL [⟨#[97]⟩], [⟨#[97]⟩], 1⟩) = [] := rfl
    rw [e]; show ((framesL [⟨#[97]⟩]).length : Int) + _ + 7 ≤ _; rw [hfl]; decide)
  have hnew := new_c 20 w (by omega) (by omega)
  have HL1 := Lib.hid o1
  have HS2 := Lib.hid s2
  have HO2 := Lib.hid o2
  have HA1 := Lib.hid ap1
  have HA2 := Lib.hid ap2
  have HC1 := Lib.hid c1
  have HC2 := Lib.hid c2
  clear o1 s2 o2 ap1 ap2 hsm hfl c1 c2 t0 t1 y1 y2
  have hn20 : ((20 : Nat) : Int) = 20 := rfl
  rw [hn20] at hnew
  go_enter Try.func5, Try.ntmps5
  go_wp2_with (first
    | (go_at_call 4; refine hnew.mono ?_; clear hnew; rintro e wa ⟨bd, bo, bm, rfl, hD0, hF0, hb1, hb2, hb3⟩; have HOP := Lib.hid (open_c hD0); rw [HL1.out] at HOP; clear hD0)
    | (go_at_call 6; refine HOP.out.mono ?_; clear HOP; rintro e wb ⟨hD1, hF1, -, hs⟩; obtain ⟨bl, v1, rfl, hbl, hg1⟩ := hs _ rfl; clear hs
       have hg1 : LogAt wb bl bd bo bm 9 ⟨1, 0, [], [], 0⟩ v1 := hg1
       have hFb := fr_three hF0 hb1 hb2 hb3 hF1
       have hbl0 : w.heap.size ≤ bl := Nat.le_trans hF0.size hbl
       have hap := append_c hg1 ⟨#[97]⟩ (by decide)
       rw [HA1.out] at hap
       have HAP1 := Lib.hid hap
       have HG1 := Lib.hid hg1
       have HD1 := Lib.hid hD1
       clear hg1 hD1 hap)
    | (go_at_call 7; refine HAP1.out.mono ?_; clear HAP1; rintro e wc ⟨v2, rfl, hg2, -, hF2⟩
       have hD2 := dev_append HG1.out HD1.out hF2
       have hFc := fr_append hFb hbl0 HG1.out hF2
       have hsy := sync_c hg2 hD2 (by rw [HC1.out.len]) (by decide)
       rw [HS2.out] at hsy
       have HSY := Lib.hid hsy
       clear hsy hg2 hD2)
    | (go_at_call 14; refine HSY.out.mono ?_; clear HSY; rintro e wd ⟨rfl, hg3, hD3, hF3⟩
       have hFd := fr_four hFc hb1 hb2 hb3 hbl0 hF3
       have hg3 : LogAt wd bl bd bo bm 9 ⟨2, 0, framesL [⟨#[97]⟩], [⟨#[97]⟩], 1⟩ v2 := hg3
       have hap := append_c hg3 ⟨#[98]⟩ (by decide)
       rw [HA2.out] at hap
       have HAP2 := Lib.hid hap
       have HG3 := Lib.hid hg3
       have HD3 := Lib.hid hD3
       clear hg3 hD3 hap)
    | (go_at_call 7; refine HAP2.out.mono ?_; clear HAP2; rintro e we ⟨v4, rfl, hg4, -, hF4⟩
       have HD4 := Lib.hid (dev_append HG3.out HD3.out hF4)
       have hFe := fr_append hFd hbl0 HG3.out hF4
       have HSC := Lib.hid (synced_c hg4.blk)
       clear hg4)
    | (go_at_call 12; refine HSC.out.mono ?_; rintro e wf ⟨rfl, rfl⟩)
    | (go_at_call 13; refine (crash_c HD4.out (pv := .slice none 0 0) (pfp := none) (ps := []) (Or.inl ⟨rfl, rfl, _, _, rfl⟩) (by simp) (by simp) (by simp)).mono ?_; rintro e wg ⟨rfl, hD5, hF5⟩
       have hFg := fr_three hFe hb1 hb2 hb3 hF5
       have hop := open_c hD5
       rw [HO2.out] at hop
       have HOP2 := Lib.hid hop
       clear hop hD5)
    | (go_at_call 6; refine HOP2.out.mono ?_; rintro e wh ⟨hD6, hF6, -, hs⟩; obtain ⟨bl2, v6, rfl, hbl2, hg6⟩ := hs _ rfl; clear hs
       have hFh := fr_three hFg hb1 hb2 hb3 hF6
       have HTX := Lib.hid (texts_c hg6)
       clear hg6 hD6)
    | (go_at_call 8; refine HTX.out.mono ?_; rintro e wi ⟨v7, rfl, ho7, hF7⟩
       have hFi := hFh.trans hF7
       obtain ⟨fp7, hsl7⟩ := own_slice ho7
       have HSL := Lib.hid hsl7
       clear hsl7 ho7)
    | (go_at_call 11; refine (same_c _ _ _ fp7 (some wi.heap.size) [⟨#[97]⟩] (HSL.out.fr ((Fr.refl [] _).alloc _) (by simp)) (slice_lit wi [.string ⟨#[97]⟩] 9 1 rfl) (by decide)).mono ?_; rintro e wj ⟨rfl, hFj⟩))
  go_ret
  exact ⟨rfl, (hFi.alloc _).trans hFj⟩

end Go.Proofs.Ytiojkakmlbfiiaa
