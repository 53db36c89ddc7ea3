/- RedoPlays: for every size and every list of acts the call returns true, and the acts read behind it as they read before. No condition. -/
import Derived.Test.YtiojkakmlbfiiaaGreatM28
import Derived.Test.YtiojkakmlbfiiaaGreatRows
import Derived.WalkKit
import Derived.ProofKit
import Derived.OpenShut
import Derived.SliceStrings
import Derived.ChangeSlices
import Derived.Carry
import Derived.SizedLaws
import Derived.Deep.Slices
import Derived.Deep.Fields
/- The law: for every size and every list of acts RedoPlays returns true. -/
namespace Go.Proofs.YtiojkakmlbfiiaaGreat
open Go.RowKit
open Sp

structure CellsOf (w0 : World) (b o : Nat) (kind nn : Int) (text : ByteArray) (tv pv : Value) : Prop where
  c0 : w0.cell? ⟨b, o, none⟩ = some (.int .i64 kind)
  c1 : w0.cell? ⟨b, o + 1, none⟩ = some (.int .i64 nn)
  c2 : w0.cell? ⟨b, o + 2, none⟩ = some (.string text)
  c3 : w0.cell? ⟨b, o + 3, none⟩ = some tv
  c4 : w0.cell? ⟨b, o + 4, none⟩ = some pv

theorem CellsOf.fr0 {w0 w' : World} {b o : Nat} {kind nn : Int} {text : ByteArray} {tv pv : Value} (h : CellsOf w0 b o kind nn text tv pv) (hF : Fr [] w0 w') : CellsOf w' b o kind nn text tv pv := by
  have hl := World.block_lt_of_cell? w0 ⟨b, o, none⟩ h.c0
  have e := hF.block b hl (by simp)
  exact ⟨by rw [World.cell?_of_block e]; exact h.c0, by rw [World.cell?_of_block e]; exact h.c1, by rw [World.cell?_of_block e]; exact h.c2, by rw [World.cell?_of_block e]; exact h.c3, by rw [World.cell?_of_block e]; exact h.c4⟩

def ActsAt (w0 : World) (a : Option Addr) (len : Nat) : Prop :=
  ∀ k, k < len → ∃ b o kind nn text tv tf texts pv pf picks, a = some ⟨b, o, none⟩ ∧ ActAt w0 kind nn text tv tf texts pv pf picks ∧ CellsOf w0 b (o + k * 5) kind nn text tv pv

set_option maxHeartbeats 8000000 in
set_option maxRecDepth 100000 in
theorem plays_bad (w : World) (size : Int) (v : Value) (h : size < 1 ∨ 2048 < size) :
    Calls Tryz.prog 3 #[.int .i64 size, v] w fun e w' => e = .returned (.bool true) ∧ Fr [] w w' := by
  have h1 := new_bad size w h
  have h2 := rMake_bad w size h
  have h3 := works_c w
  clear h
  go_enter Tryz.func3, Tryz.ntmps3
  go_wp2_with (first
    | (go_at_call 4; refine h1.mono ?_; clear h1; rintro e w1 ⟨rfl, rfl⟩)
    | (go_at_call 5; refine h2.mono ?_; clear h2; rintro e w1 ⟨rfl, rfl⟩)
    | (go_at_call 6; refine h3.mono ?_; clear h3; rintro e w1 ⟨rfl, hF⟩))
  go_ret
  exact ⟨rfl, hF⟩

set_option maxHeartbeats 8000000 in
set_option maxRecDepth 100000 in
theorem plays_big (w : World) (n : Nat) (v : Value) (h1 : 41 ≤ n) (h2 : n ≤ 2048) :
    Calls Tryz.prog 3 #[.int .i64 (n : Int), v] w fun e w' => e = .returned (.bool true) ∧ Fr [] w w' := by
  have hn := new_c n w (by omega) h2
  have hm := fun W' => rMake_c W' n (by omega) h2
  have hw := fun W' => works_c W'
  have h41 : (41 : Int) ≤ (n : Int) := by omega
  go_enter Tryz.func3, Tryz.ntmps3
  go_wp2_with (first
    | (go_at_call 4; refine hn.mono ?_; clear hn; rintro e w1 ⟨bd, bo, bm, rfl, hD, hF1, g1, g2, g3⟩)
    | (go_at_call 5; refine (hm w1).mono ?_; clear hm; rintro e w2 ⟨rd, ro, rn, co, cn, rfl, hR, hF2, k1, k2, k3⟩)
    | (go_at_call 6; refine (hw w2).mono ?_; clear hw; rintro e w3 ⟨rfl, hF3⟩))
  go_ret
  exact ⟨rfl, (hF1.trans hF2).trans hF3⟩

set_option maxHeartbeats 8000000 in
set_option maxRecDepth 100000 in
theorem plays_small (w : World) (n : Nat) (a : Option Addr) (len c : Nat) (h1 : 1 ≤ n) (h2 : n ≤ 40) (ha : ActsAt w a len) :
    Calls Tryz.prog 3 #[.int .i64 (n : Int), .slice a len c] w fun e w' => e = .returned (.bool true) ∧ Fr [] w w' := by
  have hn := new_c n w h1 (by omega)
  have hm := fun W' => rMake_c W' n h1 (by omega)
  have hw := fun W' => works_c W'
  have h40 : (n : Int) ≤ 40 := by omega
  have HA := Lib.hid ha
  clear ha
  go_enter Tryz.func3, Tryz.ntmps3
  go_wp2_with (first
    | (go_at_call 4; refine hn.mono ?_; clear hn; rintro e w1 ⟨bd, bo, bm, rfl, hD, hF1, g1, g2, g3⟩
       have HD1 := Lib.hid hD
       have HF1 := Lib.hid hF1
       clear hD hF1)
    | (go_at_call 5; refine (hm w1).mono ?_; clear hm; rintro e w2 ⟨rd, ro, rn, co, cn, rfl, hR, hF2, k1, k2, k3⟩
       have HR2 := Lib.hid hR
       have HF2 := Lib.hid hF2
       clear hR hF2)
    | (go_at_call 6; refine (hw w2).mono ?_; clear hw; rintro e w3 ⟨rfl, hF3⟩
       have HF3 := Lib.hid hF3
       clear hF3)
    | fail)
  have hWb : Blk (w3.alloc (.cells #[.pointer (some ⟨bd, 0, none⟩), .pointer (some ⟨rd, 0, none⟩), .pointer none, .pointer none] 35)) w3.heap.size [.pointer (some ⟨bd, 0, none⟩), .pointer (some ⟨rd, 0, none⟩), .pointer none, .pointer none] := Blk.new _ _ _
  have hFb : Fr [] w3 (w3.alloc (.cells #[.pointer (some ⟨bd, 0, none⟩), .pointer (some ⟨rd, 0, none⟩), .pointer none, .pointer none] 35)) := (Fr.refl _ _).alloc _
  obtain ⟨W, hWW⟩ : ∃ W, w3.alloc (.cells #[.pointer (some ⟨bd, 0, none⟩), .pointer (some ⟨rd, 0, none⟩), .pointer none, .pointer none] 35) = W := ⟨_, rfl⟩
  rw [hWW] at hWb hFb ⊢
  obtain ⟨x, hx⟩ : ∃ x : Bx, x = ⟨w3.heap.size, bd, bo, bm, rd, ro, rn, co, cn⟩ := ⟨_, rfl⟩
  have hb1 := HD1.out.blk.lt
  have hb2 := HD1.out.byt.lt
  have hb3 := HD1.out.map.lt
  have hr1 := HR2.out.blk.lt
  have hr2 := (own_base HR2.out.on ro rfl).2
  have hr3 := (own_base HR2.out.nw rn rfl).2
  have s1 := HF1.out.size
  have s2 := HF2.out.size
  have s3 := HF3.out.size
  have hFW : Fr [] w W := ((HF1.out.trans HF2.out).trans HF3.out).trans hFb
  have hbase : Base w W x n (Dv.make n) := by
    subst hx
    refine ⟨((HD1.out.fr HF2.out (by simp) (by simp) (by simp)).fr HF3.out (by simp) (by simp) (by simp)).fr hFb (by simp) (by simp) (by simp), (HR2.out.fr HF3.out (by simp) (by simp) (by simp)).fr hFb (by simp) (by simp) (by simp), hFW, ?_, by simp [Dv.make], ?_, ?_, ?_, ?_⟩
    · intro b hb
      simp [Bx.S] at hb
      omega
    · simp; omega
    · simp; omega
    · simp; omega
    · simp; omega
  have hop := bOpen_c (K := 4611686018427387904) hbase (.pointer none) (.pointer none) (by rw [hx]; exact hWb) (Nat.le_refl _)
  have hbb : w3.heap.size = x.bb := by rw [hx]
  rw [hbb]
  have HOP := Lib.hid hop
  clear hWW hWb hFb hx hb1 hb2 hb3 hr1 hr2 hr3 s1 s2 s3 hFW hbase hop hbb g1 g2 g3 k1 k2 k3
  generalize (openLog (Dv.make n)).1 = d0 at HOP
  generalize (openLog (Dv.make n)).2.1 = og0 at HOP
  go_wp2_with (first
    | (go_at_call 7; refine HOP.out.mono ?_; clear HOP; rintro e w4 ⟨rfl, hB4⟩
       have HB4 := Lib.hid hB4
       have hsm := bSame_c hB4
       clear hB4)
    | (go_at_call 8; refine hsm.mono ?_; clear hsm; rintro e w5 ⟨rfl, hF5⟩
       have HB5 := Lib.hid (HB4.out.fr0 hF5)
       clear hF5 HB4)
    | fail)
  go_loopw [10] (fun i wr => ∃ (k : Nat) (d : Dv) (og : Option Lg), k ≤ 30 ∧ k ≤ len ∧ i = .int .i64 (k : Int) ∧ Hid (BothAt w wr x n (4611686018427387904 + k) d og)) (fun i _ => 30 - (intOf i).toNat)
  case atStart => exact ⟨0, d0, og0, by omega, by omega, rfl, HB5⟩
  case round =>
    obtain ⟨k, d, og, hk, hkl, rfl, hB⟩ := hrel
    by_cases hgo : k < len ∧ k < 30
    · obtain ⟨hlt, hlt2⟩ := hgo
      obtain ⟨b, o, kind, nn, text, tv, tf, texts, pv, pf, picks, rfl, hact, hcl⟩ := HA.out k hlt
      obtain ⟨z0, z1, z2, z3, z4⟩ := hcl.fr0 hB.out.base.fr
      have hst := bStep_c hB.out hact (by omega) (by omega)
      have HST := Lib.hid hst
      clear hact hcl hst
      go_wp2_with (first
        | (go_at_call 9; refine HST.out.mono ?_; clear HST; rintro e w6 ⟨rfl, d', og', hB6⟩
           have HB6 := Lib.hid hB6
           have hsm := bSame_c hB6
           clear hB6)
        | (go_at_call 8; refine hsm.mono ?_; clear hsm; rintro e w7 ⟨rfl, hF7⟩
           have HB7 := Lib.hid (HB6.out.fr0 hF7)
           clear hF7 HB6))
      go_roundw
      case rel => exact ⟨k + 1, d', og', by omega, by omega, by go_num, HB7⟩
      case measure => simp [intOf]; omega
    · rcases Nat.lt_or_ge k len with h | h
      · have h30 : k = 30 := by omega
        subst h30
        clear hgo
        go_wp2
        go_ret
        exact ⟨rfl, hB.out.base.fr⟩
      · have hkl2 : k = len := by omega
        subst hkl2
        clear hgo
        go_wp2
        go_ret
        exact ⟨rfl, hB.out.base.fr⟩

theorem plays_c (w : World) (size : Int) (a : Option Addr) (len c : Nat) (ha : ActsAt w a len) :
    Calls Tryz.prog 3 #[.int .i64 size, .slice a len c] w fun e w' => e = .returned (.bool true) ∧ Fr [] w w' := by
  by_cases h : size < 1 ∨ 2048 < size
  · exact plays_bad w size _ h
  · obtain ⟨n, rfl⟩ := Int.eq_ofNat_of_zero_le (show 0 ≤ size by omega)
    by_cases h40 : n ≤ 40
    · exact plays_small w n a len c (by omega) h40 ha
    · exact plays_big w n _ (by omega) (by omega)

end Go.Proofs.YtiojkakmlbfiiaaGreat

/- RedoPlays: for every size and every list of acts the call returns true, and the acts read behind it as they read before. No condition. -/
namespace Go.Proofs.YtiojkakmlbfiiaaGreat
open Go.ChangeShapes Go.WideShapes Go.ChangeAt Go.RowKit
open Sp

theorem rpOwn : ownKnob Tryz.prog.godebug = none := by kernel_rfl
theorem rpLaid : laidOutB Tryz.prog = true := by kernel_rfl
theorem rpCellsS : Tryz.prog.cellsOf 9 = 1 := by kernel_rfl
theorem rpCellsI : Tryz.prog.cellsOf 3 = 1 := by kernel_rfl
theorem rpCellsA : Tryz.prog.cellsOf 40 = 5 := by kernel_rfl
theorem rpBytesS : Tryz.prog.bytesOf 9 = 16 := by kernel_rfl

theorem slice_of_cells {α : Type} (mk : α → Value) (z : α) {W : World} {a : Addr} {len cap : Nat} {xs : List α} (hl : len ≤ cap) (hz : xs.length = cap) (hcell : ∀ i, i < xs.length → W.cell? (a.add i) = some (mk (xs.getD i z))) :
    ∃ fp, SliceAt W (.slice (some a) len cap) fp ((xs.take len).map mk) ∧ ∀ b, fp = some b → b < W.heap.size := by
  by_cases h0 : len = 0
  · subst h0
    exact ⟨none, Or.inl ⟨by simp, rfl, _, _, rfl⟩, by simp⟩
  · obtain ⟨b, off, spot⟩ := a
    have hspot : spot = none := by simpa [Addr.add] using World.cell?_spot (hcell 0 (by omega))
    subst hspot
    have hlen : ((xs.take len).map mk).length = len := by rw [List.length_map, List.length_take]; omega
    have hadd : ∀ i, (⟨b, off, none⟩ : Addr).add i = ⟨b, off + i, none⟩ := by
      intro i; unfold Addr.add; split <;> simp_all
    refine ⟨some b, Or.inr ⟨b, off, cap, rfl, by rw [hlen], fun i x hx => ?_⟩, fun c hc => ?_⟩
    · have hi : i < len := by
        rcases Nat.lt_or_ge i len with h | h
        · exact h
        · rw [List.getElem?_eq_none (by rw [hlen]; exact h)] at hx; cases hx
      have hc := hcell i (by omega)
      rw [hadd] at hc
      rw [hc, ← hx, List.getElem?_map, List.getElem?_take, if_pos hi, List.getD_eq_getElem?_getD, List.getElem?_eq_getElem (show i < xs.length by omega)]
      rfl
    · cases hc
      exact World.block_lt_of_cell? W _ (hcell 0 (by omega))

section
variable {H : Type} {enc : TypeId × Value → H} {W : World} {fuel : Nat}

theorem weights_of_all {P : Program} {e : TypeId} {d : DataW H} {n : Nat} : ∀ {l : List (DataW H)}, d ∈ l → n ∈ d.weights P e → n ∈ DataW.weightsAll P e l
  | x :: l, h, hn => by
    simp only [DataW.weightsAll, List.mem_append]
    rcases List.mem_cons.1 h with rfl | h
    · exact Or.inl hn
    · exact Or.inr (weights_of_all h hn)

/-- A slice of texts that was read. -/
theorem texts_of {v : Value} {y : DataW H × List MemPlace} (h : DataW.trod enc Tryz.prog W 0 (fun _ => true) true fuel 37 [v] = some y) (hz : ∀ n ∈ y.1.weights Tryz.prog 37, n ≤ reachBytes) :
    ∃ f ts, SliceAt W v f (strVals ts) ∧ (∀ b, f = some b → b < W.heap.size) ∧ (∀ t ∈ ts, t.size ≤ 9223372036854775807) ∧ ts.length * 16 ≤ 140737488351232 := by
  rcases open_strings Tryz.underlying37 Tryz.underlying9 rpCellsS h with ⟨hcs, hx⟩ | ⟨a, len', cap', ss, hcs, _, hl, hm, hz2, hx, hcell, hws⟩
  · cases hcs
    exact ⟨none, [], Or.inl ⟨rfl, rfl, _, _, rfl⟩, by simp, by simp, by simp⟩
  · cases hcs
    simp only [if_true] at hz2
    obtain ⟨fp, hs, hb⟩ := slice_of_cells Value.string ByteArray.empty hl hz2 hcell
    have hmx : maxLen ≤ 9223372036854775807 := by decide
    refine ⟨fp, ss.take len', hs, hb, fun t ht => Nat.le_trans (hws t (List.mem_of_mem_take ht)) hmx, ?_⟩
    have h1 := hz ((ss.take len').length * 16 + (ss.drop len').length * 16) (by
      rw [hx]
      simp only [DataW.weights, Tryz.underlying37, List.mem_cons, rpBytesS]
      left
      simp only [strs, List.length_map]
      omega)
    simp only [reachBytes] at h1
    omega

theorem ints_of {v : Value} {y : DataW H × List MemPlace} (h : DataW.trod enc Tryz.prog W 0 (fun _ => true) true fuel 38 [v] = some y) :
    ∃ f ps, SliceAt W v f (intVals ps) ∧ (∀ b, f = some b → b < W.heap.size) ∧ (∀ p ∈ ps, -9223372036854775808 ≤ p ∧ p ≤ 9223372036854775807) ∧ ps.length ≤ 9223372036854775807 := by
  rcases open_ints Tryz.underlying38 Tryz.underlying3 rpCellsI h with ⟨hcs, hx⟩ | ⟨a, len', cap', zs, hcs, _, hl, hm, hz, hx, hcell, hws⟩
  · cases hcs
    exact ⟨none, [], Or.inl ⟨rfl, rfl, _, _, rfl⟩, by simp, by simp, by simp⟩
  · cases hcs
    simp only [if_true] at hz
    obtain ⟨fp, hs, hb⟩ := slice_of_cells (Value.int .i64) 0 hl hz hcell
    have hmx : maxLen ≤ 9223372036854775807 := by decide
    refine ⟨fp, zs.take len', hs, hb, fun t ht => ?_, by rw [List.length_take]; omega⟩
    have := hws t (List.mem_of_mem_take ht)
    have e1 : IntKind.i64.min = -9223372036854775808 := rfl
    have e2 : IntKind.i64.max = 9223372036854775807 := rfl
    simp only [Lit.wf, Bool.and_eq_true, decide_eq_true_eq, e1, e2] at this
    exact this

theorem int_of {v : Value} {y : DataW H × List MemPlace} (h : DataW.trod enc Tryz.prog W 0 (fun _ => true) true fuel 3 [v] = some y) : ∃ k, v = .int .i64 k ∧ -9223372036854775808 ≤ k ∧ k ≤ 9223372036854775807 := by
  obtain ⟨k, hv, _, hw⟩ := DataW.trod_int Tryz.underlying3 h
  cases hv
  have e1 : IntKind.i64.min = -9223372036854775808 := rfl
  have e2 : IntKind.i64.max = 9223372036854775807 := rfl
  simp only [Lit.wf, Bool.and_eq_true, decide_eq_true_eq, e1, e2] at hw
  exact ⟨k, rfl, hw⟩

theorem five {α : Type} : ∀ (l : List α), l.length = 5 → ∃ a b c d e, l = [a, b, c, d, e] := by
  intro l h
  rcases l with _ | ⟨a, _ | ⟨b, _ | ⟨c, _ | ⟨d, _ | ⟨e, _ | ⟨f, l⟩⟩⟩⟩⟩⟩ <;> simp at h ⊢

set_option maxRecDepth 100000 in
theorem acts_of {v : Value} {y : DataW H × List MemPlace} (h : DataW.trod enc Tryz.prog W 0 (fun _ => true) true fuel 22 [v] = some y) (hz : ∀ n ∈ y.1.weights Tryz.prog 22, n ≤ reachBytes) :
    ∃ a len c, v = .slice a len c ∧ ActsAt W a len := by
  rcases Go.Deep.open_slice Tryz.underlying22 h with ⟨hcs, _⟩ | ⟨a, len, cap, m, n, D, Pl, hcs, _, hl, _, hm, hx, hi⟩
  · cases hcs
    exact ⟨none, 0, 0, rfl, fun k hk => by omega⟩
  · cases hcs
    simp only [if_true] at hm
    subst hm
    refine ⟨some a, len, m, rfl, fun k hk => ?_⟩
    obtain ⟨cs, hc, ht⟩ := hi k (by omega)
    rw [rpCellsA] at hc
    obtain ⟨_, hcl, hat⟩ := World.cells?_some hc
    obtain ⟨xs, n', _, hD, _, hxl, hf⟩ := DataW.trod_struct Tryz.underlying40 ht
    obtain ⟨v0, v1, v2, v3, v4, rfl⟩ := five cs hcl
    obtain ⟨y0, y1, y2, y3, y4, rfl⟩ := five xs hxl
    have f0 : DataW.trod enc Tryz.prog W 0 (fun _ => true) true n' 3 [v0] = some y0 := hf 0 _ rfl
    have f1 : DataW.trod enc Tryz.prog W 0 (fun _ => true) true n' 3 [v1] = some y1 := hf 1 _ rfl
    have f2 : DataW.trod enc Tryz.prog W 0 (fun _ => true) true n' 9 [v2] = some y2 := hf 2 _ rfl
    have f3 : DataW.trod enc Tryz.prog W 0 (fun _ => true) true n' 37 [v3] = some y3 := hf 3 _ rfl
    have f4 : DataW.trod enc Tryz.prog W 0 (fun _ => true) true n' 38 [v4] = some y4 := hf 4 _ rfl
    clear hf
    have hD1 : D k = .agg [y0.1, y1.1, y2.1, y3.1, y4.1] := congrArg Prod.fst hD
    have hw : ∀ z ∈ (D k).weights Tryz.prog 40, z ≤ reachBytes := fun z hzm => hz z (by
      rw [hx]
      simp only [DataW.weights, Tryz.underlying22, List.mem_cons, List.mem_append]
      exact Or.inr (Or.inl (weights_of_all (List.mem_map.2 ⟨k, List.mem_range.2 hk, rfl⟩) hzm)))
    rw [hD1] at hw
    simp only [DataW.weights, Tryz.underlying40, List.map_cons, List.map_nil, DataW.weightsEach, List.mem_append] at hw
    obtain ⟨k0, rfl, q0⟩ := int_of f0
    obtain ⟨k1, rfl, q1⟩ := int_of f1
    obtain ⟨s, hs2, hy2, hs3⟩ := DataW.trod_string Tryz.underlying9 f2
    cases hs2
    obtain ⟨tf, ts, t1, t2, t3, t4⟩ := texts_of f3 (fun z hzm => hw z (by simp [hzm]))
    obtain ⟨pf, ps, p1, p2, p3, p4⟩ := ints_of f4
    have hsz : s.size ≤ 140737488351232 := by
      have := hw s.data.toList.length (by rw [hy2]; simp [DataW.weights])
      simp only [reachBytes] at this
      exact this
    obtain ⟨b, off, spot⟩ := a
    have h0 := hat 0 (by omega)
    have h1 := hat 1 (by omega)
    have h2 := hat 2 (by omega)
    have h3 := hat 3 (by omega)
    have h4 := hat 4 (by omega)
    simp only [List.getElem?_cons_zero, List.getElem?_cons_succ] at h0 h1 h2 h3 h4
    have hspot : spot = none := by
      obtain ⟨cs', hc', _⟩ := hi 0 (by omega)
      rw [rpCellsA] at hc'
      obtain ⟨_, hcl', hat'⟩ := World.cells?_some hc'
      obtain ⟨u0, u1, u2, u3, u4, rfl⟩ := five cs' hcl'
      have h00 := hat' 0 (by omega)
      simp only [List.getElem?_cons_zero] at h00
      have := World.cell?_spot h00
      simpa [Addr.add] using this
    subst hspot
    have hadd : ∀ i j, ((⟨b, off, none⟩ : Addr).add i).add j = ⟨b, off + i + j, none⟩ := by
      intro i j; unfold Addr.add; split <;> split <;> simp_all
    rw [hadd] at h0 h1 h2 h3 h4
    exact ⟨b, off, k0, k1, s, v3, tf, ts, v4, pf, ps, rfl, ⟨q0, q1, hsz, t1, t2, t4, t3, p1, p2, p4, p3⟩, ⟨h0, h1, h2, h3, h4⟩⟩
end

set_option maxRecDepth 100000 in
theorem redo_plays_lifted (os : Os) (started : os.Started) (H : Type) (enc : TypeId × Value → H) :
    ReturnsInHanded {} Tryz.checked os 3 .any (Rows.redoPlaysSpec.pre6 enc Tryz.prog Tryz.f3 Rows.redoPlaysRow.domain false) (Rows.redoPlaysSpec.post enc Tryz.prog Tryz.f3 false true false false) := by
  refine returnsInHanded_of_change_sized (C := Tryz.checked) rpOwn started (by kernel_rfl) Tryz.func3
    (ChangeSpec.witness6 (enc := enc) (C := Tryz.checked) false ⟨#[], #[.int .i64 0, .slice none 0 0], []⟩ 8 (by kernel_rfl) (by kernel_rfl) (by kernel_rfl) (by kernel_rfl)) ?_
  intro W base args ds gs before hval0 hW _ hsz0 _
  have hval : ∀ (j : Nat) t v, Tryz.f3.params[j]? = some t → args[j]? = some v → Value.okWide Tryz.prog W .any base t v := hval0
  have hsz : (DataW.weightsEach Tryz.prog (Tryz.f3.params.toList ++ Rows.redoPlaysSpec.plain.varTypes Tryz.prog) (ds ++ gs)).all (· ≤ reachBytes) = true := hsz0
  have hW' := hW
  obtain ⟨p, q, hA0, hV, rfl, _, _⟩ := hW
  have hA : DataW.TrodAll enc Tryz.prog W 0 (fun _ => true) true Tryz.f3.params.toList args.toList ds p := hA0
  rw [Tryz.params3] at hA hval hsz
  obtain ⟨v0, vs0, d0, ds0, p0, q0, hargs, rfl, rfl, h0, r0⟩ := trodAll_cons hA
  obtain ⟨v1, vs1, d1, ds1, p1, q1, rfl, rfl, rfl, h1, r1⟩ := trodAll_cons r0
  obtain ⟨rfl, rfl, rfl⟩ := trodAll_nil r1
  obtain rfl : args = #[v0, v1] := by cases args; simp_all
  obtain ⟨rfl, rfl⟩ := trodVars_none hV
  obtain ⟨a1, len1, cap1, rfl⟩ := okWide_slice Tryz.underlying22 (hval 1 22 v1 rfl rfl)
  have h0k := h0
  have h1k := h1
  obtain ⟨k, rfl⟩ := okWide_int Tryz.underlying3 (hval 0 3 v0 rfl rfl)
  obtain ⟨fuel1, hf1⟩ := h1
  clear hA0 hval0
  simp only [List.append_nil] at hW'
  have hlt : ∀ x ∈ p0 ++ p1, x.block < W.heap.size := fun x hx => by simpa using hW'.lt x hx
  have hz1 : ∀ n ∈ d1.weights Tryz.prog 22, n ≤ reachBytes := fun n hn => by
    have := List.all_eq_true.1 hsz n (DataW.weights_mem_each (j := 1) (t := 22) (d := d1) rfl rfl n hn)
    simpa using this
  obtain ⟨a, len, c, hv, hacts⟩ := acts_of (y := (d1, p1)) hf1 hz1
  simp only [Value.slice.injEq] at hv
  obtain ⟨rfl, rfl, rfl⟩ := hv
  refine (plays_c W k a1 len1 cap1 hacts).mono fun e W' ⟨he, hF⟩ => ?_
  subst he
  have hnx := hF.to_below
  refine ⟨_, rfl, _, _, _, [] ++ [], p0 ++ p1, [], hW', ?_, ?_, rfl, hnx.frame _, fun h => by cases h⟩
  · exact trodAll_mk1 (shut_bool Tryz.underlying4 true)
  · exact trodAll_mk2 (Below.trod rpLaid (by kernel_rfl) (of_decide_eq_true (by kernel_rfl)) h0k hnx (fun x hx => hlt x (List.mem_append_left _ hx)))
      (Below.trod rpLaid (by kernel_rfl) (of_decide_eq_true (by kernel_rfl)) h1k hnx (fun x hx => hlt x (List.mem_append_right _ hx)))

theorem redo_plays_holds : Rows.RedoPlaysSaid :=
  OpenClaim.holds_of_wide 3 Tryz.f3 rfl rfl rfl rfl rfl rfl rfl ⟨rfl, rfl, rfl, rfl, rfl⟩ rfl rfl rfl rfl rfl (by kernel_rfl) Tryz.func3 (by kernel_rfl)
    (of_decide_eq_true (by kernel_rfl)) (by unfold Func.isWrapper; first | (rw [if_pos (by decide +kernel)]; kernel_rfl) | (rw [if_neg (by decide +kernel)]; exact ⟨rfl, rfl⟩))
    (fun os started H enc _ => redo_plays_lifted os started H enc)

#print axioms redo_plays_holds
end Go.Proofs.YtiojkakmlbfiiaaGreat
