/- The program's device, further: Crash. -/
import Derived.Test.YtiojkakmlbfiiaaGreatM03
import Derived.Test.YtiojkakmlbfiiaaGreatIter
import Derived.StillTailTactics
/- The program's device, further: the cache's numbers in order; Crash. -/
namespace Go.Proofs.YtiojkakmlbfiiaaGreat
open Go.RowKit Go.Maps Go.Shelf
open Sp

/-- The sectors that are in the cache, rising. -/
def dirty (nw : List (Option ByteArray)) : List Nat := (List.range nw.length).filter fun i => (nw.getD i none).isSome

theorem dirty_sorted (nw : List (Option ByteArray)) : (dirty nw).Pairwise (· < ·) := List.Pairwise.filter _ List.pairwise_lt_range

theorem mem_dirty {nw : List (Option ByteArray)} {i : Nat} : i ∈ dirty nw ↔ ∃ s, nw[i]? = some (some s) := by
  simp only [dirty, List.mem_filter, List.mem_range, List.getD_eq_getElem?_getD]
  constructor
  · rintro ⟨hi, h⟩
    rw [List.getElem?_eq_getElem hi] at h ⊢
    cases hx : nw[i] with
    | none => rw [hx] at h; simp at h
    | some s => exact ⟨s, rfl⟩
  · rintro ⟨s, h⟩
    refine ⟨?_, by rw [h]; rfl⟩
    rcases Nat.lt_or_ge i nw.length with h' | h'
    · exact h'
    · rw [List.getElem?_eq_none h'] at h; cases h

theorem dirty_perm {w : World} {b : Nat} {D : DW} {nw : List (Option ByteArray)} (ho : w.ownsMap Tryz.prog 3 (plainElem Tryz.prog 9) b (Maps.size D) D) (hc : CacheIs D nw) :
    ((dirty nw).map fun i : Nat => (i : Int)).Perm (intKeys D) := by
  have htidy := ho.tidy keysLaw
  obtain ⟨es, rfl, hap⟩ := htidy
  refine perm_intKeys hap ?_ ?_ ?_
  · obtain ⟨es0, clock, hb, F, _, hD⟩ := ho
    cases hD
    intro p hp
    obtain ⟨x, hx, rfl⟩ := List.mem_map.1 (mem_sorted.1 hp)
    obtain ⟨y, hy⟩ := F.reads x hx
    rw [Go.WideElems.rg_of hy]
    obtain ⟨a, _, ha, _⟩ := Maps.keyOf_i64 Tryz.underlying3 (Go.WideElems.rd_key hy)
    exact ⟨a, ha⟩
  · refine List.pairwise_map.2 ((dirty_sorted nw).imp ?_)
    intro a b h; omega
  · intro x
    rw [List.mem_map]
    constructor
    · rintro ⟨i, hi, rfl⟩
      obtain ⟨s, hs⟩ := mem_dirty.1 hi
      exact (hc.hit i s hs).1
    · intro h
      by_cases hx : ∃ (k : Nat) (s : ByteArray), x = k ∧ nw[k]? = some (some s)
      · obtain ⟨k, s, rfl, hs⟩ := hx
        exact ⟨k, mem_dirty.2 ⟨s, hs⟩, rfl⟩
      · rw [hc.miss x (fun k s hk hs => hx ⟨k, s, hk, hs⟩)] at h
        cases h

theorem sorted_of_perm {nw : List (Option ByteArray)} {ss : List Int} {D : DW} (h : ss.Perm (intKeys D)) (h2 : ((dirty nw).map fun i : Nat => (i : Int)).Perm (intKeys D)) :
    ss.mergeSort (fun x y => decide (x ≤ y)) = (dirty nw).map fun i : Nat => (i : Int) := by
  have e := mergeSort_of_perm_i (h.trans h2.symm)
  show ss.mergeSort leI = _
  rw [e]
  refine List.mergeSort_of_pairwise (List.pairwise_map.2 ((dirty_sorted nw).imp ?_))
  intro a b h; simp only [leI, decide_eq_true_eq]; omega

theorem sortsA (m : Nat) : AnyZI.SortsIn Tryz.prog Tryz.sortedA_ren Fence.wide m :=
  ⟨fun blk off cap ss W hH hblk hsz => callsIn_wide.2 (AnyM.slices_Sort_int Tryz.sortA blk off cap ss W hH hblk hsz),
   fun p cap W => callsIn_wide.2 (AnyM.slices_Sort_int_none Tryz.sortA p cap W)⟩

theorem keys_c (mb : Option Nat) (W : World) : Calls Tryz.prog 41 #[.map mb] W fun e w' =>
    e = .returned (.func (.func 72) #[] #[.pointer (some ⟨W.heap.size, 0, none⟩)]) ∧ w' = W.alloc (.cells #[.map mb] 43) :=
  (callsIn_wide (n := 5)).1 (AnyZI.keys_in Tryz.keysA Fence.wide 5 trivial rfl mb W)

theorem sorted_c {w : World} {b : Nat} {nw : List (Option ByteArray)} (h : CacheAt w b nw) (hl : nw.length ≤ 2048) :
    Calls Tryz.prog 40 #[.func (.func 72) #[] #[.pointer (some ⟨w.heap.size, 0, none⟩)]] (w.alloc (.cells #[.map (some b)] 43)) fun e w' =>
      ∃ v, e = .returned v ∧ w'.ownsRow w.heap.size 3 1 v (dirty nw).length ((dirty nw).map fun i : Nat => Value.int .i64 (i : Int)) ∧ Fr [] w w' := by
  have hbl := h.lt
  obtain ⟨D, hown, hc⟩ := h
  have hp := dirty_perm hown hc
  have hle : Maps.size D ≤ 2048 := by rw [hc.size]; exact Nat.le_trans List.countP_le_length hl
  have hseq : SeqGives Fence.wide 2 Tryz.prog 72 #[.pointer (some ⟨w.heap.size, 0, none⟩)] encZ (fun ss => ss.Perm (intKeys D)) (Maps.size D) (w.alloc (.cells #[.map (some b)] 43)) :=
    AnyZI.keys_gives (ρ := Tryz.keysA_ren) { Tryz.keysA with } Fence.wide _ trivial rfl (by omega) w.heap.size b (Maps.size D) D _ (by simp) (by simp) (by
      obtain ⟨es, clock, hb, Ft, hs, hD⟩ := hown
      exact ⟨es, clock, (Below.heap_alloc _ _ b hbl).trans hb, Ft, hs, hD⟩)
  have cS := AnyZI.sorted_in Tryz.sortedA Fence.wide 5 trivial trivial trivial trivial rfl (by omega) (sortsA _) (enters_of Tryz.func71 (by kernel_rfl) rfl) 72 #[.pointer (some ⟨w.heap.size, 0, none⟩)] trivial (enters_of Tryz.func72 (by kernel_rfl) rfl) _ _ (by unfold maxLen; omega) (by omega) _ hseq
  change CallsIn _ _ Tryz.prog 40 _ _ _ at cS
  refine (callsIn_wide.1 cS).mono ?_
  rintro e w' ⟨v, ss, rfl, hS, hrow, _, hb⟩
  have e1 := sorted_of_perm hS hp
  rw [e1, List.map_map] at hrow
  have e2 : ss.length = (dirty nw).length := by rw [hS.length_eq, ← hp.length_eq, List.length_map]
  rw [e2] at hrow
  refine ⟨v, rfl, ?_, ((Fr.refl [] w).alloc _).trans (Fr.of_below hb)⟩
  exact ownsRow_base_a hrow (by simp)

end Go.Proofs.YtiojkakmlbfiiaaGreat

/- The program's device, further: Crash. -/
namespace Go.Proofs.YtiojkakmlbfiiaaGreat
open Go.RowKit Go.Maps Go.Shelf
open Sp

def intVals (ps : List Int) : List Value := ps.map (Value.int .i64)

/-- What a crash makes of the sectors, sector after sector of those in the cache. -/
def crashBy (nw : List (Option ByteArray)) : List ByteArray → List Nat → List Int → List ByteArray
  | on, [], _ => on
  | on, i :: l, ps => crashBy nw (on.set i (tornBy (on.getD i ByteArray.empty) ((nw.getD i none).getD ByteArray.empty) (cut (ps.headD 0)))) l ps.tail

theorem crashBy_cons (n : Option ByteArray) (ns : List (Option ByteArray)) (o : ByteArray) : ∀ (l : List Nat) (os : List ByteArray) (ps : List Int),
    crashBy (n :: ns) (o :: os) (l.map (· + 1)) ps = o :: crashBy ns os l ps
  | [], os, ps => rfl
  | i :: l, os, ps => by
    simp only [List.map_cons, crashBy, List.set_cons_succ, List.getD_cons_succ]
    exact crashBy_cons n ns o l _ _

theorem dirty_cons (n : Option ByteArray) (ns : List (Option ByteArray)) : dirty (n :: ns) = (if n.isSome then [0] else []) ++ (dirty ns).map (· + 1) := by
  simp only [dirty, List.length_cons, List.range_succ_eq_map, List.filter_cons, List.getD_cons_zero]
  have : (List.map Nat.succ (List.range ns.length)).filter (fun i => ((n :: ns).getD i none).isSome) = ((List.range ns.length).filter fun i => (ns.getD i none).isSome).map (· + 1) := by
    rw [List.filter_map]
    rfl
  rw [this]
  cases n <;> simp

theorem crashBy_dirty : ∀ (nw : List (Option ByteArray)) (on : List ByteArray) (ps : List Int), nw.length = on.length → crashBy nw on (dirty nw) ps = tear on nw ps
  | [], on, ps, h => by
    have : on = [] := List.eq_nil_of_length_eq_zero (by simpa using h.symm)
    subst this; simp [dirty, crashBy, tear]
  | n :: ns, [], ps, h => by simp at h
  | none :: ns, o :: os, ps, h => by
    rw [dirty_cons]
    simp only [Option.isSome_none, Bool.false_eq_true, if_false, List.nil_append, crashBy_cons, tear]
    rw [crashBy_dirty ns os ps (by simpa using h)]
  | some s :: ns, o :: os, ps, h => by
    rw [dirty_cons]
    simp only [Option.isSome_some, if_true, List.cons_append, List.nil_append, crashBy, List.set_cons_zero, List.getD_cons_zero, Option.getD_some, tear, crashBy_cons]
    rw [crashBy_dirty ns os ps.tail (by simpa using h)]

theorem cut_of (p : Int) (hp : p ≠ 1) : (((p.tmod 64 + 64).tmod 64).toNat) = cut p := by
  unfold cut
  rw [if_neg hp]
  have h1 := @Int.tmod_eq_emod p 64
  have h2 := Int.emod_nonneg p (show (64 : Int) ≠ 0 by omega)
  have h3 := Int.emod_lt_of_pos p (show (0 : Int) < 64 by omega)
  have h4 : 0 ≤ p.tmod 64 + 64 := by rw [h1]; split <;> simp <;> omega
  rw [Int.tmod_eq_emod_of_nonneg h4, h1]
  split
  · simp
  · simp

theorem DevAt.onto {w1 w2 : World} {bd bo bm : Nat} {d : Dv} (h : DevAt w1 bd bo bm d) {on' : List ByteArray} (hl : on'.length = d.on.length) (h64 : ∀ s ∈ on', s.size = 64) (hf : Fr [bo] w1 w2)
    (hb : Blk w2 bo (byteCells on')) : DevAt w2 bd bo bm { d with on := on' } := by
  refine ⟨⟨h.wf.len.trans hl.symm, h64, h.wf.nw64, h.wf.lo, h.wf.hi, by show 1 ≤ on'.length; rw [hl]; exact h.wf.least, by show on'.length ≤ _; rw [hl]; exact h.wf.most, h.wf.down0⟩, ?_, hb, h.map.fr hf (by simpa using h.n3.symm), h.n1, h.n2, h.n3⟩
  show Blk w2 bd [.slice (some ⟨bo, 0, none⟩) (64 * on'.length) (64 * on'.length), .map (some bm), .int .i64 d.left, .bool d.down]
  rw [hl]
  exact h.blk.fr hf (by simpa using h.n1)

theorem bytes_same {w : World} {bd bo n i : Nat} (h0 : w.cell? ⟨bd, 0, none⟩ = some (.slice (some ⟨bo, 0, none⟩) (64 * n) (64 * n))) (hn : n ≤ 2048) (hi : i < n) :
    Calls Tryz.prog 42 #[.pointer (some ⟨bd, 0, none⟩), .int .i64 (i : Int)] w fun e w' => e = .returned (.slice (some ⟨bo, 64 * i, none⟩) 64 (64 * n - 64 * i)) ∧ w' = w :=
  (bytes_raw h0 hn hi rfl rfl).mono fun _ _ ⟨h1, h2⟩ => ⟨h1, h2.symm⟩

/-- The rest of a round: the first m bytes of what is in the cache go over. -/
theorem crash_step {nw : List (Option ByteArray)} {on' : List ByteArray} {ps : List Int} {k at_ : Nat} {T : List ByteArray} {p : Int}
    (hk : (dirty nw)[k]? = some at_) (hp : ps.getD k 0 = p) (h : crashBy nw on' ((dirty nw).drop k) (ps.drop k) = T) {c o : ByteArray} (hc : nw[at_]? = some (some c)) (ho : on'[at_]? = some o) :
    crashBy nw (on'.set at_ (tornBy o c (cut p))) ((dirty nw).drop (k + 1)) (ps.drop (k + 1)) = T := by
  have hlt : k < (dirty nw).length := by
    rcases Nat.lt_or_ge k (dirty nw).length with h' | h'
    · exact h'
    · rw [List.getElem?_eq_none h'] at hk; cases hk
  rw [List.drop_eq_getElem_cons hlt] at h
  have e1 : (dirty nw)[k] = at_ := by rw [List.getElem?_eq_getElem hlt] at hk; exact Option.some.inj hk
  have e2 : (ps.drop k).headD 0 = p := by rw [← hp]; simp [List.getD, List.headD_eq_head?_getD]
  have e3 : (ps.drop k).tail = ps.drop (k + 1) := by simp
  simp only [crashBy, e1, e2, e3] at h
  rw [← h]
  congr 2
  simp [List.getD, hc, ho]

set_option maxRecDepth 100000 in
set_option maxHeartbeats 1000000 in
theorem crash_c {w : World} {bd bo bm : Nat} {d : Dv} (h : DevAt w bd bo bm d) {pv : Value} {pfp : Option Nat} {ps : List Int} (hp : SliceAt w pv pfp (intVals ps)) (hpn : ∀ b, pfp = some b → b ≠ bo)
    (hps : ∀ p ∈ ps, -9223372036854775808 ≤ p ∧ p ≤ 9223372036854775807) (hpl : ps.length ≤ 9223372036854775807) :
    Calls Tryz.prog 15 #[.pointer (some ⟨bd, 0, none⟩), pv] w fun e w' =>
      e = .returned (.tuple #[]) ∧ DevAt w' bd bo bm (d.crash ps) ∧ Fr [bd, bo, bm] w w' := by
  have c1 := h.cells.2.1
  have hl := h.wf.len
  have hm := h.wf.most
  obtain ⟨pa, pc, rfl⟩ : ∃ a c, pv = .slice a ps.length c := by
    rcases hp with ⟨h1, _, a, c, rfl⟩ | ⟨b, o, c, _, rfl, _⟩
    · refine ⟨a, c, ?_⟩
      have : ps = [] := by simpa [intVals] using h1
      rw [this]; rfl
    · exact ⟨some ⟨b, o, none⟩, c, by simp [intVals]⟩
  have hsort := sorted_c h.map (by omega)
  have hkeys := keys_c (some bm) w
  have HH := Lib.hid h
  have HP := Lib.hid hp
  clear h hp hl
  go_enter Tryz.func15, Tryz.ntmps15
  go_wp2_with (first
    | (go_at_call 41; refine hkeys.mono ?_; clear hkeys; rintro e w' ⟨rfl, rfl⟩)
    | (go_at_call 40; refine hsort.mono ?_; clear hsort c1; rintro e w2 ⟨v, rfl, hrow, hF⟩; obtain ⟨fp, hS, hfp⟩ := SliceAt.of_row hrow; clear hrow;
        obtain ⟨va, vc, rfl⟩ : ∃ a c, v = .slice a (dirty d.nw).length c := (by
          rcases hS with ⟨h1, _, a, c, rfl⟩ | ⟨b, o, c, _, rfl, _⟩
          · refine ⟨a, c, ?_⟩
            have h2 : dirty d.nw = [] := by simpa using h1
            rw [h2]; rfl
          · exact ⟨some ⟨b, o, none⟩, c, by simp⟩)))
  have hD := HH.out.fr hF (by simp) (by simp) (by simp)
  have HD := Lib.hid hD
  have HS := Lib.hid hS
  have hdl : (dirty d.nw).length ≤ 2048 := by
    have h1 : (dirty d.nw).length ≤ (List.range d.nw.length).length := List.length_filter_le _ _
    rw [List.length_range, HH.out.wf.len] at h1; omega
  clear hD hS
  go_loopw [15] (fun i wr => ∃ (k : Nat) (on' : List ByteArray), k ≤ (dirty d.nw).length ∧ i = .int .i64 k ∧ Hid (crashBy d.nw on' ((dirty d.nw).drop k) (ps.drop k) = tear d.on d.nw ps) ∧
      Hid (on'.length = d.on.length ∧ ∀ s ∈ on', s.size = 64) ∧ Blk wr bo (byteCells on') ∧ Fr [bo] w2 wr)
    (fun i _ => (dirty d.nw).length - (intOf i).toNat)
  case atStart => exact ⟨0, d.on, Nat.zero_le _, rfl, crashBy_dirty _ _ _ HH.out.wf.len, ⟨rfl, HH.out.wf.on64⟩, HD.out.byt, Fr.refl _ _⟩
  case round =>
    obtain ⟨k, on', hk, rfl, hR, hO, hB, hFr⟩ := hrel
    by_cases hlt : k < (dirty d.nw).length
    · obtain ⟨at_, hat⟩ : ∃ at_, (dirty d.nw)[k]? = some at_ := ⟨_, List.getElem?_eq_getElem hlt⟩
      obtain ⟨c, hc⟩ := mem_dirty.1 (List.mem_of_getElem? hat)
      have hatl : at_ < d.on.length := by
        have := HH.out.wf.len
        rcases Nat.lt_or_ge at_ d.nw.length with h' | h'
        · omega
        · rw [List.getElem?_eq_none h'] at hc; cases hc
      have hc64 : c.size = 64 := HH.out.wf.nw64 c (List.mem_of_getElem? hc)
      have hSr := HS.out.fr hFr (by intro b hb e; have := (hfp b hb).1; have := HH.out.byt.lt; simp at e; omega)
      obtain ⟨sb, so, rfl, hsc⟩ : ∃ b o, va = some ⟨b, o, none⟩ ∧ wr.cell? ⟨b, o + k, none⟩ = some (.int .i64 (at_ : Int)) := by
        rcases hSr with ⟨h1, _, _⟩ | ⟨b, o, c', _, hv, hcell⟩
        · have h2 : dirty d.nw = [] := by simpa using h1
          rw [h2] at hlt; simp at hlt
        · simp only [Value.slice.injEq] at hv
          exact ⟨b, o, hv.1, hcell k _ (by rw [List.getElem?_map, hat]; rfl)⟩
      have hPr := (HP.out.fr hF (by simp)).fr hFr (by intro b hb e; exact hpn b hb (by simpa using e))
      have c0 : wr.cell? ⟨bd, 0, none⟩ = some (.slice (some ⟨bo, 0, none⟩) (64 * d.on.length) (64 * d.on.length)) := (HD.out.blk.fr hFr (by simpa using HD.out.n1)).cell 0
      have c1 : wr.cell? ⟨bd, 1, none⟩ = some (.map (some bm)) := (HD.out.blk.fr hFr (by simpa using HD.out.n1)).cell 1
      have hlk := (show CacheAt wr.drew bm d.nw from HD.out.map.fr hFr.drew (by simpa using HD.out.n3.symm)).look1 at_ (by omega)
      rw [show d.nw.getD at_ none = some c by simp [List.getD, hc]] at hlk
      simp only [Option.getD_some] at hlk
      have HAT := Lib.hid hat
      have HC := Lib.hid hc
      have HC64 := Lib.hid hc64
      clear hat hc hc64 hSr
      by_cases hkp : k < ps.length
      · obtain ⟨p, hpk⟩ : ∃ p, ps[k]? = some p := ⟨_, List.getElem?_eq_getElem hkp⟩
        obtain ⟨pb, po, rfl, hpc⟩ : ∃ b o, pa = some ⟨b, o, none⟩ ∧ wr.cell? ⟨b, o + k, none⟩ = some (.int .i64 p) := by
          rcases hPr with ⟨h1, _, _⟩ | ⟨b, o, c', _, hv, hcell⟩
          · have h2 : ps = [] := by simpa [intVals] using h1
            rw [h2] at hkp; simp at hkp
          · simp only [Value.slice.injEq] at hv
            exact ⟨b, o, hv.1, hcell k _ (by rw [intVals, List.getElem?_map, hpk]; rfl)⟩
        have hpb := hps p (List.mem_of_getElem? hpk)
        have PQ : Hid (ps.getD k 0 = p) := (show ps.getD k 0 = p by simp [List.getD, hpk])
        clear hpk hPr hps
        by_cases hp1 : p = 1
        · subst hp1
          go_wp2
          obtain ⟨o, ho⟩ : ∃ o, on'[at_]? = some o := ⟨_, List.getElem?_eq_getElem (by rw [hO.out.1]; exact hatl)⟩
          have hcl : (byteCells on').length = 64 * d.on.length := by rw [byteCells_len _ hO.out.2, hO.out.1]
          obtain ⟨w4, hcp, hBo4, hF4⟩ := copy_str (w := wr.drew) (off := 64 * at_) (dLen := 64) (dCap := 64 * d.on.length - 64 * at_) hB c (64) (by rw [HC64.out]; exact (Nat.min_eq_right (by omega)).symm) (by rw [hcl]; omega)
          rw [byteCells_torn on' at_ o c 64 hO.out.2 ho (by omega)] at hBo4
          have hst := crash_step HAT.out PQ.out hR.out HC.out ho
          rw [show cut 1 = 64 from (by simp [cut])] at hst
          have HBo4 := Lib.hid hBo4
          have HST := Lib.hid hst
          have HF4 := Lib.hid (show Fr [bo] wr w4 from ⟨hF4.os, hF4.tape, hF4.output, hF4.size, hF4.block⟩)
          have HO4 : Hid ((on'.set at_ (tornBy o c 64)).length = d.on.length ∧ ∀ s ∈ on'.set at_ (tornBy o c 64), s.size = 64) := ⟨by rw [List.length_set]; exact hO.out.1, fun x hx => by
            rcases List.mem_or_eq_of_mem_set hx with h' | h'
            · exact hO.out.2 x h'
            · rw [h']; exact size_tornBy _ _ _ (hO.out.2 o (List.mem_of_getElem? ho)) HC64.out (by omega)⟩
          have g1 : 64 ≤ 64 * d.on.length - 64 * at_ := by omega
          have g2 : (64 : Int) ≤ ((64 * d.on.length - 64 * at_ : Nat) : Int) := by omega
          clear ho hcl hBo4 hF4 hst hB
          go_still_tail 11, (by kernel_rfl)
          still_call (bytes_same (w := wr.drew) c0 hm hatl)
          repeat still_step
          refine wpStill_nil ?_
          change wpList _ _ _ _ _ wr.drew
          go_wp2
          go_roundw
          case rel => exact ⟨k + 1, _, by omega, by go_num, HST.out, HO4.out, HBo4.out, hFr.trans HF4.out⟩
          case measure => simp [intOf]; omega
        · have t1 : -64 < p.tmod 64 := by
            have h1 := @Int.tmod_eq_emod p 64
            have h2 := Int.emod_nonneg p (show (64 : Int) ≠ 0 by omega)
            have h3 := Int.emod_lt_of_pos p (show (0 : Int) < 64 by omega)
            split at h1 <;> simp at h1
            · omega
            · rename_i hh
              have : ¬ (64 : Int) ∣ p := fun e => hh (Or.inr e)
              have : p % 64 ≠ 0 := fun e => this (Int.dvd_of_emod_eq_zero e)
              omega
          have t2 : p.tmod 64 < 64 := by
            have h1 := @Int.tmod_eq_emod p 64
            have h3 := Int.emod_lt_of_pos p (show (0 : Int) < 64 by omega)
            split at h1 <;> simp at h1 <;> omega
          have t3 : (p.tmod 64 + 64).tmod 64 = ((cut p : Nat) : Int) := by
            rw [← cut_of p hp1]
            rw [Int.toNat_of_nonneg]
            exact Int.tmod_nonneg _ (by omega)
          have t4 : (p.tmod 64 + 64) % 64 = ((cut p : Nat) : Int) := by
            rw [← t3, Int.tmod_eq_emod_of_nonneg (show 0 ≤ p.tmod 64 + 64 by omega)]
          have hcut := cut_le p
          obtain ⟨m, CQ⟩ : ∃ m, Hid (cut p = m) := ⟨_, rfl⟩
          rw [CQ.out] at t3 t4 hcut
          have hp1' : (p == 1) = false := by simpa using hp1
          go_wp2
          obtain ⟨o, ho⟩ : ∃ o, on'[at_]? = some o := ⟨_, List.getElem?_eq_getElem (by rw [hO.out.1]; exact hatl)⟩
          have hcl : (byteCells on').length = 64 * d.on.length := by rw [byteCells_len _ hO.out.2, hO.out.1]
          obtain ⟨w4, hcp, hBo4, hF4⟩ := copy_str (w := wr.drew) (off := 64 * at_) (dLen := m) (dCap := 64 * d.on.length - 64 * at_) hB c (m) (by rw [HC64.out]; exact (Nat.min_eq_right (by omega)).symm) (by rw [hcl]; omega)
          rw [byteCells_torn on' at_ o c m hO.out.2 ho (by omega)] at hBo4
          have hst := crash_step HAT.out PQ.out hR.out HC.out ho
          rw [show cut p = m from CQ.out] at hst
          have HBo4 := Lib.hid hBo4
          have HST := Lib.hid hst
          have HF4 := Lib.hid (show Fr [bo] wr w4 from ⟨hF4.os, hF4.tape, hF4.output, hF4.size, hF4.block⟩)
          have HO4 : Hid ((on'.set at_ (tornBy o c m)).length = d.on.length ∧ ∀ s ∈ on'.set at_ (tornBy o c m), s.size = 64) := ⟨by rw [List.length_set]; exact hO.out.1, fun x hx => by
            rcases List.mem_or_eq_of_mem_set hx with h' | h'
            · exact hO.out.2 x h'
            · rw [h']; exact size_tornBy _ _ _ (hO.out.2 o (List.mem_of_getElem? ho)) HC64.out (by omega)⟩
          have g1 : m ≤ 64 * d.on.length - 64 * at_ := by omega
          have g2 : ((m : Nat) : Int) ≤ ((64 * d.on.length - 64 * at_ : Nat) : Int) := by omega
          clear ho hcl hBo4 hF4 hst hB
          go_still_tail 11, (by kernel_rfl)
          still_call (bytes_same (w := wr.drew) c0 hm hatl)
          repeat still_step
          refine wpStill_nil ?_
          change wpList _ _ _ _ _ wr.drew
          go_wp2
          go_roundw
          case rel => exact ⟨k + 1, _, by omega, by go_num, HST.out, HO4.out, HBo4.out, hFr.trans HF4.out⟩
          case measure => simp [intOf]; omega
      · go_wp2
        obtain ⟨o, ho⟩ : ∃ o, on'[at_]? = some o := ⟨_, List.getElem?_eq_getElem (by rw [hO.out.1]; exact hatl)⟩
        have hcl : (byteCells on').length = 64 * d.on.length := by rw [byteCells_len _ hO.out.2, hO.out.1]
        obtain ⟨w4, hcp, hBo4, hF4⟩ := copy_str (w := wr.drew) (off := 64 * at_) (dLen := 0) (dCap := 64 * d.on.length - 64 * at_) hB c (0) (by rw [HC64.out]; exact (Nat.min_eq_right (by omega)).symm) (by rw [hcl]; omega)
        rw [byteCells_torn on' at_ o c 0 hO.out.2 ho (by omega)] at hBo4
        have hst := crash_step HAT.out (show ps.getD k 0 = 0 by simp [List.getD, Nat.le_of_not_lt hkp]) hR.out HC.out ho
        rw [show cut 0 = 0 from rfl] at hst
        have HBo4 := Lib.hid hBo4
        have HST := Lib.hid hst
        have HF4 := Lib.hid (show Fr [bo] wr w4 from ⟨hF4.os, hF4.tape, hF4.output, hF4.size, hF4.block⟩)
        have HO4 : Hid ((on'.set at_ (tornBy o c 0)).length = d.on.length ∧ ∀ s ∈ on'.set at_ (tornBy o c 0), s.size = 64) := ⟨by rw [List.length_set]; exact hO.out.1, fun x hx => by
          rcases List.mem_or_eq_of_mem_set hx with h' | h'
          · exact hO.out.2 x h'
          · rw [h']; exact size_tornBy _ _ _ (hO.out.2 o (List.mem_of_getElem? ho)) HC64.out (by omega)⟩
        clear ho hcl hBo4 hF4 hst hB
        go_still_tail 11, (by kernel_rfl)
        still_call (bytes_same (w := wr.drew) c0 hm hatl)
        repeat still_step
        refine wpStill_nil ?_
        change wpList _ _ _ _ _ wr.drew
        go_wp2
        go_roundw
        case rel => exact ⟨k + 1, _, by omega, by go_num, HST.out, HO4.out, HBo4.out, hFr.trans HF4.out⟩
        case measure => simp [intOf]; omega
    · obtain rfl : k = (dirty d.nw).length := by omega
      have hDr : Hid (DevAt wr bd bo bm { d with on := on' }) := HD.out.onto hO.out.1 hO.out.2 hFr hB
      go_wp2_with (go_at_call 43; refine (up_c hDr.out).mono ?_; rintro e w5 ⟨rfl, hU, hF5⟩)
      go_end0
      have e1 : on' = tear d.on d.nw ps := by
        have := hR.out
        rw [List.drop_of_length_le (Nat.le_refl _)] at this
        exact this
      refine ⟨rfl, ?_, (hF.any).trans ((hFr.mono (by simp)).trans (hF5.mono (by simp)))⟩
      rw [Dv.crash, ← e1]
      exact hU

end Go.Proofs.YtiojkakmlbfiiaaGreat
