/- The program's log: Texts, load. -/
import Derived.Test.YtiojkakmlbfiiaaGreatM06
/- The program's log: frames, Texts, load. -/
namespace Go.Proofs.YtiojkakmlbfiiaaGreat
open Go.RowKit
open Sp

theorem own_weak {w : World} {base base' T size : Nat} {v : Value} {n : Nat} {xs : List Value} (h : w.ownsRow base T size v n xs) (hb : base' ≤ base) : w.ownsRow base' T size v n xs := by
  refine ⟨h.1, ?_⟩
  rcases h.2 with h2 | ⟨g, cap, cur, hv, hg, r⟩
  · exact Or.inl h2
  · exact Or.inr ⟨g, cap, cur, hv, Nat.le_trans hb hg, r⟩

theorem isBuilder_fr {w w' : World} {B b : Nat} {bs : List Value} (h : Lib.IsBuilder 100 5 B b bs w) (hf : Fr [] w w') : Lib.IsBuilder 100 5 B b bs w' := by
  have key : ∀ p, Lib.BuilderAt 100 5 B b p bs w → Lib.BuilderAt 100 5 B b p bs w' := by
    rintro p ⟨hB, v, hb, hown, hne⟩
    exact ⟨hB, v, by rw [hf.block b (lt_of_block hb) (by simp)]; exact hb, own_fr hown hf (by simp), hne⟩
  rcases h with h | h
  · exact Or.inl (key _ h)
  · exact Or.inr (key _ h)

theorem framesL_snoc (l : List ByteArray) (k : Nat) (x : ByteArray) (h : l[k]? = some x) : framesL (l.take (k + 1)) = framesL (l.take k) ++ frameL x.data.toList := by
  have hk : k < l.length := by
    rcases Nat.lt_or_ge k l.length with h' | h'
    · exact h'
    · rw [List.getElem?_eq_none h'] at h; cases h
  rw [List.getElem?_eq_getElem hk] at h
  have hx : l[k] = x := by simpa using h
  rw [framesL, List.take_succ_eq_append_getElem hk, hx, List.flatMap_append]
  simp [framesL]

theorem fr_below {S : List Nat} {w w2 w3 : World} (hF : Fr S w w2) (hB : Below w.heap.size w2 w3) : Fr S w w3 :=
  ⟨hB.os.trans hF.os, hB.tape.trans hF.tape, hB.output.trans hF.output, Nat.le_trans hF.size hB.size, fun k hk hs => (hB.block k hk).trans (hF.block k hk hs)⟩

theorem framesL_len : ∀ (l : List ByteArray), (∀ s ∈ l, s.size ≤ 4096) → (framesL l).length ≤ 4102 * l.length
  | [], _ => by simp [framesL]
  | x :: xs, h => by
    have h1 := framesL_len xs (fun s hs => h s (by simp [hs]))
    have h2 := h x (by simp)
    have h3 : x.data.toList.length = x.size := rfl
    have h4 : framesL (x :: xs) = frameL x.data.toList ++ framesL xs := rfl
    rw [h4, List.length_append, frameL_len, h3, List.length_cons]; omega

set_option maxHeartbeats 1000000 in
set_option maxRecDepth 100000 in
theorem frames_c (w : World) (v : Value) (fp : Option Nat) (l : List ByteArray) (h : SliceAt w v fp (strVals l)) (hl : l.length ≤ 1000000) (hs : ∀ s ∈ l, s.size ≤ 4096) :
    Calls Tryz.prog 39 #[v] w fun e w' => e = .returned (.string (str (framesL l))) ∧ Fr [] w w' := by
  obtain ⟨va, vc, rfl⟩ : ∃ a c, v = .slice a l.length c := by
    rcases h with ⟨h1, _, a, c, rfl⟩ | ⟨b, o, c, _, rfl, _⟩
    · refine ⟨a, c, ?_⟩
      have : l = [] := by simpa [strVals] using h1
      rw [this]; rfl
    · exact ⟨some ⟨b, o, none⟩, c, by simp [strVals]⟩
  have HB0 : Hid (Lib.IsBuilder 100 5 w.heap.size w.heap.size (Lib.byteCells (framesL (l.take 0))) (w.alloc (.cells #[.pointer none, .slice none 0 0] 100))) := Lib.hid (Lib.fresh_isBuilder _ _ w)
  have HF0 : Hid (Fr [] w (w.alloc (.cells #[.pointer none, .slice none 0 0] 100))) := Lib.hid ((Fr.refl _ _).alloc _)
  have HH := Lib.hid h
  clear h
  go_enter Tryz.func39, Tryz.ntmps39
  go_wp2
  generalize w.alloc (.cells #[.pointer none, .slice none 0 0] 100) = W at HB0 HF0 ⊢
  obtain ⟨b, hb⟩ : ∃ b, w.heap.size = b := ⟨_, rfl⟩
  rw [hb] at HB0 ⊢
  have HB := Lib.hid hb
  clear hb
  go_loopw [10] (fun i wr => ∃ k : Nat, k ≤ l.length ∧ i = .int .i64 k ∧ Hid (Lib.IsBuilder 100 5 b b (Lib.byteCells (framesL (l.take k))) wr) ∧ Hid (Fr [] w wr)) (fun i _ => l.length - (intOf i).toNat)
  case atStart => exact ⟨0, Nat.zero_le _, rfl, HB0, HF0⟩
  case round =>
    obtain ⟨k, hk, rfl, hB, hF⟩ := hrel
    by_cases hlt : k < l.length
    · obtain ⟨x, hx⟩ : ∃ x, l[k]? = some x := ⟨_, List.getElem?_eq_getElem hlt⟩
      obtain ⟨sb, so, rfl, hc⟩ : ∃ b o, va = some ⟨b, o, none⟩ ∧ wr.cell? ⟨b, o + k, none⟩ = some (.string x) := by
        have HHr := HH.out.fr hF.out (by simp)
        rcases HHr with ⟨h1, _, _⟩ | ⟨b, o, c', _, hv, hcell⟩
        · have h2 : l = [] := by simpa [strVals] using h1
          rw [h2] at hlt; simp at hlt
        · simp only [Value.slice.injEq] at hv
          exact ⟨b, o, hv.1, hcell k _ (by rw [strVals, List.getElem?_map, hx]; rfl)⟩
      have hxs := hs x (List.mem_of_getElem? hx)
      have HS : Hid (framesL (l.take (k + 1)) = framesL (l.take k) ++ frameL x.data.toList) := Lib.hid (framesL_snoc l k x hx)
      have hlen := framesL_len (l.take k) (fun s h => hs s (List.mem_of_mem_take h))
      have hlk : (l.take k).length = k := by rw [List.length_take]; omega
      rw [hlk] at hlen
      have hsf := fun W' => sFrame_c x W' (by omega)
      simp only [if_pos hxs] at hsf
      have hfs := frame_size x
      have HFd : Hid ((frame x).data.toList = frameL x.data.toList) := Lib.hid (by rw [frame, str_data])
      generalize frame x = T at hsf hfs HFd
      generalize frameL x.data.toList = TL at HS HFd
      have hL : (Lib.byteCells (framesL (l.take k))).length = (framesL (l.take k)).length := Lib.byteCells_length _
      clear hx hlk
      go_wp2_with (first
        | (go_at_call 37; refine (hsf _).mono ?_; rintro e w2 ⟨rfl, hF2⟩)
        | (go_at_call 65; refine (writeString_c b b (Lib.byteCells (framesL (l.take k))) T _ (isBuilder_fr hB.out hF2) (by omega) (by have h1 := hF.out.size; have h2 := hF2.size; have h3 := HB.out; omega)).mono ?_; rintro e w3 ⟨rfl, hB3, hF3⟩))
      have hFw3 : Fr [] w w3 := fr_below (hF.out.trans hF2) (by rw [HB.out]; exact hF3)
      go_roundw
      case rel => exact ⟨k + 1, by omega, by go_num, Lib.hid (by
        rw [HS.out, Lib.byteCells_append]
        have := Or.inr (a := Lib.BuilderAt 100 5 b b (.pointer none) (Lib.byteCells (framesL (l.take k)) ++ Lib.strCells T) w3) hB3
        rw [Lib.strCells_eq, HFd.out] at this
        exact this), Lib.hid hFw3⟩
      case measure => simp [intOf]; omega
    · obtain rfl : k = l.length := by omega
      have hst := Tryz.Builder_String_any b b (framesL (l.take l.length)) wr hB.out (by have h1 := hF.out.size; have h3 := HB.out; omega)
      have HT : Hid (l.take l.length = l) := Lib.hid List.take_length
      go_wp2_with (go_at_call 66; refine hst.mono ?_; rintro e w2 ⟨rfl, hF2⟩)
      go_ret
      exact ⟨rfl, fr_below hF.out (by rw [HB.out]; exact hF2)⟩

end Go.Proofs.YtiojkakmlbfiiaaGreat

/- The program's log: Texts, load. -/
namespace Go.Proofs.YtiojkakmlbfiiaaGreat
open Go.RowKit
open Sp
namespace Sp
def Dv.cat (d : Dv) (b k : Nat) : List UInt8 := (List.range k).flatMap fun i => (d.text (b + i)).data.toList

theorem Dv.cat_succ (d : Dv) (b k : Nat) : d.cat b (k + 1) = d.cat b k ++ (d.text (b + k)).data.toList := by
  simp [Dv.cat, List.range_succ, List.flatMap_append]

theorem Dv.stored_cat (d : Dv) (area long K : Nat) (h1 : long ≤ 64 * K) (h2 : ∀ i, i < K → 64 * i < long) (h3 : K ≤ d.on.length) :
    d.stored area long = (d.cat (2 + area * ((d.on.length - 2) / 2)) K).take long := by
  unfold Dv.stored Dv.cat
  congr 1
  obtain ⟨m, hm⟩ := Nat.exists_eq_add_of_le h3
  rw [hm, List.range_add, List.flatMap_append]
  have e2 : (List.map (K + ·) (List.range m)).flatMap (fun i => if 64 * i < long then (d.text (2 + area * ((K + m - 2) / 2) + i)).data.toList else []) = [] := by
    rw [List.flatMap_eq_nil_iff]
    intro x hx
    obtain ⟨y, _, rfl⟩ := List.mem_map.1 hx
    rw [if_neg (by omega)]
  rw [e2, List.append_nil]
  simp only [List.flatMap_def]
  congr 1
  apply List.map_congr_left
  intro i hi
  rw [if_pos (h2 i (List.mem_range.1 hi))]
end Sp

theorem text64 {d : Dv} (hD : d.Wf) (i : Nat) (hi : i < d.on.length) : (d.text i).size = 64 := by
  unfold Dv.text
  have h1 : d.nw[i]? = some (d.nw.getD i none) := by
    have : i < d.nw.length := by rw [hD.len]; exact hi
    rw [List.getD_eq_getElem?_getD, List.getElem?_eq_getElem this]; rfl
  cases h : d.nw.getD i none with
  | none =>
    have h2 : d.on[i]? = some (d.on.getD i ByteArray.empty) := by rw [List.getD_eq_getElem?_getD, List.getElem?_eq_getElem hi]; rfl
    simp only [Option.getD_none]
    exact hD.on64 _ (List.mem_of_getElem? h2)
  | some s =>
    rw [h] at h1
    simp only [Option.getD_some]
    exact hD.nw64 _ (List.mem_of_getElem? h1)

theorem read_ok {d : Dv} (hdn : d.down = false) (i : Nat) (hi : i < d.on.length) : d.read (i : Int) = (d.text i, 0) := by
  have h : d.wrong (i : Int) = 0 := by
    unfold Dv.wrong
    rw [if_neg (by rw [hdn]; simp), if_neg (by omega)]
  simp [Dv.read, h]

theorem q_valC {P : Program} {ops : Array Oper} {C : World → Prop} {Q : Act → Prop} {a : Act} {o : Oper} {rest : List Oper} {v : Value} (hg : o.guard = none) (h : ∀ w', C w' → (execOp a.eval o).run P w' = .ok (.value v) w') (hK : wpQuiet P ops C Q rest (a.put o.dst v)) :
    wpQuiet P ops C Q (o :: rest) a := by
  unfold wpQuiet
  rw [if_pos (by simp [Region.wanted, hg])]
  exact ⟨v, fun w' hw' => by unfold Oper.quietAt; rw [h w' hw']; exact ⟨rfl, rfl⟩, hK⟩

theorem q_callC {P : Program} {ops : Array Oper} {C : World → Prop} {Q : Act → Prop} {a : Act} {o : Oper} {rest : List Oper} {v : Value} {f : FuncId} {args : Array Value} (hg : o.guard = none) (h : ∀ w', (execOp a.eval o).run P w' = .ok (.enter f args) w')
    (hc : ∀ w', C w' → Calls P f args w' fun e w'' => e = .returned v ∧ C w'') (hK : wpQuiet P ops C Q rest (a.put o.dst v)) :
    wpQuiet P ops C Q (o :: rest) a := by
  unfold wpQuiet
  rw [if_pos (by simp [Region.wanted, hg])]
  exact ⟨v, fun w' hw' => by
    unfold Oper.quietAt; rw [h w']
    exact ⟨rfl, (hc w' hw').mono fun _ _ ⟨h1, h2⟩ => ⟨h1, h2⟩⟩, hK⟩

theorem wp_region_C {P : Program} {C : World → Prop} {id : Nat} {Q : Exit → Act → World → Prop} {a : Act} {w : World} {l : List Oper} (hm : P.follows .mixedOrders = true) (hB : Region.lexB .any l.toArray = true) (h0 : C w.drew)
    (h : wpQuiet P l.toArray C (fun a' => ∀ w', C w' → Q .normal a' w') l a) : (Code.region id l.toArray true).wp P Q a w :=
  wp_region_quiet (C := C) hm hB h0 (by simpa using h)

theorem cat_len {d : Dv} (hd : d.Wf) (b : Nat) : ∀ k, b + k ≤ d.on.length → (d.cat b k).length = 64 * k
  | 0, _ => rfl
  | k + 1, h => by
    rw [Dv.cat_succ, List.length_append, cat_len hd b k (by omega)]
    have : (d.text (b + k)).data.toList.length = (d.text (b + k)).size := rfl
    rw [this]
    have := text64 hd (b + k) (by omega)
    omega

section
variable {w : World} {bl bd bo bm sz count area long : Nat} {tail : ByteArray} {v : Value} {many waits : Nat} {d : Dv}

def LoadPost (w : World) (bl bd sz count area long : Nat) (tail : ByteArray) (v : Value) (many waits : Nat) (d : Dv) (e : Ending) (w' : World) : Prop :=
  (∀ l, allL (d.stored area long) = some l → e = .returned (.int .i64 0) ∧ Fr [bl] w w' ∧
    ∃ v', Blk w' bl (rawLog bd sz count area long (str ((d.stored area long).drop (64 * (long / 64)))) v' l.length waits) ∧ w'.ownsRow w.heap.size 9 1 v' l.length (strVals l)) ∧
  (allL (d.stored area long) = none → e = .returned (.int .i64 101) ∧ Fr [bl] w w' ∧ Blk w' bl (rawLog bd sz count area long tail v many waits))

set_option maxHeartbeats 2000000 in
set_option maxRecDepth 100000 in
theorem load_c (hD : DevAt w bd bo bm d) (h : Blk w bl (rawLog bd sz count area long tail v many waits)) (hs : sz ≤ 1023) (hsz : sz = (d.on.length - 2) / 2) (ha : area ≤ 1) (hl : long ≤ 64 * sz) (hdn : d.down = false) :
    Calls Tryz.prog 35 #[.pointer (some ⟨bl, 0, none⟩)] w (LoadPost w bl bd sz count area long tail v many waits d) := by
  have hasz : area * sz + sz + 2 ≤ d.on.length ∨ sz = 0 := by
    rcases (show area = 0 ∨ area = 1 by omega) with rfl | rfl
    · omega
    · omega
  have HB0 : Hid (Lib.IsBuilder 100 5 w.heap.size w.heap.size (Lib.byteCells (d.cat (2 + area * sz) 0)) (w.alloc (.cells #[.pointer none, .slice none 0 0] 100))) := Lib.hid (Lib.fresh_isBuilder _ _ w)
  have HF0 : Hid (Fr [] w (w.alloc (.cells #[.pointer none, .slice none 0 0] 100))) := Lib.hid ((Fr.refl _ _).alloc _)
  have HD := Lib.hid hD
  have HL := Lib.hid h
  have hblt := h.lt
  clear h hD
  go_enter Tryz.func35, Tryz.ntmps35
  go_wp2
  generalize w.alloc (.cells #[.pointer none, .slice none 0 0] 100) = W at HB0 HF0 ⊢
  obtain ⟨b, hb⟩ : ∃ b, w.heap.size = b := ⟨_, rfl⟩
  rw [hb] at HB0 hblt ⊢
  have HB := Lib.hid hb
  clear hb
  go_loopw [4] (fun i wr => ∃ k : Nat, k ≤ sz ∧ (∀ j, j < k → 64 * j < long) ∧ i = .int .i64 k ∧ Hid (Lib.IsBuilder 100 5 b b (Lib.byteCells (d.cat (2 + area * sz) k)) wr) ∧ Hid (Fr [] w wr)) (fun i _ => sz - (intOf i).toNat)
  case atStart => exact ⟨0, Nat.zero_le _, by intro j hj; omega, rfl, HB0, HF0⟩
  case round =>
    obtain ⟨k, hk, hkl, rfl, hB, hF⟩ := hrel
    have l4 := (raw_cells (HL.out.fr hF.out (by simp))).2.2.2.2.1
    have hkk : (k : Int) * 64 ≤ 65472 := by omega
    by_cases hlt : 64 * k < long
    · have hlt' : (k : Int) * 64 < (long : Int) := by omega
      have hn : 2 + area * sz + k < d.on.length := by omega
      have hn2 := HD.out.wf.most
      have hrd := read_ok hdn _ hn
      have hts := text64 HD.out.wf _ hn
      have HS : Hid (d.cat (2 + area * sz) (k + 1) = d.cat (2 + area * sz) k ++ (d.text (2 + area * sz + k)).data.toList) := Lib.hid (Dv.cat_succ _ _ _)
      have hcl : (Lib.byteCells (d.cat (2 + area * sz) k)).length = 64 * k := by rw [Lib.byteCells_length]; exact cat_len HD.out.wf _ _ (by omega)
      have hrc := fun W' (hW' : Fr [] wr W') => read_c ((HD.out.fr hF.out (by simp) (by simp) (by simp)).fr hW' (by simp) (by simp) (by simp)) ((2 + area * sz + k : Nat) : Int)
      rw [hrd] at hrc
      have hfc := fun W' (hW' : Fr [] wr W') => first_c ((HL.out.fr hF.out (by simp)).fr hW' (by simp)) area ha hs
      have HX : Hid (((2 + area * sz : Nat) : Int) + (k : Int) = ((2 + area * sz + k : Nat) : Int)) := Lib.hid (by omega)
      have hb1 : ((2 + area * sz : Nat) : Int) ≤ 4096 := by omega
      have hb0 : 0 ≤ ((2 + area * sz : Nat) : Int) := by omega
      generalize d.text (2 + area * sz + k) = T at hrc HS hts
      clear hrd
      generalize 2 + area * sz = base at *
      have hn' : base + k < 2049 := by omega
      clear hn hasz
      go_wp2
      refine wp_region_fr (by kernel_rfl) (by kernel_rfl) ?_
      refine q_val rfl (by intro w' _; go_simp; rfl) ?_
      go_frame
      refine q_val rfl (by intro w' _; go_simp; rfl) ?_
      go_frame
      refine q_val rfl (by intro w' _; go_simp; rfl) ?_
      go_frame
      refine q_val (v := .pointer (some ⟨bd, 0, none⟩)) rfl (by intro w' hW'; have := (raw_cells ((HL.out.fr hF.out (by simp)).fr hW' (by simp))).1; go_simp) ?_
      go_frame
      refine q_val rfl (by intro w' _; go_simp; rfl) ?_
      go_frame
      refine q_val rfl (by intro w' _; go_simp; rfl) ?_
      go_frame
      refine q_val rfl (by intro w' _; go_simp; rfl) ?_
      go_frame
      refine q_val rfl (by intro w' _; go_simp; rfl) ?_
      go_frame
      refine q_val rfl (by intro w' _; go_simp; rfl) ?_
      go_frame
      refine q_val (v := .int .i64 (area : Int)) rfl (by intro w' hW'; have := (raw_cells ((HL.out.fr hF.out (by simp)).fr hW' (by simp))).2.2.2.1; go_simp) ?_
      go_frame
      refine q_call (f := 64) (args := #[.pointer (some ⟨bl, 0, none⟩), .int .i64 (area : Int)]) (v := .int .i64 (base : Int)) rfl (by intro w'; go_simp; try rfl) (fun w' hW' => (hfc w' hW').mono fun e w'' ⟨h1, h2⟩ => ⟨h1, h2 ▸ Fr.refl _ _⟩) ?_
      go_frame
      refine q_val rfl (by intro w' _; go_simp; rfl) ?_
      go_frame
      refine q_val (v := .int .i64 ((base + k : Nat) : Int)) rfl (by intro w' _; go_simp; exact IntWalk.i64_in _ (by omega)) ?_
      go_frame
      refine q_call (f := 22) (args := #[.pointer (some ⟨bd, 0, none⟩), .int .i64 ((base + k : Nat) : Int)]) (v := .tuple #[.string T, .int .i64 0]) rfl (by intro w'; go_simp; try rfl) (fun w' hW' => (hrc w' hW').mono fun e w'' ⟨h1, h2⟩ => ⟨h1, h2 ▸ Fr.refl _ _⟩) ?_
      go_frame
      refine q_val rfl (by intro w' _; go_simp; rfl) ?_
      go_frame
      refine q_val rfl (by intro w' _; go_simp; rfl) ?_
      go_frame
      refine q_val rfl (by intro w' _; go_simp; rfl) ?_
      go_frame
      refine q_val rfl (by intro w' _; go_simp; rfl) ?_
      go_frame
      refine q_val rfl (by intro w' _; go_simp; rfl) ?_
      go_frame
      refine wpQuiet_nil ?_
      intro w1 hF1
      clear hrc hfc l4
      go_wp2_with (go_at_call 65; refine (writeString_c b b (Lib.byteCells (d.cat base k)) T _ (isBuilder_fr hB.out hF1) (by omega) (by have h1 := hF.out.size; have h2 := hF1.size; have h3 := HB.out; omega)).mono ?_; rintro e w3 ⟨rfl, hB3, hF3⟩)
      have hFw3 : Fr [] w w3 := fr_below (hF.out.trans hF1) (by rw [HB.out]; exact hF3)
      go_roundw
      case rel => exact ⟨k + 1, by omega, by intro j hj; rcases (show j < k ∨ j = k by omega) with h | h; exact hkl j h; omega, by go_num, Lib.hid (by
        rw [HS.out, Lib.byteCells_append]
        have := Or.inr (a := Lib.BuilderAt 100 5 b b (.pointer none) (Lib.byteCells (d.cat base k) ++ Lib.strCells T) w3) hB3
        rw [Lib.strCells_eq] at this
        exact this), Lib.hid hFw3⟩
      case measure => simp [intOf]; omega
    · have hge : (long : Int) ≤ (k : Int) * 64 := by omega
      have hkn : k ≤ d.on.length := by omega
      have HST : Hid (d.stored area long = (d.cat (2 + area * sz) k).take long) := Lib.hid (by rw [Dv.stored_cat d area long k (by omega) hkl hkn, hsz])
      have hcl : (d.cat (2 + area * sz) k).length = 64 * k := by
        rcases Nat.eq_zero_or_pos k with h0 | h0
        · rw [h0]; rfl
        · exact cat_len HD.out.wf _ _ (by omega)
      generalize d.cat (2 + area * sz) k = CT at *
      have hsl : (str CT).size = 64 * k := by rw [str_size]; exact hcl
      have hex : (str CT).extract 0 long = str (d.stored area long) := by
        rw [HST.out]
        apply ba_ext
        rw [ByteArray.data_extract, Array.toList_extract, str_data, str_data]
        simp [List.extract_eq_take_drop]
      have hstl : (str (d.stored area long)).size = long := by rw [str_size, HST.out, List.length_take]; omega
      have hal := fun W' => all_c (str (d.stored area long)) W' (by omega)
      unfold AllPost at hal
      rw [str_data] at hal
      have HEX := Lib.hid hex
      clear hex
      go_wp2
      have hF := hF.out
      have HB' : Hid (Lib.IsBuilderF 100 5 b b (Lib.byteCells CT) wr.drew) := Lib.hid (Lib.IsBuilderF.of (by rcases hB.out with h | h; exact Or.inl h.drew; exact Or.inr h.drew))
      have hlk : long ≤ 64 * k := by omega
      refine wp_region_C (C := fun w' => Fr [] w w' ∧ Lib.IsBuilderF 100 5 b b (Lib.byteCells CT) w') (by kernel_rfl) (by kernel_rfl) ⟨hF.drew, HB'.out⟩ ?_
      refine q_callC (f := 66) (args := #[.pointer (some ⟨b, 0, none⟩)]) (v := .string (str CT)) rfl (by intro w'; go_simp; try rfl) (fun w' hC => (Tryz.Builder_String_any_f b b CT w' hC.2 (by have h1 := hC.1.size; have h3 := HB.out; omega)).mono fun e w'' ⟨h1, h2, h3⟩ => ⟨h1, fr_below hC.1 (by rw [HB.out]; exact h3), h2⟩) ?_
      go_frame
      refine q_valC rfl (by intro w' _; go_simp; rfl) ?_
      go_frame
      refine q_valC rfl (by intro w' _; go_simp; rfl) ?_
      go_frame
      refine q_valC rfl (by intro w' _; go_simp; rfl) ?_
      go_frame
      refine q_valC rfl (by intro w' _; go_simp; rfl) ?_
      go_frame
      refine q_valC (v := .int .i64 (long : Int)) rfl (by intro w' hC; have := (raw_cells (HL.out.fr hC.1 (by simp))).2.2.2.2.1; go_simp) ?_
      go_frame
      refine q_valC (v := .string (str (d.stored area long))) rfl (by intro w' hC; go_simp; rw [HEX.out, if_pos (by omega)]) ?_
      go_frame
      refine q_valC rfl (by intro w' _; go_simp; rfl) ?_
      go_frame
      refine wpQuiet_nil ?_
      intro w1 hC1
      have hF1 := hC1.1
      have hL1 := HL.out.fr hF1 (by simp)
      have hal := hal w1
      have l4 := (raw_cells hL1).2.2.2.2.1
      clear hC1 HB' hB l4
      have hdr : (str (d.stored area long)).extract (64 * (long / 64)) long = str ((d.stored area long).drop (64 * (long / 64))) := by
        apply ba_ext
        have : (d.stored area long).length = long := by rw [← str_size]; exact hstl
        rw [ByteArray.data_extract, Array.toList_extract, str_data, str_data, List.extract_eq_take_drop]
        rw [List.take_of_length_le]
        rw [List.length_drop]; omega
      have HDR := Lib.hid hdr
      clear hdr
      have hq : (long : Int).tdiv 64 = ((long / 64 : Nat) : Int) := by rw [Int.tdiv_eq_ediv_of_nonneg (by omega)]; omega
      have hq2 : 64 * (long / 64) ≤ long := by omega
      have HHL1 := Lib.hid hL1
      clear hL1
      generalize hS : str (d.stored area long) = S at *
      clear hS HST HEX hsl
      cases hA : allL (d.stored area long) with
      | none =>
        have HA := Lib.hid hA
        clear hA
        go_wp2_with (go_at_call 67; refine hal.mono ?_; rintro e w2 ⟨-, hn, hF2⟩; obtain ⟨va, xa, xc, rfl, hne⟩ := hn HA.out; have hne' : (xc != 0) = true := by simpa using hne)
        go_ret
        exact ⟨fun l hl => (by rw [HA.out] at hl; cases hl), fun _ => ⟨rfl, (hF1.trans hF2).any, HHL1.out.fr hF2 (by simp)⟩⟩
      | some ts =>
        have HA := Lib.hid hA
        clear hA
        go_wp2_with (go_at_call 67; refine hal.mono ?_; rintro e w2 ⟨hs1, -, hF2⟩; obtain ⟨va, rfl, hown⟩ := hs1 ts HA.out; obtain ⟨ao, ac, rfl⟩ := own_shape hown; clear hs1 hal; have HL2 := Lib.hid (HHL1.out.fr hF2 (by simp)); have HO := Lib.hid hown; clear hown
                     have l4 := (raw_cells HL2.out).2.2.2.2.1
                     have l5 := (raw_cells HL2.out).2.2.2.2.2.1
                     have l6 := (raw_cells HL2.out).2.2.2.2.2.2.1
                     have l7 := (raw_cells HL2.out).2.2.2.2.2.2.2.1
                     have f5 := HL2.out.free 5
                     have f6 := HL2.out.free 6
                     have f7 := HL2.out.free 7)
        go_ret
        refine ⟨fun l hl => ?_, fun hn => (by rw [HA.out] at hn; cases hn)⟩
        rw [HA.out] at hl
        cases hl
        have hset : Fr [bl] w2 (((w2.setCell ⟨bl, 6, none⟩ (.slice ao ts.length ac)).setCell ⟨bl, 7, none⟩ (.int .i64 (ts.length : Int))).setCell ⟨bl, 5, none⟩ (.string (S.extract (long / 64 * 64) long))) :=
          (((Fr.refl _ _).setCell (Or.inl (by simp)) _).setCell (Or.inl (by simp)) _).setCell (Or.inl (by simp)) _
        refine ⟨rfl, (hF1.trans hF2).any.trans hset, .slice ao ts.length ac, ?_, ?_⟩
        · have hB5 := ((HL2.out.set 6 (.slice ao ts.length ac)).set 7 (.int .i64 (ts.length : Int))).set 5 (.string (S.extract (long / 64 * 64) long))
          rw [Nat.mul_comm (long / 64) 64, HDR.out] at hB5 ⊢
          exact hB5
        · have hle : w.heap.size ≤ w1.heap.size := hF1.size
          refine own_fr (own_weak HO.out hle) hset (fun g hg => ?_)
          have h1 := (own_base HO.out g hg).1
          have h3 := HB.out
          simp; omega
end

end Go.Proofs.YtiojkakmlbfiiaaGreat
