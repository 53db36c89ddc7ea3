/- The program's log: frames, Texts, load. -/
import Derived.Test.YtiojkakmlbfiiaaRw3
namespace Go.Proofs.Ytiojkakmlbfiiaa
open Go.RowKit
open Sp

theorem own_weak {w : World} {base base' T size : Nat} {v : Value} {n : Nat} {xs : List Value} (h : w.ownsRow base T size v n xs) (hb : base' ≤ base) : w.ownsRow base' T size v n xs := by
  refine ⟨h.1, ?_⟩
  rcases h.2 with h2 | ⟨g, cap, cur, hv, hg, r⟩
  · exact Or.inl h2
  · exact Or.inr ⟨g, cap, cur, hv, Nat.le_trans hb hg, r⟩

theorem isBuilder_fr {w w' : World} {B b : Nat} {bs : List Value} (h : Lib.IsBuilder 68 5 B b bs w) (hf : Fr [] w w') : Lib.IsBuilder 68 5 B b bs w' := by
  have key : ∀ p, Lib.BuilderAt 68 5 B b p bs w → Lib.BuilderAt 68 5 B b p bs w' := by
    rintro p ⟨hB, v, hb, hown, hne⟩
    exact ⟨hB, v, by rw [hf.block b (lt_of_block hb) (by simp)]; exact hb, own_fr hown hf (by simp), hne⟩
  rcases h with h | h
  · exact Or.inl (key _ h)
  · exact Or.inr (key _ h)

theorem framesL_snoc (l : List ByteArray) (k : Nat) (x : ByteArray) (h : l[k]? = some x) : framesL (l.take (k + 1)) = framesL (l.take k) ++ frameL x.data.toList := by
  have hk : k < l.length := by
    rcases Nat.lt_or_ge k l.length with h' | h'
    · exact h'
    · rw [List.getElem?_eq_none h'] at h; cases h
  rw [List.getElem?_eq_getElem hk] at h
  have hx : l[k] = x := by simpa using h
  rw [framesL, List.take_succ_eq_append_getElem hk, hx, List.flatMap_append]
  simp [framesL]

theorem fr_below {S : List Nat} {w w2 w3 : World} (hF : Fr S w w2) (hB : Below w.heap.size w2 w3) : Fr S w w3 :=
  ⟨hB.os.trans hF.os, hB.tape.trans hF.tape, hB.output.trans hF.output, Nat.le_trans hF.size hB.size, fun k hk hs => (hB.block k hk).trans (hF.block k hk hs)⟩

theorem framesL_len : ∀ (l : List ByteArray), (∀ s ∈ l, s.size ≤ 4096) → (framesL l).length ≤ 4102 * l.length
  | [], _ => by simp [framesL]
  | x :: xs, h => by
    have h1 := framesL_len xs (fun s hs => h s (by simp [hs]))
    have h2 := h x (by simp)
    have h3 : x.data.toList.length = x.size := rfl
    have h4 : framesL (x :: xs) = frameL x.data.toList ++ framesL xs := rfl
    rw [h4, List.length_append, frameL_len, h3, List.length_cons]; omega

set_option maxHeartbeats 1000000 in
set_option maxRecDepth 100000 in
theorem frames_c (w : World) (v : Value) (fp : Option Nat) (l : List ByteArray) (h : SliceAt w v fp (strVals l)) (hl : l.length ≤ 1000000) (hs : ∀ s ∈ l, s.size ≤ 4096) :
    Calls Try.prog 23 #[v] w fun e w' => e = .returned (.string (str (framesL l))) ∧ Fr [] w w' := by
  obtain ⟨va, vc, rfl⟩ : ∃ a c, v = .slice a l.length c := by
    rcases h with ⟨h1, _, a, c, rfl⟩ | ⟨b, o, c, _, rfl, _⟩
    · refine ⟨a, c, ?_⟩
      have : l = [] := by simpa [strVals] using h1
      rw [this]; rfl
    · exact ⟨some ⟨b, o, none⟩, c, by simp [strVals]⟩
  have HB0 : Hid (Lib.IsBuilder 68 5 w.heap.size w.heap.size (Lib.byteCells (framesL (l.take 0))) (w.alloc (.cells #[.pointer none, .slice none 0 0] 68))) := Lib.hid (Lib.fresh_isBuilder _ _ w)
  have HF0 : Hid (Fr [] w (w.alloc (.cells #[.pointer none, .slice none 0 0] 68))) := Lib.hid ((Fr.refl _ _).alloc _)
  have HH := Lib.hid h
  clear h
  go_enter Try.func23, Try.ntmps23
  go_wp2
  generalize w.alloc (.cells #[.pointer none, .slice none 0 0] 68) = W at HB0 HF0 ⊢
  obtain ⟨b, hb⟩ : ∃ b, w.heap.size = b := ⟨_, rfl⟩
  rw [hb] at HB0 ⊢
  have HB := Lib.hid hb
  clear hb
  go_loopw [10] (fun i wr => ∃ k : Nat, k ≤ l.length ∧ i = .int .i64 k ∧ Hid (Lib.IsBuilder 68 5 b b (Lib.byteCells (framesL (l.take k))) wr) ∧ Hid (Fr [] w wr)) (fun i _ => l.length - (intOf i).toNat)
  case atStart => exact ⟨0, Nat.zero_le _, rfl, HB0, HF0⟩
  case round =>
    obtain ⟨k, hk, rfl, hB, hF⟩ := hrel
    by_cases hlt : k < l.length
    · obtain ⟨x, hx⟩ : ∃ x, l[k]? = some x := ⟨_, List.getElem?_eq_getElem hlt⟩
      obtain ⟨sb, so, rfl, hc⟩ : ∃ b o, va = some ⟨b, o, none⟩ ∧ wr.cell? ⟨b, o + k, none⟩ = some (.string x) := by
        have HHr := HH.out.fr hF.out (by simp)
        rcases HHr with ⟨h1, _, _⟩ | ⟨b, o, c', _, hv, hcell⟩
        · have h2 : l = [] := by simpa [strVals] using h1
          rw [h2] at hlt; simp at hlt
        · simp only [Value.slice.injEq] at hv
          exact ⟨b, o, hv.1, hcell k _ (by rw [strVals, List.getElem?_map, hx]; rfl)⟩
      have hxs := hs x (List.mem_of_getElem? hx)
      have HS : Hid (framesL (l.take (k + 1)) = framesL (l.take k) ++ frameL x.data.toList) := Lib.hid (framesL_snoc l k x hx)
      have hlen := framesL_len (l.take k) (fun s h => hs s (List.mem_of_mem_take h))
      have hlk : (l.take k).length = k := by rw [List.length_take]; omega
      rw [hlk] at hlen
      have hsf := fun W' => sFrame_c x W' (by omega)
      simp only [if_pos hxs] at hsf
      have hfs := frame_size x
      have HFd : Hid ((frame x).data.toList = frameL x.data.toList) := Lib.hid (by rw [frame, str_data])
      generalize frame x = T at hsf hfs HFd
      generalize frameL x.data.toList = TL at HS HFd
      have hL : (Lib.byteCells (framesL (l.take k))).length = (framesL (l.take k)).length := Lib.byteCells_length _
      clear hx hlk
      go_wp2_with (first
        | (go_at_call 20; refine (hsf _).mono ?_; rintro e w2 ⟨rfl, hF2⟩)
        | (go_at_call 34; refine (writeString_c b b (Lib.byteCells (framesL (l.take k))) T _ (isBuilder_fr hB.out hF2) (by omega) (by have h1 := hF.out.size; have h2 := hF2.size; have h3 := HB.out; omega)).mono ?_; rintro e w3 ⟨rfl, hB3, hF3⟩))
      have hFw3 : Fr [] w w3 := fr_below (hF.out.trans hF2) (by rw [HB.out]; exact hF3)
      go_roundw
      case rel => exact ⟨k + 1, by omega, by go_num, Lib.hid (by
        rw [HS.out, Lib.byteCells_append]
        have := Or.inr (a := Lib.BuilderAt 68 5 b b (.pointer none) (Lib.byteCells (framesL (l.take k)) ++ Lib.strCells T) w3) hB3
        rw [Lib.strCells_eq, HFd.out] at this
        exact this), Lib.hid hFw3⟩
      case measure => simp [intOf]; omega
    · obtain rfl : k = l.length := by omega
      have hst := Try.Builder_String_any b b (framesL (l.take l.length)) wr hB.out (by have h1 := hF.out.size; have h3 := HB.out; omega)
      have HT : Hid (l.take l.length = l) := Lib.hid List.take_length
      go_wp2_with (go_at_call 35; refine hst.mono ?_; rintro e w2 ⟨rfl, hF2⟩)
      go_ret
      exact ⟨rfl, fr_below hF.out (by rw [HB.out]; exact hF2)⟩

end Go.Proofs.Ytiojkakmlbfiiaa
