/- The statements' own functions: SameTexts at equal lists, works. -/
import Derived.Test.YtiojkakmlbfiiaaGreatM12
/- What a log on a device whose fuse is out does: plain laws, no program in sight. -/
namespace Go.Proofs.YtiojkakmlbfiiaaGreat
open Go.RowKit
open Sp
namespace Sp

/-! Numbers as bytes. -/
theorem be_succ (k n : Nat) : be (k + 1) n = be k (n / 256) ++ [UInt8.ofNat n] := by
  show (le (k + 1) n).reverse = _
  simp only [le, List.reverse_cons]
  rfl

theorem num_be : ∀ (k n : Nat), n < 256 ^ k → n < 9223372036854775808 → num (be k n) = (n : Int)
  | 0, n, h, _ => by simp at h; subst h; rfl
  | k + 1, n, h, h2 => by
    rw [be_succ, num_snoc, num_be k (n / 256) (by rw [Nat.pow_succ] at h; omega) (by omega)]
    have : ((UInt8.ofNat n).toNat : Int) = ((n % 256 : Nat) : Int) := by simp
    rw [this]
    unfold RowKit.wrap64
    omega

theorem be_len (k n : Nat) : (be k n).length = k := by simp [be, le_len]

theorem headPart_parts (c a l : Nat) : headPart c a l = [82, 69, 68, 79] ++ (be 8 c ++ ([UInt8.ofNat a] ++ be 8 l)) := by simp [headPart]

theorem parse_head (size c a l : Nat) (h1 : 1 ≤ c) (h2 : c ≤ 4611686018427387904) (h3 : a ≤ 1) (h4 : l ≤ size) (h5 : l < 9223372036854775808) : parseHead size (headText c a l) = some (c, a, l) := by
  have hd : (headText c a l).data.toList = [82, 69, 68, 79] ++ (be 8 c ++ ([UInt8.ofNat a] ++ (be 8 l ++ (headPart c a l ++ headPart c a l ++ [0])))) := by
    rw [headText, str_data]
    conv => lhs; rw [show headPart c a l ++ headPart c a l ++ headPart c a l ++ [0] = headPart c a l ++ (headPart c a l ++ headPart c a l ++ [0]) by simp]
    rw [headPart_parts]; simp
  generalize headPart c a l ++ headPart c a l ++ [0] = rest at hd
  have e1 : ((headText c a l).data.toList.drop 4).take 8 = be 8 c := by
    rw [hd, List.drop_append_of_le_length (by simp)]
    simp only [List.drop_succ_cons, List.drop_zero, List.nil_append]
    rw [List.take_append_of_le_length (by rw [be_len]; omega), List.take_of_length_le (by rw [be_len]; omega)]
  have e2 : (headText c a l).data.toList.getD 12 0 = UInt8.ofNat a := by
    rw [hd, List.getD_eq_getElem?_getD, List.getElem?_append_right (by simp), List.getElem?_append_right (by simp [be_len])]
    simp [be_len]
  have e3 : ((headText c a l).data.toList.drop 13).take 8 = be 8 l := by
    rw [hd, ← List.append_assoc, ← List.append_assoc, List.drop_append_of_le_length (by simp [be_len])]
    rw [show List.drop 13 ([82, 69, 68, 79] ++ be 8 c ++ [UInt8.ofNat a]) = [] from List.drop_eq_nil_of_le (by simp [be_len])]
    rw [List.nil_append, List.take_append_of_le_length (by rw [be_len]; omega), List.take_of_length_le (by rw [be_len]; omega)]
  unfold parseHead
  simp only [e1, e2, e3]
  rw [num_be 8 c (by have : (256 : Nat) ^ 8 = 18446744073709551616 := rfl; omega) (by omega), num_be 8 l (by have : (256 : Nat) ^ 8 = 18446744073709551616 := rfl; omega) (by omega)]
  have ha : (UInt8.ofNat a).toNat = a := by simp; omega
  rw [ha, if_neg (by omega)]
  simp

theorem parse_zeros (size : Nat) : parseHead size zeros = none := by
  unfold parseHead
  rw [show num ((zeros.data.toList.drop 4).take 8) = 0 by show num (((List.replicate 64 (0 : UInt8)).drop 4).take 8) = 0; simp [num, RowKit.wrap64, List.replicate]]
  simp

/-! Frames. -/
theorem le2 (n : Nat) : le 2 n = [UInt8.ofNat n, UInt8.ofNat (n / 256)] := rfl

theorem nextL_of_frame (t rest : List UInt8) (h : t.length ≤ 4096) : nextL (frameL t ++ rest) = (0, t) := by
  have hl := frameL_len t
  have hf : frameL t ++ rest = UInt8.ofNat t.length :: UInt8.ofNat (t.length / 256) :: (t ++ (le 4 (crc (le 2 t.length ++ t)) ++ rest)) := by
    unfold frameL; rw [le2]; simp
  have hn : ((frameL t ++ rest).getD 0 0).toNat + 256 * ((frameL t ++ rest).getD 1 0).toNat = t.length := by
    rw [hf]
    simp only [List.getD_cons_zero, List.getD_cons_succ, UInt8.toNat_ofNat']
    omega
  have hd : ((frameL t ++ rest).drop 2).take t.length = t := by
    rw [hf]
    simp only [List.drop_succ_cons, List.drop_zero]
    rw [List.take_append_of_le_length (Nat.le_refl _), List.take_length]
  have ht : (frameL t ++ rest).take (t.length + 6) = frameL t := by
    rw [List.take_append_of_le_length (by omega), List.take_of_length_le (by omega)]
  unfold nextL
  rw [if_neg (by rw [List.length_append, hl]; omega)]
  simp only [hn, hd, ht]
  rw [if_neg (by omega), if_neg (by rw [List.length_append, hl]; omega)]
  simp

theorem allL_of_frames : ∀ (l : List ByteArray), (∀ t ∈ l, t.size ≤ 4096) → allL (framesL l) = some l
  | [], _ => rfl
  | x :: xs, h => by
    have hx : x.data.toList.length ≤ 4096 := h x (by simp)
    have hne : framesL (x :: xs) ≠ [] := by
      intro e
      have := congrArg List.length e
      rw [framesL_cons, List.length_append, frameL_len] at this; simp at this
    rw [allL_step _ hne, framesL_cons, nextL_of_frame _ _ hx]
    simp only [if_true]
    rw [show x.data.toList.length + 6 = (frameL x.data.toList).length from (frameL_len _).symm, List.drop_left, allL_of_frames xs (fun t ht => h t (by simp [ht]))]
    simp [str_of]

/-! A device whose fuse is out. -/
structure Dv.Calm (d : Dv) (n : Nat) : Prop where
  wf : d.Wf
  len : d.on.length = n
  down : d.down = false
  left : d.left = 0

theorem Dv.Calm.burn {d : Dv} {n : Nat} (h : d.Calm n) : d.burn = d := by unfold Dv.burn; rw [if_neg (by rw [h.left]; omega)]

theorem Dv.Calm.wrong {d : Dv} {n : Nat} (h : d.Calm n) (i : Nat) (hi : i < n) : d.wrong (i : Int) = 0 := by
  unfold Dv.wrong; rw [if_neg (by rw [h.down]; simp), if_neg (by rw [h.len]; omega)]

theorem Dv.Calm.write {d : Dv} {n : Nat} (h : d.Calm n) (i : Nat) (hi : i < n) (s : ByteArray) (hs : s.size = 64) : d.write (i : Int) s = (d.put i s, 0) := by
  unfold Dv.write
  rw [if_pos (h.wrong i hi), if_pos hs, h.burn, if_neg (by rw [h.down]; simp)]
  rfl

theorem Dv.Calm.put {d : Dv} {n : Nat} (h : d.Calm n) (i : Nat) (s : ByteArray) (hs : s.size = 64) : (d.put i s).Calm n := ⟨h.wf.put i s hs, h.len, h.down, h.left⟩

theorem Dv.put_text (d : Dv) (n : Nat) (h : d.Calm n) (i j : Nat) (hi : i < n) (s : ByteArray) : (d.put i s).text j = if j = i then s else d.text j := by
  unfold Dv.text Dv.put
  simp only
  by_cases hj : j = i
  · subst hj
    rw [if_pos rfl, List.getD_eq_getElem?_getD, List.getElem?_set_self (by rw [h.wf.len, h.len]; exact hi)]; rfl
  · rw [if_neg hj, List.getD_eq_getElem?_getD, List.getElem?_set_ne (Ne.symm hj), ← List.getD_eq_getElem?_getD]

def Dv.Dry (d : Dv) : Prop := ∀ x ∈ d.nw, x = none

theorem Dv.Calm.flush {d : Dv} {n : Nat} (h : d.Calm n) : d.flush = (d.clean, 0) ∧ d.clean.Calm n ∧ d.clean.Dry ∧ ∀ i, i < n → d.clean.text i = d.text i := by
  refine ⟨?_, ⟨h.wf.clean, ?_, h.down, h.left⟩, ?_, ?_⟩
  · unfold Dv.flush
    rw [if_neg (by rw [h.down]; simp), h.burn, if_neg (by rw [h.down]; simp)]
  · show (over d.on d.nw).length = n
    rw [over_len _ _ h.wf.len, h.len]
  · intro x hx
    exact List.eq_of_mem_replicate hx
  · intro i hi
    unfold Dv.text Dv.clean
    simp only
    have h1 : i < d.on.length := by rw [h.len]; exact hi
    have h2 : i < d.nw.length := by rw [h.wf.len]; exact h1
    rw [List.getD_eq_getElem?_getD, List.getElem?_replicate, if_pos h2]
    simp only [Option.getD_some, Option.getD_none]
    unfold over
    rw [List.getD_eq_getElem?_getD, List.getElem?_zipWith, List.getElem?_eq_getElem h1, List.getElem?_eq_getElem h2]
    simp only [Option.getD_some]
    rw [List.getD_eq_getElem?_getD, List.getElem?_eq_getElem h2, List.getD_eq_getElem?_getD, List.getElem?_eq_getElem h1]
    rfl

theorem tear_dry : ∀ (a : List ByteArray) (b : List (Option ByteArray)) (ps : List Int), (∀ x ∈ b, x = none) → tear a b ps = a
  | [], _, _, _ => by simp [tear]
  | _ :: _, [], _, _ => by simp [tear]
  | o :: os, none :: ns, ps, h => by simp only [tear]; rw [tear_dry os ns ps (fun x hx => h x (by simp [hx]))]
  | o :: os, some s :: ns, ps, h => by have := h (some s) (by simp); cases this

theorem Dv.Calm.crash {d : Dv} {n : Nat} (h : d.Calm n) (hd : d.Dry) (ps : List Int) : d.crash ps = d := by
  unfold Dv.crash
  rw [tear_dry _ _ _ hd]
  have e : List.replicate d.nw.length none = d.nw := by
    apply List.ext_getElem (by simp)
    intro i h1 h2
    rw [List.getElem_replicate]
    exact (hd _ (List.getElem_mem h2)).symm
  rw [e]
  have h1 := h.down
  have h2 := h.left
  cases d
  simp only at h1 h2 ⊢
  rw [h1, h2]

theorem Dv.Calm.wflush {d : Dv} {n : Nat} (h : d.Calm n) (i : Nat) (hi : i < n) (s : ByteArray) (hs : s.size = 64) :
    ∃ d', d.wflush i s = (d', 0) ∧ d'.Calm n ∧ d'.Dry ∧ ∀ j, j < n → d'.text j = if j = i then s else d.text j := by
  obtain ⟨h1, h2, h3, h4⟩ := (h.put i s hs).flush
  refine ⟨(d.put i s).clean, ?_, h2, h3, fun j hj => ?_⟩
  · unfold Dv.wflush
    rw [h.write i hi s hs]
    simp only [if_true]
    exact h1
  · rw [h4 j hj, Dv.put_text d n h i j hi s]

theorem Dv.Calm.writes {n : Nat} : ∀ (l : List ByteArray) (d : Dv) (i : Nat), d.Calm n → i + l.length ≤ n → (∀ s ∈ l, s.size = 64) →
    ∃ d', d.writes i l = (d', 0) ∧ d'.Calm n ∧ ∀ j, j < n → d'.text j = if i ≤ j ∧ j < i + l.length then l.getD (j - i) ByteArray.empty else d.text j
  | [], d, i, h, _, _ => ⟨d, rfl, h, fun j _ => by rw [if_neg (by simp; try omega)]⟩
  | s :: l, d, i, h, hl, hs => by
    have hi : i < n := by simp at hl; omega
    have hs64 := hs s (by simp)
    obtain ⟨d', h1, h2, h3⟩ := Dv.Calm.writes l (d.put i s) (i + 1) (h.put i s hs64) (by simp at hl; omega) (fun x hx => hs x (by simp [hx]))
    refine ⟨d', ?_, h2, fun j hj => ?_⟩
    · simp only [Dv.writes]
      rw [h.write i hi s hs64]
      simp only [if_true]
      exact h1
    · rw [h3 j hj, Dv.put_text d n h i j hi s]
      simp only [List.length_cons]
      by_cases hji : j = i
      · subst hji
        rw [if_neg (by omega), if_pos rfl, if_pos (by omega), Nat.sub_self]; rfl
      · rw [if_neg hji]
        by_cases hin : i + 1 ≤ j ∧ j < i + 1 + l.length
        · rw [if_pos hin, if_pos (by omega), show j - i = (j - (i + 1)) + 1 by omega, List.getD_cons_succ]
        · rw [if_neg hin, if_neg (by omega)]

theorem padTo_size (l : List UInt8) (h : l.length ≤ 64) : (str (padTo l)).size = 64 := by
  rw [str_size, padTo, List.length_append, List.length_replicate]; omega

theorem chunks_size : ∀ (n : Nat) (l : List UInt8), ∀ s ∈ chunks n l, s.size = 64
  | 0, _, s, h => by simp [chunks] at h
  | n + 1, l, s, h => by
    unfold chunks at h
    split at h
    · simp at h
    · rcases List.mem_cons.1 h with rfl | h
      · exact padTo_size _ (by rw [List.length_take]; omega)
      · exact chunks_size n _ s h

theorem chunks_len : ∀ (n : Nat) (l : List UInt8), l.length ≤ n → (chunks n l).length = (l.length + 63) / 64
  | 0, l, h => by simp at h; subst h; rfl
  | n + 1, l, h => by
    unfold chunks
    by_cases hl : l = []
    · subst hl; rfl
    · rw [if_neg hl, List.length_cons, chunks_len n (l.drop 64) (by rw [List.length_drop]; have : l.length ≠ 0 := fun e => hl (List.eq_nil_of_length_eq_zero e); omega), List.length_drop]
      have : l.length ≠ 0 := fun e => hl (List.eq_nil_of_length_eq_zero e)
      omega

theorem chunks_cat : ∀ (n : Nat) (l : List UInt8), l.length ≤ n → ((chunks n l).flatMap fun s => s.data.toList).take l.length = l
  | 0, l, h => by simp at h; subst h; rfl
  | n + 1, l, h => by
    unfold chunks
    by_cases hl : l = []
    · subst hl; rfl
    · rw [if_neg hl, List.flatMap_cons, str_data]
      have h0 : l.length ≠ 0 := fun e => hl (List.eq_nil_of_length_eq_zero e)
      by_cases h64 : 64 ≤ l.length
      · have e : padTo (l.take 64) = l.take 64 := by
          unfold padTo
          rw [List.length_take, Nat.min_eq_left h64]; simp
        rw [e]
        have ih := chunks_cat n (l.drop 64) (by rw [List.length_drop]; omega)
        rw [List.length_drop] at ih
        have hl64 : (l.take 64).length = 64 := by rw [List.length_take]; omega
        rw [List.take_append, hl64, List.take_of_length_le (by omega), ih, List.take_append_drop]
      · have e : l.take 64 = l := List.take_of_length_le (by omega)
        rw [e, padTo, List.append_assoc, List.take_append_of_le_length (Nat.le_refl _), List.take_length]

theorem headText_size (c a l : Nat) : (headText c a l).size = 64 := by
  rw [headText, str_size]; simp [headPart, be, le_len]

/-- What is settled from an area's begin on. -/
theorem Dv.Calm.settle0 {d : Dv} {n : Nat} (h : d.Calm n) (hn : 4 ≤ n) (area count : Nat) (ha : area ≤ 1) (more : List UInt8) (hm : more.length ≤ 64 * ((n - 2) / 2)) :
    ∃ d', d.settle area 0 count [] more = (d', 0) ∧ d'.Calm n ∧ d'.Dry ∧ d'.stored area more.length = more ∧
      ∀ j, j < 2 → d'.text j = if j = (count + 1) % 2 then headText (count + 1) area more.length else d.text j := by
  have hfit : 2 + area * ((n - 2) / 2) + (n - 2) / 2 ≤ n := by rcases (show area = 0 ∨ area = 1 by omega) with rfl | rfl <;> omega
  have key : ∃ d1, (if more = [] then (d, 0) else (let w := d.writes (2 + area * ((d.on.length - 2) / 2) + 0 / 64) (chunks (([] : List UInt8) ++ more).length ([] ++ more)); if w.2 = 0 then w.1.flush else w)) = (d1, 0) ∧ d1.Calm n ∧
      (∀ j, j < n → d1.text j = if 2 + area * ((n - 2) / 2) ≤ j ∧ j < 2 + area * ((n - 2) / 2) + (chunks more.length more).length then (chunks more.length more).getD (j - (2 + area * ((n - 2) / 2))) ByteArray.empty else d.text j) := by
    by_cases hme : more = []
    · subst hme
      refine ⟨d, rfl, h, fun j _ => ?_⟩
      rw [if_neg (by simp [chunks]; try omega)]
    · rw [if_neg hme, List.nil_append, h.len, Nat.zero_div, Nat.add_zero]
      obtain ⟨d', h1, h2, h3⟩ := Dv.Calm.writes (chunks more.length more) d (2 + area * ((n - 2) / 2)) h (by rw [chunks_len _ _ (Nat.le_refl _)]; omega) (chunks_size _ _)
      obtain ⟨f1, f2, _, f4⟩ := h2.flush
      refine ⟨d'.clean, ?_, f2, fun j hj => by rw [f4 j hj, h3 j hj]⟩
      simp only [h1, if_true]
      exact f1
  obtain ⟨d1, e1, h1, t1⟩ := key
  obtain ⟨d2, e2, h2, y2, t2⟩ := h1.wflush ((count + 1) % 2) (by omega) (headText (count + 1) area more.length) (headText_size _ _ _)
  refine ⟨d2, ?_, h2, y2, ?_, fun j hj => ?_⟩
  · unfold Dv.settle
    rw [e1]
    simp only [if_true, Nat.zero_add]
    exact e2
  · have hK := chunks_len more.length more (Nat.le_refl _)
    rw [Dv.stored_cat d2 area more.length (chunks more.length more).length (by omega) (by intro i hi; omega) (by rw [h2.len]; omega)]
    have ec : d2.cat (2 + area * ((d2.on.length - 2) / 2)) (chunks more.length more).length = (chunks more.length more).flatMap fun s => s.data.toList := by
      rw [h2.len]
      unfold Dv.cat
      have hmap : (List.range (chunks more.length more).length).map (fun i => d2.text (2 + area * ((n - 2) / 2) + i)) = chunks more.length more := by
        apply List.ext_getElem (by simp)
        intro i hi1 hi2
        rw [List.getElem_map, List.getElem_range]
        have hlt : 2 + area * ((n - 2) / 2) + i < n := by omega
        rw [t2 _ hlt, if_neg (by omega), t1 _ hlt, if_pos (by omega), show 2 + area * ((n - 2) / 2) + i - (2 + area * ((n - 2) / 2)) = i by omega, List.getD_eq_getElem?_getD, List.getElem?_eq_getElem hi2]
        rfl
      conv => rhs; rw [← hmap]
      rw [List.flatMap_map]
    rw [ec, chunks_cat _ _ (Nat.le_refl _)]
  · rw [t2 j (by omega)]
    split
    · rfl
    · rw [t1 j (by omega), if_neg (by omega)]

end Sp
end Go.Proofs.YtiojkakmlbfiiaaGreat

/- A log on a new device, restarted or synced, is opened again: plain laws. -/
namespace Go.Proofs.YtiojkakmlbfiiaaGreat
open Go.RowKit
open Sp
namespace Sp

theorem Dv.make_calm (n : Nat) (h1 : 4 ≤ n) (h2 : n ≤ 2048) : (Dv.make n).Calm n :=
  ⟨Dv.wf_make n (by omega) h2, by simp [Dv.make], rfl, rfl⟩

theorem Dv.make_text (n i : Nat) (h : i < n) : (Dv.make n).text i = zeros := by
  unfold Dv.text Dv.make
  simp [List.getD_eq_getElem?_getD, List.getElem?_replicate, h]

theorem Dv.Calm.read {d : Dv} {n : Nat} (h : d.Calm n) (i : Nat) (hi : i < n) : d.read (i : Int) = (d.text i, 0) := read_ok h.down i (by rw [h.len]; exact hi)

theorem openLog_fresh (n : Nat) (h1 : 4 ≤ n) (h2 : n ≤ 2048) :
    ∃ d1, openLog (Dv.make n) = (d1, some ⟨1, 0, [], [], 0⟩, 0) ∧ d1.Calm n ∧ d1.Dry ∧ d1.text 0 = zeros ∧ d1.text 1 = headText 1 0 0 := by
  have hc := Dv.make_calm n h1 h2
  obtain ⟨d1, e1, c1, y1, t1⟩ := hc.wflush 1 (by omega) (headText 1 0 0) (headText_size _ _ _)
  have h0 : d1.text 0 = zeros := by rw [t1 0 (by omega), if_neg (by omega), Dv.make_text n 0 (by omega)]
  refine ⟨d1, ?_, c1, y1, h0, by rw [t1 1 (by omega), if_pos rfl]⟩
  have hb : (Dv.make n).best = none := by
    unfold Dv.best Dv.head
    rw [Dv.make_text n 0 (by omega), Dv.make_text n 1 (by omega), parse_zeros]
  have hbn : d1.bareNext 1 = (d1, 0) := by
    unfold Dv.bareNext
    simp only
    rw [c1.read 0 (by omega) |> fun h => (show d1.read ((((1 + 1) % 2 : Nat)) : Int) = (d1.text 0, 0) from h), h0]
    simp
  unfold openLog
  rw [if_neg (by rw [hc.len]; omega), if_neg (by rw [hc.down]; simp), hb]
  simp only [e1, if_true, hbn]

/-- A device whose head 0 is of count 2 and whose head 1 is of count 1. -/
theorem openLog_second {d : Dv} {n : Nat} (h : d.Calm n) (h1 : 4 ≤ n) (h2 : n ≤ 2048) (area : Nat) (ha : area ≤ 1) (l : List ByteArray) (hl : ∀ t ∈ l, t.size ≤ 4096) (hr : (framesL l).length ≤ 64 * ((n - 2) / 2))
    (t0 : d.text 0 = headText 2 area (framesL l).length) (t1 : d.text 1 = headText 1 0 0) (hst : d.stored area (framesL l).length = framesL l) :
    openLog d = (d, some ⟨2, area, framesL l, l, l.length⟩, 0) := by
  have har : areaOf d.on.length = 64 * ((n - 2) / 2) := by rw [areaOf, h.len]
  have e0 : d.head 0 = some (2, area, (framesL l).length) := by
    unfold Dv.head; rw [t0, har]; exact parse_head _ _ _ _ (by omega) (by omega) ha hr (by omega)
  have e1 : d.head 1 = some (1, 0, 0) := by
    unfold Dv.head; rw [t1, har]; exact parse_head _ _ _ _ (by omega) (by omega) (by omega) (by omega) (by omega)
  have hb : d.best = some (2, area, (framesL l).length) := by
    unfold Dv.best; rw [e0, e1]; simp
  have hbn : d.bareNext 2 = (d, 0) := by
    unfold Dv.bareNext
    simp only
    rw [(show d.read ((((2 + 1) % 2 : Nat)) : Int) = (d.text 1, 0) from h.read 1 (by omega))]
    have : (parseHead (areaOf d.on.length) (d.text 1)).isSome = true := by
      have := e1; unfold Dv.head at this; rw [this]; rfl
    simp only [this, if_true]
    split <;> rfl
  unfold openLog
  rw [if_neg (by rw [h.len]; omega), if_neg (by rw [h.down]; simp), hb]
  simp only [hst, allL_of_frames l hl, hbn, if_true]

theorem restart_second {d : Dv} {n : Nat} (h : d.Calm n) (h1 : 4 ≤ n) (h2 : n ≤ 2048) (t1 : d.text 1 = headText 1 0 0) (l : List ByteArray) (hl : ∀ t ∈ l, t.size ≤ 4096) (hr : (framesL l).length ≤ 64 * ((n - 2) / 2)) :
    ∃ d2, (Lg.restart ⟨1, 0, [], l, 0⟩ d l) = (⟨2, 1, framesL l, l, l.length⟩, d2, 0) ∧ d2.Calm n ∧ d2.Dry ∧ ∀ ps, openLog (d2.crash ps) = (d2, some ⟨2, 1, framesL l, l, l.length⟩, 0) := by
  obtain ⟨d2, e2, c2, y2, s2, x2⟩ := h.settle0 h1 1 1 (by omega) (framesL l) hr
  refine ⟨d2, ?_, c2, y2, fun ps => ?_⟩
  · unfold Lg.restart
    rw [if_neg (by
      intro e
      obtain ⟨x, hx, h⟩ := List.any_eq_true.1 e
      have := hl x hx
      simp at h; omega), if_neg (by rw [areaOf, h.len]; omega)]
    simp only [Nat.sub_zero, e2, if_true]
  · rw [c2.crash y2]
    refine openLog_second c2 h1 h2 1 (by omega) l hl hr ?_ ?_ s2
    · rw [x2 0 (by omega)]; simp
    · rw [x2 1 (by omega)]; simp [t1]

theorem sync_second {d : Dv} {n : Nat} (h : d.Calm n) (h1 : 4 ≤ n) (h2 : n ≤ 2048) (t1 : d.text 1 = headText 1 0 0) (l : List ByteArray) (hl : ∀ t ∈ l, t.size ≤ 4096) (hr : (framesL l).length ≤ 64 * ((n - 2) / 2)) (hne : 0 < l.length) :
    ∃ d2, (Lg.sync ⟨1, 0, [], l, 0⟩ d) = (⟨2, 0, framesL l, l, l.length⟩, d2, 0) ∧ d2.Calm n ∧ d2.Dry ∧ ∀ ps, openLog (d2.crash ps) = (d2, some ⟨2, 0, framesL l, l, l.length⟩, 0) := by
  obtain ⟨d2, e2, c2, y2, s2, x2⟩ := h.settle0 h1 0 1 (by omega) (framesL l) hr
  refine ⟨d2, ?_, c2, y2, fun ps => ?_⟩
  · unfold Lg.sync Lg.waits Lg.tail
    simp only [List.drop_zero, List.length_nil, Nat.zero_div, Nat.mul_zero, List.nil_append]
    rw [if_neg (by omega), e2]
    simp
  · rw [c2.crash y2]
    refine openLog_second c2 h1 h2 0 (by omega) l hl hr ?_ ?_ s2
    · rw [x2 0 (by omega)]; simp
    · rw [x2 1 (by omega)]; simp [t1]

end Sp
end Go.Proofs.YtiojkakmlbfiiaaGreat

/- The statements' own functions: SameTexts at equal lists, works. -/
namespace Go.Proofs.YtiojkakmlbfiiaaGreat
open Go.RowKit
open Sp

theorem slice_lit_shape {w : World} {v : Value} {fp : Option Nat} {l : List ByteArray} (h : SliceAt w v fp (strVals l)) : ∃ a c, v = .slice a l.length c := by
  rcases h with ⟨h1, _, a, c, rfl⟩ | ⟨b, o, c, _, rfl, _⟩
  · refine ⟨a, c, ?_⟩
    have : l = [] := by simpa [strVals] using h1
    rw [this]; rfl
  · exact ⟨some ⟨b, o, none⟩, c, by simp [strVals]⟩

theorem slice_cell {w : World} {a : Option Addr} {n c : Nat} {fp : Option Nat} {l : List ByteArray} (h : SliceAt w (.slice a n c) fp (strVals l)) (k : Nat) (hk : k < l.length) (x : ByteArray) (hx : l[k]? = some x) :
    ∃ b o, a = some ⟨b, o, none⟩ ∧ w.cell? ⟨b, o + k, none⟩ = some (.string x) := by
  rcases h with ⟨h1, _, _⟩ | ⟨b, o, c', _, hv, hcell⟩
  · have h2 : l = [] := by simpa [strVals] using h1
    rw [h2] at hk; simp at hk
  · simp only [Value.slice.injEq] at hv
    exact ⟨b, o, hv.1, hcell k _ (by rw [strVals, List.getElem?_map, hx]; rfl)⟩

set_option maxRecDepth 100000 in
theorem same_c (w : World) (v1 v2 : Value) (f1 f2 : Option Nat) (l : List ByteArray) (h1 : SliceAt w v1 f1 (strVals l)) (h2 : SliceAt w v2 f2 (strVals l)) (hl : l.length ≤ 8796093022208) :
    Calls Tryz.prog 16 #[v1, v2] w fun e w' => e = .returned (.bool true) ∧ Fr [] w w' := by
  obtain ⟨a1, c1, rfl⟩ := slice_lit_shape h1
  obtain ⟨a2, c2, rfl⟩ := slice_lit_shape h2
  have H1 := Lib.hid h1
  have H2 := Lib.hid h2
  clear h1 h2
  go_enter Tryz.func16, Tryz.ntmps16
  go_wp2
  go_loopw [5] (fun i wr => ∃ k : Nat, k ≤ l.length ∧ i = .int .i64 (k : Int) ∧ Hid (Fr [] w wr)) (fun i _ => l.length - (intOf i).toNat)
  case atStart => exact ⟨0, Nat.zero_le _, rfl, Lib.hid (Fr.refl _ _)⟩
  case round =>
    obtain ⟨k, hk, rfl, hF⟩ := hrel
    by_cases hlt : k < l.length
    · obtain ⟨x, hx⟩ : ∃ x, l[k]? = some x := ⟨_, List.getElem?_eq_getElem hlt⟩
      obtain ⟨b1, o1, rfl, hc1⟩ := slice_cell (H1.out.fr hF.out (by simp)) k hlt x hx
      obtain ⟨b2, o2, rfl, hc2⟩ := slice_cell (H2.out.fr hF.out (by simp)) k hlt x hx
      clear hx
      go_wp2
      go_quiet (fail)
      go_wp2
      go_roundw
      case rel => exact ⟨k + 1, by omega, by go_num, Lib.hid (hF.out.drewN _)⟩
      case measure => simp [intOf]; omega
    · obtain rfl : k = l.length := by omega
      go_wp2
      go_ret
      exact ⟨rfl, hF.out⟩

theorem dev_append {w w' : World} {bl bd bo bm sz : Nat} {g : Lg} {v : Value} {d : Dv} (h : LogAt w bl bd bo bm sz g v) (hD : DevAt w bd bo bm d) (hF : Fr (bl :: v.ownBlock.toList) w w') : DevAt w' bd bo bm d := by
  have key : ∀ x, x < bl → x ∉ bl :: v.ownBlock.toList := by
    intro x hx hm
    rcases List.mem_cons.1 hm with e | e
    · omega
    · cases ho : v.ownBlock with
      | none => rw [ho] at e; simp at e
      | some b =>
        rw [ho] at e
        have hb : x = b := by simpa using e
        have := (own_base h.own b ho).1
        omega
  exact hD.fr hF (key _ h.n1) (key _ h.n2) (key _ h.n3)

theorem fr_append {w0 w w' : World} {bl bd bo bm sz : Nat} {g : Lg} {v : Value} (h0 : Fr [] w0 w) (hb : w0.heap.size ≤ bl) (h : LogAt w bl bd bo bm sz g v) (hF : Fr (bl :: v.ownBlock.toList) w w') : Fr [] w0 w' :=
  h0.then hF (fun x hx => by
    right
    rcases List.mem_cons.1 hx with e | e
    · omega
    · cases ho : v.ownBlock with
      | none => rw [ho] at e; simp at e
      | some b =>
        rw [ho] at e
        have hb : x = b := by simpa using e
        have := (own_base h.own b ho).1
        omega)

theorem fr_four {w0 w w' : World} {bl bd bo bm : Nat} (h0 : Fr [] w0 w) (h1 : w0.heap.size ≤ bd) (h2 : w0.heap.size ≤ bo) (h3 : w0.heap.size ≤ bm) (h4 : w0.heap.size ≤ bl) (hF : Fr [bd, bo, bm, bl] w w') : Fr [] w0 w' :=
  h0.then hF (fun x hx => by simp at hx; omega)
theorem fr_three {w0 w w' : World} {bd bo bm : Nat} (h0 : Fr [] w0 w) (h1 : w0.heap.size ≤ bd) (h2 : w0.heap.size ≤ bo) (h3 : w0.heap.size ≤ bm) (hF : Fr [bd, bo, bm] w w') : Fr [] w0 w' :=
  h0.then hF (fun x hx => by simp at hx; omega)

theorem textA : (⟨#[97]⟩ : ByteArray).size = 1 := rfl
theorem textB : (⟨#[98]⟩ : ByteArray).size = 1 := rfl

theorem append_small (g : Lg) (size : Nat) (t : ByteArray) (h1 : t.size = 1) (h2 : (g.bytes.length : Int) + g.waits.length + 7 ≤ size) : g.append size t = ({ g with texts := g.texts ++ [t] }, 0) := by
  unfold Lg.append Lg.room
  rw [if_neg (by omega), if_neg (by omega)]

set_option maxHeartbeats 8000000 in
set_option maxRecDepth 100000 in
theorem works_c (w : World) : Calls Tryz.prog 6 #[] w fun e w' => e = .returned (.bool true) ∧ Fr [] w w' := by
  obtain ⟨d1, o1, c1, y1, t0, t1⟩ := openLog_fresh 20 (by omega) (by omega)
  have hsm : ∀ t ∈ [(⟨#[97]⟩ : ByteArray)], t.size ≤ 4096 := by intro t ht; simp at ht; subst ht; decide
  have hfl : (framesL [(⟨#[97]⟩ : ByteArray)]).length = 7 := by rw [framesL_one]; rfl
  obtain ⟨d2, s2, c2, y2, o2⟩ := sync_second c1 (by omega) (by omega) t1 [⟨#[97]⟩] hsm (by rw [hfl]; decide) (by decide)
  have ap1 : Lg.append ⟨1, 0, [], [], 0⟩ (64 * 9) ⟨#[97]⟩ = (⟨1, 0, [], [⟨#[97]⟩], 0⟩, 0) := append_small _ _ _ rfl (by simp [Lg.waits, framesL])
  have ap2 : Lg.append ⟨2, 0, framesL [⟨#[97]⟩], [⟨#[97]⟩], 1⟩ (64 * 9) ⟨#[98]⟩ = (⟨2, 0, framesL [⟨#[97]⟩], [⟨#[97]⟩, ⟨#[98]⟩], 1⟩, 0) := append_small _ _ _ rfl (by
    have e : (Lg.waits ⟨2, 0, framesL [⟨#[97]⟩], [⟨#[97]⟩], 1⟩) = [] := rfl
    rw [e]; show ((framesL [⟨#[97]⟩]).length : Int) + _ + 7 ≤ _; rw [hfl]; decide)
  have hnew := new_c 20 w (by omega) (by omega)
  have HL1 := Lib.hid o1
  have HS2 := Lib.hid s2
  have HO2 := Lib.hid o2
  have HA1 := Lib.hid ap1
  have HA2 := Lib.hid ap2
  have HC1 := Lib.hid c1
  have HC2 := Lib.hid c2
  clear o1 s2 o2 ap1 ap2 hsm hfl c1 c2 t0 t1 y1 y2
  have hn20 : ((20 : Nat) : Int) = 20 := rfl
  rw [hn20] at hnew
  go_enter Tryz.func6, Tryz.ntmps6
  go_wp2_with (first
    | (go_at_call 4; refine hnew.mono ?_; clear hnew; rintro e wa ⟨bd, bo, bm, rfl, hD0, hF0, hb1, hb2, hb3⟩; have HOP := Lib.hid (open_c hD0); rw [HL1.out] at HOP; clear hD0)
    | (go_at_call 11; refine HOP.out.mono ?_; clear HOP; rintro e wb ⟨hD1, hF1, -, hs⟩; obtain ⟨bl, v1, rfl, hbl, hg1⟩ := hs _ rfl; clear hs
       have hg1 : LogAt wb bl bd bo bm 9 ⟨1, 0, [], [], 0⟩ v1 := hg1
       have hFb := fr_three hF0 hb1 hb2 hb3 hF1
       have hbl0 : w.heap.size ≤ bl := Nat.le_trans hF0.size hbl
       have hap := append_c hg1 ⟨#[97]⟩ (by decide)
       rw [HA1.out] at hap
       have HAP1 := Lib.hid hap
       have HG1 := Lib.hid hg1
       have HD1 := Lib.hid hD1
       clear hg1 hD1 hap)
    | (go_at_call 12; refine HAP1.out.mono ?_; clear HAP1; rintro e wc ⟨v2, rfl, hg2, -, hF2⟩
       have hD2 := dev_append HG1.out HD1.out hF2
       have hFc := fr_append hFb hbl0 HG1.out hF2
       have hsy := sync_c hg2 hD2 (by rw [HC1.out.len]) (by decide)
       rw [HS2.out] at hsy
       have HSY := Lib.hid hsy
       clear hsy hg2 hD2)
    | (go_at_call 13; refine HSY.out.mono ?_; clear HSY; rintro e wd ⟨rfl, hg3, hD3, hF3⟩
       have hFd := fr_four hFc hb1 hb2 hb3 hbl0 hF3
       have hg3 : LogAt wd bl bd bo bm 9 ⟨2, 0, framesL [⟨#[97]⟩], [⟨#[97]⟩], 1⟩ v2 := hg3
       have hap := append_c hg3 ⟨#[98]⟩ (by decide)
       rw [HA2.out] at hap
       have HAP2 := Lib.hid hap
       have HG3 := Lib.hid hg3
       have HD3 := Lib.hid hD3
       clear hg3 hD3 hap)
    | (go_at_call 12; refine HAP2.out.mono ?_; clear HAP2; rintro e we ⟨v4, rfl, hg4, -, hF4⟩
       have HD4 := Lib.hid (dev_append HG3.out HD3.out hF4)
       have hFe := fr_append hFd hbl0 HG3.out hF4
       have HSC := Lib.hid (synced_c hg4.blk)
       clear hg4)
    | (go_at_call 14; refine HSC.out.mono ?_; rintro e wf ⟨rfl, rfl⟩)
    | (go_at_call 15; refine (crash_c HD4.out (pv := .slice none 0 0) (pfp := none) (ps := []) (Or.inl ⟨rfl, rfl, _, _, rfl⟩) (by simp) (by simp) (by simp)).mono ?_; rintro e wg ⟨rfl, hD5, hF5⟩
       have hFg := fr_three hFe hb1 hb2 hb3 hF5
       have hop := open_c hD5
       rw [HO2.out] at hop
       have HOP2 := Lib.hid hop
       clear hop hD5)
    | (go_at_call 11; refine HOP2.out.mono ?_; rintro e wh ⟨hD6, hF6, -, hs⟩; obtain ⟨bl2, v6, rfl, hbl2, hg6⟩ := hs _ rfl; clear hs
       have hFh := fr_three hFg hb1 hb2 hb3 hF6
       have HTX := Lib.hid (texts_c hg6)
       clear hg6 hD6)
    | (go_at_call 17; refine HTX.out.mono ?_; rintro e wi ⟨v7, rfl, ho7, hF7⟩
       have hFi := hFh.trans hF7
       obtain ⟨fp7, hsl7⟩ := own_slice ho7
       have HSL := Lib.hid hsl7
       clear hsl7 ho7)
    | (go_at_call 16; refine (same_c _ _ _ fp7 (some wi.heap.size) [⟨#[97]⟩] (HSL.out.fr ((Fr.refl [] _).alloc _) (by simp)) (slice_lit wi [.string ⟨#[97]⟩] 9 1 rfl) (by decide)).mono ?_; rintro e wj ⟨rfl, hFj⟩))
  go_ret
  exact ⟨rfl, (hFi.alloc _).trans hFj⟩

end Go.Proofs.YtiojkakmlbfiiaaGreat
