/- What a log on a device whose fuse is out does: plain laws, no program in sight. -/
import Derived.Test.YtiojkakmlbfiiaaRw12
namespace Go.Proofs.Ytiojkakmlbfiiaa
open Go.RowKit
open Sp
namespace Sp

/-! Numbers as bytes. -/
theorem be_succ (k n : Nat) : be (k + 1) n = be k (n / 256) ++ [UInt8.ofNat n] := by
  show (le (k + 1) n).reverse = _
  simp only [le, List.reverse_cons]
  rfl

theorem num_be : ∀ (k n : Nat), n < 256 ^ k → n < 9223372036854775808 → num (be k n) = (n : Int)
  | 0, n, h, _ => by simp at h; subst h; rfl
  | k + 1, n, h, h2 => by
    rw [be_succ, num_snoc, num_be k (n / 256) (by rw [Nat.pow_succ] at h; omega) (by omega)]
    have : ((UInt8.ofNat n).toNat : Int) = ((n % 256 : Nat) : Int) := by simp
    rw [this]
    unfold RowKit.wrap64
    omega

theorem be_len (k n : Nat) : (be k n).length = k := by simp [be, le_len]

theorem headPart_parts (c a l : Nat) : headPart c a l = [82, 69, 68, 79] ++ (be 8 c ++ ([UInt8.ofNat a] ++ be 8 l)) := by simp [headPart]

theorem parse_head (size c a l : Nat) (h1 : 1 ≤ c) (h2 : c ≤ 4611686018427387904) (h3 : a ≤ 1) (h4 : l ≤ size) (h5 : l < 9223372036854775808) : parseHead size (headText c a l) = some (c, a, l) := by
  have hd : (headText c a l).data.toList = [82, 69, 68, 79] ++ (be 8 c ++ ([UInt8.ofNat a] ++ (be 8 l ++ (headPart c a l ++ headPart c a l ++ [0])))) := by
    rw [headText, str_data]
    conv => lhs; rw [show headPart c a l ++ headPart c a l ++ headPart c a l ++ [0] = headPart c a l ++ (headPart c a l ++ headPart c a l ++ [0]) by simp]
    rw [headPart_parts]; simp
  generalize headPart c a l ++ headPart c a l ++ [0] = rest at hd
  have e1 : ((headText c a l).data.toList.drop 4).take 8 = be 8 c := by
    rw [hd, List.drop_append_of_le_length (by simp)]
    simp only [List.drop_succ_cons, List.drop_zero, List.nil_append]
    rw [List.take_append_of_le_length (by rw [be_len]; omega), List.take_of_length_le (by rw [be_len]; omega)]
  have e2 : (headText c a l).data.toList.getD 12 0 = UInt8.ofNat a := by
    rw [hd, List.getD_eq_getElem?_getD, List.getElem?_append_right (by simp), List.getElem?_append_right (by simp [be_len])]
    simp [be_len]
  have e3 : ((headText c a l).data.toList.drop 13).take 8 = be 8 l := by
    rw [hd, ← List.append_assoc, ← List.append_assoc, List.drop_append_of_le_length (by simp [be_len])]
    rw [show List.drop 13 ([82, 69, 68, 79] ++ be 8 c ++ [UInt8.ofNat a]) = [] from List.drop_eq_nil_of_le (by simp [be_len])]
    rw [List.nil_append, List.take_append_of_le_length (by rw [be_len]; omega), List.take_of_length_le (by rw [be_len]; omega)]
  unfold parseHead
  simp only [e1, e2, e3]
  rw [num_be 8 c (by have : (256 : Nat) ^ 8 = 18446744073709551616 := rfl; omega) (by omega), num_be 8 l (by have : (256 : Nat) ^ 8 = 18446744073709551616 := rfl; omega) (by omega)]
  have ha : (UInt8.ofNat a).toNat = a := by simp; omega
  rw [ha, if_neg (by omega)]
  simp

theorem parse_zeros (size : Nat) : parseHead size zeros = none := by
  unfold parseHead
  rw [show num ((zeros.data.toList.drop 4).take 8) = 0 by show num (((List.replicate 64 (0 : UInt8)).drop 4).take 8) = 0; simp [num, RowKit.wrap64, List.replicate]]
  simp

/-! Frames. -/
theorem le2 (n : Nat) : le 2 n = [UInt8.ofNat n, UInt8.ofNat (n / 256)] := rfl

theorem nextL_of_frame (t rest : List UInt8) (h : t.length ≤ 4096) : nextL (frameL t ++ rest) = (0, t) := by
  have hl := frameL_len t
  have hf : frameL t ++ rest = UInt8.ofNat t.length :: UInt8.ofNat (t.length / 256) :: (t ++ (le 4 (crc (le 2 t.length ++ t)) ++ rest)) := by
    unfold frameL; rw [le2]; simp
  have hn : ((frameL t ++ rest).getD 0 0).toNat + 256 * ((frameL t ++ rest).getD 1 0).toNat = t.length := by
    rw [hf]
    simp only [List.getD_cons_zero, List.getD_cons_succ, UInt8.toNat_ofNat']
    omega
  have hd : ((frameL t ++ rest).drop 2).take t.length = t := by
    rw [hf]
    simp only [List.drop_succ_cons, List.drop_zero]
    rw [List.take_append_of_le_length (Nat.le_refl _), List.take_length]
  have ht : (frameL t ++ rest).take (t.length + 6) = frameL t := by
    rw [List.take_append_of_le_length (by omega), List.take_of_length_le (by omega)]
  unfold nextL
  rw [if_neg (by rw [List.length_append, hl]; omega)]
  simp only [hn, hd, ht]
  rw [if_neg (by omega), if_neg (by rw [List.length_append, hl]; omega)]
  simp

theorem allL_of_frames : ∀ (l : List ByteArray), (∀ t ∈ l, t.size ≤ 4096) → allL (framesL l) = some l
  | [], _ => rfl
  | x :: xs, h => by
    have hx : x.data.toList.length ≤ 4096 := h x (by simp)
    have hne : framesL (x :: xs) ≠ [] := by
      intro e
      have := congrArg List.length e
      rw [framesL_cons, List.length_append, frameL_len] at this; simp at this
    rw [allL_step _ hne, framesL_cons, nextL_of_frame _ _ hx]
    simp only [if_true]
    rw [show x.data.toList.length + 6 = (frameL x.data.toList).length from (frameL_len _).symm, List.drop_left, allL_of_frames xs (fun t ht => h t (by simp [ht]))]
    simp [str_of]

/-! A device whose fuse is out. -/
structure Dv.Calm (d : Dv) (n : Nat) : Prop where
  wf : d.Wf
  len : d.on.length = n
  down : d.down = false
  left : d.left = 0

theorem Dv.Calm.burn {d : Dv} {n : Nat} (h : d.Calm n) : d.burn = d := by unfold Dv.burn; rw [if_neg (by rw [h.left]; omega)]

theorem Dv.Calm.wrong {d : Dv} {n : Nat} (h : d.Calm n) (i : Nat) (hi : i < n) : d.wrong (i : Int) = 0 := by
  unfold Dv.wrong; rw [if_neg (by rw [h.down]; simp), if_neg (by rw [h.len]; omega)]

theorem Dv.Calm.write {d : Dv} {n : Nat} (h : d.Calm n) (i : Nat) (hi : i < n) (s : ByteArray) (hs : s.size = 64) : d.write (i : Int) s = (d.put i s, 0) := by
  unfold Dv.write
  rw [if_pos (h.wrong i hi), if_pos hs, h.burn, if_neg (by rw [h.down]; simp)]
  rfl

theorem Dv.Calm.put {d : Dv} {n : Nat} (h : d.Calm n) (i : Nat) (s : ByteArray) (hs : s.size = 64) : (d.put i s).Calm n := ⟨h.wf.put i s hs, h.len, h.down, h.left⟩

theorem Dv.put_text (d : Dv) (n : Nat) (h : d.Calm n) (i j : Nat) (hi : i < n) (s : ByteArray) : (d.put i s).text j = if j = i then s else d.text j := by
  unfold Dv.text Dv.put
  simp only
  by_cases hj : j = i
  · subst hj
    rw [if_pos rfl, List.getD_eq_getElem?_getD, List.getElem?_set_self (by rw [h.wf.len, h.len]; exact hi)]; rfl
  · rw [if_neg hj, List.getD_eq_getElem?_getD, List.getElem?_set_ne (Ne.symm hj), ← List.getD_eq_getElem?_getD]

def Dv.Dry (d : Dv) : Prop := ∀ x ∈ d.nw, x = none

theorem Dv.Calm.flush {d : Dv} {n : Nat} (h : d.Calm n) : d.flush = (d.clean, 0) ∧ d.clean.Calm n ∧ d.clean.Dry ∧ ∀ i, i < n → d.clean.text i = d.text i := by
  refine ⟨?_, ⟨h.wf.clean, ?_, h.down, h.left⟩, ?_, ?_⟩
  · unfold Dv.flush
    rw [if_neg (by rw [h.down]; simp), h.burn, if_neg (by rw [h.down]; simp)]
  · show (over d.on d.nw).length = n
    rw [over_len _ _ h.wf.len, h.len]
  · intro x hx
    exact List.eq_of_mem_replicate hx
  · intro i hi
    unfold Dv.text Dv.clean
    simp only
    have h1 : i < d.on.length := by rw [h.len]; exact hi
    have h2 : i < d.nw.length := by rw [h.wf.len]; exact h1
    rw [List.getD_eq_getElem?_getD, List.getElem?_replicate, if_pos h2]
    simp only [Option.getD_some, Option.getD_none]
    unfold over
    rw [List.getD_eq_getElem?_getD, List.getElem?_zipWith, List.getElem?_eq_getElem h1, List.getElem?_eq_getElem h2]
    simp only [Option.getD_some]
    rw [List.getD_eq_getElem?_getD, List.getElem?_eq_getElem h2, List.getD_eq_getElem?_getD, List.getElem?_eq_getElem h1]
    rfl

theorem tear_dry : ∀ (a : List ByteArray) (b : List (Option ByteArray)) (ps : List Int), (∀ x ∈ b, x = none) → tear a b ps = a
  | [], _, _, _ => by simp [tear]
  | _ :: _, [], _, _ => by simp [tear]
  | o :: os, none :: ns, ps, h => by simp only [tear]; rw [tear_dry os ns ps (fun x hx => h x (by simp [hx]))]
  | o :: os, some s :: ns, ps, h => by have := h (some s) (by simp); cases this

theorem Dv.Calm.crash {d : Dv} {n : Nat} (h : d.Calm n) (hd : d.Dry) (ps : List Int) : d.crash ps = d := by
  unfold Dv.crash
  rw [tear_dry _ _ _ hd]
  have e : List.replicate d.nw.length none = d.nw := by
    apply List.ext_getElem (by simp)
    intro i h1 h2
    rw [List.getElem_replicate]
    exact (hd _ (List.getElem_mem h2)).symm
  rw [e]
  have h1 := h.down
  have h2 := h.left
  cases d
  simp only at h1 h2 ⊢
  rw [h1, h2]

theorem Dv.Calm.wflush {d : Dv} {n : Nat} (h : d.Calm n) (i : Nat) (hi : i < n) (s : ByteArray) (hs : s.size = 64) :
    ∃ d', d.wflush i s = (d', 0) ∧ d'.Calm n ∧ d'.Dry ∧ ∀ j, j < n → d'.text j = if j = i then s else d.text j := by
  obtain ⟨h1, h2, h3, h4⟩ := (h.put i s hs).flush
  refine ⟨(d.put i s).clean, ?_, h2, h3, fun j hj => ?_⟩
  · unfold Dv.wflush
    rw [h.write i hi s hs]
    simp only [if_true]
    exact h1
  · rw [h4 j hj, Dv.put_text d n h i j hi s]

theorem Dv.Calm.writes {n : Nat} : ∀ (l : List ByteArray) (d : Dv) (i : Nat), d.Calm n → i + l.length ≤ n → (∀ s ∈ l, s.size = 64) →
    ∃ d', d.writes i l = (d', 0) ∧ d'.Calm n ∧ ∀ j, j < n → d'.text j = if i ≤ j ∧ j < i + l.length then l.getD (j - i) ByteArray.empty else d.text j
  | [], d, i, h, _, _ => ⟨d, rfl, h, fun j _ => by rw [if_neg (by simp; try omega)]⟩
  | s :: l, d, i, h, hl, hs => by
    have hi : i < n := by simp at hl; omega
    have hs64 := hs s (by simp)
    obtain ⟨d', h1, h2, h3⟩ := Dv.Calm.writes l (d.put i s) (i + 1) (h.put i s hs64) (by simp at hl; omega) (fun x hx => hs x (by simp [hx]))
    refine ⟨d', ?_, h2, fun j hj => ?_⟩
    · simp only [Dv.writes]
      rw [h.write i hi s hs64]
      simp only [if_true]
      exact h1
    · rw [h3 j hj, Dv.put_text d n h i j hi s]
      simp only [List.length_cons]
      by_cases hji : j = i
      · subst hji
        rw [if_neg (by omega), if_pos rfl, if_pos (by omega), Nat.sub_self]; rfl
      · rw [if_neg hji]
        by_cases hin : i + 1 ≤ j ∧ j < i + 1 + l.length
        · rw [if_pos hin, if_pos (by omega), show j - i = (j - (i + 1)) + 1 by omega, List.getD_cons_succ]
        · rw [if_neg hin, if_neg (by omega)]

theorem padTo_size (l : List UInt8) (h : l.length ≤ 64) : (str (padTo l)).size = 64 := by
  rw [str_size, padTo, List.length_append, List.length_replicate]; omega

theorem chunks_size : ∀ (n : Nat) (l : List UInt8), ∀ s ∈ chunks n l, s.size = 64
  | 0, _, s, h => by simp [chunks] at h
  | n + 1, l, s, h => by
    unfold chunks at h
    split at h
    · simp at h
    · rcases List.mem_cons.1 h with rfl | h
      · exact padTo_size _ (by rw [List.length_take]; omega)
      · exact chunks_size n _ s h

theorem chunks_len : ∀ (n : Nat) (l : List UInt8), l.length ≤ n → (chunks n l).length = (l.length + 63) / 64
  | 0, l, h => by simp at h; subst h; rfl
  | n + 1, l, h => by
    unfold chunks
    by_cases hl : l = []
    · subst hl; rfl
    · rw [if_neg hl, List.length_cons, chunks_len n (l.drop 64) (by rw [List.length_drop]; have : l.length ≠ 0 := fun e => hl (List.eq_nil_of_length_eq_zero e); omega), List.length_drop]
      have : l.length ≠ 0 := fun e => hl (List.eq_nil_of_length_eq_zero e)
      omega

theorem chunks_cat : ∀ (n : Nat) (l : List UInt8), l.length ≤ n → ((chunks n l).flatMap fun s => s.data.toList).take l.length = l
  | 0, l, h => by simp at h; subst h; rfl
  | n + 1, l, h => by
    unfold chunks
    by_cases hl : l = []
    · subst hl; rfl
    · rw [if_neg hl, List.flatMap_cons, str_data]
      have h0 : l.length ≠ 0 := fun e => hl (List.eq_nil_of_length_eq_zero e)
      by_cases h64 : 64 ≤ l.length
      · have e : padTo (l.take 64) = l.take 64 := by
          unfold padTo
          rw [List.length_take, Nat.min_eq_left h64]; simp
        rw [e]
        have ih := chunks_cat n (l.drop 64) (by rw [List.length_drop]; omega)
        rw [List.length_drop] at ih
        have hl64 : (l.take 64).length = 64 := by rw [List.length_take]; omega
        rw [List.take_append, hl64, List.take_of_length_le (by omega), ih, List.take_append_drop]
      · have e : l.take 64 = l := List.take_of_length_le (by omega)
        rw [e, padTo, List.append_assoc, List.take_append_of_le_length (Nat.le_refl _), List.take_length]

theorem headText_size (c a l : Nat) : (headText c a l).size = 64 := by
  rw [headText, str_size]; simp [headPart, be, le_len]

/-- What is settled from an area's begin on. -/
theorem Dv.Calm.settle0 {d : Dv} {n : Nat} (h : d.Calm n) (hn : 4 ≤ n) (area count : Nat) (ha : area ≤ 1) (more : List UInt8) (hm : more.length ≤ 64 * ((n - 2) / 2)) :
    ∃ d', d.settle area 0 count [] more = (d', 0) ∧ d'.Calm n ∧ d'.Dry ∧ d'.stored area more.length = more ∧
      ∀ j, j < 2 → d'.text j = if j = (count + 1) % 2 then headText (count + 1) area more.length else d.text j := by
  have hfit : 2 + area * ((n - 2) / 2) + (n - 2) / 2 ≤ n := by rcases (show area = 0 ∨ area = 1 by omega) with rfl | rfl <;> omega
  have key : ∃ d1, (if more = [] then (d, 0) else (let w := d.writes (2 + area * ((d.on.length - 2) / 2) + 0 / 64) (chunks (([] : List UInt8) ++ more).length ([] ++ more)); if w.2 = 0 then w.1.flush else w)) = (d1, 0) ∧ d1.Calm n ∧
      (∀ j, j < n → d1.text j = if 2 + area * ((n - 2) / 2) ≤ j ∧ j < 2 + area * ((n - 2) / 2) + (chunks more.length more).length then (chunks more.length more).getD (j - (2 + area * ((n - 2) / 2))) ByteArray.empty else d.text j) := by
    by_cases hme : more = []
    · subst hme
      refine ⟨d, rfl, h, fun j _ => ?_⟩
      rw [if_neg (by simp [chunks]; try omega)]
    · rw [if_neg hme, List.nil_append, h.len, Nat.zero_div, Nat.add_zero]
      obtain ⟨d', h1, h2, h3⟩ := Dv.Calm.writes (chunks more.length more) d (2 + area * ((n - 2) / 2)) h (by rw [chunks_len _ _ (Nat.le_refl _)]; omega) (chunks_size _ _)
      obtain ⟨f1, f2, _, f4⟩ := h2.flush
      refine ⟨d'.clean, ?_, f2, fun j hj => by rw [f4 j hj, h3 j hj]⟩
      simp only [h1, if_true]
      exact f1
  obtain ⟨d1, e1, h1, t1⟩ := key
  obtain ⟨d2, e2, h2, y2, t2⟩ := h1.wflush ((count + 1) % 2) (by omega) (headText (count + 1) area more.length) (headText_size _ _ _)
  refine ⟨d2, ?_, h2, y2, ?_, fun j hj => ?_⟩
  · unfold Dv.settle
    rw [e1]
    simp only [if_true, Nat.zero_add]
    exact e2
  · have hK := chunks_len more.length more (Nat.le_refl _)
    rw [Dv.stored_cat d2 area more.length (chunks more.length more).length (by omega) (by intro i hi; omega) (by rw [h2.len]; omega)]
    have ec : d2.cat (2 + area * ((d2.on.length - 2) / 2)) (chunks more.length more).length = (chunks more.length more).flatMap fun s => s.data.toList := by
      rw [h2.len]
      unfold Dv.cat
      have hmap : (List.range (chunks more.length more).length).map (fun i => d2.text (2 + area * ((n - 2) / 2) + i)) = chunks more.length more := by
        apply List.ext_getElem (by simp)
        intro i hi1 hi2
        rw [List.getElem_map, List.getElem_range]
        have hlt : 2 + area * ((n - 2) / 2) + i < n := by omega
        rw [t2 _ hlt, if_neg (by omega), t1 _ hlt, if_pos (by omega), show 2 + area * ((n - 2) / 2) + i - (2 + area * ((n - 2) / 2)) = i by omega, List.getD_eq_getElem?_getD, List.getElem?_eq_getElem hi2]
        rfl
      conv => rhs; rw [← hmap]
      rw [List.flatMap_map]
    rw [ec, chunks_cat _ _ (Nat.le_refl _)]
  · rw [t2 j (by omega)]
    split
    · rfl
    · rw [t1 j (by omega), if_neg (by omega)]

end Sp
end Go.Proofs.Ytiojkakmlbfiiaa
