/- A log on a new device, restarted or synced, is opened again: plain laws. -/
import Derived.Test.YtiojkakmlbfiiaaPl1
namespace Go.Proofs.Ytiojkakmlbfiiaa
open Go.RowKit
open Sp
namespace Sp

theorem Dv.make_calm (n : Nat) (h1 : 4 ≤ n) (h2 : n ≤ 2048) : (Dv.make n).Calm n :=
  ⟨Dv.wf_make n (by omega) h2, by simp [Dv.make], rfl, rfl⟩

theorem Dv.make_text (n i : Nat) (h : i < n) : (Dv.make n).text i = zeros := by
  unfold Dv.text Dv.make
  simp [List.getD_eq_getElem?_getD, List.getElem?_replicate, h]

theorem Dv.Calm.read {d : Dv} {n : Nat} (h : d.Calm n) (i : Nat) (hi : i < n) : d.read (i : Int) = (d.text i, 0) := read_ok h.down i (by rw [h.len]; exact hi)

theorem openLog_fresh (n : Nat) (h1 : 4 ≤ n) (h2 : n ≤ 2048) :
    ∃ d1, openLog (Dv.make n) = (d1, some ⟨1, 0, [], [], 0⟩, 0) ∧ d1.Calm n ∧ d1.Dry ∧ d1.text 0 = zeros ∧ d1.text 1 = headText 1 0 0 := by
  have hc := Dv.make_calm n h1 h2
  obtain ⟨d1, e1, c1, y1, t1⟩ := hc.wflush 1 (by omega) (headText 1 0 0) (headText_size _ _ _)
  have h0 : d1.text 0 = zeros := by rw [t1 0 (by omega), if_neg (by omega), Dv.make_text n 0 (by omega)]
  refine ⟨d1, ?_, c1, y1, h0, by rw [t1 1 (by omega), if_pos rfl]⟩
  have hb : (Dv.make n).best = none := by
    unfold Dv.best Dv.head
    rw [Dv.make_text n 0 (by omega), Dv.make_text n 1 (by omega), parse_zeros]
  have hbn : d1.bareNext 1 = (d1, 0) := by
    unfold Dv.bareNext
    simp only
    rw [c1.read 0 (by omega) |> fun h => (show d1.read ((((1 + 1) % 2 : Nat)) : Int) = (d1.text 0, 0) from h), h0]
    simp
  unfold openLog
  rw [if_neg (by rw [hc.len]; omega), if_neg (by rw [hc.down]; simp), hb]
  simp only [e1, if_true, hbn]

/-- A device whose head 0 is of count 2 and whose head 1 is of count 1. -/
theorem openLog_second {d : Dv} {n : Nat} (h : d.Calm n) (h1 : 4 ≤ n) (h2 : n ≤ 2048) (area : Nat) (ha : area ≤ 1) (l : List ByteArray) (hl : ∀ t ∈ l, t.size ≤ 4096) (hr : (framesL l).length ≤ 64 * ((n - 2) / 2))
    (t0 : d.text 0 = headText 2 area (framesL l).length) (t1 : d.text 1 = headText 1 0 0) (hst : d.stored area (framesL l).length = framesL l) :
    openLog d = (d, some ⟨2, area, framesL l, l, l.length⟩, 0) := by
  have har : areaOf d.on.length = 64 * ((n - 2) / 2) := by rw [areaOf, h.len]
  have e0 : d.head 0 = some (2, area, (framesL l).length) := by
    unfold Dv.head; rw [t0, har]; exact parse_head _ _ _ _ (by omega) (by omega) ha hr (by omega)
  have e1 : d.head 1 = some (1, 0, 0) := by
    unfold Dv.head; rw [t1, har]; exact parse_head _ _ _ _ (by omega) (by omega) (by omega) (by omega) (by omega)
  have hb : d.best = some (2, area, (framesL l).length) := by
    unfold Dv.best; rw [e0, e1]; simp
  have hbn : d.bareNext 2 = (d, 0) := by
    unfold Dv.bareNext
    simp only
    rw [(show d.read ((((2 + 1) % 2 : Nat)) : Int) = (d.text 1, 0) from h.read 1 (by omega))]
    have : (parseHead (areaOf d.on.length) (d.text 1)).isSome = true := by
      have := e1; unfold Dv.head at this; rw [this]; rfl
    simp only [this, if_true]
    split <;> rfl
  unfold openLog
  rw [if_neg (by rw [h.len]; omega), if_neg (by rw [h.down]; simp), hb]
  simp only [hst, allL_of_frames l hl, hbn, if_true]

theorem restart_second {d : Dv} {n : Nat} (h : d.Calm n) (h1 : 4 ≤ n) (h2 : n ≤ 2048) (t1 : d.text 1 = headText 1 0 0) (l : List ByteArray) (hl : ∀ t ∈ l, t.size ≤ 4096) (hr : (framesL l).length ≤ 64 * ((n - 2) / 2)) :
    ∃ d2, (Lg.restart ⟨1, 0, [], l, 0⟩ d l) = (⟨2, 1, framesL l, l, l.length⟩, d2, 0) ∧ d2.Calm n ∧ d2.Dry ∧ ∀ ps, openLog (d2.crash ps) = (d2, some ⟨2, 1, framesL l, l, l.length⟩, 0) := by
  obtain ⟨d2, e2, c2, y2, s2, x2⟩ := h.settle0 h1 1 1 (by omega) (framesL l) hr
  refine ⟨d2, ?_, c2, y2, fun ps => ?_⟩
  · unfold Lg.restart
    rw [if_neg (by
      intro e
      obtain ⟨x, hx, h⟩ := List.any_eq_true.1 e
      have := hl x hx
      simp at h; omega), if_neg (by rw [areaOf, h.len]; omega)]
    simp only [Nat.sub_zero, e2, if_true]
  · rw [c2.crash y2]
    refine openLog_second c2 h1 h2 1 (by omega) l hl hr ?_ ?_ s2
    · rw [x2 0 (by omega)]; simp
    · rw [x2 1 (by omega)]; simp [t1]

theorem sync_second {d : Dv} {n : Nat} (h : d.Calm n) (h1 : 4 ≤ n) (h2 : n ≤ 2048) (t1 : d.text 1 = headText 1 0 0) (l : List ByteArray) (hl : ∀ t ∈ l, t.size ≤ 4096) (hr : (framesL l).length ≤ 64 * ((n - 2) / 2)) (hne : 0 < l.length) :
    ∃ d2, (Lg.sync ⟨1, 0, [], l, 0⟩ d) = (⟨2, 0, framesL l, l, l.length⟩, d2, 0) ∧ d2.Calm n ∧ d2.Dry ∧ ∀ ps, openLog (d2.crash ps) = (d2, some ⟨2, 0, framesL l, l, l.length⟩, 0) := by
  obtain ⟨d2, e2, c2, y2, s2, x2⟩ := h.settle0 h1 0 1 (by omega) (framesL l) hr
  refine ⟨d2, ?_, c2, y2, fun ps => ?_⟩
  · unfold Lg.sync Lg.waits Lg.tail
    simp only [List.drop_zero, List.length_nil, Nat.zero_div, Nat.mul_zero, List.nil_append]
    rw [if_neg (by omega), e2]
    simp
  · rw [c2.crash y2]
    refine openLog_second c2 h1 h2 0 (by omega) l hl hr ?_ ?_ s2
    · rw [x2 0 (by omega)]; simp
    · rw [x2 1 (by omega)]; simp [t1]

end Sp
end Go.Proofs.Ytiojkakmlbfiiaa
