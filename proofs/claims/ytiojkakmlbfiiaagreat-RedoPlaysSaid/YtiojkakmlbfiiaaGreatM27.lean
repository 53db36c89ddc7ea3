/- The law's own functions: what both logs are behind a call. -/
import Derived.Test.YtiojkakmlbfiiaaGreatM26
/- The law's own functions: what both logs are behind a call. -/
namespace Go.Proofs.YtiojkakmlbfiiaaGreat
open Go.RowKit
open Sp

def S1 (x : Bx) (bl : Nat) (v : Value) : List Nat := [x.bd, x.bo, x.bm, bl] ++ v.ownBlock.toList
def S2 (x : Bx) (rl : Nat) (rv : Value) : List Nat := [x.rd, x.ro, x.rn, rl] ++ rv.ownBlock.toList

theorem mem_S1 {x : Bx} {bl : Nat} {v : Value} {b : Nat} (h : b ∈ S1 x bl v) : b = x.bd ∨ b = x.bo ∨ b = x.bm ∨ b = bl ∨ v.ownBlock = some b := by
  unfold S1 at h
  rcases List.mem_append.1 h with h | h
  · simp at h; omega
  · cases ho : v.ownBlock with
    | none => rw [ho] at h; simp at h
    | some y => rw [ho] at h; have : b = y := by simpa using h
                subst this; simp
theorem mem_S2 {x : Bx} {rl : Nat} {rv : Value} {b : Nat} (h : b ∈ S2 x rl rv) : b = x.rd ∨ b = x.ro ∨ b = x.rn ∨ b = rl ∨ rv.ownBlock = some b := by
  unfold S2 at h
  rcases List.mem_append.1 h with h | h
  · simp at h; omega
  · cases ho : rv.ownBlock with
    | none => rw [ho] at h; simp at h
    | some y => rw [ho] at h; have : b = y := by simpa using h
                subst this; simp

section
variable {w0 w w1 w2 : World} {x : Bx} {n : Nat} {d d' : Dv} {g g' : Lg} {bl rl : Nat} {v rv v1 rv1 : Value}

/-- What is needed of the addresses, as inequalities. -/
structure Apart (w : World) (x : Bx) (bl : Nat) (v : Value) (rl : Nat) (rv : Value) : Prop where
  p1 : x.bb ∉ S1 x bl v
  p2 : x.bb ∉ S2 x rl rv
  p3 : ∀ b ∈ S1 x bl v, b ∉ S2 x rl rv
  p4 : ∀ b ∈ S1 x bl v, b < w.heap.size
  p5 : ∀ b ∈ S2 x rl rv, b < w.heap.size

set_option maxHeartbeats 4000000 in
theorem LogsAt.apart (hB : Base w0 w x n d) (h : LogsAt w x n g bl v rl rv) : Apart w x bl v rl rv := by
  have hv := own_base h.prog.own
  have hr := own_base h.ref.own
  have hl := hB.lt h.cells.lt
  have l1 := h.prog.blk.lt
  have l2 := h.ref.blk.lt
  have lows := h.low
  have e1 := hB.s1
  have e2 := hB.s2
  have e3 := hB.s3
  have e4 := hB.s4
  simp [Bx.S] at lows hl
  simp at e1 e2 e3 e4
  have a1 := h.a1
  refine ⟨fun hm => ?_, fun hm => ?_, fun b hb hm => ?_, fun b hb => ?_, fun b hb => ?_⟩
  · rcases mem_S1 hm with h | h | h | h | h
    · omega
    · omega
    · omega
    · omega
    · have := hv _ h; omega
  · rcases mem_S2 hm with h | h | h | h | h
    · omega
    · omega
    · omega
    · omega
    · have := hr _ h; omega
  · rcases mem_S1 hb with h1 | h1 | h1 | h1 | h1 <;> rcases mem_S2 hm with h2 | h2 | h2 | h2 | h2
    all_goals clear hl l1 l2
    all_goals first
      | exact h.a3 b h2 h1
      | exact h.a2 b h1 h2
      | exact h.a4 b h1 h2
      | (have := hr _ h2; clear hr hv hb hm; omega)
      | (have := hv _ h1; clear hr hv hb hm; omega)
      | (clear hr hv hb hm; omega)
  · rcases mem_S1 hb with h1 | h1 | h1 | h1 | h1
    · omega
    · omega
    · omega
    · omega
    · exact (hv _ h1).2
  · rcases mem_S2 hb with h1 | h1 | h1 | h1 | h1
    · omega
    · omega
    · omega
    · omega
    · exact (hr _ h1).2

theorem in1 (x : Bx) (bl : Nat) (v : Value) : x.bd ∈ S1 x bl v ∧ x.bo ∈ S1 x bl v ∧ x.bm ∈ S1 x bl v ∧ bl ∈ S1 x bl v ∧ ∀ b, v.ownBlock = some b → b ∈ S1 x bl v := by
  refine ⟨by simp [S1], by simp [S1], by simp [S1], by simp [S1], fun b hb => by simp [S1, hb]⟩
theorem in2 (x : Bx) (rl : Nat) (rv : Value) : x.rd ∈ S2 x rl rv ∧ x.ro ∈ S2 x rl rv ∧ x.rn ∈ S2 x rl rv ∧ rl ∈ S2 x rl rv ∧ ∀ b, rv.ownBlock = some b → b ∈ S2 x rl rv := by
  refine ⟨by simp [S2], by simp [S2], by simp [S2], by simp [S2], fun b hb => by simp [S2, hb]⟩

theorem Apart.not2 (h : Apart w x bl v rl rv) {b : Nat} (hb : b ∈ S2 x rl rv) : b ∉ S1 x bl v := fun hm => h.p3 b hm hb

/-- Between the two calls. -/
theorem logs_mid (hB : Base w0 w x n d) (h : LogsAt w x n g bl v rl rv) (F1 : Fr (S1 x bl v) w w1) :
    RLogAt w1 rl x.rd x.ro x.rn ((n - 2) / 2) g rv ∧ RefAt w1 x.rd x.ro x.rn x.co x.cn d ∧
    Blk w1 x.bb [.pointer (some ⟨x.bd, 0, none⟩), .pointer (some ⟨x.rd, 0, none⟩), .pointer (some ⟨bl, 0, none⟩), .pointer (some ⟨rl, 0, none⟩)] := by
  have ap := h.apart hB
  obtain ⟨i1, i2, i3, i4, i5⟩ := in2 x rl rv
  exact ⟨h.ref.fr F1 (ap.not2 i4) (fun b hb => ap.not2 (i5 b hb)), hB.ref.fr F1 (ap.not2 i1) (ap.not2 i2) (ap.not2 i3), h.cells.fr F1 ap.p1⟩

theorem both_two (hB : Base w0 w x n d) (h : LogsAt w x n g bl v rl rv) (p1 : LogAt w1 bl x.bd x.bo x.bm ((n - 2) / 2) g' v1) (m1 : Moved w v v1) (D1 : DevAt w1 x.bd x.bo x.bm d') (F1 : Fr (S1 x bl v) w w1)
    (p2 : RLogAt w2 rl x.rd x.ro x.rn ((n - 2) / 2) g' rv1) (m2 : Moved w1 rv rv1) (R2 : RefAt w2 x.rd x.ro x.rn x.co x.cn d') (F2 : Fr (S2 x rl rv) w1 w2) (hl : d'.on.length = n) :
    Base w0 w2 x n d' ∧ LogsAt w2 x n g' bl v1 rl rv1 := by
  have ap := h.apart hB
  obtain ⟨i1, i2, i3, i4, i5⟩ := in1 x bl v
  obtain ⟨j1, j2, j3, j4, j5⟩ := in2 x rl rv
  have hv1 := own_base p1.own
  have hr1 := own_base p2.own
  have hsz := F1.size
  have hold : ∀ b ∈ S1 x bl v, w0.heap.size ≤ b := by
    intro b hb
    have h0 := hB.old
    have h1 := own_base h.prog.own
    have h2 := (h.low x.bb (by simp [Bx.S])).1
    simp [Bx.S] at h0
    rcases mem_S1 hb with e | e | e | e | e
    · omega
    · omega
    · omega
    · omega
    · have := h1 b e; omega
  have hold2 : ∀ b ∈ S2 x rl rv, w0.heap.size ≤ b := by
    intro b hb
    have h0 := hB.old
    have h1 := own_base h.ref.own
    have h2 := (h.low x.bb (by simp [Bx.S])).2
    simp [Bx.S] at h0
    rcases mem_S2 hb with e | e | e | e | e
    · omega
    · omega
    · omega
    · omega
    · have := h1 b e; omega
  have hvo : ∀ b, v1.ownBlock = some b → b ∉ S2 x rl rv := by
    intro b hb hm
    rcases m1 with e | e
    · exact ap.p3 b (i5 b (by rw [← e]; exact hb)) hm
    · have := e b hb; have := ap.p5 b hm; omega
  refine ⟨⟨D1.fr F2 (ap.p3 _ i1) (ap.p3 _ i2) (ap.p3 _ i3), R2, (hB.fr.then F1 (fun b hb => Or.inr (hold b hb))).then F2 (fun b hb => Or.inr (hold2 b hb)), hB.old, hl, hB.s1, hB.s2, hB.s3, hB.s4⟩, ?_⟩
  refine ⟨(h.cells.fr F1 ap.p1).fr F2 ap.p2, p1.fr F2 (ap.p3 _ i4) hvo, p2, h.n4, h.low, h.a1, fun b hb e => hvo b hb (by rw [e]; exact j4), fun b hb e => ?_, fun b hb hb2 => ?_⟩
  · subst e
    rcases m2 with e | e
    · exact h.a3 b (by rw [← e]; exact hb) rfl
    · have := e b hb; have := ap.p4 b i4; omega
  · rcases m2 with e | e
    · exact hvo b hb (j5 b (by rw [← e]; exact hb2))
    · have := e b hb2; have := (hv1 b hb).2; omega
end

theorem BothAt.more {w0 w : World} {x : Bx} {n K K' : Nat} {d : Dv} {og : Option Lg} (h : BothAt w0 w x n K d og) (hK : K ≤ K') : BothAt w0 w x n K' d og :=
  ⟨h.base, h.none_, fun g e => by obtain ⟨h1, h2⟩ := h.some_ g e; exact ⟨by omega, h2⟩⟩

theorem settle_len {d : Dv} (hd : d.Wf) (a l c : Nat) (t m : List UInt8) : (d.settle a l c t m).1.on.length = d.on.length := by
  have hw : ∀ (ss : List ByteArray) (d : Dv) (i : Nat), d.Wf → (d.writes i ss).1.on.length = d.on.length ∧ (d.writes i ss).1.Wf := by
    intro ss
    induction ss with
    | nil => intro d i hd; exact ⟨rfl, hd⟩
    | cons s ss ih =>
      intro d i hd
      unfold Dv.writes
      split
      · obtain ⟨h1, h2⟩ := ih (d.write i s).1 (i + 1) (hd.write _ _)
        exact ⟨by rw [h1, Dv.write_len], h2⟩
      · exact ⟨Dv.write_len _ _ _, hd.write _ _⟩
  unfold Dv.settle
  simp only
  have key : ∀ r : Dv × Int, r.1.on.length = d.on.length → r.1.Wf → (if r.2 = 0 then r.1.wflush ((c + 1) % 2) (headText (c + 1) a (l + m.length)) else r).1.on.length = d.on.length := by
    intro r h1 h2
    split
    · rw [Dv.wflush_len h2]; exact h1
    · exact h1
  refine key _ ?_ ?_
  · split
    · rfl
    · split
      · rw [Dv.flush_len (hw _ _ _ hd).2]; exact (hw _ _ _ hd).1
      · exact (hw _ _ _ hd).1
  · split
    · exact hd
    · split
      · exact (hw _ _ _ hd).2.flush
      · exact (hw _ _ _ hd).2

theorem sync_len {d : Dv} (hd : d.Wf) (g : Lg) : (g.sync d).2.1.on.length = d.on.length ∧ (g.sync d).1.count ≤ g.count + 1 := by
  unfold Lg.sync
  split
  · exact ⟨rfl, by simp⟩
  · simp only
    split
    · exact ⟨settle_len hd _ _ _ _ _, by simp⟩
    · exact ⟨settle_len hd _ _ _ _ _, by simp⟩

theorem restart_len {d : Dv} (hd : d.Wf) (g : Lg) (l : List ByteArray) : (g.restart d l).2.1.on.length = d.on.length ∧ (g.restart d l).1.count ≤ g.count + 1 := by
  unfold Lg.restart
  split
  · exact ⟨rfl, by simp⟩
  · split
    · exact ⟨rfl, by simp⟩
    · simp only
      split
      · exact ⟨settle_len hd _ _ _ _ _, by simp⟩
      · exact ⟨settle_len hd _ _ _ _ _, by simp⟩

theorem append_count (g : Lg) (s : Nat) (t : ByteArray) : (g.append s t).1.count = g.count := by
  unfold Lg.append; split
  · rfl
  · split <;> rfl

theorem bOuter_c {w0 w : World} {x : Bx} {n K : Nat} {d : Dv} {og : Option Lg} {kind nn : Int} {text : ByteArray} {tv : Value} {tf : Option Nat} {texts : List ByteArray} {pv : Value} {pf : Option Nat} {picks : List Int}
    (h : BothAt w0 w x n K d og) (ha : ActAt w0 kind nn text tv tf texts pv pf picks) (hK : 4611686018427387904 ≤ K) :
    Calls Tryz.prog 25 #[.pointer (some ⟨x.bb, 0, none⟩), .agg #[.int .i64 kind, .int .i64 nn, .string text, tv, pv]] w (OutPost w0 x n K) := by
  by_cases h3 : kind % 6 = 3
  · exact outer_fuse h ha h3
  · by_cases h5 : kind % 6 = 5
    · exact outer_hand h ha hK h5
    · exact outer_crash h ha hK h3 h5

end Go.Proofs.YtiojkakmlbfiiaaGreat
