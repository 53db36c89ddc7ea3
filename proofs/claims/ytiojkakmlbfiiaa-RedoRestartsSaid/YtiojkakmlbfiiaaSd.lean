/- What a device is, and what its calls make of it: for the program's device and the document's alike. -/
import Derived.Test.YtiojkakmlbfiiaaHp
namespace Go.Proofs.Ytiojkakmlbfiiaa
namespace Sp

/-- A device: its sectors, of each what is in the cache, the fuse (0: none), whether it is down. -/
structure Dv where
  on : List ByteArray
  nw : List (Option ByteArray)
  left : Int
  down : Bool

def zeros : ByteArray := ⟨(List.replicate 64 (0 : UInt8)).toArray⟩

structure Dv.Wf (d : Dv) : Prop where
  len : d.nw.length = d.on.length
  on64 : ∀ s ∈ d.on, s.size = 64
  nw64 : ∀ s, some s ∈ d.nw → s.size = 64
  lo : 0 ≤ d.left
  hi : d.left ≤ 1048576
  least : 1 ≤ d.on.length
  most : d.on.length ≤ 2048
  down0 : d.down = true → d.left = 0

def Dv.make (n : Nat) : Dv := ⟨List.replicate n zeros, List.replicate n none, 0, false⟩

/-- What is wrong with a device, or a sector's number. -/
def Dv.wrong (d : Dv) (at_ : Int) : Int := if d.down = true then 90 else if at_ < 0 ∨ (d.on.length : Int) ≤ at_ then 1 else 0

def Dv.text (d : Dv) (i : Nat) : ByteArray := (d.nw.getD i none).getD (d.on.getD i ByteArray.empty)

def Dv.read (d : Dv) (at_ : Int) : ByteArray × Int :=
  if d.wrong at_ = 0 then (d.text at_.toNat, 0) else (ByteArray.empty, d.wrong at_)

/-- A write or a flush is counted. -/
def Dv.burn (d : Dv) : Dv := if 0 < d.left then { d with left := d.left - 1, down := d.left - 1 == 0 } else d

def Dv.put (d : Dv) (i : Nat) (s : ByteArray) : Dv := { d with nw := d.nw.set i (some s) }

def Dv.write (d : Dv) (at_ : Int) (s : ByteArray) : Dv × Int :=
  if d.wrong at_ = 0 then
    (if s.size = 64 then (if d.burn.down = true then (d.burn, 90) else (d.burn.put at_.toNat s, 0)) else (d, 3))
  else (d, d.wrong at_)

def over : List ByteArray → List (Option ByteArray) → List ByteArray := List.zipWith fun o n => n.getD o

def Dv.clean (d : Dv) : Dv := { d with on := over d.on d.nw, nw := List.replicate d.nw.length none }

def Dv.flush (d : Dv) : Dv × Int :=
  if d.down = true then (d, 90) else if d.burn.down = true then (d.burn, 90) else (d.burn.clean, 0)

def Dv.setFuse (d : Dv) (n : Int) : Dv × Int :=
  if d.down = true then (d, 90) else if n < 0 ∨ 1048576 < n then (d, 1) else ({ d with left := n }, 0)

/-- How many bytes of a sector a pick brings to the device. -/
def cut (p : Int) : Nat := if p = 1 then 64 else (p % 64).toNat

def tornBy (o s : ByteArray) (n : Nat) : ByteArray := s.extract 0 n ++ o.extract n o.size

def tear : List ByteArray → List (Option ByteArray) → List Int → List ByteArray
  | o :: os, none :: ns, ps => o :: tear os ns ps
  | o :: os, some s :: ns, ps => tornBy o s (cut (ps.headD 0)) :: tear os ns ps.tail
  | os, _, _ => os

def Dv.crash (d : Dv) (ps : List Int) : Dv := ⟨tear d.on d.nw ps, List.replicate d.nw.length none, 0, false⟩

theorem zeros_size : zeros.size = 64 := by decide

theorem Dv.wf_make (n : Nat) (h1 : 1 ≤ n) (h2 : n ≤ 2048) : (Dv.make n).Wf :=
  ⟨by simp [Dv.make], by intro s hs; rw [List.eq_of_mem_replicate hs]; exact zeros_size, by intro s hs; have := List.eq_of_mem_replicate hs; simp at this,
   by simp [Dv.make], by simp [Dv.make], by simpa [Dv.make] using h1, by simpa [Dv.make] using h2, by simp [Dv.make]⟩

theorem Dv.Wf.burn {d : Dv} (h : d.Wf) : d.burn.Wf := by
  unfold Dv.burn
  split
  · rename_i hl
    exact ⟨h.len, h.on64, h.nw64, by show 0 ≤ d.left - 1; omega, by have := h.hi; show d.left - 1 ≤ _; omega, h.least, h.most, by intro hd; simpa using hd⟩
  · exact h

theorem Dv.Wf.put {d : Dv} (h : d.Wf) (i : Nat) (s : ByteArray) (hs : s.size = 64) : (d.put i s).Wf :=
  ⟨by simpa [Dv.put] using h.len, h.on64, by
    intro x hx
    simp only [Dv.put] at hx
    rcases List.mem_or_eq_of_mem_set hx with h' | h'
    · exact h.nw64 x h'
    · cases h'; exact hs, h.lo, h.hi, h.least, h.most, h.down0⟩

theorem Dv.Wf.write {d : Dv} (h : d.Wf) (at_ : Int) (s : ByteArray) : (d.write at_ s).1.Wf := by
  unfold Dv.write
  split
  · split
    · rename_i hs
      split
      · exact h.burn
      · exact h.burn.put _ _ hs
    · exact h
  · exact h

theorem over_len (a : List ByteArray) (b : List (Option ByteArray)) (h : b.length = a.length) : (over a b).length = a.length := by
  simp [over, h]

theorem mem_over {a : List ByteArray} {b : List (Option ByteArray)} {x : ByteArray} (h : x ∈ over a b) : x ∈ a ∨ some x ∈ b := by
  induction a generalizing b with
  | nil => simp [over] at h
  | cons o os ih =>
    cases b with
    | nil => simp [over] at h
    | cons n ns =>
      simp only [over, List.zipWith_cons_cons, List.mem_cons] at h
      rcases h with h | h
      · cases n with
        | none => left; simp at h; simp [h]
        | some s => right; simp at h; simp [h]
      · rcases ih h with h' | h'
        · left; simp [h']
        · right; simp [h']

theorem Dv.Wf.clean {d : Dv} (h : d.Wf) : d.clean.Wf :=
  ⟨by simp [Dv.clean, over_len _ _ h.len, h.len], by
    intro s hs
    rcases mem_over hs with h' | h'
    · exact h.on64 s h'
    · exact h.nw64 s h', by intro s hs; have := List.eq_of_mem_replicate hs; simp at this, h.lo, h.hi,
   by simpa [Dv.clean, over_len _ _ h.len] using h.least, by simpa [Dv.clean, over_len _ _ h.len] using h.most, h.down0⟩

theorem Dv.Wf.flush {d : Dv} (h : d.Wf) : d.flush.1.Wf := by
  unfold Dv.flush
  split
  · exact h
  · split
    · exact h.burn
    · exact h.burn.clean

theorem cut_le (p : Int) : cut p ≤ 64 := by
  unfold cut; split
  · omega
  · have := Int.emod_lt_of_pos p (show (0 : Int) < 64 by omega); omega

theorem size_tornBy (o s : ByteArray) (n : Nat) (ho : o.size = 64) (hs : s.size = 64) (hn : n ≤ 64) : (tornBy o s n).size = 64 := by
  simp only [tornBy, ByteArray.size_append, ByteArray.size_extract]; omega

theorem tear_len : ∀ (a : List ByteArray) (b : List (Option ByteArray)) (ps : List Int), (tear a b ps).length = a.length
  | [], _, _ => by simp [tear]
  | _ :: _, [], _ => by simp [tear]
  | o :: os, none :: ns, ps => by simp [tear, tear_len os ns ps]
  | o :: os, some s :: ns, ps => by simp [tear, tear_len os ns ps.tail]

theorem mem_tear : ∀ (a : List ByteArray) (b : List (Option ByteArray)) (ps : List Int), (∀ x ∈ a, x.size = 64) → (∀ x, some x ∈ b → x.size = 64) → ∀ y ∈ tear a b ps, y.size = 64
  | [], _, _, _, _ => by intro y hy; simp [tear] at hy
  | o :: os, [], _, ha, _ => by intro y hy; exact ha y (by simpa [tear] using hy)
  | o :: os, none :: ns, ps, ha, hb => by
    intro y hy
    simp only [tear, List.mem_cons] at hy
    rcases hy with rfl | hy
    · exact ha _ (by simp)
    · exact mem_tear os ns ps (fun x hx => ha x (by simp [hx])) (fun x hx => hb x (by simp [hx])) y hy
  | o :: os, some s :: ns, ps, ha, hb => by
    intro y hy
    simp only [tear, List.mem_cons] at hy
    rcases hy with rfl | hy
    · exact size_tornBy _ _ _ (ha _ (by simp)) (hb _ (by simp)) (cut_le _)
    · exact mem_tear os ns ps.tail (fun x hx => ha x (by simp [hx])) (fun x hx => hb x (by simp [hx])) y hy

theorem Dv.Wf.crash {d : Dv} (h : d.Wf) (ps : List Int) : (d.crash ps).Wf :=
  ⟨by simp [Dv.crash, tear_len, h.len], mem_tear _ _ _ h.on64 h.nw64, by intro s hs; have := List.eq_of_mem_replicate hs; simp at this,
   by simp [Dv.crash], by simp [Dv.crash], by simpa [Dv.crash, tear_len] using h.least, by simpa [Dv.crash, tear_len] using h.most, by simp [Dv.crash]⟩

theorem Dv.Wf.setFuse {d : Dv} (h : d.Wf) (n : Int) : (d.setFuse n).1.Wf := by
  unfold Dv.setFuse
  split
  · exact h
  · rename_i hd
    split
    · exact h
    · rename_i hn
      exact ⟨h.len, h.on64, h.nw64, by show 0 ≤ n; omega, by show n ≤ _; omega, h.least, h.most, by intro e; exact absurd e hd⟩

end Sp
end Go.Proofs.Ytiojkakmlbfiiaa
