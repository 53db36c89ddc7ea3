/- What a log on a device is, and what its calls make of it. -/
import Derived.Test.YtiojkakmlbfiiaaSd
import Derived.Test.YtiojkakmlbfiiaaSu4
namespace Go.Proofs.Ytiojkakmlbfiiaa
namespace Sp
open Go.RowKit (wrap64)

/-- A number as bytes, the highest first; the number of bytes, as Go's int has it. -/
def be (k n : Nat) : List UInt8 := (le k n).reverse
def num (l : List UInt8) : Int := l.foldl (fun n c => wrap64 (n * 256 + (c.toNat : Int))) 0

def headPart (count area long : Nat) : List UInt8 := [82, 69, 68, 79] ++ be 8 count ++ [UInt8.ofNat area] ++ be 8 long
def headText (count area long : Nat) : ByteArray := str (headPart count area long ++ headPart count area long ++ headPart count area long ++ [0])

/-- The bytes of an area of a device of n sectors. -/
def areaOf (n : Nat) : Nat := 64 * ((n - 2) / 2)

/-- A sector's head: its count, area and length. -/
def parseHead (size : Nat) (s : ByteArray) : Option (Nat × Nat × Nat) :=
  let c := num ((s.data.toList.drop 4).take 8)
  let a := (s.data.toList.getD 12 0).toNat
  let l := num ((s.data.toList.drop 13).take 8)
  if c < 1 ∨ 4611686018427387904 < c ∨ 1 < a ∨ l < 0 ∨ (size : Int) < l then none
  else if s = headText c.toNat a l.toNat then some (c.toNat, a, l.toNat) else none

/-- A write, and a flush. -/
def Dv.wflush (d : Dv) (i : Nat) (s : ByteArray) : Dv × Int :=
  if (d.write i s).2 = 0 then (d.write i s).1.flush else d.write i s

def Dv.writes (d : Dv) (i : Nat) : List ByteArray → Dv × Int
  | [] => (d, 0)
  | s :: l => if (d.write i s).2 = 0 then (d.write i s).1.writes (i + 1) l else d.write i s

def padTo (l : List UInt8) : List UInt8 := l ++ List.replicate (64 - l.length) 0
def chunks : Nat → List UInt8 → List ByteArray
  | 0, _ => []
  | n + 1, l => if l = [] then [] else str (padTo (l.take 64)) :: chunks n (l.drop 64)

/-- Bytes are settled behind old ones, in an area; the head of the count. -/
def Dv.settle (d : Dv) (area long : Nat) (count : Nat) (tail more : List UInt8) : Dv × Int :=
  let r := if more = [] then (d, 0) else
    (let w := d.writes (2 + area * ((d.on.length - 2) / 2) + long / 64) (chunks (tail ++ more).length (tail ++ more))
     if w.2 = 0 then w.1.flush else w)
  if r.2 = 0 then r.1.wflush ((count + 1) % 2) (headText (count + 1) area (long + more.length)) else r

structure Lg where
  count : Nat
  area : Nat
  bytes : List UInt8
  texts : List ByteArray
  many : Nat

def framesL (l : List ByteArray) : List UInt8 := l.flatMap fun t => frameL t.data.toList

def Lg.waits (g : Lg) : List UInt8 := framesL (g.texts.drop g.many)
def Lg.tail (g : Lg) : List UInt8 := g.bytes.drop (64 * (g.bytes.length / 64))
def Lg.room (g : Lg) (size : Nat) : Int := (size : Int) - g.bytes.length - g.waits.length

def Lg.append (g : Lg) (size : Nat) (t : ByteArray) : Lg × Int :=
  if 4096 < t.size then (g, 2) else if g.room size < ((t.size + 6 : Nat) : Int) then (g, 100) else ({ g with texts := g.texts ++ [t] }, 0)

def Lg.sync (g : Lg) (d : Dv) : Lg × Dv × Int :=
  if g.many = g.texts.length then (g, d, 0)
  else
    let r := d.settle g.area g.bytes.length g.count g.tail g.waits
    if r.2 = 0 then ({ g with count := g.count + 1, bytes := g.bytes ++ g.waits, many := g.texts.length }, r) else (g, r)

def Lg.restart (g : Lg) (d : Dv) (l : List ByteArray) : Lg × Dv × Int :=
  if l.any fun t => 4096 < t.size then (g, d, 2)
  else if areaOf d.on.length < (framesL l).length then (g, d, 100)
  else
    let r := d.settle (1 - g.area) 0 g.count [] (framesL l)
    if r.2 = 0 then ({ count := g.count + 1, area := 1 - g.area, bytes := framesL l, texts := l, many := l.length }, r) else (g, r)

/-- The sector of the next head is made bare, if a crash has torn it. -/
def Dv.bareNext (d : Dv) (count : Nat) : Dv × Int :=
  let s := (d.read (((count + 1) % 2 : Nat) : Int)).1
  if s = zeros then (d, 0)
  else if (parseHead (areaOf d.on.length) s).isSome then (d, 0)
  else d.wflush ((count + 1) % 2) zeros

def Dv.head (d : Dv) (i : Nat) : Option (Nat × Nat × Nat) := parseHead (areaOf d.on.length) (d.text i)

/-- The head that counts. -/
def Dv.best (d : Dv) : Option (Nat × Nat × Nat) :=
  match d.head 0, d.head 1 with
  | some a, some b => if a.1 < b.1 then some b else some a
  | some a, none => some a
  | none, x => x

def Dv.stored (d : Dv) (area long : Nat) : List UInt8 :=
  ((List.range (d.on.length)).flatMap fun i => if 64 * i < long then (d.text (2 + area * ((d.on.length - 2) / 2) + i)).data.toList else []).take long

def openLog (d : Dv) : Dv × Option Lg × Int :=
  if d.on.length < 4 then (d, none, 4)
  else if d.down = true then (d, none, 90)
  else match d.best with
    | none =>
      let r := d.wflush 1 (headText 1 0 0)
      if r.2 = 0 then
        (let q := r.1.bareNext 1
         if q.2 = 0 then (q.1, some ⟨1, 0, [], [], 0⟩, 0) else (q.1, none, q.2))
      else (r.1, none, r.2)
    | some (c, a, l) =>
      match allL (d.stored a l) with
      | none => (d, none, 101)
      | some texts =>
        let q := d.bareNext c
        if q.2 = 0 then (q.1, some ⟨c, a, d.stored a l, texts, texts.length⟩, 0) else (q.1, none, q.2)

end Sp
end Go.Proofs.Ytiojkakmlbfiiaa
