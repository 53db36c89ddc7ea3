/- The law's own functions: both.outer. -/
import Derived.Test.YtiojkakmlbfiiaaGreatM25
import Derived.Deep.RegionHeld3
/- The law's own functions: both.outer. -/
namespace Go.Proofs.YtiojkakmlbfiiaaGreat
open Go.RowKit
open Sp

structure ActAt (w0 : World) (kind nn : Int) (text : ByteArray) (tv : Value) (tf : Option Nat) (texts : List ByteArray) (pv : Value) (pf : Option Nat) (picks : List Int) : Prop where
  hk : -9223372036854775808 ≤ kind ∧ kind ≤ 9223372036854775807
  hn : -9223372036854775808 ≤ nn ∧ nn ≤ 9223372036854775807
  ht : text.size ≤ 140737488351232
  hts : SliceAt w0 tv tf (strVals texts)
  htf : ∀ b, tf = some b → b < w0.heap.size
  htl : texts.length * 16 ≤ 140737488351232
  htt : ∀ t ∈ texts, t.size ≤ 9223372036854775807
  hp : SliceAt w0 pv pf (intVals picks)
  hpf : ∀ b, pf = some b → b < w0.heap.size
  hpl : picks.length ≤ 9223372036854775807
  hps : ∀ p ∈ picks, -9223372036854775808 ≤ p ∧ p ≤ 9223372036854775807

theorem BothAt.cells {w0 w : World} {x : Bx} {n K : Nat} {d : Dv} {og : Option Lg} (h : BothAt w0 w x n K d og) : ∃ p q, Blk w x.bb [.pointer (some ⟨x.bd, 0, none⟩), .pointer (some ⟨x.rd, 0, none⟩), p, q] := by
  cases og with
  | none => exact ⟨_, _, h.none_ rfl⟩
  | some g => obtain ⟨_, bl, v, rl, rv, hL⟩ := h.some_ g rfl; exact ⟨_, _, hL.cells⟩

theorem Base.lt {w0 w : World} {x : Bx} {n : Nat} {d : Dv} (h : Base w0 w x n d) (hb : x.bb < w.heap.size) : ∀ b ∈ x.S, b < w.heap.size := by
  intro b hm
  have h1 := h.dev.blk.lt
  have h2 := h.dev.byt.lt
  have h3 := h.dev.map.lt
  have h4 := h.ref.blk.lt
  have h5 := (own_base h.ref.on x.ro rfl).2
  have h6 := (own_base h.ref.nw x.rn rfl).2
  simp [Bx.S] at hm
  omega

theorem LogsAt.frS {w w' : World} {x : Bx} {n : Nat} {g : Lg} {bl : Nat} {v : Value} {rl : Nat} {rv : Value} {S : List Nat} (h : LogsAt w x n g bl v rl rv) (hF : Fr S w w') (hS : ∀ b ∈ S, b ∈ x.S ∧ b ≠ x.bb) : LogsAt w' x n g bl v rl rv := by
  have hv := own_base h.prog.own
  have hr := own_base h.ref.own
  exact ⟨h.cells.fr hF (fun hm => (hS _ hm).2 rfl), h.prog.fr hF (fun hm => by have := h.low _ (hS _ hm).1; omega) (fun b hb hm => by have := h.low _ (hS _ hm).1; have := hv b hb; omega),
    h.ref.fr hF (fun hm => by have := h.low _ (hS _ hm).1; omega) (fun b hb hm => by have := h.low _ (hS _ hm).1; have := hr b hb; omega), h.n4, h.low, h.a1, h.a2, h.a3, h.a4⟩

theorem BothAt.moved {w0 w w' : World} {x : Bx} {n K : Nat} {d d' : Dv} {og : Option Lg} (h : BothAt w0 w x n K d og) (hB : Base w0 w' x n d') {S : List Nat} (hF : Fr S w w') (hS : ∀ b ∈ S, b ∈ x.S ∧ b ≠ x.bb) : BothAt w0 w' x n K d' og :=
  ⟨hB, fun e => (h.none_ e).fr hF (fun hm => (hS _ hm).2 rfl), fun g e => by obtain ⟨h1, bl, v, rl, rv, h2⟩ := h.some_ g e; exact ⟨h1, bl, v, rl, rv, h2.frS hF hS⟩⟩

theorem setFuse_len (d : Dv) (k : Int) : (d.setFuse k).1.on.length = d.on.length := by
  unfold Dv.setFuse; split
  · rfl
  · split <;> rfl

section
variable {w0 w : World} {x : Bx} {n K : Nat} {d : Dv} {og : Option Lg} {kind nn : Int} {text : ByteArray} {tv : Value} {tf : Option Nat} {texts : List ByteArray} {pv : Value} {pf : Option Nat} {picks : List Int}

def OutPost (w0 : World) (x : Bx) (n K : Nat) (e : Ending) (w' : World) : Prop := e = .returned (.bool true) ∧ ∃ d' og', BothAt w0 w' x n K d' og'

set_option maxHeartbeats 8000000 in
set_option maxRecDepth 100000 in
theorem outer_fuse (h : BothAt w0 w x n K d og) (ha : ActAt w0 kind nn text tv tf texts pv pf picks) (hk : kind % 6 = 3) :
    Calls Tryz.prog 25 #[.pointer (some ⟨x.bb, 0, none⟩), .agg #[.int .i64 kind, .int .i64 nn, .string text, tv, pv]] w (OutPost w0 x n K) := by
  obtain ⟨p, q, hcells⟩ := h.cells
  have ham := fun W' => among_c kind 6 W' ha.hk (by omega) (by omega)
  rw [hk] at ham
  have hW : Blk (w.alloc (.cells #[.int .i64 kind, .int .i64 nn, .string text, tv, pv] 40)) w.heap.size [.int .i64 kind, .int .i64 nn, .string text, tv, pv] := Blk.new _ _ _
  have hF0 : Fr [] w (w.alloc (.cells #[.int .i64 kind, .int .i64 nn, .string text, tv, pv] 40)) := (Fr.refl _ _).alloc _
  have HW := Lib.hid hW
  have HF0 := Lib.hid hF0
  have HC := Lib.hid (hcells.fr hF0 (by simp))
  have HB := Lib.hid (h.base.fr0 hF0)
  have HH := Lib.hid (h.fr0 hF0)
  have hlen := setFuse_len d nn
  have HLEN := Lib.hid hlen
  have hkk : -9223372036854775808 ≤ kind ∧ kind ≤ 9223372036854775807 := ha.hk
  have hBN : x.bb ∉ [x.bd, x.bo, x.bm] ∧ x.bb ∉ [x.rd, x.ro, x.rn] := by have := h.base.s1; simp at *; omega
  have HBN := Lib.hid hBN
  have hblk : ∀ b ∈ x.S, b < w.heap.size := h.base.lt hcells.lt
  have HBA : Hid (w.heap.size ∉ [x.bd, x.bo, x.bm] ∧ w.heap.size ∉ [x.rd, x.ro, x.rn]) := Lib.hid ⟨fun hm => by have := hblk _ (x.prog _ hm); omega, fun hm => by have := hblk _ (x.doc _ hm); omega⟩
  clear hW hF0 h ha hcells hlen hk hBN hblk
  go_enter Tryz.func25, Tryz.ntmps25
  have z0 := HW.out.cell 0
  have z1 := HW.out.cell 1
  have c0 := HC.out.cell 0
  have c1 := HC.out.cell 1
  simp only [List.getElem?_cons_succ, List.getElem?_cons_zero] at z0 z1 c0 c1
  go_wp2_with (fail)
  obtain ⟨W, hWW⟩ : ∃ W, w.alloc (.cells #[.int .i64 kind, .int .i64 nn, .string text, tv, pv] 40) = W := ⟨_, rfl⟩
  rw [hWW] at z0 z1 c0 c1 HW HC HB HF0 HH ⊢
  clear hWW
  generalize w.heap.size = ba at *
  go_wp2_with (go_at_call 24; refine (ham _).mono ?_; rintro e w1 ⟨rfl, rfl⟩)
  have hba : ba ∉ [x.bd, x.bo, x.bm] ∧ ba ∉ [x.rd, x.ro, x.rn] := HBA.out
  have HFW : Hid (Fr [] W W.drew) := Lib.hid ((Fr.refl _ _).drew)
  go_region_held3 (fun w' => w'.cell? ⟨x.bb, 0, none⟩ = some (.pointer (some ⟨x.bd, 0, none⟩)) ∧ w'.cell? ⟨x.bb, 1, none⟩ = some (.pointer (some ⟨x.rd, 0, none⟩)) ∧ w'.cell? ⟨ba, 1, none⟩ = some (.int .i64 nn))
    (first | go_keep | (refine ⟨?_, ?_, ?_⟩ <;> assumption))
    (first
      | (go_at_call 55; refine (fuse_c (HB.out.fr0 (by exact (Fr.refl [] W).drew)).dev nn).mono ?_; rintro e w2 ⟨rfl, hD2, hF2⟩
         have HF2 : Hid (Fr [x.bd, x.bo, x.bm] W w2) := Lib.hid (HFW.out.any.trans (hF2.mono (by simp)))
         have HD2 := Lib.hid hD2
         have q0 := (HC.out.fr HF2.out HBN.out.1).cell 0
         have q1 := (HC.out.fr HF2.out HBN.out.1).cell 1
         have q2 := (HW.out.fr HF2.out hba.1).cell 1
         simp only [List.getElem?_cons_succ, List.getElem?_cons_zero] at q0 q1 q2
         clear hF2 hD2)
      | (go_at_call 56; refine (rFuse_c (HB.out.refFr HF2.out) nn).mono ?_; rintro e w3 ⟨rfl, hD3, hF3⟩
         have HF3 : Hid (Fr [x.rd, x.ro, x.rn] w2 w3) := Lib.hid (hF3.mono (by simp))
         have HD3 := Lib.hid hD3
         have q0 := (HC.out.fr HF2.out HBN.out.1).fr HF3.out HBN.out.2 |>.cell 0
         have q1 := (HC.out.fr HF2.out HBN.out.1).fr HF3.out HBN.out.2 |>.cell 1
         have q2 := (HW.out.fr HF2.out hba.1).fr HF3.out hba.2 |>.cell 1
         simp only [List.getElem?_cons_succ, List.getElem?_cons_zero] at q0 q1 q2
         clear hF3 hD3))
  go_wp2
  go_ret
  refine ⟨by simp, _, _, HH.out.moved (HB.out.two HD2.out HF2.out HD3.out HF3.out (by rw [HLEN.out]; exact HB.out.len)) (S := [x.bd, x.bo, x.bm, x.rd, x.ro, x.rn]) ((HF2.out.mono (by simp)).trans (HF3.out.mono (by simp))) ?_⟩
  intro b hb
  have := HBN.out
  simp [Bx.S] at *
  omega

theorem bytesOf_pad (t : ByteArray) : (bytesOf t).take (Nat.min t.size 64) ++ (List.replicate 64 (Value.int .u8 0)).drop (Nat.min t.size 64) = bytesOf (str (padTo (t.data.toList.take 64))) := by
  have hs : t.data.toList.length = t.size := rfl
  rw [bytesOf, bytesOf, str_data, padTo, List.map_append, List.map_replicate, List.drop_replicate, ← List.map_take]
  have e : (t.data.toList.take 64).length = Nat.min t.size 64 := by rw [List.length_take, hs]; exact Nat.min_comm _ _
  rw [e]
  have e2 : t.data.toList.take (Nat.min t.size 64) = t.data.toList.take 64 := by
    rcases Nat.le_total t.size 64 with h | h
    · rw [List.take_of_length_le (by rw [hs]; exact Nat.le_of_eq (Nat.min_eq_left h).symm), List.take_of_length_le (by omega)]
    · rw [show Nat.min t.size 64 = 64 from Nat.min_eq_right h]
  rw [e2]; rfl

set_option maxHeartbeats 8000000 in
set_option maxRecDepth 100000 in
theorem outer_crash (h : BothAt w0 w x n K d og) (ha : ActAt w0 kind nn text tv tf texts pv pf picks) (hK : 4611686018427387904 ≤ K) (hk3 : kind % 6 ≠ 3) (hk5 : kind % 6 ≠ 5) :
    Calls Tryz.prog 25 #[.pointer (some ⟨x.bb, 0, none⟩), .agg #[.int .i64 kind, .int .i64 nn, .string text, tv, pv]] w (OutPost w0 x n K) := by
  have hpl := ha.hpl
  have hps := ha.hps
  obtain ⟨p, q, hcells⟩ := h.cells
  have hBN : x.bb ∉ [x.bd, x.bo, x.bm] ∧ x.bb ∉ [x.rd, x.ro, x.rn] := by have := h.base.s1; simp at *; omega
  have HBN := Lib.hid hBN
  have hol := h.base.old
  have hblk : ∀ b ∈ x.S, b < w.heap.size := h.base.lt hcells.lt
  have HAN : Hid (w.heap.size ∉ [x.bd, x.bo, x.bm] ∧ w.heap.size ∉ [x.rd, x.ro, x.rn]) := Lib.hid ⟨fun hm => by have := hblk _ (x.prog _ hm); omega, fun hm => by have := hblk _ (x.doc _ hm); omega⟩
  have hpfS : ∀ b, pf = some b → b ∉ x.S := fun b hb hm => by have := ha.hpf b hb; have := hol b hm; omega
  have HPN : Hid ((∀ b, pf = some b → b ≠ x.bo) ∧ (∀ b, pf = some b → b ∉ [x.bd, x.bo, x.bm]) ∧ (∀ b, pf = some b → b ≠ x.rd ∧ b ≠ x.ro ∧ b ≠ x.rn) ∧ (∀ b, pf = some b → b ∉ [x.rd, x.ro, x.rn])) := Lib.hid
    ⟨fun b hb e => hpfS b hb (by rw [e]; simp [Bx.S]), fun b hb hm => hpfS b hb (x.prog b hm), fun b hb => ⟨fun e => hpfS b hb (by rw [e]; simp [Bx.S]), fun e => hpfS b hb (by rw [e]; simp [Bx.S]), fun e => hpfS b hb (by rw [e]; simp [Bx.S])⟩, fun b hb hm => hpfS b hb (x.doc b hm)⟩
  have ham := fun W' => among_c kind 6 W' ha.hk (by omega) (by omega)
  obtain ⟨kk, hkk⟩ : ∃ kk, kind % 6 = kk := ⟨_, rfl⟩
  rw [hkk] at ham
  have k3 : (kk == 3) = false := by rw [← hkk]; simpa using hk3
  have k5 : (kk == 5) = false := by rw [← hkk]; simpa using hk5
  have hW : Blk (w.alloc (.cells #[.int .i64 kind, .int .i64 nn, .string text, tv, pv] 40)) w.heap.size [.int .i64 kind, .int .i64 nn, .string text, tv, pv] := Blk.new _ _ _
  have hF0 : Fr [] w (w.alloc (.cells #[.int .i64 kind, .int .i64 nn, .string text, tv, pv] 40)) := (Fr.refl _ _).alloc _
  have HA2 := Lib.hid hW
  have HC2 := Lib.hid (hcells.fr hF0 (by simp))
  have HB2 := Lib.hid (h.base.fr0 hF0)
  have HPK2 := Lib.hid (ha.hp.fr (h.base.fr.trans hF0) (by simp))
  have hkb : -9223372036854775808 ≤ kind ∧ kind ≤ 9223372036854775807 := ha.hk
  clear hW hF0 h ha hcells hkk hk3 hk5 hBN hol hblk hpfS
  go_enter Tryz.func25, Tryz.ntmps25
  have z0 := HA2.out.cell 0
  simp only [List.getElem?_cons_zero] at z0
  go_wp2_with (fail)
  obtain ⟨w2, hWW⟩ : ∃ W, w.alloc (.cells #[.int .i64 kind, .int .i64 nn, .string text, tv, pv] 40) = W := ⟨_, rfl⟩
  rw [hWW] at z0 HA2 HC2 HB2 HPK2 ⊢
  clear hWW
  generalize w.heap.size = ba at *
  go_wp2_with (go_at_call 24; refine (ham _).mono ?_; rintro e w1 ⟨rfl, rfl⟩)
  refine wp_region_tail 6 (by kernel_rfl) (by kernel_rfl) ?_
  refine q_val rfl (by intro w' _; go_simp; rfl) ?_
  go_frame
  refine q_val rfl (by intro w' _; go_simp; rfl) ?_
  go_frame
  refine q_val rfl (by intro w' _; go_simp; rfl) ?_
  go_frame
  refine q_val (v := .pointer (some ⟨x.bd, 0, none⟩)) rfl (by intro w' hW'; have := (HC2.out.fr hW' (by simp)).cell 0; go_simp) ?_
  go_frame
  refine q_val rfl (by intro w' _; go_simp; rfl) ?_
  go_frame
  refine q_val (v := pv) rfl (by intro w' hW'; have := (HA2.out.fr hW' (by simp)).cell 4; go_simp) ?_
  go_frame
  refine wpQuiet_nil ?_
  intro w3 hF3
  have hcr := crash_c (HB2.out.fr0 hF3).dev (HPK2.out.fr hF3 (by simp)) HPN.out.1 hps hpl
  go_wp2_with (go_at_call 15; refine hcr.mono ?_; clear hcr; rintro e w4 ⟨rfl, hD4, hF4⟩
               have HD4 := Lib.hid hD4
               have HF34 : Hid (Fr [x.bd, x.bo, x.bm] w2 w4) := Lib.hid (hF3.any.trans hF4)
               have HR4 := Lib.hid (HB2.out.refFr HF34.out)
               have HC4 := Lib.hid (HC2.out.fr HF34.out HBN.out.1)
               have HA4 := Lib.hid (HA2.out.fr HF34.out HAN.out.1)
               have HPK4 := Lib.hid (HPK2.out.fr HF34.out HPN.out.2.1)
               clear hD4 hF4 hF3)
  refine wp_region_tail 6 (by kernel_rfl) (by kernel_rfl) ?_
  refine q_val rfl (by intro w' _; go_simp; rfl) ?_
  go_frame
  refine q_val rfl (by intro w' _; go_simp; rfl) ?_
  go_frame
  refine q_val rfl (by intro w' _; go_simp; rfl) ?_
  go_frame
  refine q_val (v := .pointer (some ⟨x.rd, 0, none⟩)) rfl (by intro w' hW'; have := (HC4.out.fr hW' (by simp)).cell 1; go_simp) ?_
  go_frame
  refine q_val rfl (by intro w' _; go_simp; rfl) ?_
  go_frame
  refine q_val (v := pv) rfl (by intro w' hW'; have := (HA4.out.fr hW' (by simp)).cell 4; go_simp) ?_
  go_frame
  refine wpQuiet_nil ?_
  intro w5 hF5
  have hcr := rCrash_c (HR4.out.fr hF5 (by simp) (by simp) (by simp)) (HPK4.out.fr hF5 (by simp)) HPN.out.2.2.1 hps hpl
  go_wp2_with (first
    | (go_at_call 59; refine hcr.mono ?_; clear hcr; rintro e w6 ⟨rfl, hR6, hF6⟩
       have hF56 : Fr [x.rd, x.ro, x.rn] w4 w6 := hF5.any.trans hF6
       have hlen : (d.crash picks).on.length = n := by rw [Dv.crash]; show (tear _ _ _).length = n; rw [tear_len]; exact HB2.out.len
       have HB6 := Lib.hid (HB2.out.two HD4.out HF34.out hR6 hF56 hlen)
       have HC6 := Lib.hid (HC4.out.fr hF56 HBN.out.2)
       have hop := bOpen_c HB6.out _ _ HC6.out hK
       clear hR6 hF6 hF56 hF5 hlen)
    | (go_at_call 7; refine hop.mono ?_; clear hop; rintro e w7 ⟨rfl, hBA⟩))
  go_ret
  exact ⟨rfl, _, _, hBA⟩

set_option maxHeartbeats 8000000 in
set_option maxRecDepth 100000 in
theorem outer_hand (h : BothAt w0 w x n K d og) (ha : ActAt w0 kind nn text tv tf texts pv pf picks) (hK : 4611686018427387904 ≤ K) (hk : kind % 6 = 5) :
    Calls Tryz.prog 25 #[.pointer (some ⟨x.bb, 0, none⟩), .agg #[.int .i64 kind, .int .i64 nn, .string text, tv, pv]] w (OutPost w0 x n K) := by
  have hpl := ha.hpl
  have hps := ha.hps
  obtain ⟨p, q, hcells⟩ := h.cells
  have hBN : x.bb ∉ [x.bd, x.bo, x.bm] ∧ x.bb ∉ [x.rd, x.ro, x.rn] := by have := h.base.s1; simp at *; omega
  have HBN := Lib.hid hBN
  have hol := h.base.old
  have hblk : ∀ b ∈ x.S, b < w.heap.size := h.base.lt hcells.lt
  have HAN : Hid (w.heap.size ∉ [x.bd, x.bo, x.bm] ∧ w.heap.size ∉ [x.rd, x.ro, x.rn]) := Lib.hid ⟨fun hm => by have := hblk _ (x.prog _ hm); omega, fun hm => by have := hblk _ (x.doc _ hm); omega⟩
  have hpfS : ∀ b, pf = some b → b ∉ x.S := fun b hb hm => by have := ha.hpf b hb; have := hol b hm; omega
  have HPN : Hid ((∀ b, pf = some b → b ≠ x.bo) ∧ (∀ b, pf = some b → b ∉ [x.bd, x.bo, x.bm]) ∧ (∀ b, pf = some b → b ≠ x.rd ∧ b ≠ x.ro ∧ b ≠ x.rn) ∧ (∀ b, pf = some b → b ∉ [x.rd, x.ro, x.rn])) := Lib.hid
    ⟨fun b hb e => hpfS b hb (by rw [e]; simp [Bx.S]), fun b hb hm => hpfS b hb (x.prog b hm), fun b hb => ⟨fun e => hpfS b hb (by rw [e]; simp [Bx.S]), fun e => hpfS b hb (by rw [e]; simp [Bx.S]), fun e => hpfS b hb (by rw [e]; simp [Bx.S])⟩, fun b hb hm => hpfS b hb (x.doc b hm)⟩
  have ham := fun W' => among_c kind 6 W' ha.hk (by omega) (by omega)
  rw [hk] at ham
  have hW : Blk (w.alloc (.cells #[.int .i64 kind, .int .i64 nn, .string text, tv, pv] 40)) w.heap.size [.int .i64 kind, .int .i64 nn, .string text, tv, pv] := Blk.new _ _ _
  have hF0 : Fr [] w (w.alloc (.cells #[.int .i64 kind, .int .i64 nn, .string text, tv, pv] 40)) := (Fr.refl _ _).alloc _
  have HA := Lib.hid hW
  have HC := Lib.hid (hcells.fr hF0 (by simp))
  have HB := Lib.hid (h.base.fr0 hF0)
  have HPK := Lib.hid (ha.hp.fr (h.base.fr.trans hF0) (by simp))
  have hkb : -9223372036854775808 ≤ kind ∧ kind ≤ 9223372036854775807 := ha.hk
  have htb := ha.ht
  clear hF0 h ha hcells hk hBN hol hpfS
  go_enter Tryz.func25, Tryz.ntmps25
  have z0 := HA.out.cell 0
  simp only [List.getElem?_cons_zero] at z0
  go_wp2_with (fail)
  have hltw : w.heap.size < (w.alloc (.cells #[.int .i64 kind, .int .i64 nn, .string text, tv, pv] 40)).heap.size := by simp
  obtain ⟨W, hWW⟩ : ∃ W, w.alloc (.cells #[.int .i64 kind, .int .i64 nn, .string text, tv, pv] 40) = W := ⟨_, rfl⟩
  rw [hWW] at z0 HA HC HB HPK hltw ⊢
  clear hWW hW
  obtain ⟨ba, hba⟩ : ∃ ba, w.heap.size = ba := ⟨_, rfl⟩
  rw [hba] at z0 HA HAN hltw hblk ⊢
  clear hba
  -- the sector by hand
  obtain ⟨i0, hi0, hz0, hz1, hz2⟩ := info_parts byteInfo
  have hmk := run_make (P := Tryz.prog) W 42 5 i0 _ Tryz.underlying42 hi0 hz0 .i64 .i64 64 64 (by omega) (by omega) (by rw [hz2]; omega) (by omega)
  rw [hz1] at hmk
  have e8 : (64 : Int).toNat * 1 = 64 := rfl
  rw [e8, madeCells_bytes] at hmk
  have hBm : Blk (W.alloc (.cells (List.replicate 64 (Value.int .u8 0)).toArray 5)) W.heap.size (List.replicate 64 (Value.int .u8 0)) := Blk.new _ _ _
  have hFm : Fr [] W (W.alloc (.cells (List.replicate 64 (Value.int .u8 0)).toArray 5)) := (Fr.refl _ _).alloc _
  change _ = Result.ok (Value.slice (some ⟨W.heap.size, 0, none⟩) 64 64) _ at hmk
  generalize W.alloc (.cells (List.replicate 64 (Value.int .u8 0)).toArray 5) = W1 at hmk hBm hFm
  obtain ⟨bz, hbz⟩ : ∃ bz, W.heap.size = bz := ⟨_, rfl⟩
  rw [hbz] at hmk hBm hltw
  obtain ⟨W2, hcp, hBc, hFc⟩ := copy_str hBm text (dLen := 64) (dCap := 64) (off := 0) (Nat.min text.size 64) rfl (by rw [List.length_replicate, Nat.zero_add]; exact Nat.min_le_right _ _)
  have hpad := bytesOf_pad text
  rw [List.take_zero, List.nil_append, Nat.zero_add, hpad] at hBc
  have hS64 : (str (padTo (text.data.toList.take 64))).size = 64 := padTo_size _ (by rw [List.length_take]; omega)
  generalize str (padTo (text.data.toList.take 64)) = S at hBc hS64
  obtain ⟨m, hm⟩ : ∃ m, Nat.min text.size 64 = m := ⟨_, rfl⟩
  rw [hm] at hcp
  have hF02 : Fr [] W W2 := hFm.then hFc (fun b hb => Or.inr (by simp at hb; rw [hb, ← hbz]; exact Nat.le_refl _))
  have HF02 := Lib.hid hF02
  have HBC := Lib.hid hBc
  have HBZ : Hid (bz ∉ [x.bd, x.bo, x.bm] ∧ bz ∉ [x.rd, x.ro, x.rn] ∧ bz ≠ ba) := Lib.hid ⟨fun hm => by have := hblk _ (x.prog _ hm); omega, fun hm => by have := hblk _ (x.doc _ hm); omega, by omega⟩
  have HA1 := Lib.hid (HA.out.fr hFm (by simp))
  have z12 := HA1.out.cell 2
  simp only [List.getElem?_cons_succ, List.getElem?_cons_zero] at z12
  have HAW := Lib.hid (HA.out.fr hF02 (by simp))
  have HCW := Lib.hid (HC.out.fr hF02 (by simp))
  have HBW := Lib.hid (HB.out.fr0 hF02)
  have HPKW := Lib.hid (HPK.out.fr hF02 (by simp))
  have c0 := HCW.out.cell 0
  have c1 := HCW.out.cell 1
  have z1 := HAW.out.cell 1
  simp only [List.getElem?_cons_succ, List.getElem?_cons_zero] at c0 c1 z1
  have HCV : Hid (∀ w', Blk w' bz (bytesOf S) → (convert 42 9 (.slice (some ⟨bz, 0, none⟩) 64 64)).run Tryz.prog w' = .ok (.string S) w') := Lib.hid (fun w' hb => conv_bytes (off := 0) (len := 64) (cap := 64) hb S hS64 (by intro q hq; rw [Nat.zero_add]))
  have cv := HCV.out W2 HBC.out
  have hdrew : ∀ w' : World, (convert 42 9 (.slice (some ⟨bz, 0, none⟩) 64 64)).run Tryz.prog w' = .ok (.string S) w' → True := fun _ _ => trivial
  clear hi0 hz0 hz1 hz2 e8 hBm hFm hbz hFc hpad hBc hm hF02 hblk hltw hdrew
  go_wp2_with (go_at_call 24; refine (ham _).mono ?_; rintro e w1 ⟨rfl, rfl⟩)
  have HFW : Hid (Fr [] W2 W2.drew) := Lib.hid ((Fr.refl _ _).drew)
  have cvd := HCV.out W2.drew HBC.out
  have hHB := HBW
  obtain ⟨D1, hD1⟩ : ∃ D1, d.write nn S = D1 := ⟨_, rfl⟩
  have hl1 : D1.1.on.length = n := by rw [← hD1, Dv.write_len]; exact HBW.out.len
  obtain ⟨D3, hD3⟩ : ∃ D3, D1.1.flush = D3 := ⟨_, rfl⟩
  have hl3 : D3.1.on.length = n := by rw [← hD3, Dv.flush_len (by rw [← hD1]; exact HBW.out.dev.wf.write _ _)]; exact hl1
  have HDD1 := Lib.hid hD1
  have HDD3 := Lib.hid hD3
  have HL1 := Lib.hid hl1
  have HL3 := Lib.hid hl3
  clear hD1 hl1 hD3 hl3
  go_region_held3 (fun w' => w'.cell? ⟨x.bb, 0, none⟩ = some (.pointer (some ⟨x.bd, 0, none⟩)) ∧ w'.cell? ⟨x.bb, 1, none⟩ = some (.pointer (some ⟨x.rd, 0, none⟩)) ∧ w'.cell? ⟨ba, 1, none⟩ = some (.int .i64 nn) ∧
      (convert 42 9 (.slice (some ⟨bz, 0, none⟩) 64 64)).run Tryz.prog w' = .ok (.string S) w')
    (first | (refine ⟨?_, ?_, ?_, ?_⟩ <;> assumption) | (refine ⟨?_, ?_, ?_, cvd⟩ <;> go_keep))
    (first
      | (go_at_call 57; refine (write_c (HBW.out.fr0 (by exact (Fr.refl [] W2).drew)).dev nn S).mono ?_; rw [HDD1.out]; rintro e w3 ⟨rfl, hD3, hF3⟩
         have HF3 : Hid (Fr [x.bd, x.bo, x.bm] W2 w3) := Lib.hid (HFW.out.any.trans (hF3.mono (by simp)))
         have HD3 := Lib.hid hD3
         have HCC3 := Lib.hid (HCW.out.fr HF3.out HBN.out.1)
         have HAA3 := Lib.hid (HAW.out.fr HF3.out HAN.out.1)
         have HBC3 := Lib.hid (HBC.out.fr HF3.out HBZ.out.1)
         have q0 := HCC3.out.cell 0
         have q1 := HCC3.out.cell 1
         have q2 := HAA3.out.cell 1
         have q3 := HCV.out w3 HBC3.out
         simp only [List.getElem?_cons_succ, List.getElem?_cons_zero] at q0 q1 q2
         clear hF3 hD3)
      | (go_at_call 46; refine (rWrite_c (HBW.out.refFr HF3.out) nn S).mono ?_; rw [HDD1.out]; rintro e w4 ⟨rfl, hD4, hF4⟩
         have HF4 : Hid (Fr [x.rd, x.ro, x.rn] w3 w4) := Lib.hid (hF4.mono (by simp))
         have HCC4 := Lib.hid (HCC3.out.fr HF4.out HBN.out.2)
         have HAA4 := Lib.hid (HAA3.out.fr HF4.out HAN.out.2)
         have HBC4 := Lib.hid (HBC3.out.fr HF4.out HBZ.out.2.1)
         have HB4 := Lib.hid (HBW.out.two HD3.out HF3.out hD4 HF4.out HL1.out)
         have q0 := HCC4.out.cell 0
         have q1 := HCC4.out.cell 1
         have q2 := HAA4.out.cell 1
         have q3 := HCV.out w4 HBC4.out
         simp only [List.getElem?_cons_succ, List.getElem?_cons_zero] at q0 q1 q2
         clear hF4 hD4)
      | (go_at_call 58; refine (flush_c HB4.out.dev).mono ?_; rw [HDD3.out]; rintro e w5 ⟨rfl, hD5, hF5⟩
         have HF5 := Lib.hid hF5
         have HD5 := Lib.hid hD5
         have HCC5 := Lib.hid (HCC4.out.fr HF5.out HBN.out.1)
         have HAA5 := Lib.hid (HAA4.out.fr HF5.out HAN.out.1)
         have HBC5 := Lib.hid (HBC4.out.fr HF5.out HBZ.out.1)
         have q0 := HCC5.out.cell 0
         have q1 := HCC5.out.cell 1
         have q2 := HAA5.out.cell 1
         have q3 := HCV.out w5 HBC5.out
         simp only [List.getElem?_cons_succ, List.getElem?_cons_zero] at q0 q1 q2
         clear hF5 hD5)
      | (go_at_call 48; refine (rFlush_c (HB4.out.refFr HF5.out)).mono ?_; rw [HDD3.out]; rintro e w6 ⟨rfl, hD6, hF6⟩
         have HF6 := Lib.hid hF6
         have HC2 := Lib.hid (HCC5.out.fr HF6.out HBN.out.2)
         have HA2 := Lib.hid (HAA5.out.fr HF6.out HAN.out.2)
         have HBC6 := Lib.hid (HBC5.out.fr HF6.out HBZ.out.2.1)
         have HB2 := Lib.hid (HB4.out.two HD5.out HF5.out hD6 HF6.out HL3.out)
         have q0 := HC2.out.cell 0
         have q1 := HC2.out.cell 1
         have q2 := HA2.out.cell 1
         have q3 := HCV.out w6 HBC6.out
         simp only [List.getElem?_cons_succ, List.getElem?_cons_zero] at q0 q1 q2
         clear hF6 hD6))
  have HPK2 := Lib.hid ((((HPKW.out.fr HF3.out HPN.out.2.1).fr HF4.out HPN.out.2.2.2).fr HF5.out HPN.out.2.1).fr HF6.out HPN.out.2.2.2)
  obtain ⟨w2, rfl⟩ : ∃ w2 : World, w2 = w6 := ⟨_, rfl⟩
  go_wp2
  refine wp_region_tail 6 (by kernel_rfl) (by kernel_rfl) ?_
  refine q_val rfl (by intro w' _; go_simp; rfl) ?_
  go_frame
  refine q_val rfl (by intro w' _; go_simp; rfl) ?_
  go_frame
  refine q_val rfl (by intro w' _; go_simp; rfl) ?_
  go_frame
  refine q_val (v := .pointer (some ⟨x.bd, 0, none⟩)) rfl (by intro w' hW'; have := (HC2.out.fr hW' (by simp)).cell 0; go_simp) ?_
  go_frame
  refine q_val rfl (by intro w' _; go_simp; rfl) ?_
  go_frame
  refine q_val (v := pv) rfl (by intro w' hW'; have := (HA2.out.fr hW' (by simp)).cell 4; go_simp) ?_
  go_frame
  refine wpQuiet_nil ?_
  intro w3 hF3
  have hcr := crash_c (HB2.out.fr0 hF3).dev (HPK2.out.fr hF3 (by simp)) HPN.out.1 hps hpl
  go_wp2_with (go_at_call 15; refine hcr.mono ?_; clear hcr; rintro e w4 ⟨rfl, hD4, hF4⟩
               have HD4 := Lib.hid hD4
               have HF34 : Hid (Fr [x.bd, x.bo, x.bm] w2 w4) := Lib.hid (hF3.any.trans hF4)
               have HR4 := Lib.hid (HB2.out.refFr HF34.out)
               have HC4 := Lib.hid (HC2.out.fr HF34.out HBN.out.1)
               have HA4 := Lib.hid (HA2.out.fr HF34.out HAN.out.1)
               have HPK4 := Lib.hid (HPK2.out.fr HF34.out HPN.out.2.1)
               clear hD4 hF4 hF3)
  refine wp_region_tail 6 (by kernel_rfl) (by kernel_rfl) ?_
  refine q_val rfl (by intro w' _; go_simp; rfl) ?_
  go_frame
  refine q_val rfl (by intro w' _; go_simp; rfl) ?_
  go_frame
  refine q_val rfl (by intro w' _; go_simp; rfl) ?_
  go_frame
  refine q_val (v := .pointer (some ⟨x.rd, 0, none⟩)) rfl (by intro w' hW'; have := (HC4.out.fr hW' (by simp)).cell 1; go_simp) ?_
  go_frame
  refine q_val rfl (by intro w' _; go_simp; rfl) ?_
  go_frame
  refine q_val (v := pv) rfl (by intro w' hW'; have := (HA4.out.fr hW' (by simp)).cell 4; go_simp) ?_
  go_frame
  refine wpQuiet_nil ?_
  intro w5 hF5
  have hcr := rCrash_c (HR4.out.fr hF5 (by simp) (by simp) (by simp)) (HPK4.out.fr hF5 (by simp)) HPN.out.2.2.1 hps hpl
  go_wp2_with (first
    | (go_at_call 59; refine hcr.mono ?_; clear hcr; rintro e w6 ⟨rfl, hR6, hF6⟩
       have hF56 : Fr [x.rd, x.ro, x.rn] w4 w6 := hF5.any.trans hF6
       have hlen : (D3.1.crash picks).on.length = n := by rw [Dv.crash]; show (tear _ _ _).length = n; rw [tear_len]; exact HB2.out.len
       have HB6 := Lib.hid (HB2.out.two HD4.out HF34.out hR6 hF56 hlen)
       have HC6 := Lib.hid (HC4.out.fr hF56 HBN.out.2)
       have hop := bOpen_c HB6.out _ _ HC6.out hK
       clear hR6 hF6 hF56 hF5 hlen)
    | (go_at_call 7; refine hop.mono ?_; clear hop; rintro e w7 ⟨rfl, hBA⟩))
  go_ret
  exact ⟨rfl, _, _, hBA⟩
end

end Go.Proofs.YtiojkakmlbfiiaaGreat
