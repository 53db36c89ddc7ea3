/- The law's own functions: both.step. -/
import Derived.Test.YtiojkakmlbfiiaaGreatM27
/- The law's own functions: both.step. -/
namespace Go.Proofs.YtiojkakmlbfiiaaGreat
open Go.RowKit
open Sp

theorem sub1 (x : Bx) (bl : Nat) (v : Value) : ∀ b ∈ bl :: v.ownBlock.toList, b ∈ S1 x bl v := by
  intro b hb
  rcases List.mem_cons.1 hb with e | e
  · subst e; exact (in1 x b v).2.2.2.1
  · exact List.mem_append_right _ e
theorem sub1' (x : Bx) (bl : Nat) (v : Value) : ∀ b ∈ [x.bd, x.bo, x.bm, bl], b ∈ S1 x bl v := fun _ hb => List.mem_append_left _ hb
theorem sub2 (x : Bx) (rl : Nat) (rv : Value) : ∀ b ∈ [rl], b ∈ S2 x rl rv := by
  intro b hb
  obtain rfl : b = rl := by simpa using hb
  exact (in2 x b rv).2.2.2.1
theorem sub2' (x : Bx) (rl : Nat) (rv : Value) : ∀ b ∈ [x.rd, x.ro, x.rn, rl], b ∈ S2 x rl rv := fun _ hb => List.mem_append_left _ hb

section
variable {w0 w : World} {x : Bx} {n K : Nat} {d : Dv} {og : Option Lg} {kind nn : Int} {text : ByteArray} {tv : Value} {tf : Option Nat} {texts : List ByteArray} {pv : Value} {pf : Option Nat} {picks : List Int}

set_option maxHeartbeats 4000000 in
set_option maxRecDepth 100000 in
theorem step_outer (h : BothAt w0 w x n K d og) (ha : ActAt w0 kind nn text tv tf texts pv pf picks) (hK : 4611686018427387904 ≤ K) (hk : 2 < kind % 6) :
    Calls Tryz.prog 9 #[.pointer (some ⟨x.bb, 0, none⟩), .agg #[.int .i64 kind, .int .i64 nn, .string text, tv, pv]] w (OutPost w0 x n (K + 1)) := by
  have ham := fun W' => among_c kind 6 W' ha.hk (by omega) (by omega)
  obtain ⟨kk, hkk⟩ : ∃ kk, kind % 6 = kk := ⟨_, rfl⟩
  rw [hkk] at ham hk
  have hW : Blk (w.alloc (.cells #[.int .i64 kind, .int .i64 nn, .string text, tv, pv] 40)) w.heap.size [.int .i64 kind, .int .i64 nn, .string text, tv, pv] := Blk.new _ _ _
  have hF0 : Fr [] w (w.alloc (.cells #[.int .i64 kind, .int .i64 nn, .string text, tv, pv] 40)) := (Fr.refl _ _).alloc _
  have HA := Lib.hid hW
  have hout := bOuter_c (h.fr0 hF0) ha hK
  have hkb : -9223372036854775808 ≤ kind ∧ kind ≤ 9223372036854775807 := ha.hk
  clear hW hF0 h ha hkk
  go_enter Tryz.func9, Tryz.ntmps9
  have z0 := HA.out.cell 0
  have z1 := HA.out.cell 1
  have z2 := HA.out.cell 2
  have z3 := HA.out.cell 3
  have z4 := HA.out.cell 4
  simp only [List.getElem?_cons_zero, List.getElem?_cons_succ] at z0 z1 z2 z3 z4
  go_wp2_with (fail)
  obtain ⟨W, hWW⟩ : ∃ W, w.alloc (.cells #[.int .i64 kind, .int .i64 nn, .string text, tv, pv] 40) = W := ⟨_, rfl⟩
  rw [hWW] at z0 z1 z2 z3 z4 hout ⊢
  clear hWW HA
  generalize w.heap.size = ba at *
  go_wp2_with (first
    | (go_at_call 24; refine (ham _).mono ?_; rintro e w1 ⟨rfl, rfl⟩)
    | (go_at_call 25; refine hout.mono ?_; rintro e w2 ⟨rfl, d', og', hB⟩))
  go_ret
  exact ⟨rfl, d', og', hB.more (by omega)⟩

set_option maxHeartbeats 4000000 in
set_option maxRecDepth 100000 in
theorem step_idle (h : BothAt w0 w x n K d og) (ha : ActAt w0 kind nn text tv tf texts pv pf picks) (hk : ¬ 2 < kind % 6) (hi : og = none ∨ d.down = true) :
    Calls Tryz.prog 9 #[.pointer (some ⟨x.bb, 0, none⟩), .agg #[.int .i64 kind, .int .i64 nn, .string text, tv, pv]] w (OutPost w0 x n (K + 1)) := by
  have ham := fun W' => among_c kind 6 W' ha.hk (by omega) (by omega)
  obtain ⟨kk, hkk⟩ : ∃ kk, kind % 6 = kk := ⟨_, rfl⟩
  rw [hkk] at ham hk
  have hk2 : kk ≤ 2 := by omega
  have hW : Blk (w.alloc (.cells #[.int .i64 kind, .int .i64 nn, .string text, tv, pv] 40)) w.heap.size [.int .i64 kind, .int .i64 nn, .string text, tv, pv] := Blk.new _ _ _
  have hF0 : Fr [] w (w.alloc (.cells #[.int .i64 kind, .int .i64 nn, .string text, tv, pv] 40)) := (Fr.refl _ _).alloc _
  have HA := Lib.hid hW
  have HH := Lib.hid (h.fr0 hF0)
  have hkb : -9223372036854775808 ≤ kind ∧ kind ≤ 9223372036854775807 := ha.hk
  clear hW hF0 h ha hkk hk
  go_enter Tryz.func9, Tryz.ntmps9
  have z0 := HA.out.cell 0
  simp only [List.getElem?_cons_zero, List.getElem?_cons_succ] at z0
  go_wp2_with (fail)
  obtain ⟨W, hWW⟩ : ∃ W, w.alloc (.cells #[.int .i64 kind, .int .i64 nn, .string text, tv, pv] 40) = W := ⟨_, rfl⟩
  rw [hWW] at z0 HH ⊢
  clear hWW HA
  generalize w.heap.size = ba at *
  cases og with
  | none =>
    have k2 := (HH.out.none_ rfl).cell 2
    simp only [List.getElem?_cons_zero, List.getElem?_cons_succ] at k2
    clear hi
    go_wp2_with (go_at_call 24; refine (ham _).mono ?_; rintro e w1 ⟨rfl, rfl⟩)
    go_ret
    exact ⟨rfl, _, _, HH.out.more (by omega)⟩
  | some g =>
    obtain ⟨_, bl, v, rl, rv, hL⟩ := HH.out.some_ g rfl
    have k1 := hL.cells.cell 1
    have k2 := hL.cells.cell 2
    have k3 := hL.cells.cell 3
    simp only [List.getElem?_cons_zero, List.getElem?_cons_succ] at k1 k2 k3
    have kd := HH.out.base.ref.cells.2.2.2
    have hdn : d.down = true := by rcases hi with h | h; cases h; exact h
    rw [hdn] at kd
    clear hi hdn hL
    go_wp2_with (go_at_call 24; refine (ham _).mono ?_; rintro e w1 ⟨rfl, rfl⟩)
    go_ret
    exact ⟨rfl, _, _, HH.out.more (by omega)⟩

set_option maxHeartbeats 8000000 in
set_option maxRecDepth 100000 in
theorem step_append {g : Lg} (h : BothAt w0 w x n K d (some g)) (ha : ActAt w0 kind nn text tv tf texts pv pf picks) (hk : kind % 6 = 0) (hdn : d.down = false) :
    Calls Tryz.prog 9 #[.pointer (some ⟨x.bb, 0, none⟩), .agg #[.int .i64 kind, .int .i64 nn, .string text, tv, pv]] w (OutPost w0 x n (K + 1)) := by
  have ham := fun W' => among_c kind 6 W' ha.hk (by omega) (by omega)
  rw [hk] at ham
  have hW : Blk (w.alloc (.cells #[.int .i64 kind, .int .i64 nn, .string text, tv, pv] 40)) w.heap.size [.int .i64 kind, .int .i64 nn, .string text, tv, pv] := Blk.new _ _ _
  have hF0 : Fr [] w (w.alloc (.cells #[.int .i64 kind, .int .i64 nn, .string text, tv, pv] 40)) := (Fr.refl _ _).alloc _
  obtain ⟨hcn, bl, v, rl, rv, hL⟩ := h.some_ g rfl
  have hap := hL.apart h.base
  have HBA : Hid (w.heap.size ∉ S1 x bl v ∧ w.heap.size ∉ S2 x rl rv) := Lib.hid ⟨fun hm => by have := hap.p4 _ hm; omega, fun hm => by have := hap.p5 _ hm; omega⟩
  have HCN := Lib.hid hcn
  have HA := Lib.hid hW
  have HB := Lib.hid (h.base.fr0 hF0)
  have HL := Lib.hid (hL.fr0 hF0)
  have HAP := Lib.hid ((hL.fr0 hF0).apart (h.base.fr0 hF0))
  have htb := ha.ht
  have hkb : -9223372036854775808 ≤ kind ∧ kind ≤ 9223372036854775807 := ha.hk
  have HAC := Lib.hid (append_count g (64 * ((n - 2) / 2)) text)
  clear hW hF0 h ha hk hL hap hcn
  go_enter Tryz.func9, Tryz.ntmps9
  have z0 := HA.out.cell 0
  have z2 := HA.out.cell 2
  simp only [List.getElem?_cons_zero, List.getElem?_cons_succ] at z0 z2
  go_wp2_with (fail)
  obtain ⟨W, hWW⟩ : ∃ W, w.alloc (.cells #[.int .i64 kind, .int .i64 nn, .string text, tv, pv] 40) = W := ⟨_, rfl⟩
  rw [hWW] at z0 z2 HA HB HL HAP ⊢
  clear hWW
  generalize w.heap.size = ba at *
  have k1 := HL.out.cells.cell 1
  have k2 := HL.out.cells.cell 2
  have k3 := HL.out.cells.cell 3
  simp only [List.getElem?_cons_zero, List.getElem?_cons_succ] at k1 k2 k3
  have kd := HB.out.ref.cells.2.2.2
  rw [hdn] at kd
  have hap := LogsAt.prog HL.out
  have H4 := Lib.hid HL.out.n4
  obtain ⟨G, hG⟩ : ∃ G, g.append (64 * ((n - 2) / 2)) text = G := ⟨_, rfl⟩
  rw [hG] at HAC
  have HG := Lib.hid hG
  have HFW : Hid (Fr [] W W.drew) := Lib.hid ((Fr.refl _ _).drew)
  have HLEN := Lib.hid HB.out.len
  clear hG hap hdn
  go_wp2_with (go_at_call 24; refine (ham _).mono ?_; rintro e w1 ⟨rfl, rfl⟩)
  go_region_held3 (fun w' => w'.cell? ⟨x.bb, 2, none⟩ = some (.pointer (some ⟨bl, 0, none⟩)) ∧ w'.cell? ⟨x.bb, 3, none⟩ = some (.pointer (some ⟨rl, 0, none⟩)) ∧ w'.cell? ⟨ba, 2, none⟩ = some (.string text))
    (first | (refine ⟨?_, ?_, ?_⟩ <;> assumption) | go_keep)
    (first
      | (go_at_call 12; refine (append_c (HL.out.fr0 (by exact (Fr.refl [] W).drew)).prog text (by omega)).mono ?_; rw [HG.out]; rintro e w3 ⟨v1, rfl, hP, hM, hF3⟩
         have HF3 : Hid (Fr (S1 x bl v) W w3) := Lib.hid (HFW.out.any.trans (hF3.mono (sub1 x bl v)))
         have HP := Lib.hid hP
         have HM : Hid (Moved W v v1) := Lib.hid hM
         have HD3 := Lib.hid (dev_append (HL.out.fr0 HFW.out).prog (HB.out.fr0 HFW.out).dev hF3)
         have HMID := Lib.hid (logs_mid HB.out HL.out HF3.out)
         have HAA3 := Lib.hid (HA.out.fr HF3.out HBA.out.1)
         have q0 := HMID.out.2.2.cell 2
         have q1 := HMID.out.2.2.cell 3
         have q2 := HAA3.out.cell 2
         simp only [List.getElem?_cons_succ, List.getElem?_cons_zero] at q0 q1 q2
         clear hF3 hP hM)
      | (go_at_call 26; refine (rAppend_c HMID.out.1 HMID.out.2.1 (by rw [HLEN.out]) (by rw [HLEN.out]; exact H4.out) text (by omega)).mono ?_; rw [HG.out]; rintro e w4 ⟨rv1, rfl, hP4, hM4, hF4⟩
         have HF4 : Hid (Fr (S2 x rl rv) w3 w4) := Lib.hid (hF4.mono (sub2 x rl rv))
         have HF40 := Lib.hid hF4
         have HP4 := Lib.hid hP4
         have HM4 := Lib.hid hM4
         have q0 := (HMID.out.2.2.fr HF4.out HAP.out.p2).cell 2
         have q1 := (HMID.out.2.2.fr HF4.out HAP.out.p2).cell 3
         have q2 := (HAA3.out.fr HF4.out HBA.out.2).cell 2
         simp only [List.getElem?_cons_succ, List.getElem?_cons_zero] at q0 q1 q2
         clear hF4 hP4 hM4))
  go_wp2
  go_ret
  have hD4 : RefAt w4 x.rd x.ro x.rn x.co x.cn d := HMID.out.2.1.fr HF40.out (by have := HMID.out.1.n1; simp; omega) (by have := HMID.out.1.n2; simp; omega) (by have := HMID.out.1.n3; simp; omega)
  obtain ⟨r1, r2⟩ := both_two HB.out HL.out HP.out HM.out HD3.out HF3.out HP4.out HM4.out hD4 HF4.out HLEN.out
  exact ⟨by simp, d, some G.1, ⟨r1, fun e => by (cases e), fun g' e => by cases e; exact ⟨by rw [HAC.out]; have := HCN.out; omega, bl, v1, rl, rv1, r2⟩⟩⟩

set_option maxHeartbeats 8000000 in
set_option maxRecDepth 100000 in
theorem step_sync {g : Lg} (h : BothAt w0 w x n K d (some g)) (ha : ActAt w0 kind nn text tv tf texts pv pf picks) (hk : kind % 6 = 1) (hdn : d.down = false) (hK : K + 1 ≤ 9223372036854775807) :
    Calls Tryz.prog 9 #[.pointer (some ⟨x.bb, 0, none⟩), .agg #[.int .i64 kind, .int .i64 nn, .string text, tv, pv]] w (OutPost w0 x n (K + 1)) := by
  have ham := fun W' => among_c kind 6 W' ha.hk (by omega) (by omega)
  rw [hk] at ham
  have hW : Blk (w.alloc (.cells #[.int .i64 kind, .int .i64 nn, .string text, tv, pv] 40)) w.heap.size [.int .i64 kind, .int .i64 nn, .string text, tv, pv] := Blk.new _ _ _
  have hF0 : Fr [] w (w.alloc (.cells #[.int .i64 kind, .int .i64 nn, .string text, tv, pv] 40)) := (Fr.refl _ _).alloc _
  obtain ⟨hcn, bl, v, rl, rv, hL⟩ := h.some_ g rfl
  have HCN := Lib.hid hcn
  have HA := Lib.hid hW
  have HB := Lib.hid (h.base.fr0 hF0)
  have HL := Lib.hid (hL.fr0 hF0)
  have HAP := Lib.hid ((hL.fr0 hF0).apart (h.base.fr0 hF0))
  have hkb : -9223372036854775808 ≤ kind ∧ kind ≤ 9223372036854775807 := ha.hk
  have HSL := Lib.hid (sync_len h.base.dev.wf g)
  have HK := Lib.hid hK
  clear hW hF0 h ha hk hL hcn hK
  go_enter Tryz.func9, Tryz.ntmps9
  have z0 := HA.out.cell 0
  simp only [List.getElem?_cons_zero, List.getElem?_cons_succ] at z0
  go_wp2_with (fail)
  obtain ⟨W, hWW⟩ : ∃ W, w.alloc (.cells #[.int .i64 kind, .int .i64 nn, .string text, tv, pv] 40) = W := ⟨_, rfl⟩
  rw [hWW] at z0 HA HB HL HAP ⊢
  clear hWW
  generalize w.heap.size = ba at *
  have k1 := HL.out.cells.cell 1
  have k2 := HL.out.cells.cell 2
  have k3 := HL.out.cells.cell 3
  simp only [List.getElem?_cons_zero, List.getElem?_cons_succ] at k1 k2 k3
  have kd := HB.out.ref.cells.2.2.2
  rw [hdn] at kd
  have H4 := Lib.hid HL.out.n4
  obtain ⟨G, hG⟩ : ∃ G, g.sync d = G := ⟨_, rfl⟩
  rw [hG] at HSL
  have HG := Lib.hid hG
  have HFW : Hid (Fr [] W W.drew) := Lib.hid ((Fr.refl _ _).drew)
  have HLEN := Lib.hid HB.out.len
  clear hG hdn
  go_wp2_with (go_at_call 24; refine (ham _).mono ?_; rintro e w1 ⟨rfl, rfl⟩)
  go_region_held3 (fun w' => w'.cell? ⟨x.bb, 2, none⟩ = some (.pointer (some ⟨bl, 0, none⟩)) ∧ w'.cell? ⟨x.bb, 3, none⟩ = some (.pointer (some ⟨rl, 0, none⟩)))
    (first | (refine ⟨?_, ?_⟩ <;> assumption) | go_keep)
    (first
      | (go_at_call 13; refine (sync_c (HL.out.fr0 (by exact (Fr.refl [] W).drew)).prog (HB.out.fr0 (by exact (Fr.refl [] W).drew)).dev (by rw [HLEN.out]) (by have := HCN.out; have := HK.out; omega)).mono ?_; rw [HG.out]; rintro e w3 ⟨rfl, hP, hD, hF3⟩
         have HF3 : Hid (Fr (S1 x bl v) W w3) := Lib.hid (HFW.out.any.trans (hF3.mono (sub1' x bl v)))
         have HP := Lib.hid hP
         have HD3 := Lib.hid hD
         have HMID := Lib.hid (logs_mid HB.out HL.out HF3.out)
         have q0 := HMID.out.2.2.cell 2
         have q1 := HMID.out.2.2.cell 3
         simp only [List.getElem?_cons_succ, List.getElem?_cons_zero] at q0 q1
         clear hF3 hP hD)
      | (go_at_call 27; refine (rSync_c HMID.out.1 HMID.out.2.1 (by rw [HLEN.out]) (by rw [HLEN.out]; exact H4.out) (by have := HCN.out; have := HK.out; omega)).mono ?_; rw [HG.out]; rintro e w4 ⟨rfl, hP4, hD4, hF4⟩
         have HF4 : Hid (Fr (S2 x rl rv) w3 w4) := Lib.hid (hF4.mono (sub2' x rl rv))
         have HP4 := Lib.hid hP4
         have HD4 := Lib.hid hD4
         have q0 := (HMID.out.2.2.fr HF4.out HAP.out.p2).cell 2
         have q1 := (HMID.out.2.2.fr HF4.out HAP.out.p2).cell 3
         simp only [List.getElem?_cons_succ, List.getElem?_cons_zero] at q0 q1
         clear hF4 hP4 hD4))
  go_wp2
  go_ret
  obtain ⟨r1, r2⟩ := both_two HB.out HL.out HP.out (Or.inl rfl) HD3.out HF3.out HP4.out (Or.inl rfl) HD4.out HF4.out (by rw [HSL.out.1]; exact HLEN.out)
  exact ⟨by simp, G.2.1, some G.1, ⟨r1, fun e => by (cases e), fun g' e => by cases e; exact ⟨by have := HSL.out.2; have := HCN.out; omega, bl, v, rl, rv, r2⟩⟩⟩

set_option maxHeartbeats 8000000 in
set_option maxRecDepth 100000 in
theorem step_restart {g : Lg} (h : BothAt w0 w x n K d (some g)) (ha : ActAt w0 kind nn text tv tf texts pv pf picks) (hk : kind % 6 = 2) (hdn : d.down = false) (hK : K + 1 ≤ 9223372036854775807) :
    Calls Tryz.prog 9 #[.pointer (some ⟨x.bb, 0, none⟩), .agg #[.int .i64 kind, .int .i64 nn, .string text, tv, pv]] w (OutPost w0 x n (K + 1)) := by
  have ham := fun W' => among_c kind 6 W' ha.hk (by omega) (by omega)
  rw [hk] at ham
  have hW : Blk (w.alloc (.cells #[.int .i64 kind, .int .i64 nn, .string text, tv, pv] 40)) w.heap.size [.int .i64 kind, .int .i64 nn, .string text, tv, pv] := Blk.new _ _ _
  have hF0 : Fr [] w (w.alloc (.cells #[.int .i64 kind, .int .i64 nn, .string text, tv, pv] 40)) := (Fr.refl _ _).alloc _
  obtain ⟨hcn, bl, v, rl, rv, hL⟩ := h.some_ g rfl
  have hap := hL.apart h.base
  have HBA : Hid (w.heap.size ∉ S1 x bl v ∧ w.heap.size ∉ S2 x rl rv) := Lib.hid ⟨fun hm => by have := hap.p4 _ hm; omega, fun hm => by have := hap.p5 _ hm; omega⟩
  have HCN := Lib.hid hcn
  have HA := Lib.hid hW
  have HB := Lib.hid (h.base.fr0 hF0)
  have HL := Lib.hid (hL.fr0 hF0)
  have HAP := Lib.hid ((hL.fr0 hF0).apart (h.base.fr0 hF0))
  have htl := ha.htl
  have HTT := Lib.hid ha.htt
  have HTS := Lib.hid (ha.hts.fr (h.base.fr.trans hF0) (by simp))
  have hkb : -9223372036854775808 ≤ kind ∧ kind ≤ 9223372036854775807 := ha.hk
  have hold : ∀ b ∈ S2 x rl rv, w0.heap.size ≤ b := by
    intro b hb
    have h0 := h.base.old
    have h1 := own_base hL.ref.own
    have h2 := (hL.low x.bb (by simp [Bx.S])).2
    simp [Bx.S] at h0
    rcases mem_S2 hb with e | e | e | e | e
    · omega
    · omega
    · omega
    · omega
    · have := h1 b e; omega
  have hold1 : ∀ b ∈ S1 x bl v, w0.heap.size ≤ b := by
    intro b hb
    have h0 := h.base.old
    have h1 := own_base hL.prog.own
    have h2 := (hL.low x.bb (by simp [Bx.S])).1
    simp [Bx.S] at h0
    rcases mem_S1 hb with e | e | e | e | e
    · omega
    · omega
    · omega
    · omega
    · have := h1 b e; omega
  have HTF : Hid ((∀ b, tf = some b → b ∉ S1 x bl v) ∧ (∀ b, tf = some b → b ∉ S2 x rl rv)) := Lib.hid ⟨fun b hb hm => by have := ha.htf b hb; have := hold1 b hm; omega, fun b hb hm => by have := ha.htf b hb; have := hold b hm; omega⟩
  have HSL := Lib.hid (restart_len h.base.dev.wf g texts)
  have HK := Lib.hid hK
  clear hW hF0 h ha hk hL hap hcn hK hold hold1
  go_enter Tryz.func9, Tryz.ntmps9
  have z0 := HA.out.cell 0
  have z3 := HA.out.cell 3
  simp only [List.getElem?_cons_zero, List.getElem?_cons_succ] at z0 z3
  go_wp2_with (fail)
  obtain ⟨W, hWW⟩ : ∃ W, w.alloc (.cells #[.int .i64 kind, .int .i64 nn, .string text, tv, pv] 40) = W := ⟨_, rfl⟩
  rw [hWW] at z0 z3 HA HB HL HAP HTS ⊢
  clear hWW
  generalize w.heap.size = ba at *
  have k1 := HL.out.cells.cell 1
  have k2 := HL.out.cells.cell 2
  have k3 := HL.out.cells.cell 3
  simp only [List.getElem?_cons_zero, List.getElem?_cons_succ] at k1 k2 k3
  have kd := HB.out.ref.cells.2.2.2
  rw [hdn] at kd
  have H4 := Lib.hid HL.out.n4
  obtain ⟨G, hG⟩ : ∃ G, g.restart d texts = G := ⟨_, rfl⟩
  rw [hG] at HSL
  have HG := Lib.hid hG
  have HLEN := Lib.hid HB.out.len
  have hlend := lend_c W tv tf texts HTS.out htl
  have HTL := Lib.hid htl
  clear hG hdn htl
  go_wp2_with (first
    | (go_at_call 24; refine (ham _).mono ?_; rintro e w1 ⟨rfl, rfl⟩)
    | (go_at_call 28; refine hlend.mono ?_; rintro e w2 ⟨u, rfl, hU, hF2⟩; clear hlend
       have HU := Lib.hid hU
       have HF2 := Lib.hid hF2
       have HLE := Lib.hid hF2.size
       have HA2 := Lib.hid (HA.out.fr hF2 (by simp))
       have HB2 := Lib.hid (HB.out.fr0 hF2)
       have HL2 := Lib.hid (HL.out.fr0 hF2)
       have HTS2 := Lib.hid (HTS.out.fr hF2 (by simp))
       have k2' := HL2.out.cells.cell 2
       have k3' := HL2.out.cells.cell 3
       have z3' := HA2.out.cell 3
       simp only [List.getElem?_cons_zero, List.getElem?_cons_succ] at k2' k3' z3'
       clear hU hF2))
  have HFW : Hid (Fr [] w2 w2.drew) := Lib.hid ((Fr.refl _ _).drew)
  have HP2 : Hid (∀ b ∈ S1 x bl v, b < W.heap.size) := Lib.hid HAP.out.p4
  have HQ2 : Hid (∀ b ∈ S2 x rl rv, b < W.heap.size) := Lib.hid HAP.out.p5
  obtain ⟨ub, husl, hub⟩ := HU.out.slice
  have HUB : Hid (∀ b, some ub = some b → b ≠ bl) := Lib.hid (fun b hb e => by cases hb; have := HP2.out bl (in1 x bl v).2.2.2.1; omega)
  have HUS := Lib.hid husl
  clear husl hub k1 k2 k3 z0 z3 kd
  go_region_held3 (fun w' => w'.cell? ⟨x.bb, 2, none⟩ = some (.pointer (some ⟨bl, 0, none⟩)) ∧ w'.cell? ⟨x.bb, 3, none⟩ = some (.pointer (some ⟨rl, 0, none⟩)) ∧ w'.cell? ⟨ba, 3, none⟩ = some tv)
    (first | (refine ⟨?_, ?_, ?_⟩ <;> assumption) | go_keep)
    (first
      | (go_at_call 29; refine (restart_c (HL2.out.fr0 (by exact (Fr.refl [] w2).drew)).prog (HB2.out.fr0 (by exact (Fr.refl [] w2).drew)).dev (by rw [HLEN.out]) (by have := HCN.out; have := HK.out; omega) u (some ub) texts (HUS.out.fr ((Fr.refl [] w2).drew) (by simp)) HUB.out (by have := HTL.out; omega) HTT.out).mono ?_; rw [HG.out]; rintro e w3 ⟨v1, rfl, hP, hM, hD, hF3⟩
         have HF3 : Hid (Fr (S1 x bl v) w2 w3) := Lib.hid (HFW.out.any.trans (hF3.mono (sub1' x bl v)))
         have HP := Lib.hid hP
         have HM : Hid (Moved w2 v v1) := Lib.hid hM
         have HD3 := Lib.hid hD
         have HMID := Lib.hid (logs_mid HB2.out HL2.out HF3.out)
         have HAA3 := Lib.hid (HA2.out.fr HF3.out HBA.out.1)
         have HTS3 := Lib.hid (HTS2.out.fr HF3.out HTF.out.1)
         have HU3 := Lib.hid (HU.out.fr HF3.out HP2.out)
         have q0 := HMID.out.2.2.cell 2
         have q1 := HMID.out.2.2.cell 3
         have q2 := HAA3.out.cell 3
         simp only [List.getElem?_cons_succ, List.getElem?_cons_zero] at q0 q1 q2
         clear hF3 hP hM hD)
      | (go_at_call 30; refine (rRestart_c HMID.out.1 HMID.out.2.1 (by rw [HLEN.out]) (by rw [HLEN.out]; exact H4.out) (by have := HCN.out; have := HK.out; omega) tv tf texts HTS3.out (fun b hb hm => HTF.out.2 b hb (sub2' x rl rv b hm)) (by have := HTL.out; omega) HTT.out).mono ?_; rw [HG.out]; rintro e w4 ⟨rv1, rfl, hP4, hM4, hD4, hF4⟩
         have HF4 : Hid (Fr (S2 x rl rv) w3 w4) := Lib.hid (hF4.mono (sub2' x rl rv))
         have HP4 := Lib.hid hP4
         have HM4 := Lib.hid hM4
         have HD4 := Lib.hid hD4
         have HTS4 := Lib.hid (HTS3.out.fr HF4.out HTF.out.2)
         have HU4 := Lib.hid (HU3.out.fr HF4.out HQ2.out)
         have q0 := (HMID.out.2.2.fr HF4.out HAP.out.p2).cell 2
         have q1 := (HMID.out.2.2.fr HF4.out HAP.out.p2).cell 3
         have q2 := (HAA3.out.fr HF4.out HBA.out.2).cell 3
         simp only [List.getElem?_cons_succ, List.getElem?_cons_zero] at q0 q1 q2
         clear hF4 hP4 hM4 hD4)
      | (go_at_call 31; refine (kept_c w4 _ u tv tf texts HU4.out HTS4.out HTL.out).mono ?_; rintro e w5 ⟨rfl, hF5⟩
         have HF5 := Lib.hid hF5
         have q0 := ((HMID.out.2.2.fr HF4.out HAP.out.p2).fr hF5 (by simp)).cell 2
         have q1 := ((HMID.out.2.2.fr HF4.out HAP.out.p2).fr hF5 (by simp)).cell 3
         have q2 := ((HAA3.out.fr HF4.out HBA.out.2).fr hF5 (by simp)).cell 3
         simp only [List.getElem?_cons_succ, List.getElem?_cons_zero] at q0 q1 q2
         clear hF5))
  go_wp2
  go_ret
  obtain ⟨r1, r2⟩ := both_two HB2.out HL2.out HP.out HM.out HD3.out HF3.out HP4.out HM4.out HD4.out HF4.out (by rw [HSL.out.1]; exact HLEN.out)
  exact ⟨by simp, G.2.1, some G.1, ⟨r1.fr0 HF5.out, fun e => by (cases e), fun g' e => by cases e; exact ⟨by have := HSL.out.2; have := HCN.out; omega, bl, v1, rl, rv1, r2.fr0 HF5.out⟩⟩⟩

theorem bStep_c (h : BothAt w0 w x n K d og) (ha : ActAt w0 kind nn text tv tf texts pv pf picks) (hK0 : 4611686018427387904 ≤ K) (hK : K + 1 ≤ 9223372036854775807) :
    Calls Tryz.prog 9 #[.pointer (some ⟨x.bb, 0, none⟩), .agg #[.int .i64 kind, .int .i64 nn, .string text, tv, pv]] w (OutPost w0 x n (K + 1)) := by
  by_cases hk : 2 < kind % 6
  · exact step_outer h ha hK0 hk
  · by_cases hi : og = none ∨ d.down = true
    · exact step_idle h ha hk hi
    · simp only [not_or, Bool.not_eq_true] at hi
      obtain ⟨ho, hdn⟩ := hi
      cases og with
      | none => exact absurd rfl ho
      | some g =>
        have h0 := Int.emod_nonneg kind (show (6 : Int) ≠ 0 by omega)
        rcases (show kind % 6 = 0 ∨ kind % 6 = 1 ∨ kind % 6 = 2 by omega) with e | e | e
        · exact step_append h ha e hdn
        · exact step_sync h ha e hdn hK
        · exact step_restart h ha e hdn hK
end

end Go.Proofs.YtiojkakmlbfiiaaGreat
