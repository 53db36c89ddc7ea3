/- The program's device and log beside the document's; both are opened. -/
import Derived.Test.YtiojkakmlbfiiaaGreatM13
import Derived.Test.YtiojkakmlbfiiaaGreatM10
import Derived.Test.YtiojkakmlbfiiaaGreatM17
import Derived.Test.YtiojkakmlbfiiaaGreatM20
import Derived.Test.YtiojkakmlbfiiaaGreatM23
/- The statements' own functions: Among, SpoilTexts, LendTexts, KeptTexts. -/
namespace Go.Proofs.YtiojkakmlbfiiaaGreat
open Go.RowKit
open Sp

theorem among_eq (x n : Int) (hn : 0 < n) : (x.tmod n + n).tmod n = x % n := by
  have h1 : -n < x.tmod n := by
    rcases Int.le_total 0 x with h | h
    · have := Int.tmod_nonneg n h; omega
    · have h2 := Int.tmod_lt_of_pos (-x) hn
      rw [Int.neg_tmod] at h2; omega
  have h2 : (x.tmod n + n) % n = x % n := by
    rw [Int.add_emod_right]
    have := Int.tmod_add_mul_tdiv x n
    conv => rhs; rw [← this]
    rw [Int.add_mul_emod_self_left]
  rw [Int.tmod_eq_emod_of_nonneg (by omega), h2]

theorem among_c (x n : Int) (w : World) (hx : -9223372036854775808 ≤ x ∧ x ≤ 9223372036854775807) (h1 : 1 ≤ n) (h2 : n ≤ 1000000) :
    Calls Tryz.prog 24 #[.int .i64 x, .int .i64 n] w fun e w' => e = .returned (.int .i64 (x % n)) ∧ w = w' := by
  have he := among_eq x n (by omega)
  obtain ⟨y, hy⟩ : ∃ y, x.tmod n = y := ⟨_, rfl⟩
  have hb : -1000000 ≤ y ∧ y ≤ 1000000 := by
    rw [← hy]
    have h3 : -n < x.tmod n ∧ x.tmod n < n := by
      constructor
      · rcases Int.le_total 0 x with h | h
        · have := Int.tmod_nonneg n h; omega
        · have h2 := Int.tmod_lt_of_pos (-x) (show 0 < n by omega)
          rw [Int.neg_tmod] at h2; omega
      · exact Int.tmod_lt_of_pos x (by omega)
    omega
  have hne : (n == 0) = false := by simp; omega
  have hne2 : ¬ n = 0 := by omega
  have HY := Lib.hid hy
  rw [hy] at he
  obtain ⟨z, hz⟩ : ∃ z, x % n = z := ⟨_, rfl⟩
  have hzb : 0 ≤ z ∧ z < n := by rw [← hz]; exact ⟨Int.emod_nonneg _ (by omega), Int.emod_lt_of_pos _ (by omega)⟩
  rw [hz] at he ⊢
  have HE := Lib.hid he
  clear hy he hz
  go_enter Tryz.func24, Tryz.ntmps24
  go_wp2
  go_ret
  refine ⟨ret_int ?_, rfl⟩
  rw [HY.out, show wrap64 (y + n) = y + n by unfold wrap64; omega, HE.out]

set_option maxRecDepth 100000 in
theorem spoil_c (w : World) (v : Value) (base n : Nat) (xs : List Value) (h : w.ownsRow base 9 1 v n xs) (hn : n ≤ 8796093022208) :
    Calls Tryz.prog 21 #[v] w fun e w' => e = .returned (.tuple #[]) ∧ Fr v.ownBlock.toList w w' := by
  obtain ⟨a, c, rfl⟩ := own_shape h
  have H := Lib.hid h
  clear h
  go_enter Tryz.func21, Tryz.ntmps21
  go_wp2
  go_loopw [2] (fun i wr => ∃ (k : Nat) (ys : List Value), k ≤ n ∧ i = .int .i64 (k : Int) ∧ Hid (wr.ownsRow base 9 1 (.slice a n c) n ys) ∧ Hid (Fr (Value.ownBlock (.slice a n c)).toList w wr)) (fun i _ => n - (intOf i).toNat)
  case atStart => exact ⟨0, xs, Nat.zero_le _, rfl, H, Lib.hid (Fr.refl _ _)⟩
  case round =>
    obtain ⟨k, ys, hk, rfl, hO, hF⟩ := hrel
    by_cases hlt : k < n
    · obtain ⟨b, rfl⟩ := own_some hO.out (by omega)
      have hlen : ys.length = n := by have := hO.out.1; omega
      obtain ⟨y, hy⟩ : ∃ y, ys[k]? = some y := ⟨_, List.getElem?_eq_getElem (by omega)⟩
      obtain ⟨hc, hf⟩ := own_cell hO.out k y hy
      clear hlen hy
      go_wp2
      go_roundw
      case rel => exact ⟨k + 1, _, by omega, by go_num, Lib.hid (own_set hO.out k _), Lib.hid (hF.out.setCell (Or.inl (by simp [Value.ownBlock])) _)⟩
      case measure => simp [intOf]; omega
    · obtain rfl : k = n := by omega
      go_wp2
      go_end0
      exact ⟨rfl, hF.out⟩

def markS : ByteArray := ⟨#[109, 97, 114, 107]⟩

/-- A copy with room behind its end, marked. -/
def LentAt (w : World) (base : Nat) (v : Value) (l : List ByteArray) : Prop :=
  ∃ b c, v = .slice (some ⟨b, 0, none⟩) l.length c ∧ w.ownsRow base 9 1 (.slice (some ⟨b, 0, none⟩) (l.length + 1) c) (l.length + 1) (strVals l ++ [.string markS])

set_option maxHeartbeats 1000000 in
set_option maxRecDepth 100000 in
theorem lend_c (w : World) (v : Value) (fp : Option Nat) (l : List ByteArray) (h : SliceAt w v fp (strVals l)) (hl : l.length * 16 ≤ 140737488351232) :
    Calls Tryz.prog 28 #[v] w fun e w' => ∃ u, e = .returned u ∧ LentAt w' w.heap.size u l ∧ Fr [] w w' := by
  obtain ⟨a, c, rfl⟩ := slice_lit_shape h
  obtain ⟨i0, hi, hz0, hz1, hz2⟩ := info_parts strInfo
  have HI := Lib.hid (show _ ∧ _ ∧ _ ∧ _ from ⟨hi, hz0, hz1, hz2⟩)
  have hlen : (strVals l).length = l.length := by simp [strVals]
  have HLN := Lib.hid hlen
  have HSL := Lib.hid h
  obtain ⟨n, hn⟩ : ∃ n, l.length = n := ⟨_, rfl⟩
  rw [hn] at hl HLN HSL ⊢
  have HNN := Lib.hid hn
  obtain ⟨N, hN⟩ : ∃ N, w.heap.size = N := ⟨_, rfl⟩
  have HN := Lib.hid hN
  have hN0 : N ≤ w.heap.size := by omega
  clear hi hz0 hz1 hz2 hlen h hn hN
  go_enter Tryz.func28, Tryz.ntmps28
  go_wp2_with (first
    | (at_builtin; refine wpList_append_sl _ rfl (.tmp 4) (.tmp 5) 37 rfl N 9 i0 (.string ByteArray.empty) 16 Tryz.underlying37 HI.out.1 HI.out.2.1 HI.out.2.2.1 HI.out.2.2.2 rfl
         (.slice (some ⟨w.heap.size, 0, none⟩) 0 0) 0 [] rfl (World.ownsRow_lit w #[] 0 (by omega) (by unfold maxLen; omega) rfl) (.slice a n c) fp (strVals l) rfl (HSL.out.fr (S := []) ((Fr.refl _ _).alloc _) (by simp)) (strVals_one _) (by rw [HLN.out]; unfold maxLen; omega) (by rw [HLN.out]; omega) (by simp; omega) ?_
       intro v1 w4 hown1 hgr1 _
       simp only [Nat.zero_add, List.nil_append, HLN.out] at hown1
       have hF4 : Fr [] w w4 := ((Fr.refl _ _).alloc _).grown hgr1 (fun b hb => Or.inr (by simp [Value.ownBlock] at hb; omega))
       have HF4 := Lib.hid hF4
       have HO4 := Lib.hid hown1
       have hle4 : N ≤ w4.heap.size := by rw [← HN.out]; exact hF4.size
       obtain ⟨a1, c1, rfl⟩ := own_shape hown1
       clear hown1 hgr1 hF4)
    | (at_builtin; refine wpList_append_sl _ rfl (.tmp 7) (.tmp 8) 37 rfl N 9 i0 (.string ByteArray.empty) 16 Tryz.underlying37 HI.out.1 HI.out.2.1 HI.out.2.2.1 HI.out.2.2.2 rfl
         (.slice a1 n c1) n (strVals l) rfl (own_fr HO4.out ((Fr.refl [] w4).alloc _) (by simp)) (.slice (some ⟨w4.heap.size, 0, none⟩) 1 1) (some w4.heap.size) [.string markS] rfl (slice_lit w4 [.string markS] _ 1 rfl) (by intro u hu; simp at hu; subst hu; rfl) (by unfold maxLen; simp; omega) (by simp; omega) (by simp; omega) ?_
       intro v2 w5 hown2 hgr2 _
       simp only [List.length_cons, List.length_nil, Nat.zero_add] at hown2
       have hF5 : Fr [] w w5 := (HF4.out.alloc _).grown hgr2 (fun b hb => Or.inr (by have := (own_base HO4.out b hb).1; rw [HN.out]; omega))
       have HF5 := Lib.hid hF5
       have HO5 := Lib.hid hown2
       obtain ⟨a2, c2, rfl⟩ := own_shape hown2
       obtain ⟨b2, rfl⟩ := own_some hown2 (by omega)
       have hcap : (n : Int) ≤ (c2 : Int) := by
         rcases hown2.2 with ⟨hv, h0⟩ | ⟨b, cap, cur, hv, _, _, hle, _⟩
         · omega
         · simp only [Value.slice.injEq] at hv; omega
       clear hown2 hgr2 hF5))
  go_ret
  exact ⟨_, rfl, ⟨b2, c2, by rw [HNN.out]; rfl, by rw [HNN.out, HN.out]; exact HO5.out⟩, HF5.out⟩

theorem LentAt.fr {w w' : World} {base : Nat} {v : Value} {l : List ByteArray} {S : List Nat} (h : LentAt w base v l) (hF : Fr S w w') (hS : ∀ x ∈ S, x < base) : LentAt w' base v l := by
  obtain ⟨b, c, rfl, hO⟩ := h
  exact ⟨b, c, rfl, own_fr hO hF (fun x hx hm => by have := (own_base hO x hx).1; have := hS x hm; omega)⟩

theorem LentAt.slice {w : World} {base : Nat} {v : Value} {l : List ByteArray} (h : LentAt w base v l) : ∃ b, SliceAt w v (some b) (strVals l) ∧ base ≤ b := by
  obtain ⟨b, c, rfl, hO⟩ := h
  have hlen : (strVals l).length = l.length := by simp [strVals]
  refine ⟨b, Or.inr ⟨b, 0, c, rfl, by rw [hlen], fun i x hx => ?_⟩, (own_base hO b rfl).1⟩
  have hi : i < (strVals l).length := by
    rcases Nat.lt_or_ge i (strVals l).length with h | h
    · exact h
    · rw [List.getElem?_eq_none h] at hx; cases hx
  rw [Nat.zero_add]
  exact (own_cell hO i x (by rw [List.getElem?_append_left hi]; exact hx)).1

set_option maxHeartbeats 1000000 in
set_option maxRecDepth 100000 in
theorem kept_c (w : World) (base : Nat) (u v : Value) (fp : Option Nat) (l : List ByteArray) (hu : LentAt w base u l) (h : SliceAt w v fp (strVals l)) (hl : l.length * 16 ≤ 140737488351232) :
    Calls Tryz.prog 31 #[u, v] w fun e w' => e = .returned (.bool true) ∧ Fr [] w w' := by
  obtain ⟨a, c, rfl⟩ := slice_lit_shape h
  obtain ⟨bs, hsl, _⟩ := hu.slice
  have hsame := same_c w u (.slice a l.length c) _ _ l hsl h (by omega)
  obtain ⟨b, c2, rfl, hO⟩ := hu
  have hcap : l.length + 1 ≤ c2 := by
    rcases hO.2 with ⟨hv, h0⟩ | ⟨b, cap, cur, hv, _, _, hle, _⟩
    · omega
    · simp only [Value.slice.injEq] at hv; omega
  have hcapI : (l.length : Int) + 1 ≤ (c2 : Int) := by omega
  have hlen : (strVals l).length = l.length := by simp [strVals]
  have HCELL : Hid (∀ w', Fr [] w w' → w'.cell? ⟨b, l.length, none⟩ = some (.string markS)) := Lib.hid (fun w' hF => by
    have := (own_cell (own_fr hO hF (by simp)) l.length (.string markS) (by rw [List.getElem?_append_right (by omega), hlen, Nat.sub_self]; rfl)).1
    exact this)
  generalize l.length = n at *
  have hmk : markS.toList = markS.toList := rfl
  clear hsl hO h hlen hmk
  go_enter Tryz.func31, Tryz.ntmps31
  go_wp2_with (go_at_call 16; refine hsame.mono ?_; rintro e w' ⟨rfl, hF⟩; have hcell := HCELL.out w' hF; unfold markS at hcell)
  go_ret
  exact ⟨rfl, hF⟩

end Go.Proofs.YtiojkakmlbfiiaaGreat

/- The program's device and log beside the document's; both are opened. -/
namespace Go.Proofs.YtiojkakmlbfiiaaGreat
open Go.RowKit
open Sp

theorem rMake_bad (w : World) (n : Int) (h : n < 1 ∨ 2048 < n) :
    Calls Tryz.prog 5 #[.int .i64 n] w fun e w' => e = .returned (.tuple #[.pointer none, .int .i64 1]) ∧ w = w' := by
  rcases h with h | h
  · go_enter Tryz.func5, Tryz.ntmps5
    go_wp2
    go_ret2
    exact ⟨rfl, rfl⟩
  · have h1 : 1 ≤ n := by omega
    go_enter Tryz.func5, Tryz.ntmps5
    go_wp2
    go_ret2
    exact ⟨rfl, rfl⟩

/-- The blocks that stay: both devices, and what holds them and the logs. -/
structure Bx where
  bb : Nat
  bd : Nat
  bo : Nat
  bm : Nat
  rd : Nat
  ro : Nat
  rn : Nat
  co : Nat
  cn : Nat

def Bx.S (x : Bx) : List Nat := [x.bb, x.bd, x.bo, x.bm, x.rd, x.ro, x.rn]

theorem Bx.prog (x : Bx) : ∀ b ∈ [x.bd, x.bo, x.bm], b ∈ x.S := by intro b hb; simp [Bx.S] at hb ⊢; omega
theorem Bx.doc (x : Bx) : ∀ b ∈ [x.rd, x.ro, x.rn], b ∈ x.S := by intro b hb; simp [Bx.S] at hb ⊢; omega

structure Base (w0 w : World) (x : Bx) (n : Nat) (d : Dv) : Prop where
  dev : DevAt w x.bd x.bo x.bm d
  ref : RefAt w x.rd x.ro x.rn x.co x.cn d
  fr : Fr [] w0 w
  old : ∀ b ∈ x.S, w0.heap.size ≤ b
  len : d.on.length = n
  s1 : x.bb ∉ [x.bd, x.bo, x.bm, x.rd, x.ro, x.rn]
  s2 : x.bd ∉ [x.rd, x.ro, x.rn]
  s3 : x.bo ∉ [x.rd, x.ro, x.rn]
  s4 : x.bm ∉ [x.rd, x.ro, x.rn]

structure LogsAt (w : World) (x : Bx) (n : Nat) (g : Lg) (bl : Nat) (v : Value) (rl : Nat) (rv : Value) : Prop where
  cells : Blk w x.bb [.pointer (some ⟨x.bd, 0, none⟩), .pointer (some ⟨x.rd, 0, none⟩), .pointer (some ⟨bl, 0, none⟩), .pointer (some ⟨rl, 0, none⟩)]
  prog : LogAt w bl x.bd x.bo x.bm ((n - 2) / 2) g v
  ref : RLogAt w rl x.rd x.ro x.rn ((n - 2) / 2) g rv
  n4 : 4 ≤ n
  low : ∀ b ∈ x.S, b < bl ∧ b < rl
  a1 : bl ≠ rl
  a2 : ∀ b, v.ownBlock = some b → b ≠ rl
  a3 : ∀ b, rv.ownBlock = some b → b ≠ bl
  a4 : ∀ b, v.ownBlock = some b → rv.ownBlock ≠ some b

structure BothAt (w0 w : World) (x : Bx) (n K : Nat) (d : Dv) (og : Option Lg) : Prop where
  base : Base w0 w x n d
  none_ : og = none → Blk w x.bb [.pointer (some ⟨x.bd, 0, none⟩), .pointer (some ⟨x.rd, 0, none⟩), .pointer none, .pointer none]
  some_ : ∀ g, og = some g → g.count ≤ K ∧ ∃ bl v rl rv, LogsAt w x n g bl v rl rv

theorem Base.fr0 {w0 w w' : World} {x : Bx} {n : Nat} {d : Dv} (h : Base w0 w x n d) (hF : Fr [] w w') : Base w0 w' x n d :=
  ⟨h.dev.fr hF (by simp) (by simp) (by simp), h.ref.fr hF (by simp) (by simp) (by simp), h.fr.trans hF, h.old, h.len, h.s1, h.s2, h.s3, h.s4⟩
theorem LogsAt.fr0 {w w' : World} {x : Bx} {n : Nat} {g : Lg} {bl : Nat} {v : Value} {rl : Nat} {rv : Value} (h : LogsAt w x n g bl v rl rv) (hF : Fr [] w w') : LogsAt w' x n g bl v rl rv :=
  ⟨h.cells.fr hF (by simp), h.prog.fr hF (by simp) (by simp), h.ref.fr0 hF, h.n4, h.low, h.a1, h.a2, h.a3, h.a4⟩
theorem BothAt.fr0 {w0 w w' : World} {x : Bx} {n K : Nat} {d : Dv} {og : Option Lg} (h : BothAt w0 w x n K d og) (hF : Fr [] w w') : BothAt w0 w' x n K d og :=
  ⟨h.base.fr0 hF, fun e => (h.none_ e).fr hF (by simp), fun g e => by obtain ⟨h1, bl, v, rl, rv, h2⟩ := h.some_ g e; exact ⟨h1, bl, v, rl, rv, h2.fr0 hF⟩⟩

/-- Both devices are changed, the program's first. -/
theorem Base.two {w0 w w1 w2 : World} {x : Bx} {n : Nat} {d d' : Dv} (h : Base w0 w x n d) (h1 : DevAt w1 x.bd x.bo x.bm d') (f1 : Fr [x.bd, x.bo, x.bm] w w1) (h2 : RefAt w2 x.rd x.ro x.rn x.co x.cn d') (f2 : Fr [x.rd, x.ro, x.rn] w1 w2) (hl : d'.on.length = n) :
    Base w0 w2 x n d' :=
  ⟨h1.fr f2 h.s2 h.s3 h.s4, h2, (h.fr.then f1 (fun b hb => Or.inr (h.old b (x.prog b hb)))).then f2 (fun b hb => Or.inr (h.old b (x.doc b hb))), h.old, hl, h.s1, h.s2, h.s3, h.s4⟩
theorem Base.refFr {w0 w w1 : World} {x : Bx} {n : Nat} {d : Dv} (h : Base w0 w x n d) (f1 : Fr [x.bd, x.bo, x.bm] w w1) : RefAt w1 x.rd x.ro x.rn x.co x.cn d :=
  h.ref.fr f1 (by have := h.s2; have := h.s3; have := h.s4; simp at *; omega) (by have := h.s2; have := h.s3; have := h.s4; simp at *; omega) (by have := h.s2; have := h.s3; have := h.s4; simp at *; omega)

theorem openLog_len {d : Dv} (hd : d.Wf) : (openLog d).1.on.length = d.on.length := by
  have hb : ∀ (d : Dv) (c : Nat), d.Wf → (d.bareNext c).1.on.length = d.on.length := by
    intro d c hd
    unfold Dv.bareNext
    simp only
    split
    · rfl
    · split
      · rfl
      · exact Dv.wflush_len hd _ _
  unfold openLog
  split
  · rfl
  · split
    · rfl
    · split
      · simp only
        split
        · split
          · show (Dv.bareNext _ _).1.on.length = _
            rw [hb _ _ (by unfold Dv.wflush; split; exact (hd.write _ _).flush; exact hd.write _ _), Dv.wflush_len hd]
          · show (Dv.bareNext _ _).1.on.length = _
            rw [hb _ _ (by unfold Dv.wflush; split; exact (hd.write _ _).flush; exact hd.write _ _), Dv.wflush_len hd]
        · exact Dv.wflush_len hd _ _
      · split
        · rfl
        · simp only
          split
          · exact hb _ _ hd
          · exact hb _ _ hd

theorem best_count {d : Dv} {c a l : Nat} (h : d.best = some (c, a, l)) : c ≤ 4611686018427387904 := by
  have h2 := d.upto_two.1
  rw [h] at h2
  have := (d.upto_ok 2).1
  rw [h2] at this
  exact this

theorem openLog_some {d : Dv} {g : Lg} (h : (openLog d).2.1 = some g) : 4 ≤ d.on.length ∧ g.count ≤ 4611686018427387904 := by
  unfold openLog at h
  split at h
  · cases h
  · rename_i h4
    refine ⟨by omega, ?_⟩
    split at h
    · cases h
    · split at h
      · simp only at h
        split at h
        · split at h
          · cases h; show 1 ≤ _; omega
          · cases h
        · cases h
      · rename_i hb
        split at h
        · cases h
        · simp only at h
          split at h
          · cases h; exact best_count hb
          · cases h

set_option maxHeartbeats 4000000 in
set_option maxRecDepth 100000 in
theorem bOpen_c {w0 w : World} {x : Bx} {n K : Nat} {d : Dv} (h : Base w0 w x n d) (p q : Value) (hc : Blk w x.bb [.pointer (some ⟨x.bd, 0, none⟩), .pointer (some ⟨x.rd, 0, none⟩), p, q]) (hK : 4611686018427387904 ≤ K) :
    Calls Tryz.prog 7 #[.pointer (some ⟨x.bb, 0, none⟩)] w fun e w' => e = .returned (.bool true) ∧ BothAt w0 w' x n K (openLog d).1 (openLog d).2.1 := by
  have k0 := hc.cell 0
  have hlen := openLog_len h.dev.wf
  have hsome := fun g (hg : (openLog d).2.1 = some g) => openLog_some hg
  have ho := open_c h.dev
  have hr := fun w1 (f1 : Fr [x.bd, x.bo, x.bm] w w1) => rOpen_c (h.refFr f1)
  generalize openLog d = R at *
  obtain ⟨D, og, e0⟩ := R
  simp only at hlen hsome ⊢
  have H := Lib.hid h
  have HC := Lib.hid hc
  have HS := Lib.hid hsome
  have HLEN := Lib.hid hlen
  have HBB : Hid (x.bb < w.heap.size ∧ x.rd < w.heap.size ∧ x.ro < w.heap.size ∧ x.rn < w.heap.size ∧ x.bd < w.heap.size ∧ x.bo < w.heap.size ∧ x.bm < w.heap.size) :=
    Lib.hid ⟨hc.lt, h.ref.blk.lt, (own_base h.ref.on x.ro rfl).2, (own_base h.ref.nw x.rn rfl).2, h.dev.blk.lt, h.dev.byt.lt, h.dev.map.lt⟩
  simp only [List.getElem?_cons_zero] at k0
  have HBN : Hid (x.bb ∉ [x.bd, x.bo, x.bm] ∧ x.bb ∉ [x.rd, x.ro, x.rn]) := Lib.hid (by have := h.s1; simp at *; omega)
  cases og with
  | none =>
    clear h hc hlen hsome
    go_enter Tryz.func7, Tryz.ntmps7
    go_wp2_with (first
      | (go_at_call 11; refine ho.mono ?_; clear ho; rintro e w1 ⟨hD1, hF1, hn1, -⟩; obtain rfl := hn1 rfl; clear hn1
         have HD1 := Lib.hid hD1
         have HF1 := Lib.hid hF1
         have hr1 := hr w1 hF1
         have HC1 := Lib.hid (HC.out.fr hF1 HBN.out.1)
         have k1 := HC1.out.cell 1
         simp only [List.getElem?_cons_succ, List.getElem?_cons_zero] at k1
         clear hD1 hF1 hr)
      | (go_at_call 18; refine hr1.mono ?_; clear hr1; rintro e w2 ⟨hD2, hF2, hn2, -⟩; obtain rfl := hn2 rfl; clear hn2
         have HD2 := Lib.hid hD2
         have HF2 := Lib.hid hF2
         have HC2 := Lib.hid (HC1.out.fr hF2 HBN.out.2)
         have k2 := HC2.out.cell 2
         have k3 := HC2.out.cell 3
         have f2 := HC2.out.free 2
         have f3 := HC2.out.free 3
         simp only [List.getElem?_cons_succ, List.getElem?_cons_zero] at k2 k3
         clear hD2 hF2))
    go_ret
    have hB := H.out.two HD1.out HF1.out HD2.out HF2.out (by rw [HLEN.out]; exact H.out.len)
    have hset : Fr [x.bb] w2 ((w2.setCell ⟨x.bb, 2, none⟩ (.pointer none)).setCell ⟨x.bb, 3, none⟩ (.pointer none)) := ((Fr.refl _ _).setCell (Or.inl (by simp)) _).setCell (Or.inl (by simp)) _
    have hs1 := H.out.s1
    refine ⟨by simp, ⟨⟨hB.dev.fr hset (by simp at *; omega) (by simp at *; omega) (by simp at *; omega), hB.ref.fr hset (by simp at *; omega) (by simp at *; omega) (by simp at *; omega), hB.fr.then hset (fun b hb => Or.inr (hB.old b (by simp [Bx.S] at *; omega))), hB.old, hB.len, hB.s1, hB.s2, hB.s3, hB.s4⟩, fun _ => ?_, fun g hg => by (cases hg)⟩⟩
    exact (HC2.out.set 2 _).set 3 _
  | some g =>
    clear h hc hlen hsome
    go_enter Tryz.func7, Tryz.ntmps7
    go_wp2_with (first
      | (go_at_call 11; refine ho.mono ?_; clear ho; rintro e w1 ⟨hD1, hF1, -, hs1⟩; obtain ⟨bl, v, rfl, hbl, hL1⟩ := hs1 g rfl; clear hs1
         have HD1 := Lib.hid hD1
         have HF1 := Lib.hid hF1
         have HL1 := Lib.hid hL1
         have HBL := Lib.hid hbl
         have hr1 := hr w1 hF1
         have HC1 := Lib.hid (HC.out.fr hF1 HBN.out.1)
         have k1 := HC1.out.cell 1
         simp only [List.getElem?_cons_succ, List.getElem?_cons_zero] at k1
         clear hD1 hF1 hr hL1 hbl)
      | (go_at_call 18; refine hr1.mono ?_; clear hr1; rintro e w2 ⟨hD2, hF2, -, hs2⟩; obtain ⟨rl, rv, rfl, hrl, hL2⟩ := hs2 g rfl; clear hs2
         have HD2 := Lib.hid hD2
         have HF2 := Lib.hid hF2
         have HL2 := Lib.hid hL2
         have HRL := Lib.hid hrl
         have HC2 := Lib.hid (HC1.out.fr hF2 HBN.out.2)
         have k2 := HC2.out.cell 2
         have k3 := HC2.out.cell 3
         have f2 := HC2.out.free 2
         have f3 := HC2.out.free 3
         simp only [List.getElem?_cons_succ, List.getElem?_cons_zero] at k2 k3
         clear hD2 hF2 hL2 hrl))
    go_ret
    have hB := H.out.two HD1.out HF1.out HD2.out HF2.out (by rw [HLEN.out]; exact H.out.len)
    have hset : Fr [x.bb] w2 ((w2.setCell ⟨x.bb, 2, none⟩ (.pointer (some ⟨bl, 0, none⟩))).setCell ⟨x.bb, 3, none⟩ (.pointer (some ⟨rl, 0, none⟩))) := ((Fr.refl _ _).setCell (Or.inl (by simp)) _).setCell (Or.inl (by simp)) _
    have hs1 := H.out.s1
    have hbb := HBB.out
    have hbl := HBL.out
    have hrl := HRL.out
    have hl1 := HF1.out.size
    have hl2 := HL1.out.blk.lt
    have hvb := own_base HL1.out.own
    have hrb := own_base HL2.out.own
    obtain ⟨h4, hcnt⟩ := HS.out g rfl
    have hln := H.out.len
    refine ⟨by simp, ⟨⟨hB.dev.fr hset (by simp at *; omega) (by simp at *; omega) (by simp at *; omega), hB.ref.fr hset (by simp at *; omega) (by simp at *; omega) (by simp at *; omega), hB.fr.then hset (fun b hb => Or.inr (hB.old b (by simp [Bx.S] at *; omega))), hB.old, hB.len, hB.s1, hB.s2, hB.s3, hB.s4⟩, fun hg => by (cases hg), fun g' hg => ?_⟩⟩
    cases hg
    refine ⟨by omega, bl, v, rl, rv, ⟨(HC2.out.set 2 _).set 3 _, ?_, ?_, by omega, ?_, by omega, ?_, ?_, ?_⟩⟩
    · have e1 : LogAt w2 bl x.bd x.bo x.bm ((d.on.length - 2) / 2) g v := HL1.out.fr HF2.out (by simp; omega) (fun b hb => by have := hvb b hb; simp; omega)
      rw [hln] at e1
      exact e1.fr hset (by simp; omega) (fun b hb => by have := hvb b hb; simp; omega)
    · have e1 := HL2.out
      rw [hln] at e1
      exact e1.fr hset (by simp; omega) (fun b hb => by have := hrb b hb; simp; omega)
    · intro b hb
      simp [Bx.S] at hb
      omega
    · intro b hb
      have := hvb b hb
      omega
    · intro b hb
      have := hrb b hb
      omega
    · intro b hb hb2
      have := hvb b hb
      have := hrb b hb2
      omega

end Go.Proofs.YtiojkakmlbfiiaaGreat
