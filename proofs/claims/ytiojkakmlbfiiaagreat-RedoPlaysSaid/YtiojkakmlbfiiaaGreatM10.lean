/- The program's log as an object: Texts, Append. -/
import Derived.Test.YtiojkakmlbfiiaaGreatM01
import Derived.Laws.AppendOwn
import Derived.Laws.OwnMore
import Derived.Test.YtiojkakmlbfiiaaGreatM09
/- append, with the place of what comes out: the old row, or a new block. -/
namespace Go.Proofs.YtiojkakmlbfiiaaGreat
open Go.RowKit

def Moved (w : World) (v v' : Value) : Prop := v'.ownBlock = v.ownBlock ∨ ∀ g, v'.ownBlock = some g → w.heap.size ≤ g

theorem run_append_at {P : Program} (w : World) (base : Nat) (t ty e : TypeId) (i : TypeInfo) (z : Value) (size bytes : Nat) (ht : P.underlying t = some (.slice e)) (hi : P.info? e = some i) (hz : i.zero = some z)
    (hsize : i.size = size) (hby : i.bytes = bytes) (hzs : z.cells.size = size) (hsz : 0 < size)
    (v : Value) (n : Nat) (xs : List Value) (hown : w.ownsRow base e size v n xs)
    (a : Addr) (m c : Nat) (news : List Value) (hl : news.length = m * size) (hnews : ∀ j u, news[j]? = some u → w.cell? (a.add j) = some u) (h1 : ∀ u ∈ news, u.oneCell' = true)
    (h63 : n + m ≤ maxLen) (hbytes : (n + m) * bytes ≤ 140737488355328) (hbase : base ≤ w.heap.size) :
    ∃ v' w', (Builtin.append_ #[t, t] ty #[v, .slice (some a) m c]).run P w = .ok v' w' ∧ w'.ownsRow base e size v' (n + m) (xs ++ news) ∧ w.grownBy w' v.ownBlock ∧ Moved w v v' := by
  obtain ⟨v', w', hr, h2, h3, _⟩ := run_append_own (P := P) w base t ty e i z size bytes ht hi hz hsize hby hzs hsz v n xs hown a m c news hl hnews h1 h63 hbytes hbase
  refine ⟨v', w', hr, h2, h3, ?_⟩
  rcases hown.2 with ⟨rfl, rfl⟩ | ⟨g, cap, cur, rfl, hbg, hg, hnc, hcm, hcs, htake⟩
  · right
    have hx : xs = [] := List.eq_nil_of_length_eq_zero (by simpa using hown.1)
    obtain ⟨v2, w2, hr2, h22, _, _⟩ := run_append_own (P := P) w w.heap.size t ty e i z size bytes ht hi hz hsize hby hzs hsz (.slice none 0 0) 0 [] (World.ownsRow_nil _ _ _ _) a m c news hl hnews h1 h63 hbytes (Nat.le_refl _)
    rw [hr] at hr2
    cases hr2
    intro g hg
    exact (own_base h22 g hg).1
  · subst hsize
    subst hby
    have hsmall : n + m ≤ 9223372036854775807 := by simp only [maxLen] at h63; omega
    by_cases hroom : n + m ≤ cap
    · left
      have hfit : n * i.size + news.length ≤ cur.size := by rw [hl, hcs, ← Nat.add_mul]; exact Nat.mul_le_mul_right _ hroom
      have hr2 := run_append_room (P := P) w t ty e i ht hi g n cap cur hg a m c news hl hnews h1 hroom hfit
      rw [hr] at hr2
      cases hr2
      rfl
    · right
      have holds : ∀ j u, xs[j]? = some u → w.cell? ((⟨g, 0, none⟩ : Addr).add j) = some u := hown.cells (g := g) rfl
      have hr2 := run_append_grow (P := P) w t ty e i z ht hi hz ⟨g, 0, none⟩ n cap xs hown.1 holds a m c news hl hnews (by omega) (by omega) (growslice_fits (by omega) hbytes)
      rw [hr] at hr2
      cases hr2
      intro g hg
      simp [Value.ownBlock] at hg
      omega

theorem wpList_append_at {P : Program} (w : World) {ops : Array Oper} {rest : List Oper} {o : Oper} {a : Act} {Q : Exit → Act → World → Prop} (hgd : o.guard = none) (s x : Operand) (t : TypeId)
    (ho : o.op = .call { callee := .builtin .append, args := #[s, x], argTypes := #[t, t] })
    (base : Nat) (e : TypeId) (i : TypeInfo) (z : Value) (size bytes : Nat) (ht : P.underlying t = some (.slice e)) (hi : P.info? e = some i) (hz : i.zero = some z)
    (hsize : i.size = size) (hby : i.bytes = bytes) (hzs : z.cells.size = size) (hsz : 0 < size)
    (v : Value) (n : Nat) (xs : List Value) (hs : a.eval s = v) (hown : w.ownsRow base e size v n xs)
    (ad : Addr) (m c : Nat) (news : List Value) (hx : a.eval x = .slice (some ad) m c) (hl : news.length = m * size) (hnews : ∀ j u, news[j]? = some u → w.cell? (ad.add j) = some u) (h1 : ∀ u ∈ news, u.oneCell' = true)
    (h63 : n + m ≤ maxLen) (hbytes : (n + m) * bytes ≤ 140737488355328) (hbase : base ≤ w.heap.size)
    (h : ∀ v' w', w'.ownsRow base e size v' (n + m) (xs ++ news) → w.grownBy w' v.ownBlock → Moved w v v' → wpList P ops Q rest (a.put o.dst v') w') : wpList P ops Q (o :: rest) a w := by
  refine wpList_plain hgd fun K hK => ?_
  obtain ⟨v', w', hr, h2, h3, h4⟩ := run_append_at (P := P) w base t o.type e i z size bytes ht hi hz hsize hby hzs hsz v n xs hown ad m c news hl hnews h1 h63 hbytes hbase
  unfold Oper.wp execOp
  simp only [ho, resolve, invoke, builtin, Sem.run_bind, Sem.run_pure, Result.andThen_ok, List.map_toArray, List.map_cons, List.map_nil, hs, hx, hr]
  exact hK _ _ (h v' w' h2 h3 h4)

end Go.Proofs.YtiojkakmlbfiiaaGreat

/- append of whatever slice of one-cell elements onto a row. -/
namespace Go.Proofs.YtiojkakmlbfiiaaGreat
open Go.RowKit

theorem run_append_zero {P : Program} (w : World) (base : Nat) (t ty e : TypeId) (i : TypeInfo) (size : Nat) (ht : P.underlying t = some (.slice e)) (hi : P.info? e = some i)
    (v : Value) (n : Nat) (xs : List Value) (hown : w.ownsRow base e size v n xs) (a : Option Addr) (c : Nat) :
    (Builtin.append_ #[t, t] ty #[v, .slice a 0 c]).run P w = .ok v w := by
  rcases hown.2 with ⟨rfl, rfl⟩ | ⟨g, cap, cur, rfl, _, _, hnc, _⟩
  · cases a <;> simp [Builtin.append_, run_underlying ht, sizeOf, typeInfo, hi, Builtin.lenOf, Builtin.firstCells, loadCells, loadCellsFrom, Result.andThen]
  · cases a <;> simp [Builtin.append_, run_underlying ht, sizeOf, typeInfo, hi, Builtin.lenOf, Builtin.firstCells, hnc, storeCells, loadCells, loadCellsFrom, Result.andThen]

theorem run_append_sl {P : Program} (w : World) (base : Nat) (t ty e : TypeId) (i : TypeInfo) (z : Value) (bytes : Nat) (ht : P.underlying t = some (.slice e)) (hi : P.info? e = some i) (hz : i.zero = some z)
    (hsize : i.size = 1) (hby : i.bytes = bytes) (hzs : z.cells.size = 1)
    (v : Value) (n : Nat) (xs : List Value) (hown : w.ownsRow base e 1 v n xs)
    (x : Value) (fp : Option Nat) (news : List Value) (hx : SliceAt w x fp news) (h1 : ∀ u ∈ news, u.oneCell' = true)
    (h63 : n + news.length ≤ maxLen) (hbytes : (n + news.length) * bytes ≤ 140737488355328) (hbase : base ≤ w.heap.size) :
    ∃ v' w', (Builtin.append_ #[t, t] ty #[v, x]).run P w = .ok v' w' ∧ w'.ownsRow base e 1 v' (n + news.length) (xs ++ news) ∧ w.grownBy w' v.ownBlock ∧ Moved w v v' := by
  rcases hx with ⟨rfl, _, a, c, rfl⟩ | ⟨b, o, c, _, rfl, hc⟩
  · exact ⟨v, w, run_append_zero (P := P) w base t ty e i 1 ht hi v n xs hown a c, by simpa using hown, ⟨rfl, rfl, rfl, Nat.le_refl _, fun _ _ _ => rfl⟩, Or.inl rfl⟩
  · exact run_append_at (P := P) w base t ty e i z 1 bytes ht hi hz hsize hby hzs (by omega) v n xs hown ⟨b, o, none⟩ news.length c news (by simp) (by
      intro j u hu
      have e1 : (⟨b, o, none⟩ : Addr).add j = ⟨b, o + j, none⟩ := by
        unfold Addr.add
        split
        · rename_i h; have : j = 0 := by simpa using h
          subst this; rfl
        · rfl
      rw [e1]; exact hc j u hu) h1 h63 hbytes hbase

theorem wpList_append_sl {P : Program} (w : World) {ops : Array Oper} {rest : List Oper} {o : Oper} {a : Act} {Q : Exit → Act → World → Prop} (hgd : o.guard = none) (s x : Operand) (t : TypeId)
    (ho : o.op = .call { callee := .builtin .append, args := #[s, x], argTypes := #[t, t] })
    (base : Nat) (e : TypeId) (i : TypeInfo) (z : Value) (bytes : Nat) (ht : P.underlying t = some (.slice e)) (hi : P.info? e = some i) (hz : i.zero = some z)
    (hsize : i.size = 1) (hby : i.bytes = bytes) (hzs : z.cells.size = 1)
    (v : Value) (n : Nat) (xs : List Value) (hs : a.eval s = v) (hown : w.ownsRow base e 1 v n xs)
    (y : Value) (fp : Option Nat) (news : List Value) (hy : a.eval x = y) (hx : SliceAt w y fp news) (h1 : ∀ u ∈ news, u.oneCell' = true)
    (h63 : n + news.length ≤ maxLen) (hbytes : (n + news.length) * bytes ≤ 140737488355328) (hbase : base ≤ w.heap.size)
    (h : ∀ v' w', w'.ownsRow base e 1 v' (n + news.length) (xs ++ news) → w.grownBy w' v.ownBlock → Moved w v v' → wpList P ops Q rest (a.put o.dst v') w') : wpList P ops Q (o :: rest) a w := by
  refine wpList_plain hgd fun K hK => ?_
  obtain ⟨v', w', hr, h2, h3, h4⟩ := run_append_sl (P := P) w base t o.type e i z bytes ht hi hz hsize hby hzs v n xs hown y fp news hx h1 h63 hbytes hbase
  unfold Oper.wp execOp
  simp only [ho, resolve, invoke, builtin, Sem.run_bind, Sem.run_pure, Result.andThen_ok, List.map_toArray, List.map_cons, List.map_nil, hs, hy, hr]
  exact hK _ _ (h v' w' h2 h3 h4)

end Go.Proofs.YtiojkakmlbfiiaaGreat

/- The program's log as an object: Texts, Append. -/
namespace Go.Proofs.YtiojkakmlbfiiaaGreat
open Go.RowKit
open Sp

theorem framesL_append (a b : List ByteArray) : framesL (a ++ b) = framesL a ++ framesL b := List.flatMap_append
theorem framesL_cons (x : ByteArray) (xs : List ByteArray) : framesL (x :: xs) = frameL x.data.toList ++ framesL xs := rfl
theorem framesL_six : ∀ (l : List ByteArray), 6 * l.length ≤ (framesL l).length
  | [] => by simp
  | x :: xs => by
    have h1 := framesL_six xs
    rw [framesL_cons, List.length_append, frameL_len, List.length_cons]; omega
theorem framesL_one (t : ByteArray) : (framesL [t]).length = t.size + 6 := by
  rw [framesL_cons, List.length_append, frameL_len]; simp [framesL]

namespace Sp
structure Lg.Wf (sz : Nat) (g : Lg) : Prop where
  bytes : g.bytes = framesL (g.texts.take g.many)
  many : g.many ≤ g.texts.length
  small : ∀ t ∈ g.texts, t.size ≤ 4096
  room : (framesL g.texts).length ≤ 64 * sz
  area : g.area ≤ 1
  one : 1 ≤ g.count

theorem Lg.Wf.all {sz : Nat} {g : Lg} (h : g.Wf sz) : g.bytes ++ g.waits = framesL g.texts := by
  rw [h.bytes, Lg.waits, ← framesL_append, List.take_append_drop]
theorem Lg.Wf.len {sz : Nat} {g : Lg} (h : g.Wf sz) : g.bytes.length + g.waits.length = (framesL g.texts).length := by
  rw [← h.all, List.length_append]
theorem Lg.Wf.count {sz : Nat} {g : Lg} (h : g.Wf sz) : 6 * g.texts.length ≤ 64 * sz := Nat.le_trans (framesL_six _) h.room

theorem Lg.Wf.push {sz : Nat} {g : Lg} (h : g.Wf sz) (t : ByteArray) (h1 : t.size ≤ 4096) (h2 : (framesL g.texts).length + t.size + 6 ≤ 64 * sz) : Lg.Wf sz { g with texts := g.texts ++ [t] } :=
  ⟨by show g.bytes = _; rw [List.take_append_of_le_length h.many]; exact h.bytes, by have := h.many; simp; omega,
   by intro x hx; rcases List.mem_append.1 hx with h' | h'; exact h.small x h'; simp at h'; rw [h']; exact h1,
   by show (framesL (g.texts ++ [t])).length ≤ _; rw [framesL_append, List.length_append, framesL_one]; omega, h.area, h.one⟩
theorem Lg.push_waits {sz : Nat} {g : Lg} (h : g.Wf sz) (t : ByteArray) : (Lg.waits { g with texts := g.texts ++ [t] }).length = g.waits.length + (t.size + 6) := by
  show (framesL ((g.texts ++ [t]).drop g.many)).length = _
  rw [List.drop_append_of_le_length h.many, framesL_append, List.length_append, framesL_one]; rfl
end Sp

structure LogAt (w : World) (bl bd bo bm sz : Nat) (g : Lg) (v : Value) : Prop where
  wf : g.Wf sz
  sz1 : sz ≤ 1023
  blk : Blk w bl (rawLog bd sz g.count g.area g.bytes.length (str g.tail) v g.many g.waits.length)
  own : w.ownsRow (bl + 1) 9 1 v g.texts.length (strVals g.texts)
  n1 : bd < bl
  n2 : bo < bl
  n3 : bm < bl

theorem LogAt.fr {w w' : World} {bl bd bo bm sz : Nat} {g : Lg} {v : Value} {S : List Nat} (h : LogAt w bl bd bo bm sz g v) (hf : Fr S w w') (h1 : bl ∉ S) (h2 : ∀ b, v.ownBlock = some b → b ∉ S) : LogAt w' bl bd bo bm sz g v :=
  ⟨h.wf, h.sz1, h.blk.fr hf h1, own_fr h.own hf h2, h.n1, h.n2, h.n3⟩

theorem own_slice {w : World} {base T : Nat} {v : Value} {n : Nat} {xs : List Value} (h : w.ownsRow base T 1 v n xs) : ∃ fp, SliceAt w v fp xs := by
  obtain ⟨fp, h1, _⟩ := SliceAt.of_row h
  exact ⟨fp, h1⟩

theorem clone_c (w : World) (v : Value) (fp : Option Nat) (l : List ByteArray) (h : SliceAt w v fp (strVals l)) (hl : l.length ≤ 1048576) :
    Calls Tryz.prog 44 #[v] w fun e w' => ∃ v', e = .returned v' ∧ w'.ownsRow w.heap.size 9 1 v' l.length (strVals l) ∧ Fr [] w w' := by
  have hzero : ∀ (a : Option Addr) (c : Nat), l = [] → Calls Tryz.prog 44 #[.slice a 0 c] w fun e w' => ∃ v', e = .returned v' ∧ w'.ownsRow w.heap.size 9 1 v' l.length (strVals l) ∧ Fr [] w w' := by
    intro a c hl0
    subst hl0
    cases a with
    | none =>
      refine (Tryz.slices_Clone_string_nil 0 c w).mono ?_
      rintro e w' ⟨rfl, rfl⟩
      exact ⟨_, rfl, World.ownsRow_nil _ _ _ _, Fr.refl _ _⟩
    | some a =>
      refine (Tryz.slices_Clone_string_zero a c w).mono ?_
      rintro e w' ⟨v', rfl, h1, _, h3⟩
      exact ⟨_, rfl, h1, Fr.of_below h3⟩
  rcases h with ⟨h1, _, a, c, rfl⟩ | ⟨b, o, c, _, rfl, hc⟩
  · exact hzero a c (by simpa [strVals] using h1)
  · rw [show (strVals l).length = l.length by simp [strVals]]
    by_cases hl0 : l = []
    · have := hzero (some ⟨b, o, none⟩) c hl0
      rw [hl0] at this ⊢
      exact this
    · refine (Tryz.slices_Clone_string b o l.length c l w (Nat.le_refl _) (by omega) (fun j hj => hc j _ (by rw [strVals, List.getElem?_map, List.getD_eq_getElem?_getD, List.getElem?_eq_getElem hj]; rfl))).mono ?_
      rintro e w' ⟨v', rfl, h1, _, h3⟩
      rw [List.take_length] at h1
      exact ⟨_, rfl, h1, Fr.of_below h3⟩

section
variable {w : World} {bl bd bo bm sz : Nat} {g : Lg} {v : Value}

theorem texts_c (h : LogAt w bl bd bo bm sz g v) :
    Calls Tryz.prog 17 #[.pointer (some ⟨bl, 0, none⟩)] w fun e w' => ∃ v', e = .returned v' ∧ w'.ownsRow w.heap.size 9 1 v' g.texts.length (strVals g.texts) ∧ Fr [] w w' := by
  obtain ⟨fp, hs⟩ := own_slice h.own
  have hcl := clone_c w v fp g.texts hs (by have := h.wf.count; have := h.sz1; omega)
  have l6 := (raw_cells h.blk).2.2.2.2.2.2.1
  clear h hs
  go_enter Tryz.func17, Tryz.ntmps17
  go_wp2_with (go_at_call 44; refine hcl.mono ?_; rintro e w' ⟨v', rfl, h1, h2⟩; have H1 := Lib.hid h1; clear h1)
  go_ret
  exact ⟨v', rfl, H1.out, h2⟩

set_option maxHeartbeats 2000000 in
set_option maxRecDepth 100000 in
theorem append_c (h : LogAt w bl bd bo bm sz g v) (t : ByteArray) (ht : t.size ≤ 9223372036854775807) :
    Calls Tryz.prog 12 #[.pointer (some ⟨bl, 0, none⟩), .string t] w fun e w' => ∃ v', e = .returned (.int .i64 (g.append (64 * sz) t).2) ∧
      LogAt w' bl bd bo bm sz (g.append (64 * sz) t).1 v' ∧ Moved w v v' ∧ Fr (bl :: v.ownBlock.toList) w w' := by
  have hsf := sFrame_c t w ht
  have hsz := h.sz1
  have hwl := h.wf.len
  have hrm := h.wf.room
  by_cases h4 : t.size ≤ 4096
  · rw [if_pos h4] at hsf
    have hroom := fun W' (hW : Fr [] w W') => room_c (h.blk.fr hW (by simp)) hsz (by omega) (by omega)
    have hfs := frame_size t
    generalize frame t = F at hsf hfs
    by_cases h5 : g.room (64 * sz) < ((t.size + 6 : Nat) : Int)
    · rw [show (g.append (64 * sz) t) = (g, 100) by unfold Lg.append; rw [if_neg (by omega), if_pos h5]]
      have h5' : ((64 * sz : Nat) : Int) - (g.bytes.length : Int) - (g.waits.length : Int) < (t.size : Int) + 6 := by unfold Lg.room at h5; omega
      generalize ((64 * sz : Nat) : Int) - (g.bytes.length : Int) - (g.waits.length : Int) = R at *
      have HH := Lib.hid h
      have hR : R < (F.size : Int) := by omega
      clear h h5 h5' hwl hrm hfs
      go_enter Tryz.func12, Tryz.ntmps12
      go_wp2_with (first
        | (go_at_call 37; refine hsf.mono ?_; rintro e w1 ⟨rfl, hF1⟩)
        | (go_at_call 19; refine (hroom w1 hF1).mono ?_; rintro e w2 ⟨rfl, hF2⟩))
      go_ret
      have hF := hF1.trans hF2
      exact ⟨v, rfl, HH.out.fr hF (by simp) (by simp), Or.inl rfl, hF.any⟩
    · rw [show (g.append (64 * sz) t) = ({ g with texts := g.texts ++ [t] }, 0) by unfold Lg.append; rw [if_neg (by omega), if_neg h5]]
      have h5' : (t.size : Int) + 6 ≤ ((64 * sz : Nat) : Int) - (g.bytes.length : Int) - (g.waits.length : Int) := by unfold Lg.room at h5; omega
      have hnew := h.wf.push t h4 (by omega)
      have hpw := Lg.push_waits h.wf t
      have hcnt := h.wf.count
      generalize hRR : ((64 * sz : Nat) : Int) - (g.bytes.length : Int) - (g.waits.length : Int) = R at *
      obtain ⟨i0, hi, hz0, hz1, hz2⟩ := info_parts strInfo
      have HI := Lib.hid (show _ ∧ _ ∧ _ ∧ _ from ⟨hi, hz0, hz1, hz2⟩)
      have HH := Lib.hid h
      have HNW := Lib.hid hnew
      have HPW := Lib.hid hpw
      have hR : (F.size : Int) ≤ R := by omega
      have hwb : (g.waits.length : Int) ≤ 65472 := by omega
      have HFS := Lib.hid hfs
      have hFb : F.size ≤ 4102 := by omega
      have hbw : bl < w.heap.size := h.blk.lt
      have hTL : g.texts.length ≤ 10912 := by omega
      clear h h5 h5' hwl hrm hfs hRR hnew hpw hi hz0 hz1 hz2 hcnt
      go_enter Tryz.func12, Tryz.ntmps12
      go_wp2_with (first
        | (go_at_call 37; refine hsf.mono ?_; rintro e w1 ⟨rfl, hF1⟩)
        | (go_at_call 19; refine (hroom w1 hF1).mono ?_; rintro e w2 ⟨rfl, hF2⟩; have HL2 := Lib.hid (HH.out.fr (hF1.trans hF2) (by simp) (by simp)); have l6 := (raw_cells HL2.out.blk).2.2.2.2.2.2.1)
        | (at_builtin; refine wpList_append_at _ rfl _ _ 37 rfl (bl + 1) 9 i0 (.string ByteArray.empty) 1 16 Tryz.underlying37 HI.out.1 HI.out.2.1 HI.out.2.2.1 HI.out.2.2.2 rfl (by decide) _ _ _ rfl (HL2.out.own.alloc _) ⟨w2.heap.size, 0, none⟩ 1 1 [.string t] rfl rfl ?c1 ?c2 ?c3 ?c4 ?c5 ?_))
      case c1 => intro j u hu; cases j with
        | zero => simp at hu; subst hu; simp [Addr.add]
        | succ j => simp at hu
      case c2 => intro u hu; simp at hu; subst hu; rfl
      case c3 => unfold maxLen; omega
      case c4 => omega
      case c5 => have h1 := hF1.size; have h2 := hF2.size; simp; omega
      intro v' w3 hown3 hg3 hmv
      have hnb : ∀ b, v.ownBlock = some b → b ≠ bl := fun b hb => by have := (own_base HL2.out.own b hb).1; omega
      have hF3 : Fr (v.ownBlock.toList) w2 w3 := ((Fr.refl _ _).alloc _).grown hg3 (fun b hb => Or.inl (by rw [hb]; simp))
      have hB3 := Lib.hid (HL2.out.blk.fr hF3 (by
        intro hx
        cases hv : v.ownBlock with
        | none => rw [hv] at hx; simp at hx
        | some b => rw [hv] at hx; simp at hx; exact hnb b hv hx.symm))
      have l8 := (raw_cells hB3.out).2.2.2.2.2.2.2.2
      have l6' := (raw_cells hB3.out).2.2.2.2.2.2.1
      have f6 := hB3.out.free 6
      have f8 := hB3.out.free 8
      obtain ⟨a', c', hvv⟩ := own_shape hown3
      have HO := Lib.hid hown3
      have HM := Lib.hid hmv
      clear hown3 hg3 hmv
      subst hvv
      go_wp2
      go_ret
      have hset : Fr [bl] w3 ((w3.setCell ⟨bl, 6, none⟩ (.slice a' (g.texts.length + 1) c')).setCell ⟨bl, 8, none⟩ (.int .i64 ((g.waits.length : Int) + (F.size : Int)))) := ((Fr.refl _ _).setCell (Or.inl (by simp)) _).setCell (Or.inl (by simp)) _
      refine ⟨.slice a' (g.texts.length + 1) c', rfl, ⟨HNW.out, hsz, ?_, ?_, HH.out.n1, HH.out.n2, HH.out.n3⟩, ?_, ?_⟩
      · have hb := (hB3.out.set 6 (.slice a' (g.texts.length + 1) c')).set 8 (.int .i64 ((g.waits.length : Int) + (F.size : Int)))
        rw [HPW.out]
        have e : ((g.waits.length : Int) + (F.size : Int)) = ((g.waits.length + (t.size + 6) : Nat) : Int) := by have := HFS.out; omega
        rw [e] at hb ⊢
        exact hb
      · have := HO.out
        rw [show (strVals g.texts ++ [Value.string t]) = strVals (g.texts ++ [t]) by simp [strVals]] at this
        refine own_fr (by simpa using this) hset (fun b hb => ?_)
        have := (own_base HO.out b hb).1
        simp; omega
      · rcases HM.out with h | h
        · exact Or.inl h
        · exact Or.inr (fun b hb => by have := h b hb; simp at this; have h1 := hF1.size; have h2 := hF2.size; omega)
      · exact ((hF1.trans hF2).any.trans (hF3.mono (fun x hx => List.mem_cons_of_mem _ hx))).trans (hset.mono (by simp))
  · rw [if_neg h4] at hsf
    rw [show (g.append (64 * sz) t) = (g, 2) by unfold Lg.append; rw [if_pos (by omega)]]
    have HH := Lib.hid h
    clear h hwl hrm
    go_enter Tryz.func12, Tryz.ntmps12
    go_wp2_with (go_at_call 37; refine hsf.mono ?_; rintro e w1 ⟨rfl, hF1⟩)
    go_ret
    exact ⟨v, rfl, HH.out.fr hF1 (by simp) (by simp), Or.inl rfl, hF1.any⟩
end

end Go.Proofs.YtiojkakmlbfiiaaGreat
