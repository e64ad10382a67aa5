/- Terms: List (slices.Backward under a range over a function). Printed by gen-tm17.py. -/
import Derived.Test.YtcegdomfmamonaaDoorTm16
import Derived.Test.YtcegdomfmamonaaDoorBaseIn
namespace Go.Emb
open Go.RowKit
theorem Rd.grown {W W' : World} {row : Option Nat} {k : Nat} {v : Value} {n : Nat} {xs : List Value} {o : Option Nat} (h : Rd W k v n xs o) (hg : W.grownBy W' row) (hr : ∀ r, row = some r → ∃ o : Obj, W.heap[r]? = some o ∧ o.isCells = false) : Rd W' k v n xs o := by
  obtain ⟨hl, a, c, rfl, h1, h2, h3⟩ := h
  refine ⟨hl, a, c, rfl, h1, h2, ?_⟩
  rcases h3 with h3 | ⟨b, off, rfl, rfl, h3⟩
  · exact .inl h3
  · refine .inr ⟨b, off, rfl, rfl, fun i hi => ?_⟩
    have hi' := h3 i hi
    rw [List.getElem?_eq_getElem (by omega)] at hi' ⊢
    have hlt := World.block_lt_of_cell? _ _ hi'
    have hne : row ≠ some b := fun e => by
      obtain ⟨o, ho, hc⟩ := hr b e
      simp only [World.cell?] at hi'
      rw [ho] at hi'
      cases o <;> simp_all [Obj.isCells]
    rw [← hi']
    exact World.cell?_of_block (hg.block b hlt (fun e => hne e.symm))
theorem RdTm.grownN {B : Nat} {W W' : World} {row : Option Nat} (hg : W.grownBy W' row) (hr : ∀ r, row = some r → ∃ o : Obj, W.heap[r]? = some o ∧ o.isCells = false) : ∀ (n : Nat) (t : Tm), t.sz ≤ n → RdTm B W t → RdTm B W' t
  | 0, t, hn, _ => by have := t.sz_pos; omega
  | n + 1, t, hn, h => by
    rw [RdTm_iff] at h ⊢
    obtain ⟨⟨h1, h2, h3, o, h4, h5⟩, hi⟩ := h
    exact ⟨⟨h1, h2, h3, o, h4.grown hg hr, h5⟩, fun x hx => RdTm.grownN hg hr n x (by have := sz_mem_lt hx; omega) (hi x hx)⟩
theorem RdTm.grown {B : Nat} {W W' : World} {row : Option Nat} {t : Tm} (h : RdTm B W t) (hg : W.grownBy W' row) (hr : ∀ r, row = some r → ∃ o : Obj, W.heap[r]? = some o ∧ o.isCells = false) : RdTm B W' t := RdTm.grownN hg hr t.sz t (Nat.le_refl _) h
theorem HasT.keepBelow {B : Nat} {w w' : World} {v : Value} {l : List Tm} (h : HasT B w v l) (hb : Below B w w') (hB : B ≤ w.heap.size) : HasT B w' v l := by
  refine h.keep (F := List.range' B (w.heap.size - B)) ⟨hb.os, hb.tape, hb.output, hb.size, fun b hl hn => hb.block b ?_⟩ (fun b hb => by simp [List.mem_range'_1] at hb; omega)
  rcases Nat.lt_or_ge b B with h | h
  · exact h
  · exact absurd (by simp [List.mem_range'_1]; omega) hn
/-- as RdTm, but the blocks are said by P -/
def RdHeadP (P : Nat → Prop) (w : World) (t : Tm) : Prop :=
  (-9223372036854775808 ≤ t.num ∧ t.num ≤ 9223372036854775807) ∧ t.name.size ≤ 140737488355328 ∧ t.items.length * 48 ≤ 140737488355328 ∧
    ∃ o, Rd w 4 t.iv t.items.length (t.items.flatMap encTm) o ∧ ∀ b, o = some b → P b
mutual
def RdP (P : Nat → Prop) (w : World) : Tm → Prop | .mk k n s v l => RdHeadP P w (.mk k n s v l) ∧ RdPs P w l
def RdPs (P : Nat → Prop) (w : World) : List Tm → Prop | [] => True | x :: r => RdP P w x ∧ RdPs P w r
end
theorem RdPs_iff {P : Nat → Prop} {w : World} (l : List Tm) : RdPs P w l ↔ ∀ x ∈ l, RdP P w x := by
  induction l with
  | nil => simp [RdPs]
  | cons x l ih => simp [RdPs, ih]
theorem RdP_iff {P : Nat → Prop} {w : World} (t : Tm) : RdP P w t ↔ RdHeadP P w t ∧ ∀ x ∈ t.items, RdP P w x := by
  cases t; simp only [RdP, RdPs_iff]; rfl
theorem RdP.mapN {P P' : Nat → Prop} {w w' : World} (f : ∀ (n : Nat) (xs : List Value) (v : Value) (o : Option Nat), Rd w 4 v n xs o → (∀ b, o = some b → P b) → ∃ o', Rd w' 4 v n xs o' ∧ ∀ b, o' = some b → P' b) : ∀ (n : Nat) (t : Tm), t.sz ≤ n → RdP P w t → RdP P' w' t
  | 0, t, hn, _ => by have := t.sz_pos; omega
  | n + 1, t, hn, h => by
    rw [RdP_iff] at h ⊢
    obtain ⟨⟨h1, h2, h3, o, h4, h5⟩, hi⟩ := h
    obtain ⟨o', h6, h7⟩ := f _ _ _ o h4 h5
    exact ⟨⟨h1, h2, h3, o', h6, h7⟩, fun x hx => RdP.mapN f n x (by have := sz_mem_lt hx; omega) (hi x hx)⟩
theorem RdP.keep {P : Nat → Prop} {w w' : World} {F : List Nat} {t : Tm} (h : RdP P w t) (hk : Keep F w w') (hF : ∀ b ∈ F, ¬ P b) : RdP P w' t :=
  RdP.mapN (fun _ _ _ o h1 h2 => ⟨o, h1.keep hk (fun b hb hm => hF b hm (h2 b hb)), h2⟩) t.sz t (Nat.le_refl _) h
theorem RdP.grown {P : Nat → Prop} {W W' : World} {row : Option Nat} {t : Tm} (h : RdP P W t) (hg : W.grownBy W' row) (hr : ∀ r, row = some r → ∃ o : Obj, W.heap[r]? = some o ∧ o.isCells = false) : RdP P W' t :=
  RdP.mapN (fun _ _ _ o h1 h2 => ⟨o, h1.grown hg hr, h2⟩) t.sz t (Nat.le_refl _) h
theorem RdTm.toPN {B : Nat} {w : World} {P : Nat → Prop} (hP : ∀ b, b < B → P b) : ∀ (n : Nat) (t : Tm), t.sz ≤ n → RdTm B w t → RdP P w t
  | 0, t, hn, _ => by have := t.sz_pos; omega
  | n + 1, t, hn, h => by
    rw [RdTm_iff] at h
    rw [RdP_iff]
    obtain ⟨⟨h1, h2, h3, o, h4, h5⟩, hi⟩ := h
    exact ⟨⟨h1, h2, h3, o, h4, fun b hb => hP b (h5 b hb)⟩, fun x hx => RdTm.toPN hP n x (by have := sz_mem_lt hx; omega) (hi x hx)⟩
theorem RdTm.toP {B : Nat} {w : World} {P : Nat → Prop} {t : Tm} (h : RdTm B w t) (hP : ∀ b, b < B → P b) : RdP P w t := RdTm.toPN hP t.sz t (Nat.le_refl _) h
theorem Rd.inHeap {w : World} {n : Nat} {xs : List Value} {v : Value} {o : Option Nat} (h : Rd w 4 v n xs o) : ∃ o', Rd w 4 v n xs o' ∧ ∀ b, o' = some b → b < w.heap.size := by
  obtain ⟨hl, a, c, rfl, h1, h2, h3⟩ := h
  by_cases hn : n = 0
  · exact ⟨none, ⟨hl, a, c, rfl, h1, h2, .inl ⟨hn, rfl⟩⟩, by simp⟩
  · rcases h3 with ⟨h0, _⟩ | ⟨b, off, rfl, rfl, h3⟩
    · exact absurd h0 hn
    · refine ⟨some b, ⟨hl, _, c, rfl, h1, h2, .inr ⟨b, off, rfl, rfl, h3⟩⟩, fun b' hb' => ?_⟩
      cases hb'
      have := h3 0 (by omega)
      rw [List.getElem?_eq_getElem (by omega)] at this
      exact World.block_lt_of_cell? _ _ this
theorem RdP.tmN {w : World} {P : Nat → Prop} : ∀ (n : Nat) (t : Tm), t.sz ≤ n → RdP P w t → RdTm w.heap.size w t
  | 0, t, hn, _ => by have := t.sz_pos; omega
  | n + 1, t, hn, h => by
    rw [RdP_iff] at h
    rw [RdTm_iff]
    obtain ⟨⟨h1, h2, h3, o, h4, h5⟩, hi⟩ := h
    obtain ⟨o', h6, h7⟩ := h4.inHeap
    exact ⟨⟨h1, h2, h3, o', h6, h7⟩, fun x hx => RdP.tmN n x (by have := sz_mem_lt hx; omega) (hi x hx)⟩
theorem RdP.tm {w : World} {P : Nat → Prop} {t : Tm} (h : RdP P w t) : RdTm w.heap.size w t := RdP.tmN t.sz t (Nat.le_refl _) h
theorem Rd.ofBlock {w : World} {b E n k : Nat} {xs : List Value} (hb : w.heap[b]? = some (.cells xs.toArray E)) (hl : xs.length = n * k) (hn : n ≤ maxLen) : Rd w k (.slice (some ⟨b, 0, none⟩) n n) n xs (some b) :=
  ⟨hl, _, _, rfl, Nat.le_refl _, hn, .inr ⟨b, 0, rfl, rfl, fun i hi => by simp [World.cell?, hb]⟩⟩
theorem HasT.up {B C : Nat} {w : World} {v : Value} {l : List Tm} (h : HasT B w v l) (hB : B ≤ C) : HasT C w v l := by
  obtain ⟨⟨o, h1, h2⟩, h3, h4⟩ := h
  exact ⟨⟨o, h1, fun b hb => Nat.lt_of_lt_of_le (h2 b hb) hB⟩, h3, h4.up hB⟩
/-- u is the list of l -/
def IsL : List Tm → Tm → Prop
  | [], u => ∃ iv, u = .mk 7 0 ⟨#[]⟩ iv []
  | x :: r, u => ∃ iv y, u = .mk 8 0 ⟨#[]⟩ iv [x, y] ∧ IsL r y
theorem IsL.sz {l : List Tm} {u : Tm} (h : IsL l u) : u.sz = szL l + l.length + 1 := by
  induction l generalizing u with
  | nil => obtain ⟨iv, rfl⟩ := h; simp [Tm.sz, szL]
  | cons x r ih =>
    obtain ⟨iv, y, rfl, h⟩ := h
    have := ih h
    simp only [Tm.sz, szL, List.length_cons]
    omega
theorem IsL.sp {l : List Tm} {u : Tm} (h : IsL l u) : ∃ e, Sp u l e ∧ e.kind = 7 := by
  induction l generalizing u with
  | nil => obtain ⟨iv, rfl⟩ := h; exact ⟨_, .stop _ (by simp [Tm.kind]), rfl⟩
  | cons x r ih =>
    obtain ⟨iv, y, rfl, h⟩ := h
    obtain ⟨e, h1, h2⟩ := ih h
    exact ⟨e, .cons _ x y r e rfl rfl h1, h2⟩
theorem IsL.is {l : List Tm} {u : Tm} (h : IsL l u) (hl : isTms l = true) : isTm u = true := by
  induction l generalizing u with
  | nil => obtain ⟨iv, rfl⟩ := h; simp only [isTm, isTms, Bool.and_true]; rw [← headOk_true]; right; right; right; right; right; left; exact ⟨rfl, rfl, (toList_nil_iff _).2 rfl, rfl⟩
  | cons x r ih =>
    obtain ⟨iv, y, rfl, h⟩ := h
    simp only [isTms, Bool.and_eq_true] at hl
    have := ih h hl.2
    simp only [isTm, isTms, Bool.and_true, this, hl.1]
    rw [← headOk_true]; right; right; right; right; right; right; exact ⟨rfl, rfl, (toList_nil_iff _).2 rfl, rfl⟩
end Go.Emb
namespace Go.Proofs.YtcegdomfmamonaaDoor
open Go.RowKit Go.Emb Go.Lib Go.Shelf

attribute [local go_sem] Oper.semAt_some

/-- all below n₀ but Q is as it was -/
def BelowX (Q n₀ : Nat) (W W' : World) : Prop := W.heap.size ≤ W'.heap.size ∧ ∀ b, b < n₀ → b ≠ Q → W'.heap[b]? = W.heap[b]?
theorem BelowX.refl (Q n₀ : Nat) (W : World) : BelowX Q n₀ W W := ⟨Nat.le_refl _, fun _ _ _ => rfl⟩
theorem BelowX.trans {Q n₀ : Nat} {A B C : World} (h : BelowX Q n₀ A B) (k : BelowX Q n₀ B C) : BelowX Q n₀ A C := ⟨Nat.le_trans h.1 k.1, fun b h1 h2 => (k.2 b h1 h2).trans (h.2 b h1 h2)⟩
theorem BelowX.cell {Q n₀ : Nat} {W W' : World} (h : BelowX Q n₀ W W') {p : Addr} (h1 : p.block < n₀) (h2 : p.block ≠ Q) : W'.cell? p = W.cell? p := World.cell?_of_block (h.2 _ h1 h2)
theorem BelowX.keep {Q n₀ : Nat} {F : List Nat} {W W' : World} (h : Keep F W W') (hn : n₀ ≤ W.heap.size) (hF : ∀ b ∈ F, b = Q ∨ n₀ ≤ b) : BelowX Q n₀ W W' := ⟨h.size, fun b h1 h2 => h.block b (by omega) (fun hm => by rcases hF b hm with h | h; exact h2 h; omega)⟩
theorem belowX_b {Q n₀ : Nat} {w : World} (hn : n₀ ≤ w.heap.size) (W : World) (l : Nat) (o o' : Obj) (hl : w.heap.size ≤ l) (h : W.heap[l]? = some o) (h1 : o.isCells = false) (h2 : o.isWalk = false) : BelowX Q n₀ W (W.putObj l o') := by
  have hb := belowK_b (n₀ := n₀) hn W l o o' hl h h1 h2
  exact ⟨hb.size, fun b h3 _ => hb.block b h3⟩

set_option maxRecDepth 100000 in
set_option maxHeartbeats 2000000 in
/-- the closure of slices.Backward -/
theorem back1_in (l Bs n₀ Q : Nat) (v : Value) (xs : List Tm) (hsz : xs.length ≤ 1000000000) (n : Nat) (hn : 1 ≤ n) (J Jx : List {p : Int × Tm // p.2 ∈ xs} → World → Prop)
    (hY : ∀ pre x W, J pre W → pre.length < xs.length → YieldAt Fence.wide (n - 1) Tryd.prog l #[.int .i64 x.1.1, aggTm x.1.2] W fun e W' =>
      (e = .returned (.bool true) ∧ J (pre ++ [x]) W' ∧ BelowX Q n₀ W W') ∨ (e = .returned (.bool false) ∧ Jx (pre ++ [x]) W'))
    (W : World) (_hn0 : n₀ ≤ W.heap.size) (hJ : AbidesFrom W.heap.size J) (hBs : W.cell? ⟨Bs, 0, none⟩ = some v) (hBl : Bs < n₀) (hQ : Q < Bs) (hr : HasT Q W v xs) (h0 : J [] W) :
    CallsIn Fence.wide n Tryd.prog 79 #[.func (.yield l) #[] #[], .pointer (some ⟨Bs, 0, none⟩)] W fun e W' => (∃ v, e = .returned v) ∧
      ((∃ ys : List {p : Int × Tm // p.2 ∈ xs}, ys.map (·.1.2) = xs.reverse ∧ J ys W') ∨ (∃ pre, True ∧ Jx pre W')) := by
  obtain ⟨a, c, rfl, -, -⟩ := hr.form
  have HR := Lib.hid hr
  have HJ := Lib.hid hJ
  have HY := Lib.hid hY
  clear hr hJ hY
  refine callsIn_of_wp Tryd.func79 rfl trivial ?_ rfl
  simp only [Tryd.ntmps79, List.size_toArray, List.length_cons, List.length_nil, Nat.reduceAdd, Nat.reduceSub, Array.replicate_succ, Array.replicate_zero, List.push_toArray, List.append_toArray, List.nil_append, List.cons_append]
  have hw0 : IntKind.i64.wrap ((xs.length : Int) - 1) = (xs.length : Int) - 1 := IntWalk.i64_in _ (by omega)
  gi_wp2
  gi_loopw [3] (fun i wr => ∃ (k : Nat) (j : Int) (pre : List {p : Int × Tm // p.2 ∈ xs}), k ≤ xs.length ∧ .int .i64 j = i ∧ j = (xs.length : Int) - 1 - k ∧ pre.length = k ∧ pre.map (·.1.2) = xs.reverse.take k ∧ J pre wr ∧ BelowX Q n₀ W wr ∧ W.heap.size ≤ wr.heap.size) (fun i _ => (RowKit.intOf i + 1).toNat)
  case atStart => exact ⟨0, _, [], Nat.zero_le _, rfl, by simp, rfl, by simp, h0, BelowX.refl _ _ _, Nat.le_refl _⟩
  case round =>
    obtain ⟨k, j, pre, hk, rfl, hj, hpl, hpm, hJs, hnx, hws⟩ := hrel
    have HJS := Lib.hid hJs
    have HNX := Lib.hid hnx
    have HPM := Lib.hid hpm
    clear hJs hnx h0 hpm
    by_cases hlt : k < xs.length
    · obtain ⟨m, rfl⟩ : ∃ m : Nat, j = m := ⟨(xs.length - 1 - k), by omega⟩
      have hm : m < xs.length := by omega
      obtain ⟨b, off, rfl, g0, g1, g2, g3, hrx⟩ := HR.out.at (Keep.refl [] W) hm
      have hb : b < Q := by
        obtain ⟨⟨o, hrd, ho⟩, -⟩ := HR.out
        obtain ⟨_, _, hq, ho2, -⟩ := hrd.at4 hm
        cases hq
        exact ho b ho2
      have c0 := (HNX.out.cell (p := ⟨b, off + m * 4, none⟩) (show b < n₀ by omega) (show b ≠ Q by omega)).trans g0
      have c1 := (HNX.out.cell (p := ⟨b, off + m * 4 + 1, none⟩) (show b < n₀ by omega) (show b ≠ Q by omega)).trans g1
      have c2 := (HNX.out.cell (p := ⟨b, off + m * 4 + 2, none⟩) (show b < n₀ by omega) (show b ≠ Q by omega)).trans g2
      have c3 := (HNX.out.cell (p := ⟨b, off + m * 4 + 3, none⟩) (show b < n₀ by omega) (show b ≠ Q by omega)).trans g3
      have cB := (HNX.out.cell (p := ⟨Bs, 0, none⟩) hBl (show Bs ≠ Q by omega)).trans hBs
      obtain ⟨xa, xc, hxv, -, -⟩ := hrx.has.form
      clear g0 g1 g2 g3 hrx hBs
      have hts : xs.reverse.take (k + 1) = xs.reverse.take k ++ [xs[m]] := by
        rw [List.take_succ_eq_append_getElem (by simpa using hlt)]
        simp only [List.getElem_reverse]
        congr 3
        omega
      have HTS := Lib.hid hts
      clear hts
      obtain ⟨yy, hyx⟩ : ∃ yy : {p : Int × Tm // p.2 ∈ xs}, yy.1 = ((m : Int), xs[m]) := ⟨⟨_, List.getElem_mem hm⟩, rfl⟩
      have hyy := HY.out pre yy wr HJS.out (by omega)
      rw [hxv] at c3
      rw [hyx] at hyy
      simp only [aggTm] at hyy
      rw [hxv] at hyy
      have HXX : Hid (xs.reverse.take (k + 1) = (pre ++ [yy]).map (·.1.2)) := by show xs.reverse.take (k + 1) = (pre ++ [yy]).map (·.1.2); rw [List.map_append, HPM.out, HTS.out]; simp [hyx]
      clear hyx
      generalize xs[m] = x at *
      obtain ⟨fn, tmps, assign, body, hy, hR⟩ := hyy
      have HRR := Lib.hid hR
      clear hR hxv
      have i0 : (0 : Int) ≤ (m : Int) := by omega
      have i1 : (m : Int) < (xs.length : Int) := by omega
      have hwm : IntKind.i64.wrap ((m : Int) - 1) = (m : Int) - 1 := IntWalk.i64_in _ (by omega)
      have HJJ := Lib.hid hj
      clear hj
      gi_wp2
      refine HRR.out.mono ?_
      rintro e W3 (⟨rfl, hJ3, hk3⟩ | ⟨rfl, hJx3⟩)
      · have HJ3 := Lib.hid hJ3
        have HK3 := Lib.hid hk3
        clear hJ3 hk3
        gi_wp2
        go_roundw
        case rel =>
          have := HK3.out.1
          have := HJJ.out
          exact ⟨k + 1, _, pre ++ [yy], by omega, rfl, by omega, by simp [hpl], HXX.out.symm, HJ3.out, HNX.out.trans HK3.out, by omega⟩
        case measure => simp [RowKit.intOf] <;> omega
      · gi_wp2
        refine bodyPost_ret (results_none rfl _ _ _) rfl ?_
        exact ⟨⟨_, rfl⟩, .inr ⟨_, trivial, hJx3⟩⟩
    · obtain rfl : j = -1 := by omega
      gi_wp2
      go_end0
      exact ⟨⟨_, rfl⟩, .inl ⟨pre, by rw [HPM.out]; exact List.take_of_length_le (by simp; omega), HJS.out⟩⟩

theorem back_stops (n : Nat) (hn : 1 ≤ n) (Bs n₀ Q : Nat) (v : Value) (xs : List Tm) (hsz : xs.length ≤ 1000000000) (w : World) (hBs : Bs < n₀) (hQ : Q < Bs) (hn₀ : n₀ ≤ w.heap.size)
    (hc : w.cell? ⟨Bs, 0, none⟩ = some v) (hr : HasT Q w v xs) :
    SeqStopsK Fence.wide n Tryd.prog 79 #[.pointer (some ⟨Bs, 0, none⟩)] (fun x : {p : Int × Tm // p.2 ∈ xs} => #[.int .i64 x.1.1, aggTm x.1.2]) (BelowX Q n₀) (fun ys => ys.map (·.1.2) = xs.reverse) (fun _ => True) xs.length w := fun l J Jx W hW hJ _ hY h0 => by
  have hc' := (hW.cell (p := ⟨Bs, 0, none⟩) (Nat.lt_of_lt_of_le hBs hn₀)).trans hc
  have hr' : HasT Q W v xs := hr.keep0 (Keep.of_below hW)
  exact back1_in l Bs n₀ Q v xs hsz n hn J Jx hY W (Nat.le_trans hn₀ hW.size) hJ hc' hBs hQ hr' h0

theorem p_back {v : Value} {w : World} (hv : ∃ a n c, v = .slice a n c) : Calls Tryd.prog 62 #[v] w fun e w' => e = .returned (.func (.func 79) #[] #[.pointer (some ⟨w.heap.size, 0, none⟩)]) ∧ w.alloc (.cells #[v] 22) = w' := by
  obtain ⟨a, n, c, rfl⟩ := hv
  go_enter Tryd.func62, Tryd.ntmps62
  go_wp2_with fail
  go_ret
  exact ⟨rfl, rfl⟩

set_option maxRecDepth 100000 in
theorem p_consX (h t : Tm) (w : World) : Calls Tryd.prog 34 #[aggTm h, aggTm t] w fun e w' => ∃ b, e = .returned (.agg #[.int .i64 8, .int .i64 0, .string ⟨#[]⟩, .slice (some ⟨b, 0, none⟩) 2 2]) ∧ w'.heap[b]? = some (.cells ([h, t].flatMap encTm).toArray 31) ∧ w.heap.size ≤ b ∧ Keep [] w w' := by
  unfold aggTm
  go_enter Tryd.func34, Tryd.ntmps34
  go_wp2_with fail
  try simp only [Exit.inBlock, Exit.then]
  refine bodyPost_ret (term_ret rfl rfl (heap_at4 w _ _ _ _).1) rfl ?_
  exact ⟨w.heap.size + 1 + 1 + 1, rfl, (heap_at4 w _ _ _ _).2, by omega, ((((Keep.refl [] w).alloc _).alloc _).alloc _).alloc _⟩

/-- between two rounds of List -/
def SeqL (q : Nat) (w : World) (xs : List Tm) (pre : List {p : Int × Tm // p.2 ∈ xs}) (W : World) : Prop :=
  ∃ u, W.heap[w.heap.size]? = some (.cells #[.int .i64 u.kind, .int .i64 u.num, .string u.name, u.iv] 31) ∧ IsL (pre.map (·.1.2)).reverse u ∧ RdP (fun b => b ≠ w.heap.size ∧ b ≠ q) W u ∧ (∃ a c, u.iv = .slice a u.items.length c) ∧ w.heap.size + 2 ≤ W.heap.size ∧ Below w.heap.size w W
theorem seqL_own (q : Nat) (w : World) (xs : List Tm) (B : Nat) (hB : w.heap.size ≤ B) : OwnFrom B (SeqL q w xs) := by
  intro s W W' row hs hg hr
  obtain ⟨u, h1, h2, h3, h5, h6, h4⟩ := hs
  have hne : row ≠ some w.heap.size := fun e => by
    obtain ⟨o, h5, h6⟩ := (hr _ e).2
    rw [h1] at h5; cases h5; cases h6
  exact ⟨u, (hg.block _ (Array.getElem?_eq_some_iff.1 h1).1 (fun e => hne e.symm)).trans h1, h2, h3.grown hg (fun r e => (hr r e).2), h5, Nat.le_trans h6 hg.size, ownFrom_below (β := Unit) (Nat.le_refl _) hB () W W' row h4 hg hr⟩
theorem SeqL.next {q : Nat} {w1 W w3 : World} {xs : List Tm} {pre : List {p : Int × Tm // p.2 ∈ xs}} {xi : Int} {x u : Tm} {b : Nat} {x0 x1 x2 x3 : Value} (hx : x ∈ xs) (hb : w3.heap[b]? = some (.cells ([x, u].flatMap encTm).toArray 31)) (hbW : W.heap.size ≤ b) (hk3 : Keep [] W w3)
    (hb3 : w3.heap[w1.heap.size]? = some (.cells #[x0, x1, x2, x3] 31)) (hQ : w1.heap.size + 2 ≤ W.heap.size) (hqW : q < W.heap.size) (hxr : RdP (fun b => b ≠ w1.heap.size ∧ b ≠ q) W x) (hrp : RdP (fun b => b ≠ w1.heap.size ∧ b ≠ q) W u) (hIL : IsL (pre.map (·.1.2)).reverse u) (hB : Below w1.heap.size w1 W) :
    SeqL q w1 xs (pre ++ [⟨(xi, x), hx⟩]) ((((w3.setCell ⟨w1.heap.size, 0, none⟩ (.int .i64 8)).setCell ⟨w1.heap.size, 1, none⟩ (.int .i64 0)).setCell ⟨w1.heap.size, 2, none⟩ (.string ⟨#[]⟩)).setCell ⟨w1.heap.size, 3, none⟩ (.slice (some ⟨b, 0, none⟩) 2 2)) ∧
    Keep [w1.heap.size] W ((((w3.setCell ⟨w1.heap.size, 0, none⟩ (.int .i64 8)).setCell ⟨w1.heap.size, 1, none⟩ (.int .i64 0)).setCell ⟨w1.heap.size, 2, none⟩ (.string ⟨#[]⟩)).setCell ⟨w1.heap.size, 3, none⟩ (.slice (some ⟨b, 0, none⟩) 2 2)) := by
  obtain ⟨s1, s2⟩ := set4 hb3 (.int .i64 8) (.int .i64 0) (.string ⟨#[]⟩) (.slice (some ⟨b, 0, none⟩) 2 2)
  have hks := (hk3.mono (G := [w1.heap.size]) (fun _ h => nomatch h)).trans s2 (fun x hx => .inl hx)
  refine ⟨⟨.mk 8 0 ⟨#[]⟩ (.slice (some ⟨b, 0, none⟩) 2 2) [x, u], s1, ?_, ?_, ⟨_, _, rfl⟩, Nat.le_trans hQ hks.size, hB.trans (hks.below (by simp) hB.size)⟩, hks⟩
  · rw [List.map_append, List.reverse_append]
    exact ⟨_, u, rfl, hIL⟩
  · rw [RdP_iff]
    refine ⟨⟨by simp [Tm.num], by simp [Tm.name, ByteArray.size], by simp [Tm.items], some b, ?_, fun b' hb' => by cases hb'; omega⟩, fun y hy => ?_⟩
    · exact (Rd.ofBlock (n := 2) (k := 4) hb (by simp [encTm]) (by simp [maxLen])).keep s2 (fun b' hb' hm => by cases hb'; simp at hm; omega)
    · simp only [Tm.items, List.mem_cons, List.not_mem_nil, or_false] at hy
      rcases hy with rfl | rfl
      · exact hxr.keep hks (by simp)
      · exact hrp.keep hks (by simp)
def SeqLAx (w w1 : World) (v : Value) (x : Int × Tm) (a' : Act) (W : World) : Prop :=
  ∃ Bx, w1.heap.size < Bx ∧ W.heap[Bx]? = some (.cells #[.int .i64 x.2.kind, .int .i64 x.2.num, .string x.2.name, x.2.iv] 31 (0, 0)) ∧ a' = { tmps := #[v, undef, .pointer (some ⟨w.heap.size, 0, none⟩), .pointer (some ⟨w1.heap.size, 0, none⟩), undef, .pointer (some ⟨Bx, 0, none⟩), .agg #[.int .i64 7, .int .i64 0, .string ⟨#[]⟩, .slice none 0 0], v, .func (.func 79) #[] #[.pointer (some ⟨w1.heap.size + 1, 0, none⟩)], .int .i64 x.1, aggTm x.2, undef, undef, undef, undef], defers := [] }
def ListP (w : World) (xs : List Tm) (e : Ending) (w' : World) : Prop := ∃ u, e = .returned (aggTm u) ∧ IsL xs u ∧ RdTm w'.heap.size w' u ∧ Keep [] w w'

set_option maxRecDepth 100000 in
set_option maxHeartbeats 2000000 in
theorem p_list {w : World} {v : Value} {xs : List Tm} (hr : HasT w.heap.size w v xs) (hsz : xs.length ≤ 1000000000) : Calls Tryd.prog 38 #[v] w (ListP w xs) := by
  refine (callsIn_wide (n := 6)).1 ?_
  have hro : Fence.wide.round = none := rfl
  obtain ⟨a, c, rfl, -, -⟩ := hr.form
  have HR := Lib.hid hr
  clear hr
  refine callsIn_of_wp_marks Tryd.func38 rfl trivial ?_ hro
  simp only [Tryd.ntmps38, List.size_toArray, List.length_cons, List.length_nil, Nat.reduceAdd, Nat.reduceSub, Array.replicate_succ, Array.replicate_zero, List.push_toArray, List.append_toArray, List.nil_append, List.cons_append]
  gi_wp2
  have hnil : Calls Tryd.prog 32 #[] (w.alloc (.cells #[.int .i64 0, .int .i64 0, .string ⟨#[]⟩, .slice none 0 0] 31)) fun e w' => e = .returned (.agg #[.int .i64 7, .int .i64 0, .string ⟨#[]⟩, .slice none 0 0]) ∧ Keep [] (w.alloc (.cells #[.int .i64 0, .int .i64 0, .string ⟨#[]⟩, .slice none 0 0] 31)) w' := p_nil _
  refine ⟨trivial, ((callsIn_wide (n := 5)).2 hnil).mono ?_⟩
  rintro e w1 ⟨rfl, hk1⟩
  have hw1 : Keep [] w w1 := ((Keep.refl [] w).alloc _).trans hk1 (by simp)
  have hb1 : w1.heap[w.heap.size]? = some (.cells #[.int .i64 0, .int .i64 0, .string ⟨#[]⟩, .slice none 0 0] 31) := (hk1.block _ (by simp) (by simp)).trans (heap_alloc_new _ _)
  have HW1 := Lib.hid hw1
  have HB1 := Lib.hid hb1
  have HRR : Hid (HasT w1.heap.size w1 (.slice a xs.length c) xs) := HR.out.keep0 hw1 |>.up hw1.size
  clear hnil hk1 hw1 hb1
  gi_wp2
  refine ⟨trivial, ((callsIn_wide (n := 5)).2 (p_back ⟨_, _, _, rfl⟩)).mono ?_⟩
  rintro e w2 ⟨rfl, rfl⟩
  gi_wp2
  have k0 : Keep [] w1 ((w1.alloc (.cells #[.int .i64 7, .int .i64 0, .string ⟨#[]⟩, .slice none 0 0] 31)).alloc (.cells #[.slice a xs.length c] 22)) := ((Keep.refl _ _).alloc _).alloc _
  have hc0 : ((w1.alloc (.cells #[.int .i64 7, .int .i64 0, .string ⟨#[]⟩, .slice none 0 0] 31)).alloc (.cells #[.slice a xs.length c] 22)).cell? ⟨w1.heap.size + 1, 0, none⟩ = some (.slice a xs.length c) := by
    have := heap_alloc_new (w1.alloc (.cells #[.int .i64 7, .int .i64 0, .string ⟨#[]⟩, .slice none 0 0] 31)) (.cells #[.slice a xs.length c] 22)
    simp only [World.size_alloc] at this
    simp only [World.cell?]
    rw [this]
    rfl
  refine wpIn_rangeFunc_ownH hro (by omega) (gf := 79) (lb := #[.pointer (some ⟨w1.heap.size + 1, 0, none⟩)]) rfl trivial (enters_of Tryd.func79 (by kernel_rfl) rfl)
    (back_stops (6 - 1) (by omega) (w1.heap.size + 1) (w1.heap.size + 2) w1.heap.size _ xs hsz _ (by omega) (by omega) (by simp) hc0 (HRR.out.keep0 k0)) BelowX.trans (belowX_b (by simp)) (Below.refl _ _) (fun _ => rfl)
    (SeqL w.heap.size w1 xs) (fun _ _ _ => False) (seqL_own _ w1 xs _ (by simp; omega)) (fun _ _ _ _ _ hs _ _ => hs)
    ?start
    (fun x => SeqLAx w w1 (.slice a xs.length c) x.1)
    (fun x a' _ X Y row hs hg hr => by
      obtain ⟨Bx, h1, h2, h3⟩ := hs
      refine ⟨Bx, h1, (hg.block Bx (Array.getElem?_eq_some_iff.1 h2).1 (fun e => ?_)).trans h2, h3⟩
      obtain ⟨_, o1, h4, h5⟩ := hr Bx e.symm
      rw [h2] at h4; cases h4; cases h5)
    ?assign ?body ?done ?stop
  case start =>
    refine ⟨.mk 7 0 ⟨#[]⟩ (.slice none 0 0) [], ?_, ⟨_, rfl⟩, ?_, ⟨none, 0, rfl⟩, by simp, k0.below (by simp) (Nat.le_refl _)⟩
    · rw [heap_alloc_old _ _ (by simp)]; exact heap_alloc_new _ _
    · rw [RdP_iff]
      exact ⟨⟨by simp [Tm.num], by simp [Tm.name, ByteArray.size], by simp [Tm.items], none, ⟨by simp [Tm.items], none, 0, rfl, by simp [Tm.items], by simp [maxLen], .inl ⟨rfl, rfl⟩⟩, by simp⟩, by simp [Tm.items]⟩
  case assign =>
    rintro l pre ⟨⟨xi, x⟩, hx⟩ W K ⟨u, b1, hIL, hrp, hsl, hsz2, hB1⟩ hK
    obtain ⟨xa, xc, hxv, -, -⟩ := ((RdTms_iff xs).1 HRR.out.2.2 x hx).has.form
    have HXV := Lib.hid hxv
    simp only [aggTm]
    rw [hxv]
    clear hxv
    gi_wp2
    have hs1 : w1.heap.size < W.heap.size := (Array.getElem?_eq_some_iff.1 b1).1
    refine hK _ _ ((KeepsOthers.alloc _ _).from _) (BelowX.keep ((Keep.refl [] W).alloc _) ?_ (by simp)) ⟨u, (heap_alloc_old _ _ hs1).trans b1, hIL, hrp.keep ((Keep.refl [] W).alloc _) (by simp), hsl, by simp; omega, hB1.alloc hB1.size _⟩ ⟨W.heap.size, hs1, ?_, ?_⟩
    · exact hsz2
    · rw [HXV.out]; exact heap_alloc_new W _
    · simp only [aggTm]; rw [HXV.out]
  case body =>
    rintro l pre ⟨⟨xi, x⟩, hx⟩ a' W hl hloop ⟨u, b1, hIL, hrp, hsl, hsz2, hB1⟩ ⟨Bx, hBx, bX, rfl⟩ hlt
    obtain ⟨xa, xc, hxv, -, -⟩ := ((RdTms_iff xs).1 HRR.out.2.2 x hx).has.form
    obtain ⟨ua, uc, huv⟩ := hsl
    have HXV := Lib.hid hxv
    have HUV := Lib.hid huv
    have HAX : Hid (aggTm x = .agg #[.int .i64 x.kind, .int .i64 x.num, .string x.name, .slice xa x.items.length xc]) := by unfold aggTm; rw [hxv]; rfl
    have HAU : Hid (aggTm u = .agg #[.int .i64 u.kind, .int .i64 u.num, .string u.name, .slice ua u.items.length uc]) := by unfold aggTm; rw [huv]; rfl
    have hcall := p_consX x u W
    simp only [hxv] at bX
    rw [huv] at b1
    rw [HAX.out, HAU.out] at hcall
    rw [HAX.out]
    obtain ⟨x0, x1, x2, x3, -⟩ := cells4 bX
    obtain ⟨u0, u1, u2, u3, -⟩ := cells4 b1
    have HB1 := Lib.hid b1
    have HIL := Lib.hid hIL
    have HRP := Lib.hid hrp
    have HBB := Lib.hid hB1
    have HCALL := Lib.hid hcall
    clear b1 bX hIL hrp hB1 hcall hxv huv hloop
    gi_wp2
    refine ⟨trivial, (CallsIn.inRound l ((callsIn_wide (n := 3)).2 HCALL.out)).mono ?_⟩
    rintro e w3 ⟨b, rfl, hb, hbW, hk3⟩
    have hb3 := box_later HB1.out hk3 (by simp)
    obtain ⟨n0, n1, n2, n3, nf⟩ := cells4 hb3
    have nf0 := nf 0
    have nf1 := nf 1
    have nf2 := nf 2
    have nf3 := nf 3
    have hQ : w1.heap.size < W.heap.size := by omega
    have hw1 := HW1.out.size
    have hxr : RdP (fun b => b ≠ w1.heap.size ∧ b ≠ w.heap.size) W x := RdTm.toP ((RdTms_iff xs).1 ((HR.out.keep0 HW1.out).keep0 (Keep.of_below HBB.out)).2.2 x hx) (fun b hb => by omega)
    obtain ⟨hnx, hks⟩ := SeqL.next (xi := xi) hx hb hbW hk3 hb3 hsz2 (by omega) hxr HRP.out HIL.out HBB.out
    have HNX := Lib.hid hnx
    have HKS := Lib.hid hks
    have HB3 := Lib.hid hb3
    clear hb3 hks hnx nf hb hk3 HCALL hxr
    gi_wp2
    refine ⟨(HKS.out.others (fun b' hb' => ?_)).from _, BelowX.keep HKS.out hsz2 (by simp), HNX.out⟩
    simp only [List.mem_singleton] at hb'
    subst hb'
    exact ⟨_, HB1.out, rfl⟩
  case done =>
    rintro D zs W hD hzs ⟨u, b1, hIL, hrp, hsl, hsz2, hB1⟩ hK
    obtain ⟨ua, uc, huv⟩ := hsl
    have hbr : W.heap[w.heap.size]? = some (.cells #[.int .i64 0, .int .i64 0, .string ⟨#[]⟩, .slice none 0 0] 31) := (hB1.block _ ((Array.getElem?_eq_some_iff.1 HB1.out).1)).trans HB1.out
    have HAU : Hid (aggTm u = .agg #[.int .i64 u.kind, .int .i64 u.num, .string u.name, .slice ua u.items.length uc]) := by unfold aggTm; rw [huv]; rfl
    rw [huv] at b1
    obtain ⟨u0, u1, u2, u3, -⟩ := cells4 b1
    obtain ⟨n0, n1, n2, n3, nf⟩ := cells4 hbr
    have nf0 := nf 0
    have nf1 := nf 1
    have nf2 := nf 2
    have nf3 := nf 3
    have hne : w.heap.size ≠ w1.heap.size := Nat.ne_of_lt (Array.getElem?_eq_some_iff.1 HB1.out).1
    have hILx : IsL xs u := by rw [hzs, List.reverse_reverse] at hIL; exact hIL
    obtain ⟨s1, s2⟩ := set4 hbr (.int .i64 u.kind) (.int .i64 u.num) (.string u.name) (.slice ua u.items.length uc)
    have HS1 := Lib.hid s1
    have HS2 := Lib.hid s2
    have HB1' := Lib.hid b1
    have HIL := Lib.hid hILx
    have HRP := Lib.hid hrp
    have HBB := Lib.hid hB1
    have HK := Lib.hid hK
    clear b1 hIL hrp hB1 hILx hzs nf hbr s1 s2 huv
    gi_wp2
    refine ⟨by simp, .inl ⟨_, _, rfl, run_takeDeferred ?_, ?_⟩⟩
    · refine (HS2.out.block D (Array.getElem?_eq_some_iff.1 HK.out).1 ?_).trans HK.out
      simp at hD ⊢
      have := HW1.out.size
      omega
    · have hq : w.heap.size ≠ D := by simp at hD; have := HW1.out.size; omega
      refine ⟨_, term_ret rfl rfl ((World.putObj_heap_other hq).trans HS1.out), u, by rw [HAU.out], HIL.out, ?_, ?_⟩
      · exact ((HRP.out.keep HS2.out (by simp)).grown (grownBy_putObj' _ D (.deferred none)) (fun r e => by cases e; exact ⟨_, (HS2.out.block D (Array.getElem?_eq_some_iff.1 HK.out).1 (by simpa using hq.symm)).trans HK.out, rfl⟩)).tm
      · refine Keep.grown (Keep.trans (F := []) (HW1.out.trans (Keep.of_below HBB.out : Keep [] w1 W) (by simp)) HS2.out (by simp)) (grownBy_putObj' _ D (.deferred none)) (fun k e => by cases e; right; simp at hD; have := HW1.out.size; omega)
  case stop =>
    rintro D c pre W _ _ h _
    exact h.elim
end Go.Proofs.YtcegdomfmamonaaDoor
