import Derived.Test.YtngepgnmlpinaaaMnF
import Derived.Laws.MakeOwn
/- (of XExt12, XExtLaws, XExtLaws2, XExtR1, by exr.py) Extents: the document's Right, Need, Count. -/
namespace Go.Proofs.Ytngepgnmlpinaaa
open Go.RowKit Go.Emb Go.Lib Go.Emb.Ext Go.Shelf Go.Sort

open Go.RowKit Go.Emb Go.Emb.Ext
/-- a list of extents somewhere, read -/
def HasE (w : World) (v : Value) (l : List E) : Prop := ∃ o, RdE w v l o ∧ ∀ b, o = some b → b < w.heap.size
set_option maxRecDepth 100000 in
theorem HasE.keep {w w' : World} {v : Value} {l : List E} (h : HasE w v l) (k : Keep [] w w') : HasE w' v l := by
  obtain ⟨o, h1, h2⟩ := h
  exact ⟨o, h1.keep k (by simp), fun b hb => Nat.lt_of_lt_of_le (h2 b hb) k.size⟩
set_option maxRecDepth 100000 in
theorem HasE.slice {w : World} {v : Value} {l : List E} (h : HasE w v l) : ∃ a c, v = .slice a l.length c := by
  obtain ⟨o, ⟨_, a, c, h, _⟩, _⟩ := h; exact ⟨a, c, h⟩
set_option maxRecDepth 100000 in
theorem RowE.has {w : World} {v : Value} {l : List E} {o : Option Nat} (h : RowE w v l o) : HasE w v l := by
  obtain ⟨o', h1, h2⟩ := RowE.rd h
  exact ⟨o', h1, fun b hb => Row.lt h b (h2 b hb)⟩
def JoinH (w : World) (l : List E) (e : Ending) (w' : World) : Prop := ∃ v out err, e = .returned (.tuple #[v, .int .i64 err]) ∧ JoinRes l out err ∧ HasE w' v out ∧ Keep [] w w'
set_option maxRecDepth 100000 in
theorem JoinRes.uniq {l a b : List E} {e e' : Int} (h : JoinRes l a e) (h' : JoinRes l b e') : a = b ∧ e = e' := by
  have no1 : (∃ x ∈ l, right x = false) → ¬ (∀ x ∈ l, right x = true) := by
    rintro ⟨x, hx, h1⟩ h2; rw [h2 x hx] at h1; cases h1
  rcases h with ⟨h0, h1, h2⟩ | ⟨h0, h1, h2, h3⟩ | ⟨h0, h1, h2, h3⟩ <;> rcases h' with ⟨g0, g1, g2⟩ | ⟨g0, g1, g2, g3⟩ | ⟨g0, g1, g2, g3⟩
  · exact ⟨by rw [h1, g1], by rw [h0, g0]⟩
  · exact absurd g2 (no1 h2)
  · exact absurd g1 (no1 h2)
  · exact absurd h2 (no1 g2)
  · exact ⟨by rw [h1, g1], by rw [h0, g0]⟩
  · exact absurd g2.disj h3
  · exact absurd h1 (no1 g2)
  · exact absurd h2.disj g3
  · exact ⟨h2.uniq g2 (fun _ => Iff.rfl), by rw [h0, g0]⟩
set_option maxRecDepth 100000 in
theorem le_sumL {l : List E} (h : ∀ x ∈ l, 1 ≤ x.2) {x : E} (hx : x ∈ l) : x.2 ≤ sumL l := by
  induction l with
  | nil => simp at hx
  | cons y l ih =>
    have h1 := (sumL_pos (l := l) (fun z hz => h z (by simp [hz]))).1
    have h2 := h y (by simp)
    rw [sumL_cons]
    rcases List.mem_cons.1 hx with rfl | hx
    · omega
    · have := ih (fun z hz => h z (by simp [hz])) hx
      omega
set_option maxRecDepth 100000 in
theorem JoinRes.to {l a out : List E} {e : Int} (hr : ∀ x ∈ l, right x = true) (hd : Disj l) (hp : Plain out) (hc : ∀ i, cov out i ↔ cov l i) (h : JoinRes l a e) : e = 0 ∧ a = out := by
  rcases h with ⟨_, _, x, hx, hn⟩ | ⟨_, _, _, hn⟩ | ⟨h0, _, hok, _⟩
  · rw [hr x hx] at hn; cases hn
  · exact absurd hd hn
  · exact ⟨h0, Plain.eq hok.plain hp fun i => by rw [hok.same, hc]⟩
set_option maxRecDepth 100000 in
theorem JoinRes.perm {l l' a : List E} {e : Int} (hp : l.Perm l') (h : JoinRes l a e) : JoinRes l' a e := by
  rcases h with ⟨h0, h1, x, hx, hn⟩ | ⟨h0, h1, h2, h3⟩ | ⟨h0, h1, h2, h3⟩
  · exact .inl ⟨h0, h1, x, hp.mem_iff.1 hx, hn⟩
  · exact .inr (.inl ⟨h0, h1, fun x hx => h2 x (hp.mem_iff.2 hx), fun hd => h3 (hd.perm hp.symm)⟩)
  · exact .inr (.inr ⟨h0, fun x hx => h1 x (hp.mem_iff.2 hx), ⟨fun x hx => h2.pos x (hp.mem_iff.2 hx), h2.plain, fun i => (h2.same i).trans (cov_perm hp i), h2.sum.trans (sumL_perm hp), h2.disj.perm hp, by rw [← hp.length_eq]; exact h2.len⟩, h3⟩)
set_option maxRecDepth 100000 in
theorem JoinRes.plain {l a : List E} {e : Int} (hp : Plain l) (hr : ∀ x ∈ l, right x = true) (h : JoinRes l a e) : e = 0 ∧ a = l := JoinRes.to hr hp.disj hp (fun _ => Iff.rfl) h
set_option maxRecDepth 100000 in
theorem JoinRes.nil {l a : List E} {e : Int} (h : JoinRes l a e) (he : e ≠ 0) : a = [] := by
  rcases h with ⟨_, h, _⟩ | ⟨_, h, _⟩ | ⟨h0, _⟩
  · exact h
  · exact h
  · exact absurd h0 he
set_option maxRecDepth 100000 in
theorem len_le_sum {l : List E} (h : ∀ x ∈ l, 1 ≤ x.2) : (l.length : Int) ≤ sumL l := by
  induction l with
  | nil => simp [sumL]
  | cons x l ih =>
    have h1 := ih (fun y hy => h y (by simp [hy]))
    have h2 := h x (by simp)
    rw [sumL_cons, List.length_cons]
    omega
set_option maxRecDepth 100000 in
theorem disj_append {a b : List E} (ha : Disj a) (hb : Disj b) (h : ∀ i, cov a i → ¬ cov b i) : Disj (a ++ b) :=
  List.pairwise_append.2 ⟨ha, hb, fun x hx y hy i h1 h2 => h i ⟨x, hx, h1⟩ ⟨y, hy, h2⟩⟩
set_option maxRecDepth 100000 in
theorem disj_cov {a b : List E} (h : Disj (a ++ b)) (i : Int) : cov a i → ¬ cov b i := by
  rintro ⟨x, hx, h1⟩ ⟨y, hy, h2⟩
  exact (List.pairwise_append.1 h).2.2 x hx y hy i h1 h2

set_option maxRecDepth 100000 in
theorem JoinRes.len {l a : List E} {e : Int} (h : JoinRes l a e) : a.length ≤ l.length := by
  rcases h with ⟨_, rfl, _⟩ | ⟨_, rfl, _⟩ | ⟨_, _, hok, _⟩
  · simp
  · simp
  · exact hok.len
set_option maxRecDepth 100000 in
set_option maxHeartbeats 400000 in
theorem r_right (x : E) (w : World) : Calls Try.prog 82 #[aggE x] w fun e w' => e = .returned (.bool (right x)) ∧ Keep [] w w' := by
  obtain ⟨f, n⟩ := x
  unfold right aggE
  simp only
  by_cases h1 : 0 ≤ f
  · by_cases h2 : f ≤ 16384
    · by_cases h3 : 1 ≤ n
      · go_enter Try.func82, Try.ntmps82
        go_wp2_with fail
        go_ret
        exact ⟨by simp [h1, h2, h3], (Keep.refl _ _).alloc _⟩
      · go_enter Try.func82, Try.ntmps82
        go_wp2_with fail
        go_ret
        exact ⟨by simp; omega, (Keep.refl _ _).alloc _⟩
    · go_enter Try.func82, Try.ntmps82
      go_wp2_with fail
      go_ret
      exact ⟨by simp; omega, (Keep.refl _ _).alloc _⟩
  · go_enter Try.func82, Try.ntmps82
    go_wp2_with fail
    go_ret
    exact ⟨by simp; omega, (Keep.refl _ _).alloc _⟩

set_option maxRecDepth 100000 in
theorem r_need (b r : Int) (w : World) (hb : b ≤ 9223372036854775807) (hr : r ≤ 9223372036854775807) : Calls Try.prog 60 #[.int .i64 b, .int .i64 r] w fun e w' => e = .returned (.int .i64 (needE b r)) ∧ w = w' := by
  unfold needE
  by_cases h1 : b < 1
  · go_enter Try.func60, Try.ntmps60
    go_wp2_with fail
    go_ret
    exact ⟨rfl, rfl⟩
  · by_cases h2 : r < 1
    · go_enter Try.func60, Try.ntmps60
      go_wp2_with fail
      go_ret
      exact ⟨rfl, rfl⟩
    · have h3 : (r == 0) = false := beq_eq_false_iff_ne.2 (by omega)
      have h4 : (0 : Int) ≤ (b - 1) / r := Int.ediv_nonneg (by omega) (by omega)
      have h5 : (b - 1) / r ≤ b - 1 := Int.ediv_le_self _ (by omega)
      go_enter Try.func60, Try.ntmps60
      go_wp2_with fail
      go_ret
      exact ⟨by rw [Int.add_comm]; rfl, rfl⟩


set_option maxRecDepth 100000 in
set_option maxHeartbeats 400000 in
theorem r_count {w : World} {v : Value} {l : List E} (hr : HasE w v l) (hsz : l.length ≤ 1000000) :
    Calls Try.prog 59 #[v] w fun e w' => e = .returned (.int .i64 (countE l)) ∧ Keep [] w w' := by
  obtain ⟨a, c, rfl⟩ := hr.slice
  have HR := Lib.hid hr
  clear hr
  go_enter Try.func59, Try.ntmps59
  go_wp2_with fail
  go_loopw [3, 4] (fun n i wr => ∃ k : Nat, k ≤ l.length ∧ i = .int .i64 k ∧ Keep [] w wr ∧ n = .int .i64 (countE (l.take k))) (fun _ i _ => l.length - (intOf i).toNat)
  case atStart => exact ⟨0, Nat.zero_le _, rfl, Keep.refl _ _, by simp [countE, sumL]⟩
  case round =>
    obtain ⟨k, hk, rfl, hK, rfl⟩ := hrel
    have HK := Lib.hid hK
    clear hK
    have hbd := countE_bd (l.take k)
    have hll : (l.take k).length ≤ 1000000000 := by simp; omega
    by_cases hlt : k < l.length
    · obtain ⟨o, hrd, -⟩ := HR.out
      obtain ⟨b, off, rfl, rfl, g0, g1⟩ := hrd.at hlt
      have c0 := HK.out.cellOf g0
      have c1 := HK.out.cellOf g1
      clear g0 g1 hrd
      have hs : countE (l.take (k + 1)) = countE (l.take k) + if right l[k] then l[k].2 else 0 := by
        rw [List.take_succ_eq_append_getElem hlt, countE_snoc]
      have HS := Lib.hid hs
      clear hs
      generalize countE (l.take k) = s at *
      generalize l[k] = x at *
      have i0 : (0 : Int) ≤ (k : Int) := by omega
      have i1 : (k : Int) < (l.length : Int) := by omega
      have hcall := fun W => r_right x W
      obtain ⟨f, n⟩ := x
      simp only at c0 c1
      unfold aggE at hcall
      cases hq : right (f, n) with
      | true =>
        have hb := (right_iff _).1 hq
        simp only at hb
        rw [hq] at hcall
        have hs2 : countE (l.take (k + 1)) = s + n := by rw [HS.out, if_pos hq]
        have HS2 := Lib.hid hs2
        clear hs2 HS hq
        go_wp2_with (go_at_call 82; refine (hcall _).mono ?_; rintro e w' ⟨rfl, hk'⟩; have hc1 := hk'.cellOf c1)
        go_roundw
        case rel => exact ⟨k + 1, by omega, by go_num, HK.out.trans hk' (by simp), by rw [HS2.out]⟩
        case measure => simp [intOf]; omega
      | false =>
        rw [hq] at hcall
        have hs2 : countE (l.take (k + 1)) = s := by rw [HS.out, if_neg (by simp [hq])]; omega
        have HS2 := Lib.hid hs2
        clear hs2 HS hq
        go_wp2_with (go_at_call 82; refine (hcall _).mono ?_; rintro e w' ⟨rfl, hk'⟩)
        go_roundw
        case rel => exact ⟨k + 1, by omega, by go_num, HK.out.trans hk' (by simp), by rw [HS2.out]⟩
        case measure => simp [intOf]; omega
    · go_wp2_with fail
      go_ret
      exact ⟨by rw [List.take_of_length_le (by omega)]; rfl, HK.out⟩


end Go.Proofs.Ytngepgnmlpinaaa

/- (of XExtR2, R3, R4, by exr.py) Extents: the document's Join. -/
namespace Go.Proofs.Ytngepgnmlpinaaa
open Go.RowKit Go.Emb Go.Lib Go.Emb.Ext Go.Shelf Go.Sort

open Go.RowKit Go.Emb Go.Emb.Ext
end Go.Proofs.Ytngepgnmlpinaaa
namespace Go.Emb
open Go.RowKit
set_option maxRecDepth 100000 in
theorem Row.setAt {w : World} {E k b off n cap : Nat} {xs : List Value} (h : Row w E k (.slice (some ⟨b, off, none⟩) n cap) n xs (some b)) (j : Nat) (hj : j < n * k) (u : Value) :
    Row (w.setCell ⟨b, off + j, none⟩ u) E k (.slice (some ⟨b, off, none⟩) n cap) n (xs.set j u) (some b) := by
  obtain ⟨hl, h⟩ := h
  rcases h with ⟨h, _⟩ | ⟨b', off', cap', cs, e1, e2, hb, h1, h2, h3, h5⟩
  · cases h
  cases e1; cases e2
  have hk2 : n * k ≤ cap * k := Nat.mul_le_mul_right _ h1
  refine ⟨by simpa using hl, .inr ⟨b, off, cap, _, rfl, rfl, heap_setCell_at hb _, h1, h2, by simpa using h3, fun i hi => ?_⟩⟩
  rw [Array.getElem?_setIfInBounds, List.getElem?_set]
  by_cases he : off + j = off + i
  · obtain rfl : i = j := by omega
    simp only [if_true]
    rw [if_pos (by omega), if_pos (by omega)]
  · rw [if_neg he, if_neg (by omega)]
    exact h5 i hi
set_option maxRecDepth 100000 in
theorem Row.notFrozen {w : World} {E k b off n cap : Nat} {xs : List Value} (h : Row w E k (.slice (some ⟨b, off, none⟩) n cap) n xs (some b)) (j : Nat) : w.frozen? ⟨b, j, none⟩ = false := by
  obtain ⟨hl, h⟩ := h
  rcases h with ⟨h, _⟩ | ⟨b', off', cap', cs, e1, e2, hb, h1, h2, h3, h5⟩
  · cases h
  cases e1; cases e2
  simp [World.frozen?, hb]
end Go.Emb
namespace Go.Proofs.Ytngepgnmlpinaaa
open Go.RowKit Go.Emb Go.Lib Go.Emb.Ext Go.Shelf Go.Sort

set_option maxRecDepth 100000 in
theorem bool_info : (Try.prog.info? 4).map (fun i => (i.zero, i.size, i.bytes)) = some (some (.bool false), 1, 1) := by kernel_rfl
/-- a row of marks: one for each block -/
def MarkRow (w : World) (b : Nat) (xs : List Bool) : Prop := xs.length = 32769 ∧ Row w 4 1 (.slice (some ⟨b, 0, none⟩) 32769 32769) 32769 (xs.map Value.bool) (some b)
def Marked (xs : List Bool) (S : Nat → Prop) : Prop := ∀ t : Nat, t < 32769 → (xs[t]? = some true ↔ S t)

set_option maxRecDepth 100000 in
theorem MarkRow.cell {w : World} {b : Nat} {xs : List Bool} (h : MarkRow w b xs) {t : Nat} (ht : t < 32769) : ∃ x, xs[t]? = some x ∧ w.cell? ⟨b, t, none⟩ = some (.bool x) ∧ w.frozen? ⟨b, t, none⟩ = false := by
  obtain ⟨hl, hrow⟩ := h
  have hf := Row.notFrozen hrow t
  obtain ⟨_, h⟩ := hrow
  rcases h with ⟨h, _⟩ | ⟨b', off', cap', cs, e1, e2, hb, h1, h2, h3, h5⟩
  · cases h
  cases e1; cases e2
  have h6 := h5 t (by omega)
  rw [List.getElem?_map, List.getElem?_eq_getElem (by omega)] at h6
  simp only [Nat.zero_add, Option.map_some] at h6
  exact ⟨xs[t], List.getElem?_eq_getElem _, by simp [World.cell?, hb, h6], hf⟩
set_option maxRecDepth 100000 in
theorem MarkRow.set {w : World} {b : Nat} {xs : List Bool} (h : MarkRow w b xs) {t : Nat} (ht : t < 32769) : MarkRow (w.setCell ⟨b, t, none⟩ (.bool true)) b (xs.set t true) := by
  refine ⟨by simpa using h.1, ?_⟩
  have := Row.setAt h.2 t (by omega) (.bool true)
  rw [Nat.zero_add] at this
  rw [List.map_set]
  exact this
set_option maxRecDepth 100000 in
theorem MarkRow.keep {w w' : World} {b : Nat} {xs : List Bool} {F : List Nat} (h : MarkRow w b xs) (hk : Keep F w w') (hb : b ∉ F) : MarkRow w' b xs := ⟨h.1, h.2.keep hk (by rintro b' ⟨⟩; exact hb)⟩
set_option maxRecDepth 100000 in
theorem Marked.set {xs : List Bool} {S : Nat → Prop} (h : Marked xs S) (hl : xs.length = 32769) {t : Nat} (ht : t < 32769) : Marked (xs.set t true) (fun u => S u ∨ u = t) := by
  intro u hu
  rw [List.getElem?_set]
  by_cases e : t = u
  · subst e
    simp [hl, ht]
  · rw [if_neg e, h u hu]
    simp [Ne.symm e]
set_option maxRecDepth 100000 in
theorem Marked.congr {xs : List Bool} {S T : Nat → Prop} (h : Marked xs S) (hc : ∀ t, t < 32769 → (S t ↔ T t)) : Marked xs T := fun t ht => (h t ht).trans (hc t ht)

set_option maxRecDepth 100000 in
theorem make_marks (w : World) : ∃ xs w', (Instr.makeSlice 109 (.int .i64 32769) (.int .i64 32769)).run Try.prog w = .ok (.slice (some ⟨w.heap.size, 0, none⟩) 32769 32769) w' ∧ MarkRow w' w.heap.size xs ∧ Marked xs (fun _ => False) ∧ Keep [] w w' := by
  obtain ⟨i0, hi, hz0, hz1, hz2⟩ := info_parts bool_info
  have hr := run_makeSlice (P := Try.prog) w 109 4 i0 (.bool false) Try.underlying109 hi hz0 .i64 .i64 32769 32769 (by omega) (by omega) (by rw [hz1]; omega) (by rw [hz2]; omega) (by omega)
  have e1 : (32769 : Int).toNat = 32769 := rfl
  rw [e1, hz1] at hr
  refine ⟨List.replicate 32769 false, _, hr, ⟨by rw [List.length_replicate], ?_⟩, ?_, (Keep.refl _ _).alloc _⟩
  · refine ⟨by rw [List.length_map, List.length_replicate], .inr ⟨w.heap.size, 0, 32769, _, rfl, rfl, heap_alloc_new w _, Nat.le_refl _, by unfold maxLen; omega, by rw [size_madeCells]; omega, fun i hi => ?_⟩⟩
    rw [List.getElem?_map, List.getElem?_replicate, if_pos (by omega)]
    unfold madeCells
    rw [Array.getElem?_map, Array.getElem?_eq_getElem (by rw [Array.size_range]; omega)]
    simp [Value.cells, Nat.mod_one]
  · intro t ht
    rw [List.getElem?_replicate, if_pos ht]
    simp

def MarksP (w : World) (l : List E) (e : Ending) (w' : World) : Prop :=
  ∃ v err, e = .returned (.tuple #[v, .int .i64 err]) ∧ Keep [] w w' ∧ ((err = 2 ∧ ∃ x ∈ l, right x = false) ∨ (err = 8 ∧ (∀ x ∈ l, right x = true) ∧ ¬ Disj l) ∨
    (err = 0 ∧ (∀ x ∈ l, right x = true) ∧ Disj l ∧ ∃ b xs, v = .slice (some ⟨b, 0, none⟩) 32769 32769 ∧ w.heap.size ≤ b ∧ MarkRow w' b xs ∧ Marked xs (fun t => cov l t)))

/-- behind i extents, and k blocks of the next one -/
structure MarkI (w : World) (l : List E) (b i f k : Nat) (wr : World) : Prop where
  keep : Keep [] w wr
  new : w.heap.size ≤ b
  row : ∃ xs, MarkRow wr b xs ∧ Marked xs (fun t => cov (l.take i) t ∨ (f ≤ t ∧ t < f + k))
  disj : Disj (l.take i)
  free : ∀ t, f ≤ t → t < f + k → ¬ cov (l.take i) t

set_option maxRecDepth 100000 in
theorem MarkI.next {w : World} {l : List E} {b i f k : Nat} {wr : World} (h : MarkI w l b i f k wr) (hi : i < l.length) (hf : l[i] = ((f : Int), (k : Int))) : MarkI w l b (i + 1) 0 0 wr := by
  obtain ⟨xs, h1, h2⟩ := h.row
  have hts := List.take_succ_eq_append_getElem hi
  have hc : ∀ t, cov (l.take (i + 1)) t ↔ cov (l.take i) t ∨ ((f : Int) ≤ t ∧ t < f + k) := fun t => by rw [hts, cov_append, cov_one, hf]; rfl
  refine ⟨h.keep, h.new, ⟨xs, h1, h2.congr fun t ht => ?_⟩, ?_, fun t h1 h2 => by omega⟩
  · rw [hc]
    constructor
    · rintro (h | h)
      · exact .inl (.inl h)
      · exact .inl (.inr ⟨by omega, by omega⟩)
    · rintro ((h | h) | h)
      · exact .inl h
      · exact .inr ⟨by omega, by omega⟩
      · omega
  · rw [hts]
    refine disj_append h.disj (by simp [Disj]) fun t ha hb => ?_
    rw [cov_one, hf] at hb
    unfold covers at hb
    simp only at hb
    have := h.free t.toNat (by omega) (by omega)
    rw [show ((t.toNat : Nat) : Int) = t by omega] at this
    exact this ha

set_option maxRecDepth 100000 in
set_option maxHeartbeats 2000000 in
theorem marks_any {w : World} {v : Value} {l : List E} (hr : HasE w v l) (hsz : l.length ≤ 1000000) : Calls Try.prog 80 #[v] w (MarksP w l) := by
  obtain ⟨a, c, rfl⟩ := hr.slice
  have HR := Lib.hid hr
  clear hr
  go_enter Try.func80, Try.ntmps80
  go_wp2_with fail
  go_loopw [4] (fun i wr => ∃ k : Nat, k ≤ l.length ∧ i = .int .i64 k ∧ Keep [] w wr ∧ (∀ x ∈ l.take k, right x = true)) (fun i _ => l.length - (intOf i).toNat)
  case atStart => exact ⟨0, Nat.zero_le _, rfl, Keep.refl _ _, by simp⟩
  case round =>
    obtain ⟨k, hk, rfl, hK, hno⟩ := hrel
    have HK := Lib.hid hK
    have HNO := Lib.hid hno
    clear hK hno
    by_cases hlt : k < l.length
    · obtain ⟨o, hrd, -⟩ := HR.out
      obtain ⟨b, off, rfl, rfl, g0, g1⟩ := hrd.at hlt
      have c0 := HK.out.cellOf g0
      have c1 := HK.out.cellOf g1
      have hmem := List.getElem_mem hlt
      have hts := List.take_succ_eq_append_getElem hlt
      have HMEM := Lib.hid hmem
      have HTS := Lib.hid hts
      clear g0 g1 hrd hmem hts
      generalize l[k] = x at *
      have i0 : (0 : Int) ≤ (k : Int) := by omega
      have i1 : (k : Int) < (l.length : Int) := by omega
      have hcall := fun W => r_right x W
      obtain ⟨f, m⟩ := x
      simp only at c0 c1
      unfold aggE at hcall
      cases hq : right (f, m) with
      | true =>
        rw [hq] at hcall
        have HQ := Lib.hid hq
        clear hq
        go_wp2_with (go_at_call 82; refine (hcall _).mono ?_; rintro e w' ⟨rfl, hk'⟩)
        go_roundw
        case rel =>
          refine ⟨k + 1, by omega, by go_num, HK.out.trans hk' (by simp), fun x hx => ?_⟩
          rw [HTS.out] at hx
          rcases List.mem_append.1 hx with hx | hx
          · exact HNO.out x hx
          · simp at hx; subst hx; exact HQ.out
        case measure => simp [intOf]; omega
      | false =>
        rw [hq] at hcall
        have HQ := Lib.hid hq
        clear hq
        go_wp2_with (go_at_call 82; refine (hcall _).mono ?_; rintro e w' ⟨rfl, hk'⟩)
        go_ret2
        exact ⟨_, 2, rfl, HK.out.trans hk' (by simp), .inl ⟨rfl, _, HMEM.out, HQ.out⟩⟩
    · have hall : ∀ x ∈ l, right x = true := by have := HNO.out; rwa [List.take_of_length_le (by omega)] at this
      obtain ⟨xs0, wm, hmk, hmr, hmm, hkm⟩ := make_marks wr
      have hstart : MarkI w l wr.heap.size 0 0 0 wm := ⟨HK.out.trans hkm (by simp), HK.out.size, ⟨xs0, hmr, hmm.congr fun t _ => by simp [cov]⟩, by simp [Disj], fun t h1 h2 => by omega⟩
      have HALL := Lib.hid hall
      have HST := Lib.hid hstart
      clear hall hmr hmm hkm hstart HNO
      go_wp2_with fail
      clear hmk
      generalize wr.heap.size = bm at *
      go_loopw [6, 7] (fun si _ wr => ∃ i : Nat, i ≤ l.length ∧ si = .int .i64 i ∧ MarkI w l bm i 0 0 wr) (fun si _ _ => l.length - (intOf si).toNat)
      case atStart => exact ⟨0, Nat.zero_le _, rfl, HST.out⟩
      case round =>
        rename World => wo
        obtain ⟨i, hi, rfl, hM⟩ := hrel
        have HM := Lib.hid hM
        clear hM HST
        by_cases hlt : i < l.length
        · obtain ⟨o, hrd, -⟩ := HR.out
          obtain ⟨b, off, rfl, rfl, g0, g1⟩ := hrd.at hlt
          have hxr := (right_iff _).1 (HALL.out l[i] (List.getElem_mem hlt))
          obtain ⟨f, hf⟩ := Int.eq_ofNat_of_zero_le hxr.1
          obtain ⟨m, hm⟩ := Int.eq_ofNat_of_zero_le (show 0 ≤ l[i].2 by omega)
          have hx : l[i] = ((f : Int), (m : Int)) := Prod.ext hf hm
          rw [hf] at g0
          rw [hm] at g1
          have hfm : f + m ≤ 16384 := by omega
          have hbl : b < w.heap.size := World.block_lt_of_cell? _ _ g0
          have HX := Lib.hid hx
          have HG0 := Lib.hid g0
          have HG1 := Lib.hid g1
          clear hrd hxr hf hm hx g0 g1
          have q0 : (0 : Int) ≤ (i : Int) := by omega
          have q1 : (i : Int) < (l.length : Int) := by omega
          have hstart2 : ∃ k : Nat, k ≤ m ∧ k = 0 ∧ MarkI w l bm i f k wo := ⟨0, Nat.zero_le _, rfl, HM.out.keep, HM.out.new, (by
            obtain ⟨xs, h1, h2⟩ := HM.out.row
            exact ⟨xs, h1, h2.congr fun t _ => by constructor <;> (rintro (h | h); exact .inl h; omega)⟩), HM.out.disj, fun t h1 h2 => by omega⟩
          have HS2 := Lib.hid hstart2
          clear hstart2
          go_wp2_with fail
          go_loopw [7] (fun sk wr => ∃ k : Nat, k ≤ m ∧ sk = .int .i64 k ∧ MarkI w l bm i f k wr) (fun sk _ => m - (intOf sk).toNat)
          case atStart =>
            obtain ⟨k, h1, rfl, h2⟩ := HS2.out
            exact ⟨0, h1, rfl, h2⟩
          case round =>
            rename World => wi
            obtain ⟨k, hk, rfl, hM2⟩ := hrel
            have HM2 := Lib.hid hM2
            clear hM2 HS2
            have c0 := HM2.out.keep.cellOf HG0.out
            have c1 := HM2.out.keep.cellOf HG1.out
            by_cases hkm : k < m
            · have qk : (k : Int) < (m : Int) := by omega
              obtain ⟨xs, hrow, hmk⟩ := HM2.out.row
              obtain ⟨x, hx, hc, hfz⟩ := hrow.cell (show f + k < 32769 by omega)
              have hlen := hrow.1
              have qs : (0 : Int) ≤ (f : Int) + (k : Int) := by omega
              have qt : (f : Int) + (k : Int) < 32769 := by omega
              have qn : ((f : Int) + (k : Int)).toNat = f + k := by omega
              cases x with
              | true =>
                have hcov : cov (l.take i) ((f + k : Nat) : Int) := by
                  rcases (hmk (f + k) (by omega)).1 hx with h | h
                  · exact h
                  · omega
                have hnd : ¬ Disj l := by
                  intro hd
                  rw [← List.take_append_drop i l, List.drop_eq_getElem_cons hlt] at hd
                  refine disj_cov hd _ hcov ?_
                  rw [cov_cons, HX.out]
                  left
                  unfold covers
                  simp only
                  omega
                have HND := Lib.hid hnd
                clear hcov hnd hx hrow hmk hlen
                go_wp2_with fail
                go_ret2
                exact ⟨_, 8, rfl, HM2.out.keep, .inr (.inl ⟨rfl, HALL.out, HND.out⟩)⟩
              | false =>
                have hnc : ¬ cov (l.take i) ((f + k : Nat) : Int) := by
                  intro h
                  have := (hmk (f + k) (by omega)).2 (.inl h)
                  rw [hx] at this
                  cases this
                have hnew : MarkI w l bm i f (k + 1) (wi.setCell ⟨bm, f + k, none⟩ (.bool true)) := by
                  refine ⟨HM2.out.keep.setCell (p := ⟨bm, f + k, none⟩) (.inr HM2.out.new) _, HM2.out.new, ⟨_, hrow.set (by omega), (hmk.set hlen (by omega)).congr fun t _ => ?_⟩, HM2.out.disj, fun t h1 h2 => ?_⟩
                  · constructor
                    · rintro ((h | h) | h)
                      · exact .inl h
                      · exact .inr (by omega)
                      · exact .inr (by omega)
                    · rintro (h | h)
                      · exact .inl (.inl h)
                      · by_cases e : t = f + k
                        · exact .inr e
                        · exact .inl (.inr (by omega))
                  · by_cases e : t = f + k
                    · subst e; exact hnc
                    · exact HM2.out.free t h1 (by omega)
                have HNEW := Lib.hid hnew
                clear hnc hnew hx hrow hmk hlen
                go_wp2_with fail
                go_roundw
                case rel => exact ⟨k + 1, by omega, by go_num, HNEW.out⟩
                case measure => simp [intOf]; omega
            · obtain rfl : k = m := by omega
              have hnext := HM2.out.next hlt HX.out
              have HNX := Lib.hid hnext
              clear hnext
              go_wp2_with fail
              go_roundw
              case rel => exact ⟨i + 1, by omega, by go_num, HNX.out⟩
              case measure => simp [intOf]; omega
        · have hil : i = l.length := by omega
          obtain ⟨xs, hrow, hmk⟩ := HM.out.row
          have hd := HM.out.disj
          rw [List.take_of_length_le (by omega)] at hd hmk
          have hres : MarksP w l (.returned (.tuple #[.slice (some ⟨bm, 0, none⟩) 32769 32769, .int .i64 0])) wo :=
            ⟨_, 0, rfl, HM.out.keep, .inr (.inr ⟨rfl, HALL.out, hd, bm, xs, rfl, HM.out.new, hrow, hmk.congr fun t _ => by constructor <;> first | (rintro (h | h); exact h; omega) | exact fun h => .inl h⟩)⟩
          have HRES := Lib.hid hres
          clear hres hrow hmk hd hil
          go_wp2_with fail
          go_ret2
          exact HRES.out
/-- the last first: what is in P, of the first i -/
structure PlainI (P : Nat → Prop) (i : Nat) (r : List E) : Prop where
  plain : Plain r.reverse
  same : ∀ t : Int, cov r t ↔ 0 ≤ t ∧ t < i ∧ P t.toNat
  bd : ∀ y ∈ r, 0 ≤ y.1 ∧ y.1 + y.2 ≤ i
  len : r.length ≤ i
set_option maxRecDepth 100000 in
theorem PlainI.start (P : Nat → Prop) : PlainI P 0 [] := ⟨Plain.nil, fun t => by simp [cov]; omega, by simp, by simp⟩
set_option maxRecDepth 100000 in
theorem PlainI.no {P : Nat → Prop} {i : Nat} {r : List E} (h : PlainI P i r) (hp : ¬ P i) : PlainI P (i + 1) r :=
  ⟨h.plain, fun t => by
    rw [h.same]
    constructor
    · rintro ⟨h1, h2, h3⟩; exact ⟨h1, by omega, h3⟩
    · rintro ⟨h1, h2, h3⟩
      refine ⟨h1, ?_, h3⟩
      by_cases e : t = i
      · subst e; exact absurd (by simpa using h3) hp
      · omega, fun y hy => by have := h.bd y hy; omega, by have := h.len; omega⟩
set_option maxRecDepth 100000 in
theorem PlainI.same' {P : Nat → Prop} {i : Nat} {r : List E} (h : PlainI P i r) (hp : P i) (t : Int) : (covers ((i : Int), 1) t ∨ cov r t) ↔ 0 ≤ t ∧ t < ((i + 1 : Nat) : Int) ∧ P t.toNat := by
  rw [h.same]
  unfold covers
  simp only
  constructor
  · rintro (⟨h1, h2⟩ | ⟨h1, h2, h3⟩)
    · obtain rfl : t = i := by omega
      exact ⟨by omega, by omega, by simpa using hp⟩
    · exact ⟨h1, by omega, h3⟩
  · rintro ⟨h1, h2, h3⟩
    by_cases e : t = i
    · exact .inl (by omega)
    · exact .inr ⟨h1, by omega, h3⟩
set_option maxRecDepth 100000 in
theorem PlainI.new {P : Nat → Prop} {i : Nat} {r : List E} (h : PlainI P i r) (hp : P i) (hl : ∀ y ∈ r.head?, y.1 + y.2 ≠ i) : PlainI P (i + 1) (((i : Int), 1) :: r) := by
  refine ⟨plain_rev_cons.2 ⟨by simp, h.plain, fun z hz => ?_⟩, fun t => by rw [cov_cons]; exact h.same' hp t, fun y hy => ?_, by have := h.len; simp; omega⟩
  · cases r with
    | nil => simp at hz
    | cons y r =>
      have h1 := hl y (by simp)
      have h2 := h.bd y (by simp)
      rcases List.mem_cons.1 hz with rfl | hz
      · simp; omega
      · have h3 := (plain_rev_cons.1 h.plain)
        have := h3.2.2 z hz
        have := h3.1
        simp; omega
  · rcases List.mem_cons.1 hy with rfl | hy
    · simp
    · have := h.bd y hy; omega
set_option maxRecDepth 100000 in
theorem PlainI.more {P : Nat → Prop} {i : Nat} {r : List E} {y : E} (h : PlainI P i (y :: r)) (hp : P i) (hl : y.1 + y.2 = i) : PlainI P (i + 1) ((y.1, y.2 + 1) :: r) := by
  have h3 := plain_rev_cons.1 h.plain
  have h4 := h.bd y (by simp)
  refine ⟨plain_rev_cons.2 ⟨by simp; omega, h3.2.1, h3.2.2⟩, fun t => ?_, fun z hz => ?_, by have := h.len; simp at this ⊢; omega⟩
  · rw [← h.same' hp t, cov_cons, cov_cons]
    unfold covers
    simp only
    by_cases hc : cov r t
    · simp [hc]
    · simp only [hc, or_false]; omega
  · rcases List.mem_cons.1 hz with rfl | hz
    · simp; omega
    · have := h.bd z (by simp [hz]); omega
def PlainP (w : World) (n : Nat) (xs : List Bool) (is : Bool) (e : Ending) (w' : World) : Prop :=
  ∃ v out, e = .returned v ∧ HasE w' v out ∧ Keep [] w w' ∧ Plain out ∧ (∀ y ∈ out, 0 ≤ y.1 ∧ y.1 + y.2 ≤ n) ∧ (∀ t : Int, cov out t ↔ 0 ≤ t ∧ t < n ∧ xs[t.toNat]? = some is) ∧ out.length ≤ n
def PlainR (w : World) (xs : List Bool) (is : Bool) (k : Nat) (v : Value) (wr : World) : Prop :=
  ∃ r o, PlainI (fun t => xs[t]? = some is) k r ∧ RowE wr v r.reverse o ∧ (∀ b, o = some b → w.heap.size ≤ b) ∧ Keep [] w wr

set_option maxRecDepth 100000 in
set_option maxHeartbeats 2000000 in
theorem plain_any {w : World} {v : Value} {n : Nat} {xs : List Bool} {o : Option Nat} (hr : Rd w 1 v n (xs.map Value.bool) o) (hn : n ≤ 32769) (is : Bool) : Calls Try.prog 81 #[v, .bool is] w (PlainP w n xs is) := by
  obtain ⟨i0, hi, hz0, hz1, hz2⟩ := info_parts ext_info
  have HI := Lib.hid hi
  obtain ⟨hl, a, c, rfl, hcap, hmax, hcells⟩ := hr
  have hxl : xs.length = n := by simpa using hl
  have HCELL := Lib.hid hcells
  have HXL := Lib.hid hxl
  clear hl hcells hi hxl hmax hcap
  go_enter Try.func81, Try.ntmps81
  go_wp2_with fail
  go_loopw [5, 6] (fun u i wr => ∃ (k : Nat) (v : Value), v = u ∧ k ≤ n ∧ i = .int .i64 k ∧ PlainR w xs is k v wr) (fun _ i _ => n - (intOf i).toNat)
  case atStart => exact ⟨0, _, rfl, Nat.zero_le _, rfl, [], none, PlainI.start _, Row.nil _ _ _, by simp, Keep.refl _ _⟩
  case round =>
    obtain ⟨k, v, rfl, hk, rfl, r, o', hP, hrow, hnew, hK⟩ := hrel
    have hrl := hP.len
    have HP := Lib.hid hP
    have HROW := Lib.hid hrow
    have HNEW := Lib.hid hnew
    have HK := Lib.hid hK
    clear hP hrow hnew hK
    by_cases hlt : k < n
    · rcases HCELL.out with ⟨h0, _⟩ | ⟨b, off, rfl, rfl, hcs⟩
      · omega
      have hkx : k < xs.length := by have := HXL.out; omega
      have g0 : w.cell? ⟨b, off + k, none⟩ = some (.bool xs[k]) := by rw [hcs k (by omega), List.getElem?_map, List.getElem?_eq_getElem hkx]; rfl
      have c0 := HK.out.cellOf g0
      have hyes : xs[k] = is → xs[k]? = some is := fun e => by rw [List.getElem?_eq_getElem hkx, e]
      have hnot : xs[k] ≠ is → ¬ xs[k]? = some is := fun e h => by rw [List.getElem?_eq_getElem hkx] at h; exact e (Option.some.inj h)
      have HY := Lib.hid hyes
      have HN := Lib.hid hnot
      clear hcs g0 hyes hnot
      generalize xs[k] = x at *
      have q0 : (0 : Int) ≤ (k : Int) := by omega
      have q1 : (k : Int) < (n : Int) := by omega
      by_cases hx : x = is
      · have hxb0 : True := trivial
        have hxe : (x == is) = true := by simp [hx]
        have hPk := HY.out hx
        have HPK := Lib.hid hPk
        clear hPk hx HY HN
        cases r with
        | nil =>
          obtain ⟨av, cv, rfl⟩ := RowE.slice HROW.out
          simp only [List.reverse_nil, List.length_nil] at *
          go_wp2_with fail
          go_quiet (fail)
          go_wp2_with (at_builtin; refine wpList_append_row _ rfl _ _ 41 41 rfl 23 i0 _ 2 16 Try.underlying41 HI.out hz0 hz1 hz2 rfl _ _ _ o' rfl (Row.keep HROW.out (F := []) (by repeat (first | exact Keep.refl _ _ | refine Keep.drewN ?_ _ | refine Keep.drew ?_ | refine Keep.alloc ?_ _)) (by simp)) _ rfl 1 _ (two_srcB Try.underlying41 _ _ (by first | rfl | simp) _ _ rfl rfl _) (by omega) (by first | (unfold maxLen; omega) | (simp [maxLen] <;> omega)) (by first | omega | (simp <;> omega)) ?_; intro g off3 cap w2 hrow2 hk2 hg2)
          go_roundw
          case rel =>
            refine ⟨k + 1, _, rfl, by omega, by go_num, [((k : Int), 1)], some g, HP.out.new HPK.out (by simp), ?_, ?_, ?_⟩
            · unfold RowE
              simpa [encE] using hrow2
            · rintro b ⟨⟩
              rcases hg2 with h | h
              · exact HNEW.out g h
              · have := HK.out.size
                simp at h
                omega
            · exact (HK.out.trans (G := []) (by repeat (first | exact Keep.refl _ _ | refine Keep.drewN ?_ _ | refine Keep.drew ?_ | refine Keep.alloc ?_ _)) (by simp)).trans hk2 (fun z hz => by
                cases o' with
                | none => simp at hz
                | some b => simp at hz; subst hz; exact .inr (HNEW.out _ rfl))
          case measure => simp [intOf]; omega
        | cons y r =>
          obtain ⟨b2, off2, cv, rfl, rfl, d0, d1, df, hset⟩ := RowE.last HROW.out
          have hyb := HP.out.bd y (by simp)
          have hyp := (plain_rev_cons.1 HP.out.plain).1
          have hm : r.length < 32769 := by simp at hrl; omega
          obtain ⟨y1, y2⟩ := y
          simp only at d0 d1 hyb hyp
          clear hset
          have q2 : (0 : Int) ≤ (r.length : Int) := by omega
          have q3 : (r.length : Int) < (r.length : Int) + 1 := by omega
          by_cases h2 : y1 + y2 = k
          · have hb2 : (y1 + y2 == (k : Int)) = true := by simp [h2]
            have H2 := Lib.hid h2
            clear h2
            go_wp2_with fail
            go_quiet (fail)
            go_wp2_with fail
            go_roundw
            case rel =>
              refine ⟨k + 1, _, rfl, by omega, by go_num, (y1, y2 + 1) :: r, some b2, HP.out.more HPK.out H2.out, ?_, HNEW.out, ?_⟩
              · refine RowE.setLast (y := (y1, y2)) ?_
                exact RowE.keep HROW.out (F := []) (by repeat (first | exact Keep.refl _ _ | refine Keep.drewN ?_ _ | refine Keep.drew ?_ | refine Keep.alloc ?_ _)) (by simp)
              · exact (HK.out.trans (G := []) (by repeat (first | exact Keep.refl _ _ | refine Keep.drewN ?_ _ | refine Keep.drew ?_ | refine Keep.alloc ?_ _)) (by simp)).setCell (p := ⟨b2, off2 + r.length * 2 + 1, none⟩) (.inr (HNEW.out b2 rfl)) _
            case measure => simp [intOf]; omega
          · have hb2 : (y1 + y2 == (k : Int)) = false := by simp [h2]
            have H2 := Lib.hid h2
            clear h2
            go_wp2_with fail
            go_quiet (fail)
            go_wp2_with (at_builtin; refine wpList_append_row _ rfl _ _ 41 41 rfl 23 i0 _ 2 16 Try.underlying41 HI.out hz0 hz1 hz2 rfl _ _ _ (some b2) rfl (Row.keep HROW.out (F := []) (by repeat (first | exact Keep.refl _ _ | refine Keep.drewN ?_ _ | refine Keep.drew ?_ | refine Keep.alloc ?_ _)) (by simp)) _ rfl 1 _ (two_srcB Try.underlying41 _ _ (by first | rfl | simp) _ _ rfl rfl _) (by omega) (by first | (unfold maxLen; omega) | (simp [maxLen] <;> omega)) (by first | omega | (simp <;> omega)) ?_; intro g off3 cap w2 hrow2 hk2 hg2)
            go_roundw
            case rel =>
              refine ⟨k + 1, _, rfl, by omega, by go_num, ((k : Int), 1) :: (y1, y2) :: r, some g, HP.out.new HPK.out (by simpa using H2.out), ?_, ?_, ?_⟩
              · unfold RowE
                simpa [encE] using hrow2
              · rintro b ⟨⟩
                rcases hg2 with h | h
                · exact HNEW.out g h
                · have := HK.out.size
                  simp at h
                  omega
              · exact (HK.out.trans (G := []) (by repeat (first | exact Keep.refl _ _ | refine Keep.drewN ?_ _ | refine Keep.drew ?_ | refine Keep.alloc ?_ _)) (by simp)).trans hk2 (fun z hz => by
                  simp at hz; subst hz; exact .inr (HNEW.out _ rfl))
            case measure => simp [intOf]; omega
      · have hxb0 : True := trivial
        have hxe : (x == is) = false := by simp [hx]
        have hPk := HN.out hx
        have HPK := Lib.hid hPk
        clear hPk hx HY HN
        go_wp2_with fail
        go_roundw
        case rel => exact ⟨k + 1, _, rfl, by omega, by go_num, r, o', HP.out.no HPK.out, HROW.out, HNEW.out, HK.out⟩
        case measure => simp [intOf]; omega
    · obtain rfl : k = n := by omega
      go_wp2_with fail
      go_ret
      refine ⟨v, r.reverse, rfl, RowE.has HROW.out, HK.out, HP.out.plain, fun y hy => HP.out.bd y (by simpa using hy), fun t => ?_, by simpa using hrl⟩
      rw [cov_perm (List.reverse_perm r), HP.out.same]
set_option maxRecDepth 100000 in
theorem join_exists {l : List E} (hr : ∀ x ∈ l, right x = true) (hd : Disj l) : ∃ a, JoinRes l a 0 := by
  have hp : (l.mergeSort (fun x y => decide (x.1 ≤ y.1))).Perm l := List.mergeSort_perm _ _
  have hs : (l.mergeSort (fun x y => decide (x.1 ≤ y.1))).Pairwise (fun x y => x.1 ≤ y.1) := by
    have := List.pairwise_mergeSort (le := fun (x y : E) => decide (x.1 ≤ y.1)) (fun a b c h1 h2 => by simp at *; omega) (fun a b => by simp; omega) l
    exact this.imp (fun h => by simpa using h)
  have hpos : ∀ x ∈ l, 1 ≤ x.2 := fun x hx => ((right_iff x).1 (hr x hx)).2.2.1
  cases hj : joinS (l.mergeSort (fun x y => decide (x.1 ≤ y.1))) with
  | none => exact absurd hd (joinS_none hs hp hpos hj)
  | some out =>
    have hok := joinS_some hs hp hpos hj
    refine ⟨out, .inr (.inr ⟨rfl, hr, hok, fun x hx => ?_⟩)⟩
    have hpx := hok.plain.pos x hx
    have c1 : cov l x.1 := (hok.same x.1).1 ⟨x, hx, by unfold covers; omega⟩
    have c2 : cov l (x.1 + x.2 - 1) := (hok.same _).1 ⟨x, hx, by unfold covers; omega⟩
    obtain ⟨y, hy, hy1, hy2⟩ := c1
    obtain ⟨z, hz, hz1, hz2⟩ := c2
    have hyr := (right_iff y).1 (hr y hy)
    have hzr := (right_iff z).1 (hr z hz)
    rw [right_iff]
    omega
set_option maxRecDepth 100000 in
theorem JoinRes.of {l out : List E} (hr : ∀ x ∈ l, right x = true) (hd : Disj l) (hp : Plain out) (hc : ∀ i, cov out i ↔ cov l i) : JoinRes l out 0 := by
  obtain ⟨a, ha⟩ := join_exists hr hd
  obtain ⟨_, rfl⟩ := JoinRes.to hr hd hp hc ha
  exact ha
set_option maxRecDepth 100000 in
theorem cov_range {l : List E} (hr : ∀ x ∈ l, right x = true) {t : Int} (h : cov l t) : 0 ≤ t ∧ t < 16384 := by
  obtain ⟨x, hx, h1, h2⟩ := h
  have := (right_iff x).1 (hr x hx)
  omega
set_option maxRecDepth 100000 in
set_option maxHeartbeats 1000000 in
theorem r_join {w : World} {v : Value} {l : List E} (hr : HasE w v l) (hsz : l.length ≤ 1000000) : Calls Try.prog 58 #[v] w (JoinH w l) := by
  obtain ⟨a, c, rfl⟩ := hr.slice
  have HR := Lib.hid hr
  clear hr
  by_cases h0 : l = []
  · subst h0
    simp only [List.length_nil]
    go_enter Try.func58, Try.ntmps58
    go_wp2_with fail
    go_ret2
    exact ⟨_, [], 0, rfl, JoinRes.of (by simp) (by simp [Disj]) Plain.nil (fun _ => Iff.rfl), RowE.has (Row.nil _ _ _), Keep.refl _ _⟩
  · have hl0 : ((l.length : Int) == 0) = false := by
      have := List.length_pos_iff.2 h0
      simp; omega
    clear h0
    go_enter Try.func58, Try.ntmps58
    go_wp2_with fail
    refine (marks_any HR.out hsz).mono ?_
    rintro e w1 ⟨vm, err, rfl, hk1, hcase⟩
    have K1 := Lib.hid hk1
    clear hk1
    rcases hcase with ⟨rfl, h⟩ | ⟨rfl, h1, h2⟩ | ⟨rfl, h1, h2, b, xs, rfl, -, hrow, hmk⟩
    · have H := Lib.hid h
      clear h
      go_wp2_with fail
      go_ret2
      exact ⟨_, [], 2, rfl, .inl ⟨rfl, rfl, H.out⟩, RowE.has (Row.nil _ _ _), K1.out⟩
    · have H1 := Lib.hid h1
      have H2 := Lib.hid h2
      clear h1 h2
      go_wp2_with fail
      go_ret2
      exact ⟨_, [], 8, rfl, .inr (.inl ⟨rfl, rfl, H1.out, H2.out⟩), RowE.has (Row.nil _ _ _), K1.out⟩
    · obtain ⟨o', hrd, -⟩ := Row.rd hrow.2
      have hpl := plain_any hrd (Nat.le_refl _) true
      have H1 := Lib.hid h1
      have H2 := Lib.hid h2
      have HMK := Lib.hid hmk
      clear h1 h2 hmk hrow hrd
      go_wp2_with fail
      refine hpl.mono ?_
      rintro e w2 ⟨vo, out, rfl, ho, hk2, hp, hbd, hc, hlen⟩
      have HO := Lib.hid ho
      have HP := Lib.hid hp
      have HC := Lib.hid hc
      have K2 := Lib.hid (K1.out.trans hk2 (by simp))
      clear ho hp hc hk2 hpl hbd hlen
      go_wp2_with fail
      go_ret2
      refine ⟨vo, out, 0, rfl, JoinRes.of H1.out H2.out HP.out (fun t => ?_), HO.out, K2.out⟩
      rw [HC.out]
      constructor
      · rintro ⟨t1, t2, t3⟩
        have : cov l ((t.toNat : Nat) : Int) := (HMK.out t.toNat (by omega)).1 t3
        rwa [show ((t.toNat : Nat) : Int) = t by omega] at this
      · intro h
        have h5 := cov_range H1.out h
        refine ⟨h5.1, by omega, (HMK.out t.toNat (by omega)).2 ?_⟩
        show cov l ((t.toNat : Nat) : Int)
        rwa [show ((t.toNat : Nat) : Int) = t by omega]

end Go.Proofs.Ytngepgnmlpinaaa

/- The document's Used. -/
namespace Go.Proofs.Ytngepgnmlpinaaa
open Go.RowKit Go.Emb Go.Emb.Ext

def UsedR (w : World) (l : List (Int × Int)) (e : Ending) (w' : World) : Prop := ∃ v out err, e = .returned v ∧ JoinRes l out err ∧ HasE w' v out ∧ Keep [] w w'
theorem HasE.nil (w : World) : HasE w (.slice none 0 0) [] := ⟨none, ⟨by simp, none, 0, rfl, by simp, by simp [maxLen], .inl ⟨rfl, rfl⟩⟩, by simp⟩
set_option maxRecDepth 100000 in
set_option maxHeartbeats 1000000 in
theorem r_used {w : World} {m : MnV} (h : RdM w.heap.size w m) (hsz : (allL m.area m.places).length ≤ 1000000) :
    Calls Try.prog 23 #[aggM m] w (UsedR w (allL m.area m.places)) := by
  have hrv : ∃ ra rc, m.rv = .slice ra m.rest.length rc := by obtain ⟨-, -, ⟨⟨o, ⟨-, a, c, h, -⟩, -⟩, -⟩, -⟩ := h; exact ⟨a, c, h⟩
  have hpv : ∃ pa pc, m.pv = .slice pa m.places.length pc := by obtain ⟨-, -, -, ⟨⟨o, ⟨-, a, c, h, -⟩, -⟩, -⟩⟩ := h; exact ⟨a, c, h⟩
  obtain ⟨ra, rc, hrv⟩ := hrv
  obtain ⟨pa, pc, hpv⟩ := hpv
  have hk1 : Keep [] w (w.alloc (.cells #[.string m.s, .int .i64 m.area.1, .int .i64 m.area.2, m.rv, m.pv] 27)) := (Keep.refl [] w).alloc _
  have hb1 := heap_new w (.cells #[.string m.s, .int .i64 m.area.1, .int .i64 m.area.2, m.rv, m.pv] 27)
  have hall := r_all (h.next hk1) hsz
  unfold aggM at hall ⊢
  rw [hrv, hpv] at hall hk1 hb1 ⊢
  obtain ⟨m0, m1, m2, m3, m4⟩ := cells5 hb1
  have HA := Lib.hid hall
  have HK1 := Lib.hid hk1
  clear hall hk1 hb1 h
  go_enter Try.func23, Try.ntmps23
  go_wp2_with fail
  refine HA.out.mono ?_
  rintro e w2 ⟨v, o, rfl, hr, ho, hk2⟩
  have hj := r_join hr.has hsz
  have HJ := Lib.hid hj
  have HK2 := Lib.hid (HK1.out.trans hk2 (by simp))
  clear hr ho hk2 hj HA m0 m1 m2 m3 m4
  go_wp2_with fail
  refine HJ.out.mono ?_
  rintro e w3 ⟨v3, out, err, rfl, hjr, hr3, hk3⟩
  have H := Lib.hid (And.intro hjr (And.intro hr3 (HK2.out.trans hk3 (by simp))))
  clear hjr hr3 hk3
  by_cases he : err = 0
  · subst he
    go_wp2_with fail
    go_ret
    exact ⟨_, out, 0, rfl, H.out.1, H.out.2.1, H.out.2.2⟩
  · go_wp2_with fail
    go_ret
    have hn : out = [] := JoinRes.nil H.out.1 he
    subst hn
    exact ⟨_, [], err, rfl, H.out.1, HasE.nil _, H.out.2.2⟩
end Go.Proofs.Ytngepgnmlpinaaa

/- The document's Check. -/
namespace Go.Proofs.Ytngepgnmlpinaaa
open Go.RowKit Go.Emb Go.Emb.Ext

set_option maxRecDepth 100000 in
theorem r_room (n : Int) (w : World) : Calls Try.prog 56 #[.int .i64 n] w fun e w' => e = .returned (.int .i64 (roomI n)) ∧ w = w' := by
  unfold roomI
  by_cases h1 : n < 64
  · go_enter Try.func56, Try.ntmps56
    go_wp2_with fail
    go_ret
    exact ⟨rfl, rfl⟩
  · by_cases h2 : 4096 < n
    · go_enter Try.func56, Try.ntmps56
      go_wp2_with fail
      go_ret
      exact ⟨rfl, rfl⟩
    · go_enter Try.func56, Try.ntmps56
      go_wp2_with fail
      go_ret
      exact ⟨rfl, rfl⟩

theorem cells2r {w : World} {q : Nat} {a b : Value} {t : TypeId} (h : w.heap[q]? = some (.cells #[a, b] t (0, 0))) : w.cell? ⟨q, 0, none⟩ = some a ∧ w.cell? ⟨q, 1, none⟩ = some b := by
  refine ⟨?_, ?_⟩ <;> simp [World.cell?, h]
set_option maxRecDepth 100000 in
set_option maxHeartbeats 4000000 in
theorem r_check {w : World} {m : MnV} {blocks size : Int} (h : RdM w.heap.size w m) (hsz : (allL m.area m.places).length ≤ 1000000) (hs1 : -9223372036854775808 ≤ size) (hs2 : size ≤ 9223372036854775807) :
    Calls Try.prog 20 #[.int .i64 blocks, .int .i64 size, aggM m] w (CheckP w blocks size m.area m.places) := by
  obtain ⟨⟨ra, rc, hrv, hrc1, hrc2⟩, pa, pc, hpv, hpc1, hpc2⟩ := h.forms
  have hk1 : Keep [] w (w.alloc (.cells #[.string m.s, .int .i64 m.area.1, .int .i64 m.area.2, .slice ra m.rest.length rc, .slice pa m.places.length pc] 27)) := (Keep.refl [] w).alloc _
  have hb1 := heap_new w (.cells #[.string m.s, .int .i64 m.area.1, .int .i64 m.area.2, .slice ra m.rest.length rc, .slice pa m.places.length pc] 27)
  have hm1 := h.next hk1
  have hall := r_all hm1 hsz
  have hroom := r_room size (w.alloc (.cells #[.string m.s, .int .i64 m.area.1, .int .i64 m.area.2, .slice ra m.rest.length rc, .slice pa m.places.length pc] 27))
  have hrb : roomI size ≤ 4081 := by unfold roomI; split <;> omega
  unfold aggM at hall ⊢
  rw [hrv, hpv] at hall ⊢
  have HA := Lib.hid hall
  have HK1 := Lib.hid hk1
  have HRM := Lib.hid hroom
  have HB1 := Lib.hid hb1
  have HM1 := Lib.hid hm1
  clear hall hk1 h hroom hb1 hm1
  obtain ⟨rm, hrm⟩ : ∃ r, r = roomI size := ⟨_, rfl⟩
  rw [← hrm] at HRM hrb
  have HRR := Lib.hid hrm
  clear hrm
  by_cases hg : rm = 0 ∨ blocks < 1 ∨ 16384 < blocks
  · have hno : ¬ OkM blocks size m.area m.places := fun h => by
      obtain ⟨h1, h2, h3, -⟩ := h
      rw [← HRR.out] at h1
      rcases hg with h | h | h
      · exact h1 h
      · omega
      · omega
    have HNO := Lib.hid hno
    clear hno
    by_cases g1 : rm = 0
    · subst g1
      go_enter Try.func20, Try.ntmps20
      go_wp2_with fail
      refine HRM.out.mono ?_
      rintro e w2 ⟨rfl, rfl⟩
      go_wp2_with fail
      go_ret
      exact ⟨2, rfl, .inr ⟨rfl, HNO.out⟩, HK1.out⟩
    · have g1' : (rm == 0) = false := by simp [g1]
      by_cases g2 : blocks < 1
      · go_enter Try.func20, Try.ntmps20
        go_wp2_with fail
        refine HRM.out.mono ?_
        rintro e w2 ⟨rfl, rfl⟩
        go_wp2_with fail
        go_ret
        exact ⟨2, rfl, .inr ⟨rfl, HNO.out⟩, HK1.out⟩
      · have g3 : 16384 < blocks := by omega
        go_enter Try.func20, Try.ntmps20
        go_wp2_with fail
        refine HRM.out.mono ?_
        rintro e w2 ⟨rfl, rfl⟩
        go_wp2_with fail
        go_ret
        exact ⟨2, rfl, .inr ⟨rfl, HNO.out⟩, HK1.out⟩
  · have g1 : rm ≠ 0 := fun h => hg (.inl h)
    have g1' : (rm == 0) = false := by simp [g1]
    have g2 : ¬ blocks < 1 := by omega
    have g3 : ¬ 16384 < blocks := by omega
    have hbl1 : 1 ≤ blocks := by omega
    have hbl2 : blocks ≤ 16384 := by omega
    clear hg
    go_enter Try.func20, Try.ntmps20
    go_wp2_with fail
    refine HRM.out.mono ?_
    rintro e w2 ⟨rfl, rfl⟩
    obtain ⟨m0, m1, m2, m3, m4⟩ := cells5 HB1.out
    go_wp2_with fail
    generalize w.alloc (.cells #[.string m.s, .int .i64 m.area.1, .int .i64 m.area.2, .slice ra m.rest.length rc, .slice pa m.places.length pc] 27) = w1 at *
    refine HA.out.mono ?_
    rintro e w2 ⟨v, o, rfl, hr, ho, hk2⟩
    have HB2 := Lib.hid (blk_keep HB1.out hk2 (by simp))
    have HM2 := Lib.hid (HM1.out.next hk2)
    have HK2 := Lib.hid (HK1.out.trans hk2 (by simp))
    have HH := Lib.hid hr.has
    obtain ⟨va, vc, rfl⟩ := hr.has.slice
    clear hr ho hk2 HA HB1 HM1 HK1 HRM m0 m1 m2 m3 m4
    obtain ⟨l, hl⟩ : ∃ l, l = allL m.area m.places := ⟨_, rfl⟩
    rw [← hl] at HH hsz
    rw [← hl]
    have HL := Lib.hid hl
    clear hl
    go_wp2_with fail
    go_loopw [9] (fun i wr => ∃ k : Nat, k ≤ l.length ∧ i = .int .i64 (k : Int) ∧ (∀ x ∈ l.take k, badX blocks x = false) ∧ Keep [] w2 wr) (fun i _ => l.length - (intOf i).toNat)
    case atStart => exact ⟨0, Nat.zero_le _, rfl, (fun y hy => by simp at hy), Keep.refl _ _⟩
    case round =>
      obtain ⟨k, hk, rfl, hno, hkw⟩ := hrel
      have HNO := Lib.hid hno
      have HKW := Lib.hid hkw
      clear hno hkw
      by_cases hlt : k < l.length
      · obtain ⟨o1, hrd, hro⟩ := HH.out.keep HKW.out
        obtain ⟨b, off, rfl, rfl, g0, g1⟩ := hrd.at hlt
        obtain ⟨x, hx⟩ : ∃ x, x = l[k] := ⟨_, rfl⟩
        rw [← hx] at g0 g1
        obtain ⟨f, n⟩ := x
        simp only at g0 g1
        have hbad : badX blocks (f, n) = true → ¬ OkM blocks size m.area m.places := fun hb ok => by
          have := ok.2.2.2.1 (f, n) (by rw [← HL.out, hx]; exact List.getElem_mem hlt)
          rw [hb] at this; cases this
        have HX := Lib.hid hx
        have HBAD := Lib.hid hbad
        have HKX := Lib.hid (HK2.out.trans (HKW.out.trans ((Keep.refl [] wr).alloc (.cells #[.int .i64 f, .int .i64 n] 23)) (by simp)) (by simp))
        have HKY := Lib.hid (HKW.out.trans ((Keep.refl [] wr).alloc (.cells #[.int .i64 f, .int .i64 n] 23)) (by simp))
        have hbx := heap_new wr (.cells #[.int .i64 f, .int .i64 n] 23)
        obtain ⟨c0, c1⟩ := cells2r hbx
        have i0' : (0 : Int) ≤ (k : Int) := by omega
        have i1' : (k : Int) < (l.length : Int) := by omega
        have k0 := g0
        clear hrd hro hx hbad hbx
        by_cases h1 : f < 2
        · go_wp2_with fail
          go_ret
          exact ⟨2, rfl, .inr ⟨rfl, HBAD.out (by simp [badX, h1])⟩, HKX.out⟩
        · by_cases h2 : n < 1
          · go_wp2_with fail
            go_ret
            exact ⟨2, rfl, .inr ⟨rfl, HBAD.out (by simp [badX, h1, h2])⟩, HKX.out⟩
          · by_cases h3 : blocks ≤ f
            · go_wp2_with fail
              go_ret
              exact ⟨2, rfl, .inr ⟨rfl, HBAD.out (by simp [badX, h1, h2, h3])⟩, HKX.out⟩
            · have hw : IntKind.i64.wrap (blocks - f) = blocks - f := IntWalk.i64_in _ (by omega)
              by_cases h4 : blocks - f < n
              · go_wp2_with fail
                go_ret
                exact ⟨2, rfl, .inr ⟨rfl, HBAD.out (by simp [badX, h1, h2, h3, h4])⟩, HKX.out⟩
              · have hgood : badX blocks (f, n) = false := by simp [badX, h1, h2, h3, h4]
                have HGO := Lib.hid hgood
                clear hgood
                go_wp2_with fail
                go_roundw
                case rel => exact ⟨k + 1, by omega, by go_num, (fun y hy => by
                  rw [List.take_succ_eq_append_getElem hlt, List.mem_append] at hy
                  rcases hy with hy | hy
                  · exact HNO.out y hy
                  · simp at hy; rw [hy, ← HX.out]; exact HGO.out), HKY.out⟩
                case measure => simp [intOf]; omega
      · obtain rfl : k = l.length := by omega
        have i1' : ¬ (l.length : Int) < (l.length : Int) := by omega
        have hno := HNO.out
        rw [List.take_length] at hno
        have HNB := Lib.hid hno
        have hj := r_join (HH.out.keep HKW.out) hsz
        have HJ := Lib.hid hj
        clear hno hj HNO
        go_wp2_with fail
        refine HJ.out.mono ?_
        rintro e w4 ⟨v4, out, err, rfl, hjr, hr4, hk4⟩
        have HB4 := Lib.hid (blk_keep HB2.out (HKW.out.trans hk4 (by simp)) (by simp))
        have HM4 := Lib.hid (HM2.out.next (HKW.out.trans hk4 (by simp)))
        have HK4 := Lib.hid (HK2.out.trans (HKW.out.trans hk4 (by simp)) (by simp))
        have HJR := Lib.hid hjr
        clear hjr hr4 hk4 HJ HKW HB2 HM2 HK2
        by_cases he : err = 0
        · subst he
          have hjo : (∀ x ∈ l, right x = true) ∧ Disj l := by
            rcases HJR.out with ⟨h, -⟩ | ⟨h, -⟩ | ⟨-, h1, h2, -⟩
            · cases h
            · cases h
            · exact ⟨h1, h2.disj⟩
          have hokp : okPl rm 0 (m.places.map (·.p)) → OkM blocks size m.area m.places := fun hp => ⟨by rw [← HRR.out]; exact g1, hbl1, hbl2, by rw [← HL.out]; exact HNB.out, by rw [← HL.out]; exact hjo.1, by rw [← HL.out]; exact hjo.2, by rw [← HRR.out]; exact hp⟩
          have hokn : OkM blocks size m.area m.places → okPl rm 0 (m.places.map (·.p)) := fun hp => by rw [HRR.out]; exact hp.2.2.2.2.2.2
          clear hjo
          have HOK := Lib.hid (Iff.intro hokp hokn)
          have HPL := Lib.hid HM4.out.2.2.2
          have hsz2 : (allL m.area m.places).length ≤ 1000000 := by rw [← HL.out]; exact hsz
          clear HJR hokp hokn HM4 HNB
          go_wp2_with fail
          go_loopw [13, 14] (fun l i wr => ∃ (k : Nat) (last : Int), k ≤ m.places.length ∧ i = .int .i64 (k : Int) ∧ l = .int .i64 last ∧ (okPl rm 0 (m.places.map (·.p)) ↔ okPl rm last ((m.places.drop k).map (·.p))) ∧ Keep [] w4 wr) (fun _ i _ => m.places.length - (intOf i).toNat)
          case atStart => exact ⟨0, 0, Nat.zero_le _, rfl, rfl, by simp, Keep.refl _ _⟩
          case round =>
            obtain ⟨k, last, hk, rfl, rfl, hiff, hkw⟩ := hrel
            have HF := Lib.hid hiff
            have HK := Lib.hid hkw
            clear hiff hkw
            obtain ⟨m0, m1, m2, m3, m4⟩ := cells5 (blk_keep HB4.out HK.out (by simp))
            by_cases hlt : k < m.places.length
            · have hpl2 := HPL.out.keep HK.out (by simp)
              rw [hpv] at hpl2
              obtain ⟨pb, poff, rfl, hpb, q0, q1, q2⟩ := hpl2.at hlt
              have hpx := hpl2.2.1 _ (List.getElem_mem hlt)
              clear hpl2
              obtain ⟨x, hx⟩ : ∃ x, x = m.places[k] := ⟨_, rfl⟩
              rw [← hx] at q0 q1 q2 hpx
              obtain ⟨hx1, hx2, hx3⟩ := hpx
              obtain ⟨xa, xc, hxv, hxc1, hxc2⟩ := hx3.slice
              rw [hxv] at q2 hx3
              have hdr : okPl rm last ((m.places.drop k).map (·.p)) ↔ (last < x.p.pid ∧ 1 ≤ x.p.len ∧ countE x.p.pieces = needE x.p.len rm) ∧ okPl rm x.p.pid ((m.places.drop (k + 1)).map (·.p)) := by
                rw [List.drop_eq_getElem_cons hlt, ← hx]; rfl
              have hpl : x.p.pieces.length ≤ 1000000 := by
                have h1 : x.p.pieces.length ≤ (m.places.flatMap (·.p.pieces)).length := by
                  have hmem : x ∈ m.places := hx ▸ List.getElem_mem hlt
                  obtain ⟨s, t, hst⟩ := List.append_of_mem hmem
                  rw [hst]
                  simp
                  omega
                unfold allL at hsz2
                rw [List.length_cons] at hsz2
                omega
              unfold maxLen at hxc2
              obtain ⟨⟨xo, hxr, hxo⟩, -, -⟩ := hx3
              have HXR := Lib.hid (And.intro hxr hxo)
              have HDR := Lib.hid (HF.out.trans hdr)
              have i0' : (0 : Int) ≤ (k : Int) := by omega
              have i1' : (k : Int) < (m.places.length : Int) := by omega
              have hx2' := hx2.2
              clear hxr hxo hdr hx HF hxv
              by_cases c1 : x.p.pid ≤ last
              · have hno : ¬ OkM blocks size m.area m.places := fun h => by
                  have := (HDR.out.1 (HOK.out.2 h)).1.1
                  omega
                have HNO := Lib.hid hno
                clear hno
                go_wp2_with fail
                have HB5 := Lib.hid (heap_new wr (.cells #[.int .i64 x.p.pid, .int .i64 x.p.len, .slice xa x.p.pieces.length xc] 43))
                have HK5 := Lib.hid ((Keep.refl [] wr).alloc (.cells #[.int .i64 x.p.pid, .int .i64 x.p.len, .slice xa x.p.pieces.length xc] 43))
                generalize wr.alloc (.cells #[.int .i64 x.p.pid, .int .i64 x.p.len, .slice xa x.p.pieces.length xc] 43) = w5 at *
                clear q0 q1 q2
                refine wp_region_held_drew (S := fun w' => Keep [] wr w' ∧ w'.heap[wr.heap.size]? = some (.cells #[.int .i64 x.p.pid, .int .i64 x.p.len, .slice xa x.p.pieces.length xc] 43)) (by kernel_rfl) ⟨HK5.out.drew, HB5.out⟩ (fun hHeld => ?_)
                refine wpAnyH_takeL (i := 0) (v := ?vQA0) rfl (by kernel_rfl) (by kernel_rfl) (by kernel_rfl) (fun _ _ _ h => h) (Or.inl ⟨by kernel_rfl, ?runQA0⟩) hHeld ?_
                case runQA0 => (intro w9 hS9; obtain ⟨c0, c1, c2, -⟩ := cells3 hS9.2; go_simp; try exact rfl)
                try simp only [Act.put, List.setIfInBounds_toArray, List.set_cons_zero, List.set_cons_succ]
                refine wpAnyH_takeL (i := 1) (v := ?vQA1) rfl (by kernel_rfl) (by kernel_rfl) (by kernel_rfl) (fun _ _ _ h => h) (Or.inl ⟨by kernel_rfl, ?runQA1⟩) hHeld ?_
                case runQA1 => (intro w9 hS9; obtain ⟨c0, c1, c2, -⟩ := cells3 hS9.2; go_simp; try exact rfl)
                try simp only [Act.put, List.setIfInBounds_toArray, List.set_cons_zero, List.set_cons_succ]
                refine wpAnyH_takeL (i := 2) (v := ?vQA2) rfl (by kernel_rfl) (by kernel_rfl) (by kernel_rfl) (fun _ _ _ h => h) (Or.inl ⟨by kernel_rfl, ?runQA2⟩) hHeld ?_
                case runQA2 => (intro w9 hS9; obtain ⟨c0, c1, c2, -⟩ := cells3 hS9.2; go_simp; try exact rfl)
                try simp only [Act.put, List.setIfInBounds_toArray, List.set_cons_zero, List.set_cons_succ]
                refine wpAnyH_takeL (i := 3) (v := .bool true) rfl (by kernel_rfl) (by kernel_rfl) (by kernel_rfl) (fun _ _ _ h => h) (Or.inl ⟨by kernel_rfl, ?runQA3⟩) hHeld ?_
                case runQA3 => (intro w9 hS9; obtain ⟨c0, c1, c2, -⟩ := cells3 hS9.2; go_simp; first | done | exact rfl | (simp [*]; done) | (simp; omega))
                try simp only [Act.put, List.setIfInBounds_toArray, List.set_cons_zero, List.set_cons_succ]
                refine wpAnyH_takeL (i := 4) (v := ?vQA4) rfl (by kernel_rfl) (by kernel_rfl) (by kernel_rfl) (fun _ _ _ h => h) (Or.inl ⟨by kernel_rfl, ?runQA4⟩) hHeld ?_
                case runQA4 => (intro w9 hS9; obtain ⟨c0, c1, c2, -⟩ := cells3 hS9.2; go_simp; try exact rfl)
                try simp only [Act.put, List.setIfInBounds_toArray, List.set_cons_zero, List.set_cons_succ]
                refine wpAnyH_takeL (i := 5) (v := undef) rfl (by kernel_rfl) (by kernel_rfl) (by kernel_rfl) (fun _ _ _ h => h) (Or.inr ⟨by kernel_rfl, rfl⟩) hHeld ?_
                try simp only [Act.put, List.setIfInBounds_toArray, List.set_cons_zero, List.set_cons_succ]
                refine wpAnyH_takeL (i := 6) (v := undef) rfl (by kernel_rfl) (by kernel_rfl) (by kernel_rfl) (fun _ _ _ h => h) (Or.inr ⟨by kernel_rfl, rfl⟩) hHeld ?_
                try simp only [Act.put, List.setIfInBounds_toArray, List.set_cons_zero, List.set_cons_succ]
                refine wpAnyH_takeL (i := 7) (v := undef) rfl (by kernel_rfl) (by kernel_rfl) (by kernel_rfl) (fun _ _ _ h => h) (Or.inr ⟨by kernel_rfl, rfl⟩) hHeld ?_
                try simp only [Act.put, List.setIfInBounds_toArray, List.set_cons_zero, List.set_cons_succ]
                refine wpAnyH_takeL (i := 8) (v := ?vQA8) rfl (by kernel_rfl) (by kernel_rfl) (by kernel_rfl) (fun _ _ _ h => h) (Or.inl ⟨by kernel_rfl, ?runQA8⟩) hHeld ?_
                case runQA8 => (intro w9 hS9; obtain ⟨c0, c1, c2, -⟩ := cells3 hS9.2; go_simp; try exact rfl)
                try simp only [Act.put, List.setIfInBounds_toArray, List.set_cons_zero, List.set_cons_succ]
                refine wpAnyH_takeL (i := 9) (v := ?vQA9) rfl (by kernel_rfl) (by kernel_rfl) (by kernel_rfl) (fun _ _ _ h => h) (Or.inl ⟨by kernel_rfl, ?runQA9⟩) hHeld ?_
                case runQA9 => (intro w9 hS9; obtain ⟨c0, c1, c2, -⟩ := cells3 hS9.2; go_simp; try exact rfl)
                try simp only [Act.put, List.setIfInBounds_toArray, List.set_cons_zero, List.set_cons_succ]
                refine wpAnyH_takeL (i := 10) (v := undef) rfl (by kernel_rfl) (by kernel_rfl) (by kernel_rfl) (fun _ _ _ h => h) (Or.inr ⟨by kernel_rfl, rfl⟩) hHeld ?_
                try simp only [Act.put, List.setIfInBounds_toArray, List.set_cons_zero, List.set_cons_succ]
                refine wpAnyH_takeL (i := 11) (v := undef) rfl (by kernel_rfl) (by kernel_rfl) (by kernel_rfl) (fun _ _ _ h => h) (Or.inr ⟨by kernel_rfl, rfl⟩) hHeld ?_
                try simp only [Act.put, List.setIfInBounds_toArray, List.set_cons_zero, List.set_cons_succ]
                refine wpAnyH_takeL (i := 12) (v := undef) rfl (by kernel_rfl) (by kernel_rfl) (by kernel_rfl) (fun _ _ _ h => h) (Or.inr ⟨by kernel_rfl, rfl⟩) hHeld ?_
                try simp only [Act.put, List.setIfInBounds_toArray, List.set_cons_zero, List.set_cons_succ]
                refine wpAnyH_takeL (i := 13) (v := undef) rfl (by kernel_rfl) (by kernel_rfl) (by kernel_rfl) (fun _ _ _ h => h) (Or.inr ⟨by kernel_rfl, rfl⟩) hHeld ?_
                try simp only [Act.put, List.setIfInBounds_toArray, List.set_cons_zero, List.set_cons_succ]
                refine wpAnyH_takeL (i := 14) (v := undef) rfl (by kernel_rfl) (by kernel_rfl) (by kernel_rfl) (fun _ _ _ h => h) (Or.inr ⟨by kernel_rfl, rfl⟩) hHeld ?_
                try simp only [Act.put, List.setIfInBounds_toArray, List.set_cons_zero, List.set_cons_succ]
                refine wpAnyH_takeL (i := 15) (v := undef) rfl (by kernel_rfl) (by kernel_rfl) (by kernel_rfl) (fun _ _ _ h => h) (Or.inr ⟨by kernel_rfl, rfl⟩) hHeld ?_
                try simp only [Act.put, List.setIfInBounds_toArray, List.set_cons_zero, List.set_cons_succ]
                refine wpAnyH_takeL (i := 16) (v := undef) rfl (by kernel_rfl) (by kernel_rfl) (by kernel_rfl) (fun _ _ _ h => h) (Or.inr ⟨by kernel_rfl, rfl⟩) hHeld ?_
                try simp only [Act.put, List.setIfInBounds_toArray, List.set_cons_zero, List.set_cons_succ]
                refine wpAnyH_takeL (i := 17) (v := undef) rfl (by kernel_rfl) (by kernel_rfl) (by kernel_rfl) (fun _ _ _ h => h) (Or.inr ⟨by kernel_rfl, rfl⟩) hHeld ?_
                try simp only [Act.put, List.setIfInBounds_toArray, List.set_cons_zero, List.set_cons_succ]
                refine wpAnyH_takeL (i := 18) (v := ?vQA18) rfl (by kernel_rfl) (by kernel_rfl) (by kernel_rfl) (fun _ _ _ h => h) (Or.inl ⟨by kernel_rfl, ?runQA18⟩) hHeld ?_
                case runQA18 => (intro w9 hS9; obtain ⟨c0, c1, c2, -⟩ := cells3 hS9.2; go_simp; try exact rfl)
                try simp only [Act.put, List.setIfInBounds_toArray, List.set_cons_zero, List.set_cons_succ]
                refine wpAnyH_done (by kernel_rfl) ?_ _
                clear hHeld
                go_wp2_with fail
                go_ret
                exact ⟨2, rfl, .inr ⟨rfl, HNO.out⟩, (HK4.out.trans HK.out (by simp)).trans HK5.out.drew (by simp)⟩
              · by_cases c2 : x.p.len < 1
                · have hno : ¬ OkM blocks size m.area m.places := fun h => by
                    have := (HDR.out.1 (HOK.out.2 h)).1.2.1
                    omega
                  have HNO := Lib.hid hno
                  clear hno
                  go_wp2_with fail
                  have HB5 := Lib.hid (heap_new wr (.cells #[.int .i64 x.p.pid, .int .i64 x.p.len, .slice xa x.p.pieces.length xc] 43))
                  have HK5 := Lib.hid ((Keep.refl [] wr).alloc (.cells #[.int .i64 x.p.pid, .int .i64 x.p.len, .slice xa x.p.pieces.length xc] 43))
                  generalize wr.alloc (.cells #[.int .i64 x.p.pid, .int .i64 x.p.len, .slice xa x.p.pieces.length xc] 43) = w5 at *
                  clear q0 q1 q2
                  refine wp_region_held_drew (S := fun w' => Keep [] wr w' ∧ w'.heap[wr.heap.size]? = some (.cells #[.int .i64 x.p.pid, .int .i64 x.p.len, .slice xa x.p.pieces.length xc] 43)) (by kernel_rfl) ⟨HK5.out.drew, HB5.out⟩ (fun hHeld => ?_)
                  refine wpAnyH_takeL (i := 0) (v := ?vQB0) rfl (by kernel_rfl) (by kernel_rfl) (by kernel_rfl) (fun _ _ _ h => h) (Or.inl ⟨by kernel_rfl, ?runQB0⟩) hHeld ?_
                  case runQB0 => (intro w9 hS9; obtain ⟨c0, c1, c2, -⟩ := cells3 hS9.2; go_simp; try exact rfl)
                  try simp only [Act.put, List.setIfInBounds_toArray, List.set_cons_zero, List.set_cons_succ]
                  refine wpAnyH_takeL (i := 1) (v := ?vQB1) rfl (by kernel_rfl) (by kernel_rfl) (by kernel_rfl) (fun _ _ _ h => h) (Or.inl ⟨by kernel_rfl, ?runQB1⟩) hHeld ?_
                  case runQB1 => (intro w9 hS9; obtain ⟨c0, c1, c2, -⟩ := cells3 hS9.2; go_simp; try exact rfl)
                  try simp only [Act.put, List.setIfInBounds_toArray, List.set_cons_zero, List.set_cons_succ]
                  refine wpAnyH_takeL (i := 2) (v := ?vQB2) rfl (by kernel_rfl) (by kernel_rfl) (by kernel_rfl) (fun _ _ _ h => h) (Or.inl ⟨by kernel_rfl, ?runQB2⟩) hHeld ?_
                  case runQB2 => (intro w9 hS9; obtain ⟨c0, c1, c2, -⟩ := cells3 hS9.2; go_simp; try exact rfl)
                  try simp only [Act.put, List.setIfInBounds_toArray, List.set_cons_zero, List.set_cons_succ]
                  refine wpAnyH_takeL (i := 3) (v := .bool false) rfl (by kernel_rfl) (by kernel_rfl) (by kernel_rfl) (fun _ _ _ h => h) (Or.inl ⟨by kernel_rfl, ?runQB3⟩) hHeld ?_
                  case runQB3 => (intro w9 hS9; obtain ⟨c0, c1, c2, -⟩ := cells3 hS9.2; go_simp; first | done | exact rfl | (simp [*]; done) | (simp; omega))
                  try simp only [Act.put, List.setIfInBounds_toArray, List.set_cons_zero, List.set_cons_succ]
                  refine wpAnyH_takeL (i := 4) (v := ?vQB4) rfl (by kernel_rfl) (by kernel_rfl) (by kernel_rfl) (fun _ _ _ h => h) (Or.inl ⟨by kernel_rfl, ?runQB4⟩) hHeld ?_
                  case runQB4 => (intro w9 hS9; obtain ⟨c0, c1, c2, -⟩ := cells3 hS9.2; go_simp; try exact rfl)
                  try simp only [Act.put, List.setIfInBounds_toArray, List.set_cons_zero, List.set_cons_succ]
                  refine wpAnyH_takeL (i := 5) (v := ?vQB5) rfl (by kernel_rfl) (by kernel_rfl) (by kernel_rfl) (fun _ _ _ h => h) (Or.inl ⟨by kernel_rfl, ?runQB5⟩) hHeld ?_
                  case runQB5 => (intro w9 hS9; obtain ⟨c0, c1, c2, -⟩ := cells3 hS9.2; go_simp; try exact rfl)
                  try simp only [Act.put, List.setIfInBounds_toArray, List.set_cons_zero, List.set_cons_succ]
                  refine wpAnyH_takeL (i := 6) (v := ?vQB6) rfl (by kernel_rfl) (by kernel_rfl) (by kernel_rfl) (fun _ _ _ h => h) (Or.inl ⟨by kernel_rfl, ?runQB6⟩) hHeld ?_
                  case runQB6 => (intro w9 hS9; obtain ⟨c0, c1, c2, -⟩ := cells3 hS9.2; go_simp; try exact rfl)
                  try simp only [Act.put, List.setIfInBounds_toArray, List.set_cons_zero, List.set_cons_succ]
                  refine wpAnyH_takeL (i := 7) (v := .bool true) rfl (by kernel_rfl) (by kernel_rfl) (by kernel_rfl) (fun _ _ _ h => h) (Or.inl ⟨by kernel_rfl, ?runQB7⟩) hHeld ?_
                  case runQB7 => (intro w9 hS9; obtain ⟨c0, c1, c2, -⟩ := cells3 hS9.2; go_simp; first | done | exact rfl | (simp [*]; done) | (simp; omega))
                  try simp only [Act.put, List.setIfInBounds_toArray, List.set_cons_zero, List.set_cons_succ]
                  refine wpAnyH_takeL (i := 8) (v := ?vQB8) rfl (by kernel_rfl) (by kernel_rfl) (by kernel_rfl) (fun _ _ _ h => h) (Or.inl ⟨by kernel_rfl, ?runQB8⟩) hHeld ?_
                  case runQB8 => (intro w9 hS9; obtain ⟨c0, c1, c2, -⟩ := cells3 hS9.2; go_simp; try exact rfl)
                  try simp only [Act.put, List.setIfInBounds_toArray, List.set_cons_zero, List.set_cons_succ]
                  refine wpAnyH_takeL (i := 9) (v := ?vQB9) rfl (by kernel_rfl) (by kernel_rfl) (by kernel_rfl) (fun _ _ _ h => h) (Or.inl ⟨by kernel_rfl, ?runQB9⟩) hHeld ?_
                  case runQB9 => (intro w9 hS9; obtain ⟨c0, c1, c2, -⟩ := cells3 hS9.2; go_simp; try exact rfl)
                  try simp only [Act.put, List.setIfInBounds_toArray, List.set_cons_zero, List.set_cons_succ]
                  refine wpAnyH_takeL (i := 10) (v := undef) rfl (by kernel_rfl) (by kernel_rfl) (by kernel_rfl) (fun _ _ _ h => h) (Or.inr ⟨by kernel_rfl, rfl⟩) hHeld ?_
                  try simp only [Act.put, List.setIfInBounds_toArray, List.set_cons_zero, List.set_cons_succ]
                  refine wpAnyH_takeL (i := 11) (v := undef) rfl (by kernel_rfl) (by kernel_rfl) (by kernel_rfl) (fun _ _ _ h => h) (Or.inr ⟨by kernel_rfl, rfl⟩) hHeld ?_
                  try simp only [Act.put, List.setIfInBounds_toArray, List.set_cons_zero, List.set_cons_succ]
                  refine wpAnyH_takeL (i := 12) (v := undef) rfl (by kernel_rfl) (by kernel_rfl) (by kernel_rfl) (fun _ _ _ h => h) (Or.inr ⟨by kernel_rfl, rfl⟩) hHeld ?_
                  try simp only [Act.put, List.setIfInBounds_toArray, List.set_cons_zero, List.set_cons_succ]
                  refine wpAnyH_takeL (i := 13) (v := undef) rfl (by kernel_rfl) (by kernel_rfl) (by kernel_rfl) (fun _ _ _ h => h) (Or.inr ⟨by kernel_rfl, rfl⟩) hHeld ?_
                  try simp only [Act.put, List.setIfInBounds_toArray, List.set_cons_zero, List.set_cons_succ]
                  refine wpAnyH_takeL (i := 14) (v := undef) rfl (by kernel_rfl) (by kernel_rfl) (by kernel_rfl) (fun _ _ _ h => h) (Or.inr ⟨by kernel_rfl, rfl⟩) hHeld ?_
                  try simp only [Act.put, List.setIfInBounds_toArray, List.set_cons_zero, List.set_cons_succ]
                  refine wpAnyH_takeL (i := 15) (v := undef) rfl (by kernel_rfl) (by kernel_rfl) (by kernel_rfl) (fun _ _ _ h => h) (Or.inr ⟨by kernel_rfl, rfl⟩) hHeld ?_
                  try simp only [Act.put, List.setIfInBounds_toArray, List.set_cons_zero, List.set_cons_succ]
                  refine wpAnyH_takeL (i := 16) (v := undef) rfl (by kernel_rfl) (by kernel_rfl) (by kernel_rfl) (fun _ _ _ h => h) (Or.inr ⟨by kernel_rfl, rfl⟩) hHeld ?_
                  try simp only [Act.put, List.setIfInBounds_toArray, List.set_cons_zero, List.set_cons_succ]
                  refine wpAnyH_takeL (i := 17) (v := undef) rfl (by kernel_rfl) (by kernel_rfl) (by kernel_rfl) (fun _ _ _ h => h) (Or.inr ⟨by kernel_rfl, rfl⟩) hHeld ?_
                  try simp only [Act.put, List.setIfInBounds_toArray, List.set_cons_zero, List.set_cons_succ]
                  refine wpAnyH_takeL (i := 18) (v := ?vQB18) rfl (by kernel_rfl) (by kernel_rfl) (by kernel_rfl) (fun _ _ _ h => h) (Or.inl ⟨by kernel_rfl, ?runQB18⟩) hHeld ?_
                  case runQB18 => (intro w9 hS9; obtain ⟨c0, c1, c2, -⟩ := cells3 hS9.2; go_simp; try exact rfl)
                  try simp only [Act.put, List.setIfInBounds_toArray, List.set_cons_zero, List.set_cons_succ]
                  refine wpAnyH_done (by kernel_rfl) ?_ _
                  clear hHeld
                  go_wp2_with fail
                  go_ret
                  exact ⟨2, rfl, .inr ⟨rfl, HNO.out⟩, (HK4.out.trans HK.out (by simp)).trans HK5.out.drew (by simp)⟩
                · go_wp2_with fail
                  have HB5 := Lib.hid (heap_new wr (.cells #[.int .i64 x.p.pid, .int .i64 x.p.len, .slice xa x.p.pieces.length xc] 43))
                  have HK5 := Lib.hid ((Keep.refl [] wr).alloc (.cells #[.int .i64 x.p.pid, .int .i64 x.p.len, .slice xa x.p.pieces.length xc] 43))
                  generalize wr.alloc (.cells #[.int .i64 x.p.pid, .int .i64 x.p.len, .slice xa x.p.pieces.length xc] 43) = w5 at *
                  have HX5 := Lib.hid (HXR.out.1.keep HK5.out.drew (by simp))
                  have hcnt := fun W (hW : Keep [] wr W) => r_count (⟨xo, HXR.out.1.keep hW (by simp), fun b hb => by have h1 := HXR.out.2 b hb; have h2 := HK.out.size; have h3 := hW.size; omega⟩ : HasE W _ x.p.pieces) (by omega)
                  have hneed := fun W => r_need x.p.len rm W hx2' (by omega)
                  have HCN := Lib.hid hcnt
                  have HND := Lib.hid hneed
                  clear hcnt hneed q0 q1 q2
                  refine wp_region_held_drew (S := fun w' => Keep [] wr w' ∧ w'.heap[wr.heap.size]? = some (.cells #[.int .i64 x.p.pid, .int .i64 x.p.len, .slice xa x.p.pieces.length xc] 43)) (by kernel_rfl) ⟨HK5.out.drew, HB5.out⟩ (fun hHeld => ?_)
                  refine wpAnyH_takeL (i := 0) (v := ?vK0) rfl (by kernel_rfl) (by kernel_rfl) (by kernel_rfl) (fun _ _ _ h => h) (Or.inl ⟨by kernel_rfl, ?runK0⟩) hHeld ?_
                  case runK0 => (intro w9 hS9; obtain ⟨c0, c1, c2, -⟩ := cells3 hS9.2; go_simp; try exact rfl)
                  try simp only [Act.put, List.setIfInBounds_toArray, List.set_cons_zero, List.set_cons_succ]
                  refine wpAnyH_takeL (i := 1) (v := ?vK1) rfl (by kernel_rfl) (by kernel_rfl) (by kernel_rfl) (fun _ _ _ h => h) (Or.inl ⟨by kernel_rfl, ?runK1⟩) hHeld ?_
                  case runK1 => (intro w9 hS9; obtain ⟨c0, c1, c2, -⟩ := cells3 hS9.2; go_simp; try exact rfl)
                  try simp only [Act.put, List.setIfInBounds_toArray, List.set_cons_zero, List.set_cons_succ]
                  refine wpAnyH_takeL (i := 2) (v := ?vK2) rfl (by kernel_rfl) (by kernel_rfl) (by kernel_rfl) (fun _ _ _ h => h) (Or.inl ⟨by kernel_rfl, ?runK2⟩) hHeld ?_
                  case runK2 => (intro w9 hS9; obtain ⟨c0, c1, c2, -⟩ := cells3 hS9.2; go_simp; try exact rfl)
                  try simp only [Act.put, List.setIfInBounds_toArray, List.set_cons_zero, List.set_cons_succ]
                  refine wpAnyH_takeL (i := 3) (v := .bool false) rfl (by kernel_rfl) (by kernel_rfl) (by kernel_rfl) (fun _ _ _ h => h) (Or.inl ⟨by kernel_rfl, ?runK3⟩) hHeld ?_
                  case runK3 => (intro w9 hS9; obtain ⟨c0, c1, c2, -⟩ := cells3 hS9.2; go_simp; first | done | exact rfl | (simp [*]; done) | (simp; omega))
                  try simp only [Act.put, List.setIfInBounds_toArray, List.set_cons_zero, List.set_cons_succ]
                  refine wpAnyH_takeL (i := 4) (v := ?vK4) rfl (by kernel_rfl) (by kernel_rfl) (by kernel_rfl) (fun _ _ _ h => h) (Or.inl ⟨by kernel_rfl, ?runK4⟩) hHeld ?_
                  case runK4 => (intro w9 hS9; obtain ⟨c0, c1, c2, -⟩ := cells3 hS9.2; go_simp; try exact rfl)
                  try simp only [Act.put, List.setIfInBounds_toArray, List.set_cons_zero, List.set_cons_succ]
                  refine wpAnyH_takeL (i := 5) (v := ?vK5) rfl (by kernel_rfl) (by kernel_rfl) (by kernel_rfl) (fun _ _ _ h => h) (Or.inl ⟨by kernel_rfl, ?runK5⟩) hHeld ?_
                  case runK5 => (intro w9 hS9; obtain ⟨c0, c1, c2, -⟩ := cells3 hS9.2; go_simp; try exact rfl)
                  try simp only [Act.put, List.setIfInBounds_toArray, List.set_cons_zero, List.set_cons_succ]
                  refine wpAnyH_takeL (i := 6) (v := ?vK6) rfl (by kernel_rfl) (by kernel_rfl) (by kernel_rfl) (fun _ _ _ h => h) (Or.inl ⟨by kernel_rfl, ?runK6⟩) hHeld ?_
                  case runK6 => (intro w9 hS9; obtain ⟨c0, c1, c2, -⟩ := cells3 hS9.2; go_simp; try exact rfl)
                  try simp only [Act.put, List.setIfInBounds_toArray, List.set_cons_zero, List.set_cons_succ]
                  refine wpAnyH_takeL (i := 7) (v := .bool false) rfl (by kernel_rfl) (by kernel_rfl) (by kernel_rfl) (fun _ _ _ h => h) (Or.inl ⟨by kernel_rfl, ?runK7⟩) hHeld ?_
                  case runK7 => (intro w9 hS9; obtain ⟨c0, c1, c2, -⟩ := cells3 hS9.2; go_simp; first | done | exact rfl | (simp [*]; done) | (simp; omega))
                  try simp only [Act.put, List.setIfInBounds_toArray, List.set_cons_zero, List.set_cons_succ]
                  refine wpAnyH_takeL (i := 8) (v := ?vK8) rfl (by kernel_rfl) (by kernel_rfl) (by kernel_rfl) (fun _ _ _ h => h) (Or.inl ⟨by kernel_rfl, ?runK8⟩) hHeld ?_
                  case runK8 => (intro w9 hS9; obtain ⟨c0, c1, c2, -⟩ := cells3 hS9.2; go_simp; try exact rfl)
                  try simp only [Act.put, List.setIfInBounds_toArray, List.set_cons_zero, List.set_cons_succ]
                  refine wpAnyH_takeL (i := 9) (v := ?vK9) rfl (by kernel_rfl) (by kernel_rfl) (by kernel_rfl) (fun _ _ _ h => h) (Or.inl ⟨by kernel_rfl, ?runK9⟩) hHeld ?_
                  case runK9 => (intro w9 hS9; obtain ⟨c0, c1, c2, -⟩ := cells3 hS9.2; go_simp; try exact rfl)
                  try simp only [Act.put, List.setIfInBounds_toArray, List.set_cons_zero, List.set_cons_succ]
                  refine wpAnyH_takeL (i := 10) (v := ?vK10) rfl (by kernel_rfl) (by kernel_rfl) (by kernel_rfl) (fun _ _ _ h => h) (Or.inl ⟨by kernel_rfl, ?runK10⟩) hHeld ?_
                  case runK10 => (intro w9 hS9; obtain ⟨c0, c1, c2, -⟩ := cells3 hS9.2; go_simp; try exact rfl)
                  try simp only [Act.put, List.setIfInBounds_toArray, List.set_cons_zero, List.set_cons_succ]
                  refine wpAnyH_takeL (i := 11) (v := ?vK11) rfl (by kernel_rfl) (by kernel_rfl) (by kernel_rfl) (fun _ _ _ h => h) (Or.inl ⟨by kernel_rfl, ?runK11⟩) hHeld ?_
                  case runK11 => (intro w9 hS9; obtain ⟨c0, c1, c2, -⟩ := cells3 hS9.2; go_simp; try exact rfl)
                  try simp only [Act.put, List.setIfInBounds_toArray, List.set_cons_zero, List.set_cons_succ]
                  refine wpAnyH_takeL (i := 13) (v := ?vK13) rfl (by kernel_rfl) (by kernel_rfl) (by kernel_rfl) (fun _ _ _ h => h) (Or.inl ⟨by kernel_rfl, ?runK13⟩) hHeld ?_
                  case runK13 => (intro w9 hS9; obtain ⟨c0, c1, c2, -⟩ := cells3 hS9.2; go_simp; try exact rfl)
                  try simp only [Act.put, List.setIfInBounds_toArray, List.set_cons_zero, List.set_cons_succ]
                  refine wpAnyH_takeL (i := 14) (v := ?vK14) rfl (by kernel_rfl) (by kernel_rfl) (by kernel_rfl) (fun _ _ _ h => h) (Or.inl ⟨by kernel_rfl, ?runK14⟩) hHeld ?_
                  case runK14 => (intro w9 hS9; obtain ⟨c0, c1, c2, -⟩ := cells3 hS9.2; go_simp; try exact rfl)
                  try simp only [Act.put, List.setIfInBounds_toArray, List.set_cons_zero, List.set_cons_succ]
                  refine wpAnyH_takeL (i := 15) (v := ?vK15) rfl (by kernel_rfl) (by kernel_rfl) (by kernel_rfl) (fun _ _ _ h => h) (Or.inl ⟨by kernel_rfl, ?runK15⟩) hHeld ?_
                  case runK15 => (intro w9 hS9; obtain ⟨c0, c1, c2, -⟩ := cells3 hS9.2; go_simp; try exact rfl)
                  try simp only [Act.put, List.setIfInBounds_toArray, List.set_cons_zero, List.set_cons_succ]
                  have HS0 : Hid (Keep [] wr w5.drew ∧ w5.drew.heap[wr.heap.size]? = some (.cells #[.int .i64 x.p.pid, .int .i64 x.p.len, .slice xa x.p.pieces.length xc] 43)) := Lib.hid hHeld
                  clear hHeld HX5 HB5 HK5
                  generalize w5.drew = w6 at *
                  refine wpAnyH_ready (rs := [12]) (by kernel_rfl) (by simp) ?_
                  refine AllReadyH.consL rfl (fun K hK => ?_) AllReadyH.nil
                  go_simp
                  refine (HCN.out _ HS0.out.1).mono ?_
                  rintro e w7 ⟨rfl, hk7⟩
                  have HS7 := Lib.hid (And.intro (HS0.out.1.trans hk7 (by simp)) (blk_keep HS0.out.2 hk7 (by simp)))
                  clear hk7 HS0
                  go_wp2_with fail
                  refine hK.out _ _ HS7.out (fun hHeld => ?_)
                  clear hK K
                  try simp only [Act.put, List.setIfInBounds_toArray, List.set_cons_zero, List.set_cons_succ]
                  refine wpAnyH_ready (rs := [16]) (by kernel_rfl) (by simp) ?_
                  refine AllReadyH.consL rfl (fun K hK => ?_) AllReadyH.nil
                  go_simp
                  refine (HND.out _).mono ?_
                  rintro e w8 ⟨rfl, rfl⟩
                  go_wp2_with fail
                  refine hK.out _ _ HS7.out (fun hHeld => ?_)
                  clear hK K
                  try simp only [Act.put, List.setIfInBounds_toArray, List.set_cons_zero, List.set_cons_succ]
                  refine wpAnyH_takeL (i := 17) (v := ?vK17) rfl (by kernel_rfl) (by kernel_rfl) (by kernel_rfl) (fun _ _ _ h => h) (Or.inl ⟨by kernel_rfl, ?runK17⟩) hHeld ?_
                  case runK17 => (intro w9 hS9; obtain ⟨c0, c1, c2, -⟩ := cells3 hS9.2; go_simp; try exact rfl)
                  try simp only [Act.put, List.setIfInBounds_toArray, List.set_cons_zero, List.set_cons_succ]
                  refine wpAnyH_takeL (i := 18) (v := ?vK18) rfl (by kernel_rfl) (by kernel_rfl) (by kernel_rfl) (fun _ _ _ h => h) (Or.inl ⟨by kernel_rfl, ?runK18⟩) hHeld ?_
                  case runK18 => (intro w9 hS9; obtain ⟨c0, c1, c2, -⟩ := cells3 hS9.2; go_simp; try exact rfl)
                  try simp only [Act.put, List.setIfInBounds_toArray, List.set_cons_zero, List.set_cons_succ]
                  refine wpAnyH_done (by kernel_rfl) ?_ _
                  obtain ⟨c0, c1, c2, -⟩ := cells3 HS7.out.2
                  clear hHeld
                  by_cases c3 : countE x.p.pieces = needE x.p.len rm
                  · have hcb : (countE x.p.pieces != needE x.p.len rm) = false := by simp [c3]
                    have hnx : okPl rm 0 (m.places.map (·.p)) ↔ okPl rm x.p.pid ((m.places.drop (k + 1)).map (·.p)) := HDR.out.trans ⟨fun h => h.2, fun h => ⟨⟨by omega, by omega, c3⟩, h⟩⟩
                    have HNX := Lib.hid hnx
                    clear hnx
                    go_wp2_with fail
                    go_roundw
                    case rel => exact ⟨k + 1, x.p.pid, by omega, by go_num, rfl, HNX.out, HK.out.trans HS7.out.1 (by simp)⟩
                    case measure => simp [intOf]; omega
                  · have hcb : (countE x.p.pieces != needE x.p.len rm) = true := by simp [c3]
                    have hno : ¬ OkM blocks size m.area m.places := fun h => c3 (HDR.out.1 (HOK.out.2 h)).1.2.2
                    have HNO := Lib.hid hno
                    clear hno
                    go_wp2_with fail
                    go_ret
                    exact ⟨2, rfl, .inr ⟨rfl, HNO.out⟩, (HK4.out.trans HK.out (by simp)).trans HS7.out.1 (by simp)⟩
            · obtain rfl : k = m.places.length := by omega
              have hyes : OkM blocks size m.area m.places := HOK.out.1 (HF.out.2 (by simp [okPl]))
              have HY := Lib.hid hyes
              clear hyes
              go_wp2_with fail
              go_ret
              exact ⟨0, rfl, .inl ⟨rfl, HY.out⟩, HK4.out.trans HK.out (by simp)⟩
        · have hno : ¬ OkM blocks size m.area m.places := fun ok => by
            obtain ⟨-, -, -, -, h5, h6, -⟩ := ok
            rw [← HL.out] at h5 h6
            rcases HJR.out with ⟨-, -, x, hx, hf⟩ | ⟨-, -, -, hd⟩ | ⟨h, -⟩
            · rw [h5 x hx] at hf; cases hf
            · exact hd h6
            · exact he h
          have HNO := Lib.hid hno
          clear hno
          go_wp2_with fail
          go_ret
          exact ⟨2, rfl, .inr ⟨rfl, HNO.out⟩, HK4.out⟩
end Go.Proofs.Ytngepgnmlpinaaa

/- What both Finds answer, in one shape. -/
namespace Go.Proofs.Ytngepgnmlpinaaa
open Go.RowKit Go.Emb Go.Emb.Ext

def fndO (m : Man) (pid : Int) : Option Plc := m.places.find? (fun p => decide (p.pid = pid))
def fndP (m : Man) (pid : Int) : Plc := (fndO m pid).getD ⟨0, 0, []⟩
theorem fnd_eq (m : MnV) (pid : Int) : fndO m.man pid = (findL m pid).map (·.p) := by
  unfold fndO findL MnV.man
  simp only [List.find?_map]
  rfl
theorem FindP.all {w w' : World} {m : MnV} {pid : Int} {e : Ending} (hm : RdM w.heap.size w m) (h : FindP w m pid e w') :
    Keep [] w w' ∧ ∃ z : PlV, e = .returned (.tuple #[aggP z, .bool (fndO m.man pid).isSome]) ∧ z.p = fndP m.man pid ∧ RdP1 w'.heap.size w' z := by
  obtain ⟨hk, he⟩ := h
  refine ⟨hk, ?_⟩
  unfold fndP
  rw [fnd_eq]
  cases hf : findL m pid with
  | none =>
    rw [hf] at he
    exact ⟨⟨⟨0, 0, []⟩, .slice none 0 0⟩, he, rfl, by constructor <;> decide, by constructor <;> decide, ⟨none, ⟨by simp, none, 0, rfl, by simp, by simp [maxLen], .inl ⟨rfl, rfl⟩⟩, by simp⟩, by simp, by simp⟩
  | some y =>
    rw [hf] at he
    have hy := hm.2.2.2.2.1 y (List.mem_of_find?_eq_some hf)
    exact ⟨y, he, rfl, hy.1, hy.2.1, (hy.2.2.keep hk (by simp)).up hk.size⟩
/-- what both Checks answer -/
noncomputable def chkR (b s : Int) (a : Int × Int) (ps : List PlV) : Int := @ite Int (OkM b s a ps) (Classical.propDecidable _) 0 2
theorem CheckP.one {w w' : World} {b s : Int} {a : Int × Int} {ps : List PlV} {e : Ending} (h : CheckP w b s a ps e w') : e = .returned (.int .i64 (chkR b s a ps)) ∧ Keep [] w w' := by
  unfold chkR
  obtain ⟨r, rfl, ⟨rfl, h⟩ | ⟨rfl, h⟩, hk⟩ := h
  · exact ⟨by rw [if_pos h], hk⟩
  · exact ⟨by rw [if_neg h], hk⟩
theorem allL_man {x m : MnV} (h : x.man = m.man) : allL x.area x.places = allL m.area m.places := by
  have h1 : x.area = m.area := congrArg Man.area h
  have h2 : x.places.map (·.p) = m.places.map (·.p) := congrArg Man.places h
  unfold allL
  rw [h1]
  congr 1
  have h3 : ∀ l : List PlV, l.flatMap (·.p.pieces) = (l.map (·.p)).flatMap (·.pieces) := fun l => by rw [List.flatMap_map]
  rw [h3, h3, h2]
theorem OkM_man {x m : MnV} (h : x.man = m.man) (b s : Int) : OkM b s x.area x.places = OkM b s m.area m.places := by
  have h2 : x.places.map (·.p) = m.places.map (·.p) := congrArg Man.places h
  unfold OkM
  rw [allL_man h, h2]
theorem chkR_man {x m : MnV} (h : x.man = m.man) (b s : Int) : chkR b s x.area x.places = chkR b s m.area m.places := by
  have e := OkM_man h b s
  unfold chkR
  by_cases h1 : OkM b s x.area x.places
  · rw [if_pos h1, if_pos (e ▸ h1)]
  · rw [if_neg h1, if_neg (fun h2 => h1 (e ▸ h2))]
theorem SmallP.all {m : MnV} (h : SmallP m) : (allL m.area m.places).length ≤ 1000000 := by
  have h1 : ∀ l : List PlV, (l.flatMap (·.p.pieces)).length = sumP l := fun l => by
    induction l with
    | nil => rfl
    | cons y l ih => simp [sumP] at ih ⊢
  unfold allL
  rw [List.length_cons, h1]
  have := h.2
  omega
end Go.Proofs.Ytngepgnmlpinaaa

