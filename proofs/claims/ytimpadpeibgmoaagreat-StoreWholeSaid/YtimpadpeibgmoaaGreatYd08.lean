/- A part of the proof (Mn18, BaseTake, Mn19), joined by squeeze2.py. -/
import Derived.Test.YtimpadpeibgmoaaGreatYd07
import Derived.Test.YtimpadpeibgmoaaGreatYd04
set_option maxHeartbeats 8000000
set_option maxRecDepth 100000
namespace Go.Proofs.YtimpadpeibgmoaaGreat
open Go.RowKit Go.Emb
theorem step_append_row {P : Program} (w : World) {ops : Array Oper} {o : Oper} {a : Act} {K : Act → World → Prop} {Q : Exit → Act → World → Prop} {X : Prop} (hw : Region.wanted o (yielded ops a.tmps) = true) (s x : Operand) (T tx : TypeId) (ho : o.op = .call { callee := .builtin .append, args := #[s, x], argTypes := #[T, tx] })
  (E : TypeId) (i : TypeInfo) (z : Value) (k bytes : Nat) (ht : P.underlying T = some (.slice E)) (hi : P.info? E = some i) (hz : i.zero = some z) (hik : i.size = k) (hib : i.bytes = bytes) (hzs : z.cells.size = k)
  (v : Value) (n : Nat) (xs : List Value) (r : Option Nat) (hs : a.eval s = v) (hown : Row w E k v n xs r) (xv : Value) (hx : a.eval x = xv) (m : Nat) (news : List Value) (hsrc : Src P k tx xv m news w) (hpos : 0 < m) (h63 : n + m ≤ maxLen) (hbytes : (n + m) * bytes ≤ 140737488355328)
  (h : ∀ g off cap w', Row w' E k (.slice (some ⟨g, off, none⟩) (n + m) cap) (n + m) (xs ++ news) (some g) → Keep r.toList w w' → (r = some g ∨ w.heap.size ≤ g) → K (a.put o.dst (.slice (some ⟨g, off, none⟩) (n + m) cap)) w') :
  if Region.wanted o (yielded ops a.tmps) = true then Oper.wp P o a w K Q else X := by
 rw [if_pos hw]
 obtain ⟨g, off, cap, w', hr, h2, h3, h4⟩ := run_append_row (P := P) (w := w) (ty := o.type) ht hi hz hik hib hzs hown hsrc hpos h63 hbytes
 unfold Oper.wp execOp
 simp only [ho, resolve, invoke, builtin, Sem.run_bind, Sem.run_pure, Result.andThen_ok, List.map_toArray, List.map_cons, List.map_nil, hs, hx, hr]
 exact h g off cap w' h2 h3 h4
theorem src_blk {P : Program} {w : World} {T e : TypeId} {k b : Nat} {xs : List Value} {t : TypeId} (hk : P.underlying T = some (.slice e)) (hb : w.heap[b]? = some (.cells xs.toArray t)) (hl : xs.length = 1 * k) (h1 : ∀ u ∈ xs, u.oneCell' = true) : Src P k T (.slice (some ⟨b, 0, none⟩) 1 1) 1 xs w :=
 Src.ofSlice w hk ⟨b, 0, none⟩ 1 1 xs hl (fun j u hj => by
   have hadd : (⟨b, 0, none⟩ : Addr).add j = ⟨b, j, none⟩ := by unfold Addr.add; split <;> simp_all
   rw [hadd]
   simp [World.cell?, hb]
   exact hj) h1
theorem blk_keep {F : List Nat} {w w' : World} {b : Nat} {C : Obj} (hb : w.heap[b]? = some C) (hk : Keep F w w') (hn : b ∉ F) : w'.heap[b]? = some C :=
 (hk.block b (Array.getElem?_eq_some_iff.1 hb).1 hn).trans hb
theorem ext_size : (Tryz.prog.info? 34).map (·.size) = some 2 := by kernel_rfl
theorem p_extents {w : World} {q rb : Nat} {bs : List UInt8} {v : Value} {bo : Option Nat} {st : Option (List UInt8)} (h : TSt 187 w q bs v bo st) (hrb : w.heap[rb]? = some (.cells #[.pointer (some ⟨q, 0, none⟩)] 159)) (hne : rb ≠ q) (hbo : ∀ b, bo = some b → b < w.heap.size) :
  Calls Tryz.prog 99 #[.pointer (some ⟨rb, 0, none⟩)] w fun e w' => e = .returned (.agg #[.int .i64 (oExt st).1.1, .int .i64 (oExt st).1.2]) ∧ TSt 187 w' q bs v bo (oExt st).2 ∧ Keep [q] w w' := by
 have hqlt : q < w.heap.size := by
  obtain ⟨pos, fa, sp, ht, -⟩ := h
  exact (Array.getElem?_eq_some_iff.1 ht.blk).1
 have hint : ∀ W (s : Option (List UInt8)), TSt 187 W q bs v bo s → Calls Tryz.prog 100 #[.pointer (some ⟨q, 0, none⟩)] W fun e w' => e = .returned (.int .i64 (oInt s).1) ∧ TSt 187 w' q bs v bo (oInt s).2 ∧ Keep [q] W w' := fun W s hs => p_tint hs
 have HI := hyd hint
 have H := hyd h
 have HB := hyd hrb
 have HN := hyd hne
 have HBO := hyd hbo
 clear hint h hrb hne hbo
 unfold oExt
 go_enter Tryz.func99, Tryz.ntmps99
 go_wp2_with fail
 have HK0 := hyd ((Keep.refl [] w).alloc (.cells #[.int .i64 0, .int .i64 0] 34))
 have HX0 := hyd (heap_new w (.cells #[.int .i64 0, .int .i64 0] 34))
 generalize w.alloc (.cells #[.int .i64 0, .int .i64 0] 34) = w1 at *
 have HB1 : Hid (w1.drew.heap[rb]? = some (.cells #[.pointer (some ⟨q, 0, none⟩)] 159)) := hyd (blk_keep HB.o HK0.o.drew (by simp))
 refine wp_region_held_drew (S := fun w' => w'.heap[rb]? = some (.cells #[.pointer (some ⟨q, 0, none⟩)] 159)) (by kernel_rfl) HB1.o (fun hHeld => ?_)
 refine tkL 0 ?vA0 rfl ?runA0 hHeld ?_
 case runA0 => (intro w9 hS9; obtain c0 := (show w9.cell? ⟨rb, 0, none⟩ = some (.pointer (some ⟨q, 0, none⟩)) from by simp [World.cell?, hS9]); go_simp; try exact rfl)
 try simp only [Act.put, lA, lZ, lS]
 refine tkL 2 ?vA2 rfl ?runA2 hHeld ?_
 case runA2 => (intro w9 hS9; obtain c0 := (show w9.cell? ⟨rb, 0, none⟩ = some (.pointer (some ⟨q, 0, none⟩)) from by simp [World.cell?, hS9]); go_simp; try exact rfl)
 try simp only [Act.put, lA, lZ, lS]
 have HT1 := hyd ((H.o.keep0 HK0.o).keep0 ((Keep.refl [] w1).drew))
 clear H
 refine rdH 1 rfl (fun K hK => ?_)
 go_simp
 refine (HI.o _ _ HT1.o).mono ?_
 rintro e w2 ⟨rfl, ht2, hk2⟩
 have HT2 := hyd ht2
 have HK2 := hyd hk2
 have HB2 : Hid (w2.heap[rb]? = some (.cells #[.pointer (some ⟨q, 0, none⟩)] 159)) := hyd (blk_keep HB1.o hk2 (by simpa using HN.o))
 clear ht2 hk2
 go_wp2_with fail
 refine hK.out _ _ HB2.o (fun hHeld2 => ?_)
 clear hK K hHeld; have hHeld := hHeld2; clear hHeld2
 try simp only [Act.put, lA, lZ, lS]
 refine rdH 3 rfl (fun K hK => ?_)
 go_simp
 refine (HI.o _ _ HT2.o).mono ?_
 rintro e w3 ⟨rfl, ht3, hk3⟩
 have HT3 := hyd ht3
 have HK3 := hyd hk3
 have HB3 : Hid (w3.heap[rb]? = some (.cells #[.pointer (some ⟨q, 0, none⟩)] 159)) := hyd (blk_keep HB2.o hk3 (by simpa using HN.o))
 clear ht3 hk3
 go_wp2_with fail
 refine hK.out _ _ HB3.o (fun hHeld2 => ?_)
 clear hK K hHeld; have hHeld := hHeld2; clear hHeld2
 try simp only [Act.put, lA, lZ, lS]
 refine tkL 4 ?vA4 rfl ?runA4 hHeld ?_
 case runA4 => (intro w9 hS9; obtain c0 := (show w9.cell? ⟨rb, 0, none⟩ = some (.pointer (some ⟨q, 0, none⟩)) from by simp [World.cell?, hS9]); go_simp; try exact rfl)
 try simp only [Act.put, lA, lZ, lS]
 have HX3 : Hid (w3.heap[w.heap.size]? = some (.cells #[.int .i64 0, .int .i64 0] 34)) := hyd (blk_keep (blk_keep (blk_keep HX0.o ((Keep.refl [] w1).drew) (by simp)) HK2.o (by simp; omega)) HK3.o (by simp; omega))
 refine rdH 5 rfl (fun K hK => ?_)
 have c0 : w3.cell? ⟨w.heap.size, 0, none⟩ = some (.int .i64 0) := by simp [World.cell?, HX3.o]
 have c1 : w3.cell? ⟨w.heap.size, 1, none⟩ = some (.int .i64 0) := by simp [World.cell?, HX3.o]
 have f0 : w3.frozen? ⟨w.heap.size, 0, none⟩ = false := by simp [World.frozen?, HX3.o]
 have f1 : w3.frozen? ⟨w.heap.size, 1, none⟩ = false := by simp [World.frozen?, HX3.o]
 go_simp
 have hrlt : rb < w.heap.size := (Array.getElem?_eq_some_iff.1 HB.o).1
 have hk4 : Keep [w.heap.size] w3 ((w3.setCell ⟨w.heap.size, 0, none⟩ (.int .i64 (oInt st).1)).setCell ⟨w.heap.size, 1, none⟩ (.int .i64 (oInt (oInt st).2).1)) := ((Keep.refl _ w3).setCell (.inl (by simp)) _).setCell (.inl (by simp)) _
 have hx4 : ((w3.setCell ⟨w.heap.size, 0, none⟩ (.int .i64 (oInt st).1)).setCell ⟨w.heap.size, 1, none⟩ (.int .i64 (oInt (oInt st).2).1)).heap[w.heap.size]? = some (.cells #[.int .i64 (oInt st).1, .int .i64 (oInt (oInt st).2).1] 34) := by simpa using heap_setCell_at (i := 1) (heap_setCell_at (i := 0) HX3.o (.int .i64 (oInt st).1)) (.int .i64 (oInt (oInt st).2).1)
 have HK4 := hyd hk4
 have HB4 := hyd (blk_keep HB3.o hk4 (show rb ∉ [w.heap.size] from by simp; omega))
 generalize (w3.setCell ⟨w.heap.size, 0, none⟩ (.int .i64 (oInt st).1)).setCell ⟨w.heap.size, 1, none⟩ (.int .i64 (oInt (oInt st).2).1) = w4 at *
 have HX4 := hyd hx4
 refine hK.out _ _ HB4.o (fun hHeld2 => ?_)
 clear hK K hHeld hk4 c0 c1 f0 f1 hx4
 try simp only [Act.put, lA, lZ, lS]
 refine wpAnyH_done (by kernel_rfl) ?_ _
 clear hHeld2
 go_wp2_with fail
 refine bodyPost_ret (results_cell_row (ty := 34) rfl _ w4 w.heap.size _ _ _ _ rfl HX4.o Tryz.underlying34 rfl ext_size) rfl ?_
 exact ⟨rfl, HT3.o.keep HK4.o (by simp; omega) (fun b hb hm => by simp at hm; have := (HBO.o b hb); omega), ((((HK0.o.drew).mono (fun b hb => by cases hb)).trans HK2.o (fun _ h => .inl h)).trans HK3.o (fun _ h => .inl h)).trans HK4.o (fun b hb => by simp at hb; exact .inr (by omega))⟩
end Go.Proofs.YtimpadpeibgmoaaGreat

namespace Go.Emb
open Go.RowKit
section
variable {P : Program} {ops : Array Oper} {Q : Exit → Act → World → Prop} {md : Region.Mode} {S : World → Prop} {Bs : List Nat}
def wpAnyB (P : Program) (md : Region.Mode) (ops : Array Oper) (Q : Exit → Act → World → Prop) (Bs : List Nat) (S : World → Prop) : Nat → Array Bool → Act → World → Prop
 | 0, listed, a, w => Region.ready md ops listed = [] ∧ Q .normal a w
 | fuel + 1, listed, a, w =>
  (Region.ready md ops listed = [] → Q .normal a w) ∧
  ∀ i ∈ Region.ready md ops listed, wpOp P ops Q i (fun a' w' => (Bs.contains i = true → S w') ∧ wpAnyB P md ops Q Bs S fuel (listed.setIfInBounds i true) a' w') a w
theorem wpAny_of_B : ∀ (fuel : Nat) (listed : Array Bool) (a : Act) (w : World), wpAnyB P md ops Q Bs S fuel listed a w → wpAny P md ops Q fuel listed a w
 | 0, _, _, _, h => h
 | fuel + 1, _, _, _, h => ⟨h.1, fun i hi => wpOp_mono (fun a' w' h' => wpAny_of_B fuel _ a' w' h'.2) (h.2 i hi)⟩
theorem wpAnyB_first {i : Nat} {oi : Oper} {v : Value} {T : World → Prop} {As : List Nat} (hi : ops[i]? = some oi) (hsel : ∀ (j : Nat) (o : Oper) cs b, ops[j]? = some o → o.op ≠ .select cs b)
  (hQ : ∀ c a w, Q (.panic c) (a.put oi.dst v) w → Q (.panic c) a w) (hT : ∀ j ∈ As, ∀ w, (Bs.contains j = true → S w) → T w) (hST : ∀ w, T w → Bs.contains i = true → S w) :
  ∀ (fuel : Nat) (listed : Array Bool) (a : Act) (w : World),
   (∀ j oj, ops[j]? = some oj → j ≠ i → listed.getD j true = false → (∀ e ∈ oj.after, Region.binds md e = true → e.on ≠ i) → oi.apart ops oj = true) →
   (∀ j oj, ops[j]? = some oj → j ≠ i → listed.getD j true = false → j ∉ As → ∃ e ∈ oj.after, Region.binds md e = true ∧ (e.on = i ∨ (listed.getD e.on true = false ∧ e.on ∉ As))) →
   i ∈ Region.ready md ops listed → YieldsIf P ops T oi v a → T w →
   wpAnyB P md ops Q Bs S fuel (listed.setIfInBounds i true) (a.put oi.dst v) w → wpAnyB P md ops Q Bs S (fuel + 1) listed a w := by
 intro fuel
 induction fuel with
 | zero =>
  intro listed a w _ hb hr hy hS H
  refine ⟨fun h => (by rw [h] at hr; cases hr), fun j hj => ?_⟩
  by_cases hji : j = i
  ·subst hji; exact hy.wpOp hi hS ⟨hST w hS, H⟩
  ·have := ready_mono hj hji
   rw [H.1] at this
   cases this
 | succ fuel ih =>
  intro listed a w hfree hb hr hy hS H
  refine ⟨fun h => (by rw [h] at hr; cases hr), fun j hj => ?_⟩
  by_cases hji : j = i
  ·subst hji; exact hy.wpOp hi hS ⟨hST w hS, H⟩
  ·have h1 := H.2 j (ready_mono hj hji)
   obtain ⟨hjun, oj, hoj, hall⟩ := mem_ready.1 hj
   have hnot : ∀ e ∈ oj.after, Region.binds md e = true → e.on ≠ i := fun e he hbn heq => by
    have h1 := hall e he hbn
    have h0 := (mem_ready.1 hr).1
    rw [heq] at h1
    rcases Nat.lt_or_ge i listed.size with h' | h'
    ·rw [getD_lt h'] at h0 h1; rw [h0] at h1; cases h1
    ·rw [getD_ge h'] at h1; cases h1
   have hjA : j ∈ As := by
    refine Classical.byContradiction fun hn => ?_
    obtain ⟨e, he, hbn, h3⟩ := hb j oj hoj hji hjun hn
    rcases h3 with h3 | ⟨h3, -⟩
    ·exact hnot e he hbn h3
    ·have h4 := hall e he hbn
     rcases Nat.lt_or_ge e.on listed.size with h' | h'
     ·rw [getD_lt h'] at h3 h4; rw [h3] at h4; cases h4
     ·rw [getD_ge h'] at h4; cases h4
   have h2 := wpOp_putIf hoj (hfree j oj hoj hji hjun hnot) (fun cs b => hsel i oi cs b hi) (fun cs b => hsel j oj cs b hoj) hQ hy h1
   have hfree' : ∀ k ok, ops[k]? = some ok → k ≠ i → (listed.setIfInBounds j true).getD k true = false →
     (∀ e ∈ ok.after, Region.binds md e = true → e.on ≠ i) → oi.apart ops ok = true := fun k ok hk hki hun hno => by
    refine hfree k ok hk hki ?_ hno
    by_cases hjk : j = k
    ·subst hjk; exact hjun
    ·rw [getD_set_ne true hjk] at hun; exact hun
   have hb' : ∀ k ok, ops[k]? = some ok → k ≠ i → (listed.setIfInBounds j true).getD k true = false → k ∉ As → ∃ e ∈ ok.after, Region.binds md e = true ∧ (e.on = i ∨ ((listed.setIfInBounds j true).getD e.on true = false ∧ e.on ∉ As)) := fun k ok hk hki hun hn => by
    have hun0 : listed.getD k true = false := by
     by_cases hjk : j = k
     ·subst hjk; exact hjun
     ·rw [getD_set_ne true hjk] at hun; exact hun
    obtain ⟨e, he, hbn, h3⟩ := hb k ok hk hki hun0 hn
    refine ⟨e, he, hbn, h3.imp id (fun h4 => ⟨?_, h4.2⟩)⟩
    have hje : j ≠ e.on := fun h5 => h4.2 (h5 ▸ hjA)
    rw [getD_set_ne true hje]
    exact h4.1
   refine wpOp_mono (fun a' w' h3 => ⟨h3.2.1, ih (listed.setIfInBounds j true) a' w' hfree' hb' (ready_mono hr (Ne.symm hji)) h3.1 (hT j hjA w' h3.2.1) ?_⟩) h2
   rw [Array.setIfInBounds_comm _ _ hji]
   exact h3.2.2
def blocked (md : Region.Mode) (l : List Oper) (L : Array Bool) (As : List Nat) (i : Nat) : Bool :=
 (List.range l.length).all fun j => j == i || L.getD j true || As.contains j || (match l[j]? with
   | some o => (depsOf md o).any fun k => k == i || (!L.getD k true && !As.contains k)
   | none => true)
theorem blocked_spec {l : List Oper} {L : Array Bool} {As : List Nat} {i : Nat} (h : blocked md l L As i = true) (j : Nat) (oj : Oper) (hj : l.toArray[j]? = some oj) (hne : j ≠ i) (hun : L.getD j true = false) (hA : j ∉ As) :
  ∃ e ∈ oj.after, Region.binds md e = true ∧ (e.on = i ∨ (L.getD e.on true = false ∧ e.on ∉ As)) := by
 have hj' : l[j]? = some oj := by simpa using hj
 have hlt : j < l.length := by
  rcases Nat.lt_or_ge j l.length with h | h
  ·exact h
  ·rw [List.getElem?_eq_none h] at hj'; cases hj'
 have h1 := List.all_eq_true.1 h j (List.mem_range.2 hlt)
 rw [hj'] at h1
 have hc : As.contains j = false := by rw [Bool.eq_false_iff]; intro hc; exact hA (by simpa using hc)
 simp only [Bool.or_eq_true, beq_iff_eq, hne, hun, hc, Bool.false_eq_true, false_or] at h1
 obtain ⟨k, hk, h2⟩ := List.any_eq_true.1 h1
 obtain ⟨e, he, rfl⟩ := List.mem_map.1 hk
 obtain ⟨he1, he2⟩ := List.mem_filter.1 he
 refine ⟨e, by simpa using he1, he2, ?_⟩
 simp only [Bool.or_eq_true, beq_iff_eq, Bool.and_eq_true, Bool.not_eq_true'] at h2
 exact h2.imp id (fun h3 => ⟨h3.1, fun hm => by have := h3.2; simp at this; exact this hm⟩)
theorem wpAnyB_take {l : List Oper} (As : List Nat) {i : Nat} {oi : Oper} {v : Value} {fuel : Nat} {listed : Array Bool} {a : Act} {w : World} (hi : l[i]? = some oi)
  (hs : Region.noSelect l.toArray = true) (hf : Region.free md l.toArray listed i = true) (hr : (Region.ready md l.toArray listed).contains i = true) (hA : (As.all fun j => Bs.contains j) = true) (hb : blocked md l listed As i = true)
  (hQ : ∀ c a w, Q (.panic c) (a.put oi.dst v) w → Q (.panic c) a w) (hy : YieldsIf P l.toArray S oi v a) (hS : S w)
  (h : wpAnyB P md l.toArray Q Bs S fuel (listed.setIfInBounds i true) (a.put oi.dst v) w) : wpAnyB P md l.toArray Q Bs S (fuel + 1) listed a w := by
 have hi' : l.toArray[i]? = some oi := by simpa using hi
 exact wpAnyB_first (T := S) (As := As) hi' (Region.noSelect_spec hs) hQ (fun j hj w hw => hw (List.all_eq_true.1 hA j hj)) (fun w hw _ => hw) fuel listed a w (Region.free_spec hi' hf) (blocked_spec hb) (by simpa using hr) hy hS h
theorem wpAnyB_takeY {l : List Oper} {i : Nat} {oi : Oper} {v : Value} {fuel : Nat} {listed : Array Bool} {a : Act} {w : World} (hi : l[i]? = some oi)
  (hs : Region.noSelect l.toArray = true) (hf : Region.free md l.toArray listed i = true) (hr : (Region.ready md l.toArray listed).contains i = true) (hB : Bs.contains i = false)
  (hQ : ∀ c a w, Q (.panic c) (a.put oi.dst v) w → Q (.panic c) a w) (hy : YieldsIf P l.toArray (fun _ => True) oi v a)
  (h : wpAnyB P md l.toArray Q Bs S fuel (listed.setIfInBounds i true) (a.put oi.dst v) w) : wpAnyB P md l.toArray Q Bs S (fuel + 1) listed a w := by
 have hi' : l.toArray[i]? = some oi := by simpa using hi
 refine wpAnyB_first (T := fun _ => True) (As := List.range l.length) hi' (Region.noSelect_spec hs) hQ (fun j hj w hw => trivial) (fun w hw h => by rw [hB] at h; cases h) fuel listed a w (Region.free_spec hi' hf) (fun j oj hj hne hun hA => ?_) (by simpa using hr) hy trivial h
 exfalso
 have hj' : l[j]? = some oj := by simpa using hj
 rcases Nat.lt_or_ge j l.length with h | h
 ·exact hA (List.mem_range.2 h)
 ·rw [List.getElem?_eq_none h] at hj'; cases hj'
def AllReadyB (P : Program) (md : Region.Mode) (ops : Array Oper) (Q : Exit → Act → World → Prop) (Bs : List Nat) (S : World → Prop) (fuel : Nat) (listed : Array Bool) (a : Act) (w : World) (rs : List Nat) : Prop :=
 ∀ i ∈ rs, wpOp P ops Q i (fun a' w' => (Bs.contains i = true → S w') ∧ wpAnyB P md ops Q Bs S fuel (listed.setIfInBounds i true) a' w') a w
theorem AllReadyB.nil {fuel : Nat} {listed : Array Bool} {a : Act} {w : World} : AllReadyB P md ops Q Bs S fuel listed a w [] := fun _ h => by cases h
theorem AllReadyB.cons {l : List Oper} {fuel : Nat} {listed : Array Bool} {a : Act} {w : World} {i : Nat} {o : Oper} {rs : List Nat} (ho : l[i]? = some o)
  (h : ∀ K' : Act → World → Prop, Shut (∀ a w, (Bs.contains i = true → S w) → wpAnyB P md l.toArray Q Bs S fuel (listed.setIfInBounds i true) a w → K' a w) → if Region.wanted o (yielded l.toArray a.tmps) = true then Oper.wp P o a w K' Q else K' (a.put o.dst undef) w)
  (hs : AllReadyB P md l.toArray Q Bs S fuel listed a w rs) : AllReadyB P md l.toArray Q Bs S fuel listed a w (i :: rs) := fun j hj => by
 rcases List.mem_cons.1 hj with rfl | hj
 ·exact wpOp_step (by simpa using ho) (fun K' hK => h K' (fun a w hS hW => hK a w ⟨hS, hW⟩))
 ·exact hs j hj
theorem wpAnyB_ready {rs : List Nat} {fuel : Nat} {listed : Array Bool} {a : Act} {w : World} (hr : Region.ready md ops listed = rs) (hne : rs ≠ [])
  (h : AllReadyB P md ops Q Bs S fuel listed a w rs) : wpAnyB P md ops Q Bs S (fuel + 1) listed a w := ⟨fun h0 => absurd (hr ▸ h0) hne, hr ▸ h⟩
theorem wpAnyB_done {listed : Array Bool} {a : Act} {w : World} (hr : Region.ready md ops listed = []) (h : Q .normal a w) : ∀ fuel, wpAnyB P md ops Q Bs S fuel listed a w
 | 0 => ⟨hr, h⟩
 | _ + 1 => ⟨fun _ => h, by rw [hr]; simp⟩
theorem wp_regionB (Bs : List Nat) (S : World → Prop) {id : Nat} {a : Act} {w : World} (hm : P.follows .mixedOrders = true)
  (h : wpAnyB P .any ops Q Bs S ops.size (Array.replicate ops.size false) a w.drew) : (Code.region id ops true).wp P Q a w := wp_region_any hm (wpAny_of_B _ _ _ _ h)
end
open Go.RowKit
section
variable {P : Program} {l : List Oper} {Q : Exit → Act → World → Prop} {md : Region.Mode} {Bs : List Nat} {S : World → Prop} {oi : Oper} {fuel : Nat} {listed : Array Bool} {a : Act} {w : World}
theorem tkY (i : Nat) (v : Value) (hi : l[i]? = some oi) (hy : ∀ w, True → (execOp a.eval oi).run P w = .ok (.value v) w)
  (h : wpAnyB P md l.toArray Q Bs S fuel (listed.setIfInBounds i true) (a.put oi.dst v) w) (hs : Region.noSelect l.toArray = true := by kernel_rfl) (hf : Region.free md l.toArray listed i = true := by kernel_rfl) (hr : (Region.ready md l.toArray listed).contains i = true := by kernel_rfl)
  (hB : Bs.contains i = false := by kernel_rfl) (hw : Region.wanted oi (yielded l.toArray a.tmps) = true := by kernel_rfl) (hQ : ∀ c a w, Q (.panic c) (a.put oi.dst v) w → Q (.panic c) a w := by exact fun _ _ _ h => h) : wpAnyB P md l.toArray Q Bs S (fuel + 1) listed a w :=
 wpAnyB_takeY hi hs hf hr hB hQ (.inl ⟨hw, hy⟩) h
theorem tkB (As : List Nat) (i : Nat) (v : Value) (hi : l[i]? = some oi) (hy : ∀ w, S w → (execOp a.eval oi).run P w = .ok (.value v) w) (hS : S w)
  (h : wpAnyB P md l.toArray Q Bs S fuel (listed.setIfInBounds i true) (a.put oi.dst v) w) (hs : Region.noSelect l.toArray = true := by kernel_rfl) (hf : Region.free md l.toArray listed i = true := by kernel_rfl) (hr : (Region.ready md l.toArray listed).contains i = true := by kernel_rfl)
  (hA : (As.all fun j => Bs.contains j) = true := by kernel_rfl) (hb : blocked md l listed As i = true := by kernel_rfl) (hw : Region.wanted oi (yielded l.toArray a.tmps) = true := by kernel_rfl) (hQ : ∀ c a w, Q (.panic c) (a.put oi.dst v) w → Q (.panic c) a w := by exact fun _ _ _ h => h) : wpAnyB P md l.toArray Q Bs S (fuel + 1) listed a w :=
 wpAnyB_take As hi hs hf hr hA hb hQ (.inl ⟨hw, hy⟩) hS h
theorem rdB (i : Nat) {o : Oper} (ho : l[i]? = some o)
  (h : ∀ K' : Act → World → Prop, Shut (∀ a w, (Bs.contains i = true → S w) → wpAnyB P md l.toArray Q Bs S fuel (listed.setIfInBounds i true) a w → K' a w) → if Region.wanted o (yielded l.toArray a.tmps) = true then Oper.wp P o a w K' Q else K' (a.put o.dst undef) w)
  (hr : Region.ready md l.toArray listed = [i] := by kernel_rfl) : wpAnyB P md l.toArray Q Bs S (fuel + 1) listed a w :=
 wpAnyB_ready hr (by simp) (AllReadyB.cons ho h AllReadyB.nil)
end
end Go.Emb

namespace Go.Proofs.YtimpadpeibgmoaaGreat
open Go.RowKit Go.Emb
structure GI (w0 : World) (av : List Nat) (w : World) (q rb eb tb : Nat) (bs : List UInt8) (v : Value) (bo : Option Nat) (st : Option (List UInt8)) : Prop where
 tape : TSt 187 w q bs v bo st
 hrb : w.heap[rb]? = some (.cells #[.pointer (some ⟨q, 0, none⟩)] 159)
 heb : w.heap[eb]? = some (.cells #[.func (.func 99) #[] #[.pointer (some ⟨rb, 0, none⟩)]] 73)
 htb : w.heap[tb]? = some (.cells #[.func (.func 96) #[] #[.pointer (some ⟨rb, 0, none⟩)]] 164)
 hav : av = [q, rb, eb, tb] ++ bo.toList
 nq : rb ≠ q ∧ eb ≠ q ∧ tb ≠ q ∧ bo ≠ some q
 qB : w0.heap.size ≤ q
 lt : ∀ b ∈ av, b < w.heap.size
 keep : Keep [] w0 w
theorem GI.turn {w0 w w' : World} {av : List Nat} {q rb eb tb : Nat} {bs : List UInt8} {v : Value} {bo : Option Nat} {st st' : Option (List UInt8)} (h : GI w0 av w q rb eb tb bs v bo st) (hk : Keep [q] w w') (ht : TSt 187 w' q bs v bo st') : GI w0 av w' q rb eb tb bs v bo st' :=
 ⟨ht, blk_keep h.hrb hk (by simpa using h.nq.1), blk_keep h.heb hk (by simpa using h.nq.2.1), blk_keep h.htb hk (by simpa using h.nq.2.2.1), h.hav, h.nq, h.qB, fun b hb => Nat.lt_of_lt_of_le (h.lt b hb) hk.size, h.keep.trans hk (fun b hb => by simp at hb; subst hb; exact .inr h.qB)⟩
theorem GI.next {w0 w w' : World} {av : List Nat} {q rb eb tb : Nat} {bs : List UInt8} {v : Value} {bo : Option Nat} {st : Option (List UInt8)} {F : List Nat} (h : GI w0 av w q rb eb tb bs v bo st) (hk : Keep F w w') (hF : ∀ b ∈ F, b ∉ av ∧ w0.heap.size ≤ b) : GI w0 av w' q rb eb tb bs v bo st :=
 ⟨h.tape.keep hk (fun hm => (hF _ hm).1 (by rw [h.hav]; simp)) (fun b hb hm => (hF _ hm).1 (by rw [h.hav, hb]; simp)), blk_keep h.hrb hk (fun hm => (hF _ hm).1 (by rw [h.hav]; simp)), blk_keep h.heb hk (fun hm => (hF _ hm).1 (by rw [h.hav]; simp)), blk_keep h.htb hk (fun hm => (hF _ hm).1 (by rw [h.hav]; simp)), h.hav, h.nq, h.qB, fun b hb => Nat.lt_of_lt_of_le (h.lt b hb) hk.size, h.keep.trans hk (fun b hb => .inr (hF b hb).2)⟩
theorem GI.bolt {w0 w : World} {av : List Nat} {q rb eb tb : Nat} {bs : List UInt8} {v : Value} {bo : Option Nat} {st : Option (List UInt8)} (h : GI w0 av w q rb eb tb bs v bo st) : ∀ b, bo = some b → b < w.heap.size := fun b hb => h.lt b (by rw [h.hav, hb]; simp)
theorem GI.qav {w0 w : World} {av : List Nat} {q rb eb tb : Nat} {bs : List UInt8} {v : Value} {bo : Option Nat} {st : Option (List UInt8)} (h : GI w0 av w q rb eb tb bs v bo st) : q ∈ av := by rw [h.hav]; simp
theorem exti_info : (Tryz.prog.info? 34).map (fun i => (i.zero, i.size, i.bytes)) = some (some (.agg #[.int .i64 0, .int .i64 0]), 2, 16) := by kernel_rfl
theorem plc_info : (Tryz.prog.info? 48).map (fun i => (i.zero, i.size, i.bytes)) = some (some (.agg #[.int .i64 0, .int .i64 0, .slice none 0 0]), 3, 40) := by kernel_rfl
theorem encX_one (x : Int × Int) : ∀ u ∈ encX x, u.oneCell' = true := by intro u hu; simp [encX] at hu; rcases hu with rfl | rfl <;> rfl
theorem piece_laid {w0 w w3 w4 w5 w6 : World} {av : List Nat} {q rb eb tb pb mb : Nat} {bs : List UInt8} {v : Value} {bo : Option Nat} {st st' : Option (List UInt8)} {xo ro po : Option Nat} {p : Plc} {xv xv' : Value} {x : MnV} {y : Int × Int} {g : Nat}
  (hG : GI w0 av w q rb eb tb bs v bo st) (hP : PSep av w0.heap.size w pb xo p xv) (hM : MSep (pb :: (xo.toList ++ av)) w0.heap.size w mb ro po x)
  (ht : TSt 187 w3 q bs v bo st') (h3 : Keep [q] w w3) (h4 : Keep [] w3 w4) (h5 : Keep xo.toList w4 w5) (hg : xo = some g ∨ w4.heap.size ≤ g) (hrow : Row w5 34 2 xv' (p.pieces ++ [y]).length ((p.pieces ++ [y]).flatMap encX) (some g))
  (h6 : Keep [pb] w5 w6) (hb : w6.heap[pb]? = some (.cells #[.int .i64 p.pid, .int .i64 p.len, xv'] 48)) :
  GI w0 av w6 q rb eb tb bs v bo st' ∧ ∃ xo' xv', PSep av w0.heap.size w6 pb xo' { p with pieces := p.pieces ++ [y] } xv' ∧ MSep (pb :: (xo'.toList ++ av)) w0.heap.size w6 mb ro po x := by
 have hG3 := hG.turn h3 ht
 have hqx : ∀ b, xo = some b → b ∉ av ∧ w0.heap.size ≤ b := fun b hb => ⟨(hP.xon b hb).2.1, (hP.xon b hb).1⟩
 have hP4 : PSep av w0.heap.size w4 pb xo p xv := (hP.keep h3 (fun b hb => .inl (by simp at hb; rw [hb]; exact hG.qav))).keep h4 (fun b hb => by cases hb)
 have hM4 : MSep (pb :: (xo.toList ++ av)) w0.heap.size w4 mb ro po x := (hM.keep h3 (fun b hb => .inl (by simp at hb; rw [hb]; simp [hG.qav]))).keep h4 (fun b hb => by cases hb)
 have hG4 := hG3.next h4 (fun b hb => by cases hb)
 have hM4' := hM4.turn (bv := g :: pb :: (xo.toList ++ av)) (fun b hb => by
   rcases List.mem_cons.1 hb with rfl | hb
   · rcases hg with h | h
     · exact .inl (by simp [h])
     · exact .inr h
   · exact .inl hb)
 have hM6 := (hM4'.keep h5 (fun b hb => .inl (by simp at hb; simp [hb]))).keep h6 (fun b hb => .inl (by simp at hb; simp [hb]))
 refine ⟨(hG4.next h5 (fun b hb => by simp at hb; exact hqx b hb)).next h6 (fun b hb => by simp at hb; subst hb; exact ⟨hP.pbn, hP.pbB⟩), some g, xv', ?_, hM6.turn (fun b hb => .inl ?_)⟩
 ·exact hP4.more hG4.keep.size hrow (hg.imp (fun h => h.symm) (fun h b hb => by cases hb; exact h)) hG4.lt h6 hb
 ·simp at hb ⊢
  rcases hb with h | h | h
  ·simp [h]
  ·simp [h]
  ·simp [h]
theorem p_piece {w0 w : World} {av : List Nat} {q rb eb tb pb mb : Nat} {bs : List UInt8} {v : Value} {bo : Option Nat} {l : List UInt8} {xo ro po : Option Nat} {p : Plc} {xv : Value} {x : MnV}
  (hG : GI w0 av w q rb eb tb bs v bo (some l)) (hP : PSep av w0.heap.size w pb xo p xv) (hM : MSep (pb :: (xo.toList ++ av)) w0.heap.size w mb ro po x) (hsz : p.pieces.length ≤ 1000000000) :
  Calls Tryz.prog 103 #[.pointer (some ⟨pb, 0, none⟩), .pointer (some ⟨eb, 0, none⟩)] w fun e w' => e = .returned (.tuple #[]) ∧ GI w0 av w' q rb eb tb bs v bo (gExt l).2 ∧ ∃ xo' xv', PSep av w0.heap.size w' pb xo' { p with pieces := p.pieces ++ [(gExt l).1] } xv' ∧ MSep (pb :: (xo'.toList ++ av)) w0.heap.size w' mb ro po x := by
 obtain ⟨i0, hi, hz0, hz1, hz2⟩ := info_parts exti_info
 have eg : ∀ args w, (callFunc 99 args).run Tryz.prog w = .ok (.enter 99 args) w := enters_of Tryz.func99 (by kernel_rfl) rfl
 have hex := p_extents (hG.tape.keep0 ((Keep.refl [] w).drew)) hG.hrb hG.nq.1 hG.bolt
 have hpe : pb ≠ q ∧ eb ≠ q ∧ pb ≠ eb := ⟨fun h => hP.pbn (h ▸ hG.qav), hG.nq.2.1, fun h => hP.pbn (by rw [hG.hav, h]; simp)⟩
 have HEX := hyd hex
 have HI := hyd hi
 have HG := hyd hG
 have HP := hyd hP
 have HM := hyd hM
 have HN := hyd hpe
 obtain ⟨R, hR⟩ : ∃ R, R = gExt l := ⟨_, rfl⟩
 have hR2 : oExt (some l) = R := hR.symm
 rw [← hR]
 rw [hR2] at HEX
 have HSX : Hid (w.drew.heap[pb]? = some (.cells #[.int .i64 p.pid, .int .i64 p.len, xv] 48) ∧ w.drew.heap[eb]? = some (.cells #[.func (.func 99) #[] #[.pointer (some ⟨rb, 0, none⟩)]] 73)) := hyd ⟨hP.box, hG.heb⟩
 clear hex hi hG hP hM hpe hR hR2
 obtain ⟨⟨y1, y2⟩, st'⟩ := R
 simp only at HEX
 go_enter Tryz.func103, Tryz.ntmps103
 refine wp_regionB [1, 2, 3, 4] (fun w' => w'.heap[pb]? = some (.cells #[.int .i64 p.pid, .int .i64 p.len, xv] 48) ∧ w'.heap[eb]? = some (.cells #[.func (.func 99) #[] #[.pointer (some ⟨rb, 0, none⟩)]] 73)) (by kernel_rfl) ?_
 refine tkY 0 ?vA0 rfl ?runA0 ?_
 case runA0 => (intro w9 _; go_simp; try exact rfl)
 try simp only [Act.put, lA, lZ, lS]
 refine tkB [2, 3, 4] 1 ?vA1 rfl ?runA1 (HSX.o) ?_
 case runA1 => (intro w9 hS9; obtain ⟨c0, c1, c2, -⟩ := cells3 hS9.1; go_simp; try exact rfl)
 try simp only [Act.put, lA, lZ, lS]
 refine tkB [] 2 ?vA2 rfl ?runA2 (HSX.o) ?_
 case runA2 => (intro w9 hS9; obtain c0 := (show w9.cell? ⟨eb, 0, none⟩ = some (.func (.func 99) #[] #[.pointer (some ⟨rb, 0, none⟩)]) from by simp [World.cell?, hS9.2]); go_simp; try exact rfl)
 try simp only [Act.put, lA, lZ, lS]
 refine rdB 3 rfl (fun K hK => ?_)
 go_simp
 refine HEX.o.mono ?_
 rintro e w3 ⟨rfl, ht3, hk3⟩
 have HT3 := hyd ht3
 have HK3 := hyd hk3
 have HS3 := hyd (And.intro (blk_keep HSX.o.1 hk3 (by simpa using HN.o.1)) (blk_keep HSX.o.2 hk3 (by simpa using HN.o.2.1)))
 clear ht3 hk3
 go_wp2_with fail
 refine hK.out _ _ (fun h => HS3.o) ?_
 clear hK K
 try simp only [Act.put, lA, lZ, lS]
 refine rdB 4 rfl (fun K hK => ?_)
 go_simp
 have HS4 := hyd (And.intro (lit_alloc HS3.o.1 (.cells #[.int .i64 y1, .int .i64 y2] 34)) (lit_alloc HS3.o.2 (.cells #[.int .i64 y1, .int .i64 y2] 34)))
 have HK4 := hyd ((Keep.refl [] w3).alloc (.cells #[.int .i64 y1, .int .i64 y2] 34))
 have HB4 := hyd (heap_new w3 (.cells #[.int .i64 y1, .int .i64 y2] 34))
 generalize w3.alloc (.cells #[.int .i64 y1, .int .i64 y2] 34) = w4 at *
 refine hK.out _ _ (fun h => HS4.o) ?_
 clear hK K
 try simp only [Act.put, lA, lZ, lS]
 have HR4 : Hid (Row w4 34 2 xv p.pieces.length (p.pieces.flatMap encX) xo) := hyd ((HP.o.row.keep ((Keep.refl [] w).drew) (by simp)).keep HK3.o (fun b hb hm => (HP.o.xon b hb).2.1 (by simp at hm; rw [hm]; exact HG.o.qav)) |>.keep HK4.o (by simp))
 refine rdB 5 rfl (fun K hK => ?_)
 refine step_append_row _ (by kernel_rfl) _ _ 46 46 rfl 34 i0 (.agg #[.int .i64 0, .int .i64 0]) 2 16 Tryz.underlying46 HI.o hz0 hz1 hz2 rfl xv p.pieces.length _ xo rfl HR4.o _ rfl 1 [.int .i64 y1, .int .i64 y2] (src_blk (k := 2) Tryz.underlying46 HB4.o rfl (encX_one (y1, y2))) (by omega) (by unfold maxLen; omega) (by omega) ?_
 intro g off cap w5 hr5 hk5 hg5
 have hr6 : Row w5 34 2 (.slice (some ⟨g, off, none⟩) (p.pieces.length + 1) cap) (p.pieces ++ [((y1, y2) : Int × Int)]).length ((p.pieces ++ [((y1, y2) : Int × Int)]).flatMap encX) (some g) := by rw [List.flatMap_append, List.length_append]; exact hr5
 have hpx : ∀ b, xo = some b → b ≠ pb := fun b hb => (HP.o.xon b hb).2.2
 have HB5 := hyd (blk_keep HS4.o.1 hk5 (fun hm => by simp at hm; exact hpx _ hm rfl))
 have HR5 := hyd hr6
 have HK5 := hyd hk5
 have HG5 := hyd hg5
 clear hr5 hr6 hk5 hg5 hpx
 refine hK.out _ _ (fun h => (nomatch h)) ?_
 clear hK K
 try simp only [Act.put, lA, lZ, lS]
 refine tkY 6 ?vA6 rfl ?runA6 ?_
 case runA6 => (intro w9 _; go_simp; try exact rfl)
 try simp only [Act.put, lA, lZ, lS]
 refine rdB 7 rfl (fun K hK => ?_)
 obtain ⟨c0, c1, c2, f0⟩ := cells3 HB5.o
 have f2 : w5.frozen? ⟨pb, 2, none⟩ = false := by simp [World.frozen?, HB5.o]
 go_simp
 refine hK.out _ _ (fun h => (nomatch h)) ?_
 clear hK K
 try simp only [Act.put, lA, lZ, lS]
 refine wpAnyB_done (by kernel_rfl) ?_ _
 have hk6 : Keep [pb] w5 (w5.setCell ⟨pb, 2, none⟩ (.slice (some ⟨g, off, none⟩) (p.pieces.length + 1) cap)) := (Keep.refl _ w5).setCell (.inl (by simp)) _
 have hb6 := heap_setCell_at (i := 2) HB5.o (.slice (some ⟨g, off, none⟩) (p.pieces.length + 1) cap)
 try simp only [Exit.inBlock, Exit.then]
 refine bodyPost_end (results_none rfl _ _ _) rfl ?_
 exact ⟨rfl, piece_laid HG.o HP.o HM.o HT3.o (((Keep.refl [q] w).drew).trans HK3.o (fun _ h => .inl h)) HK4.o HK5.o HG5.o HR5.o hk6 (by simpa using hb6)⟩
end Go.Proofs.YtimpadpeibgmoaaGreat
