/- The program's closures: an extent. Printed by gen-mn18.py. -/
import Derived.Test.YtngepgnmlpinaaaMn17
namespace Go.Proofs.Ytngepgnmlpinaaa
open Go.RowKit Go.Emb

theorem step_append_row {P : Program} (w : World) {ops : Array Oper} {o : Oper} {a : Act} {K : Act → World → Prop} {Q : Exit → Act → World → Prop} {X : Prop} (hw : Region.wanted o (yielded ops a.tmps) = true) (s x : Operand) (T tx : TypeId) (ho : o.op = .call { callee := .builtin .append, args := #[s, x], argTypes := #[T, tx] })
    (E : TypeId) (i : TypeInfo) (z : Value) (k bytes : Nat) (ht : P.underlying T = some (.slice E)) (hi : P.info? E = some i) (hz : i.zero = some z) (hik : i.size = k) (hib : i.bytes = bytes) (hzs : z.cells.size = k)
    (v : Value) (n : Nat) (xs : List Value) (r : Option Nat) (hs : a.eval s = v) (hown : Row w E k v n xs r) (xv : Value) (hx : a.eval x = xv) (m : Nat) (news : List Value) (hsrc : Src P k tx xv m news w) (hpos : 0 < m) (h63 : n + m ≤ maxLen) (hbytes : (n + m) * bytes ≤ 140737488355328)
    (h : ∀ g off cap w', Row w' E k (.slice (some ⟨g, off, none⟩) (n + m) cap) (n + m) (xs ++ news) (some g) → Keep r.toList w w' → (r = some g ∨ w.heap.size ≤ g) → K (a.put o.dst (.slice (some ⟨g, off, none⟩) (n + m) cap)) w') :
    if Region.wanted o (yielded ops a.tmps) = true then Oper.wp P o a w K Q else X := by
  rw [if_pos hw]
  obtain ⟨g, off, cap, w', hr, h2, h3, h4⟩ := run_append_row (P := P) (w := w) (ty := o.type) ht hi hz hik hib hzs hown hsrc hpos h63 hbytes
  unfold Oper.wp execOp
  simp only [ho, resolve, invoke, builtin, Sem.run_bind, Sem.run_pure, Result.andThen_ok, List.map_toArray, List.map_cons, List.map_nil, hs, hx, hr]
  exact h g off cap w' h2 h3 h4
/-- a source of one element in a block of its own -/
theorem src_blk {P : Program} {w : World} {T e : TypeId} {k b : Nat} {xs : List Value} {t : TypeId} (hk : P.underlying T = some (.slice e)) (hb : w.heap[b]? = some (.cells xs.toArray t)) (hl : xs.length = 1 * k) (h1 : ∀ u ∈ xs, u.oneCell' = true) : Src P k T (.slice (some ⟨b, 0, none⟩) 1 1) 1 xs w :=
  Src.ofSlice w hk ⟨b, 0, none⟩ 1 1 xs hl (fun j u hj => by
    have hadd : (⟨b, 0, none⟩ : Addr).add j = ⟨b, j, none⟩ := by unfold Addr.add; split <;> simp_all
    rw [hadd]
    simp [World.cell?, hb]
    exact hj) h1
theorem blk_keep {F : List Nat} {w w' : World} {b : Nat} {C : Obj} (hb : w.heap[b]? = some C) (hk : Keep F w w') (hn : b ∉ F) : w'.heap[b]? = some C :=
  (hk.block b (Array.getElem?_eq_some_iff.1 hb).1 hn).trans hb
theorem ext_size : (Try.prog.info? 23).map (·.size) = some 2 := by kernel_rfl
set_option maxRecDepth 100000 in
set_option maxHeartbeats 1000000 in
theorem p_extents {w : World} {q rb : Nat} {bs : List UInt8} {v : Value} {bo : Option Nat} {st : Option (List UInt8)} (h : TSt 90 w q bs v bo st) (hrb : w.heap[rb]? = some (.cells #[.pointer (some ⟨q, 0, none⟩)] 53)) (hne : rb ≠ q) (hbo : ∀ b, bo = some b → b < w.heap.size) :
    Calls Try.prog 29 #[.pointer (some ⟨rb, 0, none⟩)] w fun e w' => e = .returned (.agg #[.int .i64 (oExt st).1.1, .int .i64 (oExt st).1.2]) ∧ TSt 90 w' q bs v bo (oExt st).2 ∧ Keep [q] w w' := by
  have hqlt : q < w.heap.size := by
    obtain ⟨pos, fa, sp, ht, -⟩ := h
    exact (Array.getElem?_eq_some_iff.1 ht.blk).1
  have hint : ∀ W (s : Option (List UInt8)), TSt 90 W q bs v bo s → Calls Try.prog 30 #[.pointer (some ⟨q, 0, none⟩)] W fun e w' => e = .returned (.int .i64 (oInt s).1) ∧ TSt 90 w' q bs v bo (oInt s).2 ∧ Keep [q] W w' := fun W s hs => p_tint hs
  have HI := Lib.hid hint
  have H := Lib.hid h
  have HB := Lib.hid hrb
  have HN := Lib.hid hne
  have HBO := Lib.hid hbo
  clear hint h hrb hne hbo
  unfold oExt
  go_enter Try.func29, Try.ntmps29
  go_wp2_with fail
  have HK0 := Lib.hid ((Keep.refl [] w).alloc (.cells #[.int .i64 0, .int .i64 0] 23))
  have HX0 := Lib.hid (heap_new w (.cells #[.int .i64 0, .int .i64 0] 23))
  generalize w.alloc (.cells #[.int .i64 0, .int .i64 0] 23) = w1 at *
  have HB1 : Hid (w1.drew.heap[rb]? = some (.cells #[.pointer (some ⟨q, 0, none⟩)] 53)) := Lib.hid (blk_keep HB.out HK0.out.drew (by simp))
  refine wp_region_held_drew (S := fun w' => w'.heap[rb]? = some (.cells #[.pointer (some ⟨q, 0, none⟩)] 53)) (by kernel_rfl) HB1.out (fun hHeld => ?_)
  refine wpAnyH_takeL (i := 0) (v := ?vA0) rfl (by kernel_rfl) (by kernel_rfl) (by kernel_rfl) (fun _ _ _ h => h) (Or.inl ⟨by kernel_rfl, ?runA0⟩) hHeld ?_
  case runA0 => (intro w9 hS9; obtain c0 := (show w9.cell? ⟨rb, 0, none⟩ = some (.pointer (some ⟨q, 0, none⟩)) from by simp [World.cell?, hS9]); go_simp; try exact rfl)
  try simp only [Act.put, List.setIfInBounds_toArray, List.set_cons_zero, List.set_cons_succ]
  refine wpAnyH_takeL (i := 2) (v := ?vA2) rfl (by kernel_rfl) (by kernel_rfl) (by kernel_rfl) (fun _ _ _ h => h) (Or.inl ⟨by kernel_rfl, ?runA2⟩) hHeld ?_
  case runA2 => (intro w9 hS9; obtain c0 := (show w9.cell? ⟨rb, 0, none⟩ = some (.pointer (some ⟨q, 0, none⟩)) from by simp [World.cell?, hS9]); go_simp; try exact rfl)
  try simp only [Act.put, List.setIfInBounds_toArray, List.set_cons_zero, List.set_cons_succ]
  have HT1 := Lib.hid ((H.out.keep0 HK0.out).keep0 ((Keep.refl [] w1).drew))
  clear H
  refine wpAnyH_ready (rs := [1]) (by kernel_rfl) (by simp) ?_
  refine AllReadyH.consL rfl (fun K hK => ?_) AllReadyH.nil
  go_simp
  refine (HI.out _ _ HT1.out).mono ?_
  rintro e w2 ⟨rfl, ht2, hk2⟩
  have HT2 := Lib.hid ht2
  have HK2 := Lib.hid hk2
  have HB2 : Hid (w2.heap[rb]? = some (.cells #[.pointer (some ⟨q, 0, none⟩)] 53)) := Lib.hid (blk_keep HB1.out hk2 (by simpa using HN.out))
  clear ht2 hk2
  go_wp2_with fail
  refine hK.out _ _ HB2.out (fun hHeld2 => ?_)
  clear hK K hHeld
  have hHeld := hHeld2
  clear hHeld2
  try simp only [Act.put, List.setIfInBounds_toArray, List.set_cons_zero, List.set_cons_succ]
  refine wpAnyH_ready (rs := [3]) (by kernel_rfl) (by simp) ?_
  refine AllReadyH.consL rfl (fun K hK => ?_) AllReadyH.nil
  go_simp
  refine (HI.out _ _ HT2.out).mono ?_
  rintro e w3 ⟨rfl, ht3, hk3⟩
  have HT3 := Lib.hid ht3
  have HK3 := Lib.hid hk3
  have HB3 : Hid (w3.heap[rb]? = some (.cells #[.pointer (some ⟨q, 0, none⟩)] 53)) := Lib.hid (blk_keep HB2.out hk3 (by simpa using HN.out))
  clear ht3 hk3
  go_wp2_with fail
  refine hK.out _ _ HB3.out (fun hHeld2 => ?_)
  clear hK K hHeld
  have hHeld := hHeld2
  clear hHeld2
  try simp only [Act.put, List.setIfInBounds_toArray, List.set_cons_zero, List.set_cons_succ]
  refine wpAnyH_takeL (i := 4) (v := ?vA4) rfl (by kernel_rfl) (by kernel_rfl) (by kernel_rfl) (fun _ _ _ h => h) (Or.inl ⟨by kernel_rfl, ?runA4⟩) hHeld ?_
  case runA4 => (intro w9 hS9; obtain c0 := (show w9.cell? ⟨rb, 0, none⟩ = some (.pointer (some ⟨q, 0, none⟩)) from by simp [World.cell?, hS9]); go_simp; try exact rfl)
  try simp only [Act.put, List.setIfInBounds_toArray, List.set_cons_zero, List.set_cons_succ]
  have HX3 : Hid (w3.heap[w.heap.size]? = some (.cells #[.int .i64 0, .int .i64 0] 23)) := Lib.hid (blk_keep (blk_keep (blk_keep HX0.out ((Keep.refl [] w1).drew) (by simp)) HK2.out (by simp; omega)) HK3.out (by simp; omega))
  refine wpAnyH_ready (rs := [5]) (by kernel_rfl) (by simp) ?_
  refine AllReadyH.consL rfl (fun K hK => ?_) AllReadyH.nil
  have c0 : w3.cell? ⟨w.heap.size, 0, none⟩ = some (.int .i64 0) := by simp [World.cell?, HX3.out]
  have c1 : w3.cell? ⟨w.heap.size, 1, none⟩ = some (.int .i64 0) := by simp [World.cell?, HX3.out]
  have f0 : w3.frozen? ⟨w.heap.size, 0, none⟩ = false := by simp [World.frozen?, HX3.out]
  have f1 : w3.frozen? ⟨w.heap.size, 1, none⟩ = false := by simp [World.frozen?, HX3.out]
  go_simp
  have hrlt : rb < w.heap.size := (Array.getElem?_eq_some_iff.1 HB.out).1
  have hk4 : Keep [w.heap.size] w3 ((w3.setCell ⟨w.heap.size, 0, none⟩ (.int .i64 (oInt st).1)).setCell ⟨w.heap.size, 1, none⟩ (.int .i64 (oInt (oInt st).2).1)) := ((Keep.refl _ w3).setCell (.inl (by simp)) _).setCell (.inl (by simp)) _
  have hx4 : ((w3.setCell ⟨w.heap.size, 0, none⟩ (.int .i64 (oInt st).1)).setCell ⟨w.heap.size, 1, none⟩ (.int .i64 (oInt (oInt st).2).1)).heap[w.heap.size]? = some (.cells #[.int .i64 (oInt st).1, .int .i64 (oInt (oInt st).2).1] 23) := by simpa using heap_setCell_at (i := 1) (heap_setCell_at (i := 0) HX3.out (.int .i64 (oInt st).1)) (.int .i64 (oInt (oInt st).2).1)
  have HK4 := Lib.hid hk4
  have HB4 := Lib.hid (blk_keep HB3.out hk4 (show rb ∉ [w.heap.size] from by simp; omega))
  generalize (w3.setCell ⟨w.heap.size, 0, none⟩ (.int .i64 (oInt st).1)).setCell ⟨w.heap.size, 1, none⟩ (.int .i64 (oInt (oInt st).2).1) = w4 at *
  have HX4 := Lib.hid hx4
  refine hK.out _ _ HB4.out (fun hHeld2 => ?_)
  clear hK K hHeld hk4 c0 c1 f0 f1 hx4
  try simp only [Act.put, List.setIfInBounds_toArray, List.set_cons_zero, List.set_cons_succ]
  refine wpAnyH_done (by kernel_rfl) ?_ _
  clear hHeld2
  go_wp2_with fail
  refine bodyPost_ret (results_cell_row (ty := 23) rfl _ w4 w.heap.size _ _ _ _ rfl HX4.out Try.underlying23 rfl ext_size) rfl ?_
  exact ⟨rfl, HT3.out.keep HK4.out (by simp; omega) (fun b hb hm => by simp at hm; have := (HBO.out b hb); omega), ((((HK0.out.drew).mono (fun b hb => by cases hb)).trans HK2.out (fun _ h => .inl h)).trans HK3.out (fun _ h => .inl h)).trans HK4.out (fun b hb => by simp at hb; exact .inr (by omega))⟩
end Go.Proofs.Ytngepgnmlpinaaa
