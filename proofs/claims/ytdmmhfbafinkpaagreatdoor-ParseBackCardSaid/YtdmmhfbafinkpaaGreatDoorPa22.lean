import Derived.Test.YtdmmhfbafinkpaaGreatDoorPa20
/- Parse: the document's Same of equal trees. Printed by gen-pa21.py. -/
namespace Go.Proofs.YtdmmhfbafinkpaaGreatDoor
open Go.RowKit Go.Emb Go.Shelf

theorem NsR.atk {S : Nat → Prop} {w : World} {k : Bool} {a : Option Addr} {n c : Nat} {l : List Nd} (h : NsR S w k (.slice a n c) l) {i : Nat} (hi : i < l.length) :
    ∃ b off cs, a = some ⟨b, off, none⟩ ∧ S b ∧ NdR S w k cs l[i] ∧ ∀ j, j < wid k → w.cell? ⟨b, off + i * wid k + j, none⟩ = cs[j]? := by
  obtain ⟨es, o, ⟨-, a', c', e, h1, h2, h3⟩, hs, hl, ht⟩ := h
  cases e
  rcases h3 with ⟨h3, _⟩ | ⟨b, off, rfl, ho, h3⟩
  · rw [h3] at hi; simp at hi
  · have h7 : ∀ e ∈ es, e.length = wid k := fun e he => by
      obtain ⟨j, hj, rfl⟩ := List.mem_iff_getElem.1 he
      exact (ht j hj (by omega)).len
    refine ⟨b, off, es[i], rfl, hs b ho, ht i (by omega) hi, fun j hj => ?_⟩
    rw [Nat.add_assoc]
    have := flat_at es (wid k) h7 i (by omega) j hj
    rw [← this]
    refine h3 _ ?_
    have h9 : (i + 1) * wid k ≤ l.length * wid k := Nat.mul_le_mul_right _ hi
    rw [Nat.succ_mul] at h9
    omega
theorem NdR.pair7 {S S' : Nat → Prop} {w : World} {cs cs' : List Value} {n : Nd} (h : NdR S w false cs n) (h' : NdR S' w false cs' n) :
    ∃ kind num name a b c at1 va vb vc at2 ua ub uc, n = .mk kind num name a b c ∧ cs = [.int .i64 kind, .int .i64 num, .string ⟨name.toArray⟩, .int .i64 at1, va, vb, vc] ∧ cs' = [.int .i64 kind, .int .i64 num, .string ⟨name.toArray⟩, .int .i64 at2, ua, ub, uc] ∧
      NsR S w false va a ∧ NsR S w true vb b ∧ NsR S w false vc c ∧ NsR S' w false ua a ∧ NsR S' w true ub b ∧ NsR S' w false uc c := by
  obtain ⟨kind, num, at1, name, a, b, c, va, vb, vc, rfl, rfl, h1, h2, h3⟩ := h.un7
  obtain ⟨kind', num', at2, name', a', b', c', ua, ub, uc, rfl, e, g1, g2, g3⟩ := h'.un7
  injection e with e1 e2 e3 e4 e5 e6
  subst e1 e2 e3 e4 e5 e6
  exact ⟨_, _, _, _, _, _, _, _, _, _, _, _, _, _, rfl, rfl, rfl, h1, h2, h3, g1, g2, g3⟩
theorem NdR.pair5 {S S' : Nat → Prop} {w : World} {cs cs' : List Value} {n : Nd} (h : NdR S w true cs n) (h' : NdR S' w true cs' n) :
    ∃ name a b c at1 va vb vc at2 ua ub uc, n = .mk 0 0 name a b c ∧ cs = [va, vb, vc, .string ⟨name.toArray⟩, .int .i64 at1] ∧ cs' = [ua, ub, uc, .string ⟨name.toArray⟩, .int .i64 at2] ∧
      NsR S w false va a ∧ NsR S w false vb b ∧ NsR S w false vc c ∧ NsR S' w false ua a ∧ NsR S' w false ub b ∧ NsR S' w false uc c := by
  obtain ⟨at1, name, a, b, c, va, vb, vc, rfl, rfl, h1, h2, h3⟩ := h.un5
  obtain ⟨at2, name', a', b', c', ua, ub, uc, rfl, e, g1, g2, g3⟩ := h'.un5
  injection e with e1 e2 e3 e4 e5 e6
  subst e3 e4 e5 e6
  exact ⟨_, _, _, _, _, _, _, _, _, _, _, _, rfl, rfl, rfl, h1, h2, h3, g1, g2, g3⟩
def YesP (w : World) (e : Ending) (w' : World) : Prop := e = .returned (.bool true) ∧ Keep [] w w'
structure SameC (m : Nat) : Prop where
  same : ∀ {w : World} {S S' : Nat → Prop} {cs cs' : List Value} {n : Nd}, NdR S w false cs n → NdR S' w false cs' n → SizeOf.sizeOf n < m → Calls Tryz.prog 97 #[.agg cs.toArray, .agg cs'.toArray, .bool false] w (YesP w)
  nodes : ∀ {w : World} {S S' : Nat → Prop} {v v' : Value} {l : List Nd}, NsR S w false v l → NsR S' w false v' l → SizeOf.sizeOf l < m → Calls Tryz.prog 64 #[v, v', .bool false] w (YesP w)
  clauses : ∀ {w : World} {S S' : Nat → Prop} {v v' : Value} {l : List Nd}, NsR S w true v l → NsR S' w true v' l → SizeOf.sizeOf l < m → Calls Tryz.prog 42 #[v, v', .bool false] w (YesP w)
set_option maxRecDepth 100000 in
set_option maxHeartbeats 2000000 in
theorem w_same {w : World} {S S' : Nat → Prop} {cs cs' : List Value} {n : Nd} (ih : SameC (SizeOf.sizeOf n)) (h : NdR S w false cs n) (h' : NdR S' w false cs' n) :
    Calls Tryz.prog 97 #[.agg cs.toArray, .agg cs'.toArray, .bool false] w (YesP w) := by
  obtain ⟨kind, num, name, a, b, c, at1, va, vb, vc, at2, ua, ub, uc, rfl, rfl, rfl, h1, h2, h3, g1, g2, g3⟩ := h.pair7 h'
  have HA := Lib.hid (fun (W : World) (hk : Keep [] w W) => ih.nodes (h1.keep hk (by simp)) (g1.keep hk (by simp)) (by simp; omega))
  have HB := Lib.hid (fun (W : World) (hk : Keep [] w W) => ih.clauses (h2.keep hk (by simp)) (g2.keep hk (by simp)) (by simp; omega))
  have HC := Lib.hid (fun (W : World) (hk : Keep [] w W) => ih.nodes (h3.keep hk (by simp)) (g3.keep hk (by simp)) (by simp; omega))
  obtain ⟨q1, r1, rfl⟩ := h1.form
  obtain ⟨q2, r2, rfl⟩ := h2.form
  obtain ⟨q3, r3, rfl⟩ := h3.form
  obtain ⟨q4, r4, rfl⟩ := g1.form
  obtain ⟨q5, r5, rfl⟩ := g2.form
  obtain ⟨q6, r6, rfl⟩ := g3.form
  clear h1 h2 h3 g1 g2 g3 ih h h'
  have hk2 := ((Keep.refl [] w).alloc (.cells #[.int .i64 kind, .int .i64 num, .string ⟨name.toArray⟩, .int .i64 at1, .slice q1 a.length r1, .slice q2 b.length r2, .slice q3 c.length r3] 29)).alloc (.cells #[.int .i64 kind, .int .i64 num, .string ⟨name.toArray⟩, .int .i64 at2, .slice q4 a.length r4, .slice q5 b.length r5, .slice q6 c.length r6] 29)
  have hx1 := blkK (heap_alloc_new w (.cells #[.int .i64 kind, .int .i64 num, .string ⟨name.toArray⟩, .int .i64 at1, .slice q1 a.length r1, .slice q2 b.length r2, .slice q3 c.length r3] 29)) ((Keep.refl [] _).alloc (.cells #[.int .i64 kind, .int .i64 num, .string ⟨name.toArray⟩, .int .i64 at2, .slice q4 a.length r4, .slice q5 b.length r5, .slice q6 c.length r6] 29)) (by simp)
  have hx2 := heap_alloc_new (w.alloc (.cells #[.int .i64 kind, .int .i64 num, .string ⟨name.toArray⟩, .int .i64 at1, .slice q1 a.length r1, .slice q2 b.length r2, .slice q3 c.length r3] 29)) (.cells #[.int .i64 kind, .int .i64 num, .string ⟨name.toArray⟩, .int .i64 at2, .slice q4 a.length r4, .slice q5 b.length r5, .slice q6 c.length r6] 29)
  rw [size_alloc] at hx2
  obtain ⟨c0, c1, c2, c3, c4, c5, c6⟩ := cells7 hx1
  obtain ⟨d0, d1, d2, d3, d4, d5, d6⟩ := cells7 hx2
  have HK2 := Lib.hid hk2
  have HX := Lib.hid (And.intro hx1 hx2)
  clear hk2 hx1 hx2
  obtain ⟨N, hN⟩ : ∃ N : ByteArray, N = ⟨name.toArray⟩ := ⟨_, rfl⟩
  go_enter Tryz.func97, Tryz.ntmps97
  go_wp2_with fail
  refine (HA.out _ HK2.out).mono ?_
  rintro e w3 ⟨rfl, hk3⟩
  clear c0 c1 c2 c3 c4 c5 c6 d0 d1 d2 d3 d4 d5 d6
  have hx1 := blkK HX.out.1 hk3 (by simp)
  have hx2 := blkK HX.out.2 hk3 (by simp)
  have HK3 := Lib.hid (HK2.out.trans hk3 (by simp))
  obtain ⟨c0, c1, c2, c3, c4, c5, c6⟩ := cells7 hx1
  obtain ⟨d0, d1, d2, d3, d4, d5, d6⟩ := cells7 hx2
  have HX3 := Lib.hid (And.intro hx1 hx2)
  clear hx1 hx2 hk3
  go_wp2_with fail
  refine (HB.out _ HK3.out).mono ?_
  rintro e w4 ⟨rfl, hk4⟩
  clear c0 c1 c2 c3 c4 c5 c6 d0 d1 d2 d3 d4 d5 d6
  have hx1 := blkK HX3.out.1 hk4 (by simp)
  have hx2 := blkK HX3.out.2 hk4 (by simp)
  have HK4 := Lib.hid (HK3.out.trans hk4 (by simp))
  obtain ⟨c0, c1, c2, c3, c4, c5, c6⟩ := cells7 hx1
  obtain ⟨d0, d1, d2, d3, d4, d5, d6⟩ := cells7 hx2
  clear hx1 hx2 hk4
  go_wp2_with fail
  refine (HC.out _ HK4.out).mono ?_
  rintro e w5 ⟨rfl, hk5⟩
  have HK5 := Lib.hid (HK4.out.trans hk5 (by simp))
  clear hk5
  go_wp2_with fail
  go_ret
  exact ⟨rfl, HK5.out⟩
end Go.Proofs.YtdmmhfbafinkpaaGreatDoor

/- Parse: the document's nodes, clauses, SameAll of equal trees. Printed by gen-pa22.py. -/
namespace Go.Proofs.YtdmmhfbafinkpaaGreatDoor
open Go.RowKit Go.Emb Go.Shelf

theorem size_mem {l : List Nd} {i : Nat} (hi : i < l.length) : SizeOf.sizeOf l[i] < SizeOf.sizeOf l := List.sizeOf_lt_of_mem (List.getElem_mem hi)

set_option maxRecDepth 100000 in
set_option maxHeartbeats 1000000 in
theorem w_nodes {w : World} {S S' : Nat → Prop} {v v' : Value} {l : List Nd} (ih : SameC (SizeOf.sizeOf l)) (h : NsR S w false v l) (h' : NsR S' w false v' l) :
    Calls Tryz.prog 64 #[v, v', .bool false] w (YesP w) := by
  obtain ⟨q1, r1, rfl⟩ := h.form
  obtain ⟨q2, r2, rfl⟩ := h'.form
  have hlm : l.length ≤ 9223372036854775807 := by obtain ⟨es, o, ⟨-, a, c, e, h1, h2, -⟩, -⟩ := h; cases e; unfold maxLen at h2; omega
  have IH := Lib.hid ih
  have H1 := Lib.hid h
  have H2 := Lib.hid h'
  clear ih h h'
  go_enter Tryz.func64, Tryz.ntmps64
  go_wp2_with fail
  go_loopw [7] (fun v wr => ∃ k : Nat, k ≤ l.length ∧ v = .int .i64 k ∧ Keep [] w wr) (fun v _ => l.length - (RowKit.intOf v).toNat)
  case atStart => exact ⟨0, Nat.zero_le _, rfl, Keep.refl _ _⟩
  case round =>
    obtain ⟨i, hk, rfl, hkw⟩ := hrel
    have HKW := Lib.hid hkw
    by_cases hi : i < l.length
    · have hlt : (i : Int) < (l.length : Int) := by omega
      have hge : (0 : Int) ≤ (i : Int) := by omega
      have hw2 : IntKind.i64.wrap ((i : Int) + 1) = (i : Int) + 1 := IntWalk.i64_in _ (by omega)
      have H1R := Lib.hid (H1.out.keep hkw (by simp))
      have H2R := Lib.hid (H2.out.keep hkw (by simp))
      clear hkw

      obtain ⟨ab, aoff, csa, rfl, -, hnda, hcella⟩ := H1R.out.atk hi
      obtain ⟨kindA, numA, atA, nameA, p1A, n1A, c1A, p2A, n2A, c2A, p3A, n3A, c3A, rfl, -⟩ := id hnda.un7s
      have hlea0 := hcella 0 (by show 0 < 7; omega)
      have hlea1 := hcella 1 (by show 1 < 7; omega)
      have hlea2 := hcella 2 (by show 2 < 7; omega)
      have hlea3 := hcella 3 (by show 3 < 7; omega)
      have hlea4 := hcella 4 (by show 4 < 7; omega)
      have hlea5 := hcella 5 (by show 5 < 7; omega)
      have hlea6 := hcella 6 (by show 6 < 7; omega)
      simp only [wid, if_true, Bool.false_eq_true, if_false, Nat.add_zero, List.getElem?_cons_zero, List.getElem?_cons_succ] at hlea0 hlea1 hlea2 hlea3 hlea4 hlea5 hlea6
      have HAC := Lib.hid (And.intro (hlea0) (And.intro (hlea1) (And.intro (hlea2) (And.intro (hlea3) (And.intro (hlea4) (And.intro (hlea5) (hlea6)))))))
      have HAL := Lib.hid (World.block_lt_of_cell? _ _ hlea0)
      have HAD := Lib.hid hnda
      clear hlea0 hlea1 hlea2 hlea3 hlea4 hlea5 hlea6 hcella hnda
      obtain ⟨bb, boff, csb, rfl, -, hndb, hcellb⟩ := H2R.out.atk hi
      obtain ⟨kindB, numB, atB, nameB, p1B, n1B, c1B, p2B, n2B, c2B, p3B, n3B, c3B, rfl, -⟩ := id hndb.un7s
      have hleb0 := hcellb 0 (by show 0 < 7; omega)
      have hleb1 := hcellb 1 (by show 1 < 7; omega)
      have hleb2 := hcellb 2 (by show 2 < 7; omega)
      have hleb3 := hcellb 3 (by show 3 < 7; omega)
      have hleb4 := hcellb 4 (by show 4 < 7; omega)
      have hleb5 := hcellb 5 (by show 5 < 7; omega)
      have hleb6 := hcellb 6 (by show 6 < 7; omega)
      simp only [wid, if_true, Bool.false_eq_true, if_false, Nat.add_zero, List.getElem?_cons_zero, List.getElem?_cons_succ] at hleb0 hleb1 hleb2 hleb3 hleb4 hleb5 hleb6
      have HBC := Lib.hid (And.intro (hleb0) (And.intro (hleb1) (And.intro (hleb2) (And.intro (hleb3) (And.intro (hleb4) (And.intro (hleb5) (hleb6)))))))
      have HBL := Lib.hid (World.block_lt_of_cell? _ _ hleb0)
      have HBD := Lib.hid hndb
      clear hleb0 hleb1 hleb2 hleb3 hleb4 hleb5 hleb6 hcellb hndb
      have HCALL := Lib.hid (fun (W : World) (hk : Keep [] wr W) => IH.out.same (HAD.out.keep hk (by simp)) (HBD.out.keep hk (by simp)) (size_mem hi))
      go_wp2_with fail
      refine wp_regionB [7] (fun w' => Keep [] wr w') (by kernel_rfl) ?_
      refine wpAnyB_takeY (i := 0) (v := ?vA0) rfl (by kernel_rfl) (by kernel_rfl) (by kernel_rfl) (by kernel_rfl) (fun _ _ _ h => h) (Or.inl ⟨by kernel_rfl, ?runA0⟩) ?_
      case runA0 => (intro w9 _; go_simp; try exact rfl)
      try simp only [Act.put, List.setIfInBounds_toArray, List.set_cons_zero, List.set_cons_succ]
      refine wpAnyB_takeY (i := 1) (v := ?vA1) rfl (by kernel_rfl) (by kernel_rfl) (by kernel_rfl) (by kernel_rfl) (fun _ _ _ h => h) (Or.inl ⟨by kernel_rfl, ?runA1⟩) ?_
      case runA1 => (intro w9 _; go_simp; try exact rfl)
      try simp only [Act.put, List.setIfInBounds_toArray, List.set_cons_zero, List.set_cons_succ]
      refine wpAnyB_takeY (i := 2) (v := ?vA2) rfl (by kernel_rfl) (by kernel_rfl) (by kernel_rfl) (by kernel_rfl) (fun _ _ _ h => h) (Or.inl ⟨by kernel_rfl, ?runA2⟩) ?_
      case runA2 => (intro w9 _; go_simp; try exact rfl)
      try simp only [Act.put, List.setIfInBounds_toArray, List.set_cons_zero, List.set_cons_succ]
      refine wpAnyB_takeY (i := 4) (v := ?vA4) rfl (by kernel_rfl) (by kernel_rfl) (by kernel_rfl) (by kernel_rfl) (fun _ _ _ h => h) (Or.inl ⟨by kernel_rfl, ?runA4⟩) ?_
      case runA4 => (intro w9 _; go_simp; try exact rfl)
      try simp only [Act.put, List.setIfInBounds_toArray, List.set_cons_zero, List.set_cons_succ]
      refine wpAnyB_takeY (i := 5) (v := ?vA5) rfl (by kernel_rfl) (by kernel_rfl) (by kernel_rfl) (by kernel_rfl) (fun _ _ _ h => h) (Or.inl ⟨by kernel_rfl, ?runA5⟩) ?_
      case runA5 => (intro w9 _; go_simp; try exact rfl)
      try simp only [Act.put, List.setIfInBounds_toArray, List.set_cons_zero, List.set_cons_succ]
      refine wpAnyB_takeY (i := 6) (v := ?vA6) rfl (by kernel_rfl) (by kernel_rfl) (by kernel_rfl) (by kernel_rfl) (fun _ _ _ h => h) (Or.inl ⟨by kernel_rfl, ?runA6⟩) ?_
      case runA6 => (intro w9 _; go_simp; try exact rfl)
      try simp only [Act.put, List.setIfInBounds_toArray, List.set_cons_zero, List.set_cons_succ]
      refine wpAnyB_takeY (i := 8) (v := ?vA8) rfl (by kernel_rfl) (by kernel_rfl) (by kernel_rfl) (by kernel_rfl) (fun _ _ _ h => h) (Or.inl ⟨by kernel_rfl, ?runA8⟩) ?_
      case runA8 => (intro w9 _; go_simp; try exact rfl)
      try simp only [Act.put, List.setIfInBounds_toArray, List.set_cons_zero, List.set_cons_succ]
      refine wpAnyB_take [7] (i := 3) (v := ?vA3) rfl (by kernel_rfl) (by kernel_rfl) (by kernel_rfl) (by kernel_rfl) (by kernel_rfl) (fun _ _ _ h => h) (Or.inl ⟨by kernel_rfl, ?runA3⟩) ((Keep.refl [] wr).drew) ?_
      case runA3 => (intro w9 hS9; obtain ⟨x0, x1, x2, x3, x4, x5, x6, y0, y1, y2, y3, y4, y5, y6⟩ := And.intro (hS9.cell (p := ⟨ab, aoff + i * 7, none⟩) HAL.out (by simp) |>.trans HAC.out.1) (And.intro (hS9.cell (p := ⟨ab, aoff + i * 7 + 1, none⟩) HAL.out (by simp) |>.trans HAC.out.2.1) (And.intro (hS9.cell (p := ⟨ab, aoff + i * 7 + 2, none⟩) HAL.out (by simp) |>.trans HAC.out.2.2.1) (And.intro (hS9.cell (p := ⟨ab, aoff + i * 7 + 3, none⟩) HAL.out (by simp) |>.trans HAC.out.2.2.2.1) (And.intro (hS9.cell (p := ⟨ab, aoff + i * 7 + 4, none⟩) HAL.out (by simp) |>.trans HAC.out.2.2.2.2.1) (And.intro (hS9.cell (p := ⟨ab, aoff + i * 7 + 5, none⟩) HAL.out (by simp) |>.trans HAC.out.2.2.2.2.2.1) (And.intro (hS9.cell (p := ⟨ab, aoff + i * 7 + 6, none⟩) HAL.out (by simp) |>.trans HAC.out.2.2.2.2.2.2) (And.intro (hS9.cell (p := ⟨bb, boff + i * 7, none⟩) HBL.out (by simp) |>.trans HBC.out.1) (And.intro (hS9.cell (p := ⟨bb, boff + i * 7 + 1, none⟩) HBL.out (by simp) |>.trans HBC.out.2.1) (And.intro (hS9.cell (p := ⟨bb, boff + i * 7 + 2, none⟩) HBL.out (by simp) |>.trans HBC.out.2.2.1) (And.intro (hS9.cell (p := ⟨bb, boff + i * 7 + 3, none⟩) HBL.out (by simp) |>.trans HBC.out.2.2.2.1) (And.intro (hS9.cell (p := ⟨bb, boff + i * 7 + 4, none⟩) HBL.out (by simp) |>.trans HBC.out.2.2.2.2.1) (And.intro (hS9.cell (p := ⟨bb, boff + i * 7 + 5, none⟩) HBL.out (by simp) |>.trans HBC.out.2.2.2.2.2.1) (hS9.cell (p := ⟨bb, boff + i * 7 + 6, none⟩) HBL.out (by simp) |>.trans HBC.out.2.2.2.2.2.2))))))))))))); go_simp; try exact rfl)
      try simp only [Act.put, List.setIfInBounds_toArray, List.set_cons_zero, List.set_cons_succ]
      refine wpAnyB_take [] (i := 7) (v := ?vA7) rfl (by kernel_rfl) (by kernel_rfl) (by kernel_rfl) (by kernel_rfl) (by kernel_rfl) (fun _ _ _ h => h) (Or.inl ⟨by kernel_rfl, ?runA7⟩) ((Keep.refl [] wr).drew) ?_
      case runA7 => (intro w9 hS9; obtain ⟨x0, x1, x2, x3, x4, x5, x6, y0, y1, y2, y3, y4, y5, y6⟩ := And.intro (hS9.cell (p := ⟨ab, aoff + i * 7, none⟩) HAL.out (by simp) |>.trans HAC.out.1) (And.intro (hS9.cell (p := ⟨ab, aoff + i * 7 + 1, none⟩) HAL.out (by simp) |>.trans HAC.out.2.1) (And.intro (hS9.cell (p := ⟨ab, aoff + i * 7 + 2, none⟩) HAL.out (by simp) |>.trans HAC.out.2.2.1) (And.intro (hS9.cell (p := ⟨ab, aoff + i * 7 + 3, none⟩) HAL.out (by simp) |>.trans HAC.out.2.2.2.1) (And.intro (hS9.cell (p := ⟨ab, aoff + i * 7 + 4, none⟩) HAL.out (by simp) |>.trans HAC.out.2.2.2.2.1) (And.intro (hS9.cell (p := ⟨ab, aoff + i * 7 + 5, none⟩) HAL.out (by simp) |>.trans HAC.out.2.2.2.2.2.1) (And.intro (hS9.cell (p := ⟨ab, aoff + i * 7 + 6, none⟩) HAL.out (by simp) |>.trans HAC.out.2.2.2.2.2.2) (And.intro (hS9.cell (p := ⟨bb, boff + i * 7, none⟩) HBL.out (by simp) |>.trans HBC.out.1) (And.intro (hS9.cell (p := ⟨bb, boff + i * 7 + 1, none⟩) HBL.out (by simp) |>.trans HBC.out.2.1) (And.intro (hS9.cell (p := ⟨bb, boff + i * 7 + 2, none⟩) HBL.out (by simp) |>.trans HBC.out.2.2.1) (And.intro (hS9.cell (p := ⟨bb, boff + i * 7 + 3, none⟩) HBL.out (by simp) |>.trans HBC.out.2.2.2.1) (And.intro (hS9.cell (p := ⟨bb, boff + i * 7 + 4, none⟩) HBL.out (by simp) |>.trans HBC.out.2.2.2.2.1) (And.intro (hS9.cell (p := ⟨bb, boff + i * 7 + 5, none⟩) HBL.out (by simp) |>.trans HBC.out.2.2.2.2.2.1) (hS9.cell (p := ⟨bb, boff + i * 7 + 6, none⟩) HBL.out (by simp) |>.trans HBC.out.2.2.2.2.2.2))))))))))))); go_simp; try exact rfl)
      try simp only [Act.put, List.setIfInBounds_toArray, List.set_cons_zero, List.set_cons_succ]
      refine wpAnyB_ready (rs := [9]) (by kernel_rfl) (by simp) ?_
      refine AllReadyB.cons rfl (fun K hK => ?_) AllReadyB.nil
      go_simp
      refine (HCALL.out _ (Keep.refl [] wr).drew).mono ?_
      rintro e w4 ⟨rfl, hk4⟩
      have HK4 := Lib.hid ((HKW.out.trans (Keep.refl [] wr).drew (by simp)).trans hk4 (by simp))
      clear hk4
      go_wp2_with fail
      refine hK.out _ _ (fun h => (nomatch h)) ?_
      clear hK K
      try simp only [Act.put, List.setIfInBounds_toArray, List.set_cons_zero, List.set_cons_succ]
      refine wpAnyB_takeY (i := 10) (v := ?vA10) rfl (by kernel_rfl) (by kernel_rfl) (by kernel_rfl) (by kernel_rfl) (fun _ _ _ h => h) (Or.inl ⟨by kernel_rfl, ?runA10⟩) ?_
      case runA10 => (intro w9 _; go_simp; try exact rfl)
      try simp only [Act.put, List.setIfInBounds_toArray, List.set_cons_zero, List.set_cons_succ]
      refine wpAnyB_done (by kernel_rfl) ?_ _
      go_wp2_with fail
      go_roundw
      case rel => exact ⟨i + 1, by omega, by go_num, HK4.out⟩
      case measure => simp [RowKit.intOf]; omega
    · obtain rfl : i = l.length := by omega
      clear hkw hi
      go_wp2_with fail
      go_ret
      exact ⟨rfl, HKW.out⟩

set_option maxRecDepth 100000 in
set_option maxHeartbeats 1000000 in
theorem w_clauses {w : World} {S S' : Nat → Prop} {v v' : Value} {l : List Nd} (ih : SameC (SizeOf.sizeOf l)) (h : NsR S w true v l) (h' : NsR S' w true v' l) :
    Calls Tryz.prog 42 #[v, v', .bool false] w (YesP w) := by
  obtain ⟨q1, r1, rfl⟩ := h.form
  obtain ⟨q2, r2, rfl⟩ := h'.form
  have hlm : l.length ≤ 9223372036854775807 := by obtain ⟨es, o, ⟨-, a, c, e, h1, h2, -⟩, -⟩ := h; cases e; unfold maxLen at h2; omega
  have IH := Lib.hid ih
  have H1 := Lib.hid h
  have H2 := Lib.hid h'
  clear ih h h'
  go_enter Tryz.func42, Tryz.ntmps42
  go_wp2_with fail
  go_loopw [7] (fun v wr => ∃ k : Nat, k ≤ l.length ∧ v = .int .i64 k ∧ Keep [] w wr) (fun v _ => l.length - (RowKit.intOf v).toNat)
  case atStart => exact ⟨0, Nat.zero_le _, rfl, Keep.refl _ _⟩
  case round =>
    obtain ⟨i, hk, rfl, hkw⟩ := hrel
    have HKW := Lib.hid hkw
    by_cases hi : i < l.length
    · have hlt : (i : Int) < (l.length : Int) := by omega
      have hge : (0 : Int) ≤ (i : Int) := by omega
      have hw2 : IntKind.i64.wrap ((i : Int) + 1) = (i : Int) + 1 := IntWalk.i64_in _ (by omega)
      have H1R := Lib.hid (H1.out.keep hkw (by simp))
      have H2R := Lib.hid (H2.out.keep hkw (by simp))
      clear hkw

      obtain ⟨ab, aoff, csa, rfl, -, hnda, hcella⟩ := H1R.out.atk hi
      obtain ⟨bb, boff, csb, rfl, -, hndb, hcellb⟩ := H2R.out.atk hi
      obtain ⟨name, la, lb, lc, at1, va, vb, vc, at2, ua, ub, uc, hli, rfl, rfl, g1, g2, g3, u1, u2, u3⟩ := hnda.pair5 hndb
      have hsz : SizeOf.sizeOf la < SizeOf.sizeOf l ∧ SizeOf.sizeOf lb < SizeOf.sizeOf l ∧ SizeOf.sizeOf lc < SizeOf.sizeOf l := by
        have h := size_mem hi
        rw [hli] at h
        simp at h
        omega
      have HA := Lib.hid (fun (W : World) (hk : Keep [] wr W) => IH.out.nodes (g1.keep hk (by simp)) (u1.keep hk (by simp)) hsz.1)
      have HB := Lib.hid (fun (W : World) (hk : Keep [] wr W) => IH.out.nodes (g2.keep hk (by simp)) (u2.keep hk (by simp)) hsz.2.1)
      have HC := Lib.hid (fun (W : World) (hk : Keep [] wr W) => IH.out.nodes (g3.keep hk (by simp)) (u3.keep hk (by simp)) hsz.2.2)
      obtain ⟨a1, z1, rfl⟩ := g1.form
      obtain ⟨a2, z2, rfl⟩ := g2.form
      obtain ⟨a3, z3, rfl⟩ := g3.form
      obtain ⟨b1, y1, rfl⟩ := u1.form
      obtain ⟨b2, y2, rfl⟩ := u2.form
      obtain ⟨b3, y3, rfl⟩ := u3.form
      obtain ⟨N, hN⟩ : ∃ N : ByteArray, N = ⟨name.toArray⟩ := ⟨_, rfl⟩
      rw [← hN] at hcella hcellb
      have hlea0 := hcella 0 (by show 0 < 5; omega)
      have hlea1 := hcella 1 (by show 1 < 5; omega)
      have hlea2 := hcella 2 (by show 2 < 5; omega)
      have hlea3 := hcella 3 (by show 3 < 5; omega)
      have hlea4 := hcella 4 (by show 4 < 5; omega)
      simp only [wid, if_true, Nat.add_zero, List.getElem?_cons_zero, List.getElem?_cons_succ] at hlea0 hlea1 hlea2 hlea3 hlea4
      have HAC := Lib.hid (And.intro (hlea0) (And.intro (hlea1) (And.intro (hlea2) (And.intro (hlea3) (hlea4)))))
      have HAL := Lib.hid (World.block_lt_of_cell? _ _ hlea0)
      clear hlea0 hlea1 hlea2 hlea3 hlea4 hcella hnda
      have hleb0 := hcellb 0 (by show 0 < 5; omega)
      have hleb1 := hcellb 1 (by show 1 < 5; omega)
      have hleb2 := hcellb 2 (by show 2 < 5; omega)
      have hleb3 := hcellb 3 (by show 3 < 5; omega)
      have hleb4 := hcellb 4 (by show 4 < 5; omega)
      simp only [wid, if_true, Nat.add_zero, List.getElem?_cons_zero, List.getElem?_cons_succ] at hleb0 hleb1 hleb2 hleb3 hleb4
      have HBC := Lib.hid (And.intro (hleb0) (And.intro (hleb1) (And.intro (hleb2) (And.intro (hleb3) (hleb4)))))
      have HBL := Lib.hid (World.block_lt_of_cell? _ _ hleb0)
      clear hleb0 hleb1 hleb2 hleb3 hleb4 hcellb hndb
      clear g1 g2 g3 u1 u2 u3 hsz hli hN
      go_upto_region 6 with fail
      rename_i K_out a_out K_in a_in

      have hcut : ∀ a' w', CutF 71 (fun f wx => f 0 = .slice (some ⟨ab, aoff, none⟩) l.length r1 ∧ f 1 = .slice (some ⟨bb, boff, none⟩) l.length r2 ∧ f 2 = .bool false ∧ f 3 = undef ∧ f 4 = undef ∧ f 5 = undef ∧ f 7 = .int .i64 i ∧ f 10 = .slice (some ⟨ab, aoff, none⟩) l.length r1 ∧ f 11 = .int .i64 l.length ∧ f 12 = .slice (some ⟨bb, boff, none⟩) l.length r2 ∧ f 13 = .int .i64 l.length ∧ f 14 = .bool false ∧ ∃ bx1 bx2 : Nat, f 8 = .pointer (some ⟨bx1, 0, none⟩) ∧ f 9 = .pointer (some ⟨bx2, 0, none⟩) ∧ wx.heap[bx1]? = some (.cells #[.slice a1 la.length z1, .slice a2 lb.length z2, .slice a3 lc.length z3, .string N, .int .i64 at1] 52 (0, 0)) ∧ wx.heap[bx2]? = some (.cells #[.slice b1 la.length y1, .slice b2 lb.length y2, .slice b3 lc.length y3, .string N, .int .i64 at2] 52 (0, 0)) ∧ Keep [] wr wx) a' w' → K_in a' w' := by
        intro a' w' hc
        refine a_in _ _ ?_
        clear a_in
        obtain ⟨f, rfl, h0, h1, h2, h3, h4, h5, h7, h10, h11, h12, h13, h14, bx1, bx2, h8, h9, hx1, hx2, hkx⟩ := hc.lit
        rw [show ((List.range 71).map f).toArray = #[f 0, f 1, f 2, f 3, f 4, f 5, f 6, f 7, f 8, f 9, f 10, f 11, f 12, f 13, f 14, f 15, f 16, f 17, f 18, f 19, f 20, f 21, f 22, f 23, f 24, f 25, f 26, f 27, f 28, f 29, f 30, f 31, f 32, f 33, f 34, f 35, f 36, f 37, f 38, f 39, f 40, f 41, f 42, f 43, f 44, f 45, f 46, f 47, f 48, f 49, f 50, f 51, f 52, f 53, f 54, f 55, f 56, f 57, f 58, f 59, f 60, f 61, f 62, f 63, f 64, f 65, f 66, f 67, f 68, f 69, f 70] from rfl]
        rw [h0, h1, h2, h3, h4, h5, h7, h8, h9, h10, h11, h12, h13, h14]
        have HX := Lib.hid (And.intro hx1 hx2)
        have HKX := Lib.hid hkx
        clear hc h0 h1 h2 h3 h4 h5 h7 h8 h9 h10 h11 h12 h13 h14 hkx
        obtain ⟨c0, c1, c2, c3, c4⟩ := cells5 hx1
        obtain ⟨d0, d1, d2, d3, d4⟩ := cells5 hx2
        clear hx1 hx2
        go_wp2_with fail
        refine (HA.out _ HKX.out).mono ?_
        rintro e w3 ⟨rfl, hk3⟩
        have hx1 := blkK HX.out.1 hk3 (by simp)
        have hx2 := blkK HX.out.2 hk3 (by simp)
        have HX3 := Lib.hid (And.intro hx1 hx2)
        have HK3 := Lib.hid (HKX.out.trans hk3 (by simp))
        clear c0 c1 c2 c3 c4 d0 d1 d2 d3 d4 hk3
        obtain ⟨c0, c1, c2, c3, c4⟩ := cells5 hx1
        obtain ⟨d0, d1, d2, d3, d4⟩ := cells5 hx2
        clear hx1 hx2
        go_wp2_with fail
        refine (HB.out _ HK3.out).mono ?_
        rintro e w4 ⟨rfl, hk4⟩
        have hx1 := blkK HX3.out.1 hk4 (by simp)
        have hx2 := blkK HX3.out.2 hk4 (by simp)
        have HK4 := Lib.hid (HK3.out.trans hk4 (by simp))
        clear c0 c1 c2 c3 c4 d0 d1 d2 d3 d4 hk4
        obtain ⟨c0, c1, c2, c3, c4⟩ := cells5 hx1
        obtain ⟨d0, d1, d2, d3, d4⟩ := cells5 hx2
        clear hx1 hx2
        go_wp2_with fail
        refine (HC.out _ HK4.out).mono ?_
        rintro e w5 ⟨rfl, hk5⟩
        have HK5 := Lib.hid (HKW.out.trans (HK4.out.trans hk5 (by simp)) (by simp))
        clear hk5 c0 c1 c2 c3 c4 d0 d1 d2 d3 d4
        go_wp2_with fail
        go_roundw
        case rel => exact ⟨i + 1, by omega, by go_num, HK5.out⟩
        case measure => simp [RowKit.intOf]; omega
      have HCUT := Lib.hid hcut
      clear hcut a_in a_out
      refine wp_regionB [3, 7, 8, 9, 10] (fun w' => Keep [] wr w') (by kernel_rfl) ?_
      refine wpAnyB_takeY (i := 0) (v := ?vA0) rfl (by kernel_rfl) (by kernel_rfl) (by kernel_rfl) (by kernel_rfl) (fun _ _ _ h => h) (Or.inl ⟨by kernel_rfl, ?runA0⟩) ?_
      case runA0 => (intro w9 _; go_simp; try exact rfl)
      try simp only [Act.put, List.setIfInBounds_toArray, List.set_cons_zero, List.set_cons_succ]
      refine wpAnyB_takeY (i := 1) (v := ?vA1) rfl (by kernel_rfl) (by kernel_rfl) (by kernel_rfl) (by kernel_rfl) (fun _ _ _ h => h) (Or.inl ⟨by kernel_rfl, ?runA1⟩) ?_
      case runA1 => (intro w9 _; go_simp; try exact rfl)
      try simp only [Act.put, List.setIfInBounds_toArray, List.set_cons_zero, List.set_cons_succ]
      refine wpAnyB_takeY (i := 2) (v := ?vA2) rfl (by kernel_rfl) (by kernel_rfl) (by kernel_rfl) (by kernel_rfl) (fun _ _ _ h => h) (Or.inl ⟨by kernel_rfl, ?runA2⟩) ?_
      case runA2 => (intro w9 _; go_simp; try exact rfl)
      try simp only [Act.put, List.setIfInBounds_toArray, List.set_cons_zero, List.set_cons_succ]
      refine wpAnyB_takeY (i := 4) (v := ?vA4) rfl (by kernel_rfl) (by kernel_rfl) (by kernel_rfl) (by kernel_rfl) (fun _ _ _ h => h) (Or.inl ⟨by kernel_rfl, ?runA4⟩) ?_
      case runA4 => (intro w9 _; go_simp; try exact rfl)
      try simp only [Act.put, List.setIfInBounds_toArray, List.set_cons_zero, List.set_cons_succ]
      refine wpAnyB_takeY (i := 5) (v := ?vA5) rfl (by kernel_rfl) (by kernel_rfl) (by kernel_rfl) (by kernel_rfl) (fun _ _ _ h => h) (Or.inl ⟨by kernel_rfl, ?runA5⟩) ?_
      case runA5 => (intro w9 _; go_simp; try exact rfl)
      try simp only [Act.put, List.setIfInBounds_toArray, List.set_cons_zero, List.set_cons_succ]
      refine wpAnyB_takeY (i := 6) (v := ?vA6) rfl (by kernel_rfl) (by kernel_rfl) (by kernel_rfl) (by kernel_rfl) (fun _ _ _ h => h) (Or.inl ⟨by kernel_rfl, ?runA6⟩) ?_
      case runA6 => (intro w9 _; go_simp; try exact rfl)
      try simp only [Act.put, List.setIfInBounds_toArray, List.set_cons_zero, List.set_cons_succ]
      refine wpAnyB_take [7, 8, 9] (i := 3) (v := ?vA3) rfl (by kernel_rfl) (by kernel_rfl) (by kernel_rfl) (by kernel_rfl) (by kernel_rfl) (fun _ _ _ h => h) (Or.inl ⟨by kernel_rfl, ?runA3⟩) ((Keep.refl [] wr).drew) ?_
      case runA3 => (intro w9 hS9; obtain ⟨x0, x1, x2, x3, x4, y0, y1, y2, y3, y4⟩ := And.intro (hS9.cell (p := ⟨ab, aoff + i * 5, none⟩) HAL.out (by simp) |>.trans HAC.out.1) (And.intro (hS9.cell (p := ⟨ab, aoff + i * 5 + 1, none⟩) HAL.out (by simp) |>.trans HAC.out.2.1) (And.intro (hS9.cell (p := ⟨ab, aoff + i * 5 + 2, none⟩) HAL.out (by simp) |>.trans HAC.out.2.2.1) (And.intro (hS9.cell (p := ⟨ab, aoff + i * 5 + 3, none⟩) HAL.out (by simp) |>.trans HAC.out.2.2.2.1) (And.intro (hS9.cell (p := ⟨ab, aoff + i * 5 + 4, none⟩) HAL.out (by simp) |>.trans HAC.out.2.2.2.2) (And.intro (hS9.cell (p := ⟨bb, boff + i * 5, none⟩) HBL.out (by simp) |>.trans HBC.out.1) (And.intro (hS9.cell (p := ⟨bb, boff + i * 5 + 1, none⟩) HBL.out (by simp) |>.trans HBC.out.2.1) (And.intro (hS9.cell (p := ⟨bb, boff + i * 5 + 2, none⟩) HBL.out (by simp) |>.trans HBC.out.2.2.1) (And.intro (hS9.cell (p := ⟨bb, boff + i * 5 + 3, none⟩) HBL.out (by simp) |>.trans HBC.out.2.2.2.1) (hS9.cell (p := ⟨bb, boff + i * 5 + 4, none⟩) HBL.out (by simp) |>.trans HBC.out.2.2.2.2))))))))); go_simp; try exact rfl)
      try simp only [Act.put, List.setIfInBounds_toArray, List.set_cons_zero, List.set_cons_succ]
      refine wpAnyB_take [8, 9, 10] (i := 7) (v := ?vA7) rfl (by kernel_rfl) (by kernel_rfl) (by kernel_rfl) (by kernel_rfl) (by kernel_rfl) (fun _ _ _ h => h) (Or.inl ⟨by kernel_rfl, ?runA7⟩) ((Keep.refl [] wr).drew) ?_
      case runA7 => (intro w9 hS9; obtain ⟨x0, x1, x2, x3, x4, y0, y1, y2, y3, y4⟩ := And.intro (hS9.cell (p := ⟨ab, aoff + i * 5, none⟩) HAL.out (by simp) |>.trans HAC.out.1) (And.intro (hS9.cell (p := ⟨ab, aoff + i * 5 + 1, none⟩) HAL.out (by simp) |>.trans HAC.out.2.1) (And.intro (hS9.cell (p := ⟨ab, aoff + i * 5 + 2, none⟩) HAL.out (by simp) |>.trans HAC.out.2.2.1) (And.intro (hS9.cell (p := ⟨ab, aoff + i * 5 + 3, none⟩) HAL.out (by simp) |>.trans HAC.out.2.2.2.1) (And.intro (hS9.cell (p := ⟨ab, aoff + i * 5 + 4, none⟩) HAL.out (by simp) |>.trans HAC.out.2.2.2.2) (And.intro (hS9.cell (p := ⟨bb, boff + i * 5, none⟩) HBL.out (by simp) |>.trans HBC.out.1) (And.intro (hS9.cell (p := ⟨bb, boff + i * 5 + 1, none⟩) HBL.out (by simp) |>.trans HBC.out.2.1) (And.intro (hS9.cell (p := ⟨bb, boff + i * 5 + 2, none⟩) HBL.out (by simp) |>.trans HBC.out.2.2.1) (And.intro (hS9.cell (p := ⟨bb, boff + i * 5 + 3, none⟩) HBL.out (by simp) |>.trans HBC.out.2.2.2.1) (hS9.cell (p := ⟨bb, boff + i * 5 + 4, none⟩) HBL.out (by simp) |>.trans HBC.out.2.2.2.2))))))))); go_simp; try exact rfl)
      try simp only [Act.put, List.setIfInBounds_toArray, List.set_cons_zero, List.set_cons_succ]
      refine wpAnyB_ready (rs := [8, 9]) (by kernel_rfl) (by simp) ?_
      refine AllReadyB.cons rfl (fun K hK => ?_) (AllReadyB.cons rfl (fun K hK => ?_) AllReadyB.nil)
      · go_simp
        refine hK.out _ _ (fun _ => (Keep.refl [] wr).drew.alloc _) ?_
        clear hK K
        try simp only [Act.put, List.setIfInBounds_toArray, List.set_cons_zero, List.set_cons_succ]
        refine wpAnyB_ready (rs := [9]) (by kernel_rfl) (by simp) ?_
        refine AllReadyB.cons rfl (fun K hK => ?_) AllReadyB.nil
        go_simp
        refine hK.out _ _ (fun h => ((Keep.refl [] wr).drew.alloc _).alloc _) ?_
        clear hK K
        try simp only [Act.put, List.setIfInBounds_toArray, List.set_cons_zero, List.set_cons_succ]
        have hk2 : Keep [] wr (((wr.alloc zC).alloc zC).drew) := (((Keep.refl [] wr).alloc zC).alloc zC).drew
        have hz1 : (((wr.alloc zC).alloc zC).drew).heap[wr.heap.size]? = some zC := blkK (blkK (heap_alloc_new wr zC) ((Keep.refl [] _).alloc zC) (by simp)) (Keep.refl [] _).drew (by simp)
        have hz2 : (((wr.alloc zC).alloc zC).drew).heap[wr.heap.size + 1]? = some zC := blkK (by have h := heap_alloc_new (wr.alloc zC) zC; rw [size_alloc] at h; exact h) (Keep.refl [] _).drew (by simp)
        generalize ((wr.alloc zC).alloc zC).drew = W2 at *
        obtain ⟨bx1, hb1⟩ : ∃ b, b = wr.heap.size := ⟨_, rfl⟩
        obtain ⟨bx2, hb2⟩ : ∃ b, b = (wr.heap.size + 1) := ⟨_, rfl⟩
        rw [← hb2] at hz2 ⊢
        rw [← hb1] at hz1 ⊢
        have hne : bx1 ≠ bx2 := by omega
        have hge : wr.heap.size ≤ bx1 ∧ wr.heap.size ≤ bx2 := by omega
        clear hb1 hb2
        obtain ⟨hs1, hks1⟩ := set5all hz1 (.slice a1 la.length z1) (.slice a2 lb.length z2) (.slice a3 lc.length z3) (.string N) (.int .i64 at1)
        have hs2 := blkK hz2 hks1 (by simpa using Ne.symm hne)
        obtain ⟨hs3, hks3⟩ := set5all hs2 (.slice b1 la.length y1) (.slice b2 lb.length y2) (.slice b3 lc.length y3) (.string N) (.int .i64 at2)
        have hs4 := blkK hs1 hks3 (by simpa using hne)
        have hk3 := ((hk2.mono (G := [bx1]) (by simp)).trans hks1 (by simp)).mono (G := []) (fun b hb hl => by simp at hb; omega)
        have hk4 := ((hk3.mono (G := [bx2]) (by simp)).trans hks3 (by simp)).mono (G := []) (fun b hb hl => by simp at hb; omega)
        obtain ⟨c0, c1, c2, c3, c4⟩ := cells5 hz1
        have fc := frozenP hz1
        obtain ⟨d0, d1, d2, d3, d4⟩ := cells5 hs2
        have fd := frozenP hs2
        refine wpAnyB_ready (rs := [10]) (by kernel_rfl) (by simp) ?_
        refine AllReadyB.cons rfl (fun K hK => ?_) AllReadyB.nil
        go_simp
        refine hK.out _ _ (fun h => hk3) ?_
        clear hK K
        try simp only [Act.put, List.setIfInBounds_toArray, List.set_cons_zero, List.set_cons_succ]
        refine wpAnyB_ready (rs := [11]) (by kernel_rfl) (by simp) ?_
        refine AllReadyB.cons rfl (fun K hK => ?_) AllReadyB.nil
        go_simp
        refine hK.out _ _ (fun h => (nomatch h)) ?_
        clear hK K
        try simp only [Act.put, List.setIfInBounds_toArray, List.set_cons_zero, List.set_cons_succ]
        refine wpAnyB_done (by kernel_rfl) ?_ _
        go_wp2_with fail
        exact HCUT.out _ _ (CutF.mk rfl ⟨rfl, rfl, rfl, rfl, rfl, rfl, rfl, rfl, rfl, rfl, rfl, rfl, bx1, bx2, rfl, rfl, hs4, hs3, hk4⟩)
      · go_simp
        refine hK.out _ _ (fun _ => (Keep.refl [] wr).drew.alloc _) ?_
        clear hK K
        try simp only [Act.put, List.setIfInBounds_toArray, List.set_cons_zero, List.set_cons_succ]
        refine wpAnyB_ready (rs := [8]) (by kernel_rfl) (by simp) ?_
        refine AllReadyB.cons rfl (fun K hK => ?_) AllReadyB.nil
        go_simp
        refine hK.out _ _ (fun h => ((Keep.refl [] wr).drew.alloc _).alloc _) ?_
        clear hK K
        try simp only [Act.put, List.setIfInBounds_toArray, List.set_cons_zero, List.set_cons_succ]
        have hk2 : Keep [] wr (((wr.alloc zC).alloc zC).drew) := (((Keep.refl [] wr).alloc zC).alloc zC).drew
        have hz1 : (((wr.alloc zC).alloc zC).drew).heap[wr.heap.size]? = some zC := blkK (blkK (heap_alloc_new wr zC) ((Keep.refl [] _).alloc zC) (by simp)) (Keep.refl [] _).drew (by simp)
        have hz2 : (((wr.alloc zC).alloc zC).drew).heap[wr.heap.size + 1]? = some zC := blkK (by have h := heap_alloc_new (wr.alloc zC) zC; rw [size_alloc] at h; exact h) (Keep.refl [] _).drew (by simp)
        generalize ((wr.alloc zC).alloc zC).drew = W2 at *
        obtain ⟨bx1, hb1⟩ : ∃ b, b = (wr.heap.size + 1) := ⟨_, rfl⟩
        obtain ⟨bx2, hb2⟩ : ∃ b, b = wr.heap.size := ⟨_, rfl⟩
        rw [← hb1] at hz2 ⊢
        rw [← hb2] at hz1 ⊢
        have hne : bx1 ≠ bx2 := by omega
        have hge : wr.heap.size ≤ bx1 ∧ wr.heap.size ≤ bx2 := by omega
        clear hb1 hb2
        obtain ⟨hs1, hks1⟩ := set5all hz2 (.slice a1 la.length z1) (.slice a2 lb.length z2) (.slice a3 lc.length z3) (.string N) (.int .i64 at1)
        have hs2 := blkK hz1 hks1 (by simpa using Ne.symm hne)
        obtain ⟨hs3, hks3⟩ := set5all hs2 (.slice b1 la.length y1) (.slice b2 lb.length y2) (.slice b3 lc.length y3) (.string N) (.int .i64 at2)
        have hs4 := blkK hs1 hks3 (by simpa using hne)
        have hk3 := ((hk2.mono (G := [bx1]) (by simp)).trans hks1 (by simp)).mono (G := []) (fun b hb hl => by simp at hb; omega)
        have hk4 := ((hk3.mono (G := [bx2]) (by simp)).trans hks3 (by simp)).mono (G := []) (fun b hb hl => by simp at hb; omega)
        obtain ⟨c0, c1, c2, c3, c4⟩ := cells5 hz2
        have fc := frozenP hz2
        obtain ⟨d0, d1, d2, d3, d4⟩ := cells5 hs2
        have fd := frozenP hs2
        refine wpAnyB_ready (rs := [10]) (by kernel_rfl) (by simp) ?_
        refine AllReadyB.cons rfl (fun K hK => ?_) AllReadyB.nil
        go_simp
        refine hK.out _ _ (fun h => hk3) ?_
        clear hK K
        try simp only [Act.put, List.setIfInBounds_toArray, List.set_cons_zero, List.set_cons_succ]
        refine wpAnyB_ready (rs := [11]) (by kernel_rfl) (by simp) ?_
        refine AllReadyB.cons rfl (fun K hK => ?_) AllReadyB.nil
        go_simp
        refine hK.out _ _ (fun h => (nomatch h)) ?_
        clear hK K
        try simp only [Act.put, List.setIfInBounds_toArray, List.set_cons_zero, List.set_cons_succ]
        refine wpAnyB_done (by kernel_rfl) ?_ _
        go_wp2_with fail
        exact HCUT.out _ _ (CutF.mk rfl ⟨rfl, rfl, rfl, rfl, rfl, rfl, rfl, rfl, rfl, rfl, rfl, rfl, bx1, bx2, rfl, rfl, hs4, hs3, hk4⟩)
    · obtain rfl : i = l.length := by omega
      clear hkw hi
      go_wp2_with fail
      go_ret
      exact ⟨rfl, HKW.out⟩

theorem sameC : ∀ m, SameC m
  | 0 => by
    constructor <;> intros <;> omega
  | m + 1 => by
    have ih := sameC m
    have le : ∀ k, k ≤ m → SameC k := fun k hk => ⟨fun a b c => ih.same a b (by omega), fun a b c => ih.nodes a b (by omega), fun a b c => ih.clauses a b (by omega)⟩
    constructor
    · intro w S S' cs cs' n h h' hm; exact w_same (le _ (by omega)) h h'
    · intro w S S' v v' l h h' hm; exact w_nodes (le _ (by omega)) h h'
    · intro w S S' v v' l h h' hm; exact w_clauses (le _ (by omega)) h h'
theorem p_same {w : World} {S S' : Nat → Prop} {cs cs' : List Value} {n : Nd} (h : NdR S w false cs n) (h' : NdR S' w false cs' n) : Calls Tryz.prog 97 #[.agg cs.toArray, .agg cs'.toArray, .bool false] w (YesP w) :=
  w_same (sameC _) h h'

end Go.Proofs.YtdmmhfbafinkpaaGreatDoor
