import Derived.Test.YtdmmhfbafinkpaaDoorPa20
/- Parse: the document's Same of equal trees. Printed by gen-pa21.py. -/
namespace Go.Proofs.YtdmmhfbafinkpaaDoor
open Go.RowKit Go.Emb Go.Shelf

theorem NsR.atk {S : Nat → Prop} {w : World} {k : Bool} {a : Option Addr} {n c : Nat} {l : List Nd} (h : NsR S w k (.slice a n c) l) {i : Nat} (hi : i < l.length) :
    ∃ b off cs, a = some ⟨b, off, none⟩ ∧ S b ∧ NdR S w k cs l[i] ∧ ∀ j, j < wid k → w.cell? ⟨b, off + i * wid k + j, none⟩ = cs[j]? := by
  obtain ⟨es, o, ⟨-, a', c', e, h1, h2, h3⟩, hs, hl, ht⟩ := h
  cases e
  rcases h3 with ⟨h3, _⟩ | ⟨b, off, rfl, ho, h3⟩
  · rw [h3] at hi; simp at hi
  · have h7 : ∀ e ∈ es, e.length = wid k := fun e he => by
      obtain ⟨j, hj, rfl⟩ := List.mem_iff_getElem.1 he
      exact (ht j hj (by omega)).len
    refine ⟨b, off, es[i], rfl, hs b ho, ht i (by omega) hi, fun j hj => ?_⟩
    rw [Nat.add_assoc]
    have := flat_at es (wid k) h7 i (by omega) j hj
    rw [← this]
    refine h3 _ ?_
    have h9 : (i + 1) * wid k ≤ l.length * wid k := Nat.mul_le_mul_right _ hi
    rw [Nat.succ_mul] at h9
    omega
theorem NdR.pair7 {S S' : Nat → Prop} {w : World} {cs cs' : List Value} {n : Nd} (h : NdR S w false cs n) (h' : NdR S' w false cs' n) :
    ∃ kind num name a b c at1 va vb vc at2 ua ub uc, n = .mk kind num name a b c ∧ cs = [.int .i64 kind, .int .i64 num, .string ⟨name.toArray⟩, .int .i64 at1, va, vb, vc] ∧ cs' = [.int .i64 kind, .int .i64 num, .string ⟨name.toArray⟩, .int .i64 at2, ua, ub, uc] ∧
      NsR S w false va a ∧ NsR S w true vb b ∧ NsR S w false vc c ∧ NsR S' w false ua a ∧ NsR S' w true ub b ∧ NsR S' w false uc c := by
  obtain ⟨kind, num, at1, name, a, b, c, va, vb, vc, rfl, rfl, h1, h2, h3⟩ := h.un7
  obtain ⟨kind', num', at2, name', a', b', c', ua, ub, uc, rfl, e, g1, g2, g3⟩ := h'.un7
  injection e with e1 e2 e3 e4 e5 e6
  subst e1 e2 e3 e4 e5 e6
  exact ⟨_, _, _, _, _, _, _, _, _, _, _, _, _, _, rfl, rfl, rfl, h1, h2, h3, g1, g2, g3⟩
theorem NdR.pair5 {S S' : Nat → Prop} {w : World} {cs cs' : List Value} {n : Nd} (h : NdR S w true cs n) (h' : NdR S' w true cs' n) :
    ∃ name a b c at1 va vb vc at2 ua ub uc, n = .mk 0 0 name a b c ∧ cs = [va, vb, vc, .string ⟨name.toArray⟩, .int .i64 at1] ∧ cs' = [ua, ub, uc, .string ⟨name.toArray⟩, .int .i64 at2] ∧
      NsR S w false va a ∧ NsR S w false vb b ∧ NsR S w false vc c ∧ NsR S' w false ua a ∧ NsR S' w false ub b ∧ NsR S' w false uc c := by
  obtain ⟨at1, name, a, b, c, va, vb, vc, rfl, rfl, h1, h2, h3⟩ := h.un5
  obtain ⟨at2, name', a', b', c', ua, ub, uc, rfl, e, g1, g2, g3⟩ := h'.un5
  injection e with e1 e2 e3 e4 e5 e6
  subst e3 e4 e5 e6
  exact ⟨_, _, _, _, _, _, _, _, _, _, _, _, rfl, rfl, rfl, h1, h2, h3, g1, g2, g3⟩
def YesP (w : World) (e : Ending) (w' : World) : Prop := e = .returned (.bool true) ∧ Keep [] w w'
structure SameC (m : Nat) : Prop where
  same : ∀ {w : World} {S S' : Nat → Prop} {cs cs' : List Value} {n : Nd}, NdR S w false cs n → NdR S' w false cs' n → SizeOf.sizeOf n < m → Calls Tryd.prog 9 #[.agg cs.toArray, .agg cs'.toArray, .bool false] w (YesP w)
  nodes : ∀ {w : World} {S S' : Nat → Prop} {v v' : Value} {l : List Nd}, NsR S w false v l → NsR S' w false v' l → SizeOf.sizeOf l < m → Calls Tryd.prog 15 #[v, v', .bool false] w (YesP w)
  clauses : ∀ {w : World} {S S' : Nat → Prop} {v v' : Value} {l : List Nd}, NsR S w true v l → NsR S' w true v' l → SizeOf.sizeOf l < m → Calls Tryd.prog 16 #[v, v', .bool false] w (YesP w)
set_option maxRecDepth 100000 in
set_option maxHeartbeats 2000000 in
theorem w_same {w : World} {S S' : Nat → Prop} {cs cs' : List Value} {n : Nd} (ih : SameC (SizeOf.sizeOf n)) (h : NdR S w false cs n) (h' : NdR S' w false cs' n) :
    Calls Tryd.prog 9 #[.agg cs.toArray, .agg cs'.toArray, .bool false] w (YesP w) := by
  obtain ⟨kind, num, name, a, b, c, at1, va, vb, vc, at2, ua, ub, uc, rfl, rfl, rfl, h1, h2, h3, g1, g2, g3⟩ := h.pair7 h'
  have HA := Lib.hid (fun (W : World) (hk : Keep [] w W) => ih.nodes (h1.keep hk (by simp)) (g1.keep hk (by simp)) (by simp; omega))
  have HB := Lib.hid (fun (W : World) (hk : Keep [] w W) => ih.clauses (h2.keep hk (by simp)) (g2.keep hk (by simp)) (by simp; omega))
  have HC := Lib.hid (fun (W : World) (hk : Keep [] w W) => ih.nodes (h3.keep hk (by simp)) (g3.keep hk (by simp)) (by simp; omega))
  obtain ⟨q1, r1, rfl⟩ := h1.form
  obtain ⟨q2, r2, rfl⟩ := h2.form
  obtain ⟨q3, r3, rfl⟩ := h3.form
  obtain ⟨q4, r4, rfl⟩ := g1.form
  obtain ⟨q5, r5, rfl⟩ := g2.form
  obtain ⟨q6, r6, rfl⟩ := g3.form
  clear h1 h2 h3 g1 g2 g3 ih h h'
  have hk2 := ((Keep.refl [] w).alloc (.cells #[.int .i64 kind, .int .i64 num, .string ⟨name.toArray⟩, .int .i64 at1, .slice q1 a.length r1, .slice q2 b.length r2, .slice q3 c.length r3] 26)).alloc (.cells #[.int .i64 kind, .int .i64 num, .string ⟨name.toArray⟩, .int .i64 at2, .slice q4 a.length r4, .slice q5 b.length r5, .slice q6 c.length r6] 26)
  have hx1 := blkK (heap_alloc_new w (.cells #[.int .i64 kind, .int .i64 num, .string ⟨name.toArray⟩, .int .i64 at1, .slice q1 a.length r1, .slice q2 b.length r2, .slice q3 c.length r3] 26)) ((Keep.refl [] _).alloc (.cells #[.int .i64 kind, .int .i64 num, .string ⟨name.toArray⟩, .int .i64 at2, .slice q4 a.length r4, .slice q5 b.length r5, .slice q6 c.length r6] 26)) (by simp)
  have hx2 := heap_alloc_new (w.alloc (.cells #[.int .i64 kind, .int .i64 num, .string ⟨name.toArray⟩, .int .i64 at1, .slice q1 a.length r1, .slice q2 b.length r2, .slice q3 c.length r3] 26)) (.cells #[.int .i64 kind, .int .i64 num, .string ⟨name.toArray⟩, .int .i64 at2, .slice q4 a.length r4, .slice q5 b.length r5, .slice q6 c.length r6] 26)
  rw [size_alloc] at hx2
  obtain ⟨c0, c1, c2, c3, c4, c5, c6⟩ := cells7 hx1
  obtain ⟨d0, d1, d2, d3, d4, d5, d6⟩ := cells7 hx2
  have HK2 := Lib.hid hk2
  have HX := Lib.hid (And.intro hx1 hx2)
  clear hk2 hx1 hx2
  obtain ⟨N, hN⟩ : ∃ N : ByteArray, N = ⟨name.toArray⟩ := ⟨_, rfl⟩
  go_enter Tryd.func9, Tryd.ntmps9
  go_wp2_with fail
  refine (HA.out _ HK2.out).mono ?_
  rintro e w3 ⟨rfl, hk3⟩
  clear c0 c1 c2 c3 c4 c5 c6 d0 d1 d2 d3 d4 d5 d6
  have hx1 := blkK HX.out.1 hk3 (by simp)
  have hx2 := blkK HX.out.2 hk3 (by simp)
  have HK3 := Lib.hid (HK2.out.trans hk3 (by simp))
  obtain ⟨c0, c1, c2, c3, c4, c5, c6⟩ := cells7 hx1
  obtain ⟨d0, d1, d2, d3, d4, d5, d6⟩ := cells7 hx2
  have HX3 := Lib.hid (And.intro hx1 hx2)
  clear hx1 hx2 hk3
  go_wp2_with fail
  refine (HB.out _ HK3.out).mono ?_
  rintro e w4 ⟨rfl, hk4⟩
  clear c0 c1 c2 c3 c4 c5 c6 d0 d1 d2 d3 d4 d5 d6
  have hx1 := blkK HX3.out.1 hk4 (by simp)
  have hx2 := blkK HX3.out.2 hk4 (by simp)
  have HK4 := Lib.hid (HK3.out.trans hk4 (by simp))
  obtain ⟨c0, c1, c2, c3, c4, c5, c6⟩ := cells7 hx1
  obtain ⟨d0, d1, d2, d3, d4, d5, d6⟩ := cells7 hx2
  clear hx1 hx2 hk4
  go_wp2_with fail
  refine (HC.out _ HK4.out).mono ?_
  rintro e w5 ⟨rfl, hk5⟩
  have HK5 := Lib.hid (HK4.out.trans hk5 (by simp))
  clear hk5
  go_wp2_with fail
  go_ret
  exact ⟨rfl, HK5.out⟩
end Go.Proofs.YtdmmhfbafinkpaaDoor
