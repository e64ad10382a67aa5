/- ParsePrints: a part of the proof (Pb10, Pb11, Pb12, Pb13, Qr), squeezed by squeeze.py. -/
import Derived.Test.YtdmmhfbafinkpaaGreatDoorY13
import Derived.Test.YtdmmhfbafinkpaaGreatDoorY07
set_option maxRecDepth 100000
set_option maxHeartbeats 8000000
namespace Go.Proofs.YtdmmhfbafinkpaaGreatDoor
open Go.RowKit Go.Emb
theorem tx_op {B : Nat} {k v : Int} {t : List UInt8} {a b : Nd} {x y : List It} (ha : TxT B a x) (hb : TxT B b y) (h4 : 4 ≤ k) (htl : t.length ≤ 100) (hlen : (flat (operI a x)).length + (flat (operI b y)).length ≤ 140737488354000) (hlx : (flat x).length ≤ 140737488354000) (hly : (flat y).length ≤ 140737488354000) :
  TxT B (.mk 9 0 t [a, b] [] []) (operI a x ++ sp :: .t k v t :: sp :: operI b y) := by
 intro w S cs ht hnd; obtain ⟨kd, nu, at1, nm1, a0, b0, c0, va, vb, vc, rfl, hn, h1, h2, h3⟩ := id hnd.un7; injection hn with e1 e2 e3 e4 e5 e6; subst e1 e2 e3 e4 e5 e6; obtain ⟨p1, c1, e1⟩ := h1.form; obtain ⟨p2, c2, e2⟩ := h2.form; obtain ⟨p3, c3, e3⟩ := h3.form; replace e1 : va = .slice p1 2 c1 := e1; replace e2 : vb = .slice p2 0 c2 := e2; replace e3 : vc = .slice p3 0 c3 := e3; subst e1 e2 e3; have hk5 := (Keep.refl [] w).alloc (.cells #[.int .i64 9, .int .i64 0, .string ⟨t.toArray⟩, .int .i64 at1, .slice p1 2 c1, .slice p2 0 c2, .slice p3 0 c3] 29); have hb5 := heap_alloc_new w (.cells #[.int .i64 9, .int .i64 0, .string ⟨t.toArray⟩, .int .i64 at1, .slice p1 2 c1, .slice p2 0 c2, .slice p3 0 c3] 29); obtain ⟨d0, d1, d2, d3, d4, d5, d6⟩ := cells7 hb5; have D0 := hyd (And.intro d0 (And.intro d1 (And.intro d2 (And.intro d3 (And.intro d4 (And.intro d5 d6)))))); have HK5 := hyd hk5; have hT := ht.keep0 hk5; have HT := hyd hT; obtain ⟨aba, aoffa, csa, ea, -, hnda, hcella⟩ := (h1.keep hk5 (by simp)).at7 (i := 0) (by simp); replace hnda : NdR S _ false csa a := hnda; obtain ⟨kda, nua, ata, nma, p1a, n1a, c1a, p2a, n2a, c2a, p3a, n3a, c3a, rfl, -⟩ := id hnda.un7s; have a0 := hcella 0 (by decide); have a1 := hcella 1 (by decide); have a2 := hcella 2 (by decide); have a3 := hcella 3 (by decide); have a4 := hcella 4 (by decide); have a5 := hcella 5 (by decide); have a6 := hcella 6 (by decide); simp only [Nat.zero_mul, Nat.one_mul, Nat.add_zero, List.getElem?_cons_zero, List.getElem?_cons_succ] at a0 a1 a2 a3 a4 a5 a6; have Ea := hyd (And.intro a0 (And.intro a1 (And.intro a2 (And.intro a3 (And.intro a4 (And.intro a5 a6)))))); clear hcella a0 a1 a2 a3 a4 a5 a6; obtain ⟨abb, aoffb, csb, eb, -, hndb, hcellb⟩ := (h1.keep hk5 (by simp)).at7 (i := 1) (by simp); replace hndb : NdR S _ false csb b := hndb; obtain ⟨kdb, nub, atb, nmb, p1b, n1b, c1b, p2b, n2b, c2b, p3b, n3b, c3b, rfl, -⟩ := id hndb.un7s; have b0 := hcellb 0 (by decide); have b1 := hcellb 1 (by decide); have b2 := hcellb 2 (by decide); have b3 := hcellb 3 (by decide); have b4 := hcellb 4 (by decide); have b5 := hcellb 5 (by decide); have b6 := hcellb 6 (by decide); simp only [Nat.zero_mul, Nat.one_mul, Nat.add_zero, List.getElem?_cons_zero, List.getElem?_cons_succ] at b0 b1 b2 b3 b4 b5 b6; have Eb := hyd (And.intro b0 (And.intro b1 (And.intro b2 (And.intro b3 (And.intro b4 (And.intro b5 b6)))))); clear hcellb b0 b1 b2 b3 b4 b5 b6; subst ea
 cases eb
 have HA := hyd (fun W (k : Keep [] (w.alloc _) W) => p_operand (w := W) (hT.keep0 k) (hnda.keep k (by simp)) ha (by omega)); have HB := hyd (fun W (k : Keep [] (w.alloc _) W) => p_operand (w := W) (hT.keep0 k) (hndb.keep k (by simp)) hb (by omega)); have htz : (⟨t.toArray⟩ : ByteArray).size ≤ 100 := by show t.toArray.size ≤ 100; rw [List.size_toArray]; exact htl
 clear hb5 hk5 hnd h1 h2 h3 ht hT ha hb hnda hndb; go_enter Tryz.func10, Tryz.ntmps10; go_wp2_with fail; generalize w.alloc _ = w5 at *; clear d0 d1 d2 d3 d4 d5 d6; refine wp_region_held_drew (S := fun w' => Keep [] w5 w') (by kernel_rfl) ((Keep.refl [] w5).drew) (fun hHeld => ?_); refine tkL 0 ?v0 rfl ?run0 hHeld ?_
 case run0 => (intro w9 hS9; obtain ⟨q0, q1, q2, q3, q4, q5, q6⟩ := ck7 hS9 D0.o; obtain ⟨a0, a1, a2, a3, a4, a5, a6⟩ := ck7 hS9 Ea.o; obtain ⟨b0, b1, b2, b3, b4, b5, b6⟩ := ck7 hS9 Eb.o; go_simp; try exact rfl)
 try simp only [Act.put, lA, lZ, lS]
 refine tkL 1 ?v1 rfl ?run1 hHeld ?_
 case run1 => (intro w9 hS9; obtain ⟨q0, q1, q2, q3, q4, q5, q6⟩ := ck7 hS9 D0.o; obtain ⟨a0, a1, a2, a3, a4, a5, a6⟩ := ck7 hS9 Ea.o; obtain ⟨b0, b1, b2, b3, b4, b5, b6⟩ := ck7 hS9 Eb.o; go_simp; try exact rfl)
 try simp only [Act.put, lA, lZ, lS]
 refine tkL 2 ?v2 rfl ?run2 hHeld ?_
 case run2 => (intro w9 hS9; obtain ⟨q0, q1, q2, q3, q4, q5, q6⟩ := ck7 hS9 D0.o; obtain ⟨a0, a1, a2, a3, a4, a5, a6⟩ := ck7 hS9 Ea.o; obtain ⟨b0, b1, b2, b3, b4, b5, b6⟩ := ck7 hS9 Eb.o; go_simp; try exact rfl)
 try simp only [Act.put, lA, lZ, lS]
 refine tkL 3 ?v3 rfl ?run3 hHeld ?_
 case run3 => (intro w9 hS9; obtain ⟨q0, q1, q2, q3, q4, q5, q6⟩ := ck7 hS9 D0.o; obtain ⟨a0, a1, a2, a3, a4, a5, a6⟩ := ck7 hS9 Ea.o; obtain ⟨b0, b1, b2, b3, b4, b5, b6⟩ := ck7 hS9 Eb.o; go_simp; try exact rfl)
 try simp only [Act.put, lA, lZ, lS]
 refine tkL 6 ?v6 rfl ?run6 hHeld ?_
 case run6 => (intro w9 hS9; obtain ⟨q0, q1, q2, q3, q4, q5, q6⟩ := ck7 hS9 D0.o; obtain ⟨a0, a1, a2, a3, a4, a5, a6⟩ := ck7 hS9 Ea.o; obtain ⟨b0, b1, b2, b3, b4, b5, b6⟩ := ck7 hS9 Eb.o; go_simp; try exact rfl)
 try simp only [Act.put, lA, lZ, lS]
 refine tkL 7 ?v7 rfl ?run7 hHeld ?_
 case run7 => (intro w9 hS9; obtain ⟨q0, q1, q2, q3, q4, q5, q6⟩ := ck7 hS9 D0.o; obtain ⟨a0, a1, a2, a3, a4, a5, a6⟩ := ck7 hS9 Ea.o; obtain ⟨b0, b1, b2, b3, b4, b5, b6⟩ := ck7 hS9 Eb.o; go_simp; try exact rfl)
 try simp only [Act.put, lA, lZ, lS]
 refine tkL 10 ?v10 rfl ?run10 hHeld ?_
 case run10 => (intro w9 hS9; obtain ⟨q0, q1, q2, q3, q4, q5, q6⟩ := ck7 hS9 D0.o; obtain ⟨a0, a1, a2, a3, a4, a5, a6⟩ := ck7 hS9 Ea.o; obtain ⟨b0, b1, b2, b3, b4, b5, b6⟩ := ck7 hS9 Eb.o; go_simp; try exact rfl)
 try simp only [Act.put, lA, lZ, lS]
 refine tkL 11 ?v11 rfl ?run11 hHeld ?_
 case run11 => (intro w9 hS9; obtain ⟨q0, q1, q2, q3, q4, q5, q6⟩ := ck7 hS9 D0.o; obtain ⟨a0, a1, a2, a3, a4, a5, a6⟩ := ck7 hS9 Ea.o; obtain ⟨b0, b1, b2, b3, b4, b5, b6⟩ := ck7 hS9 Eb.o; go_simp; try exact rfl)
 try simp only [Act.put, lA, lZ, lS]
 refine tkL 12 ?v12 rfl ?run12 hHeld ?_
 case run12 => (intro w9 hS9; obtain ⟨q0, q1, q2, q3, q4, q5, q6⟩ := ck7 hS9 D0.o; obtain ⟨a0, a1, a2, a3, a4, a5, a6⟩ := ck7 hS9 Ea.o; obtain ⟨b0, b1, b2, b3, b4, b5, b6⟩ := ck7 hS9 Eb.o; go_simp; try exact rfl)
 try simp only [Act.put, lA, lZ, lS]
 refine tkL 13 ?v13 rfl ?run13 hHeld ?_
 case run13 => (intro w9 hS9; obtain ⟨q0, q1, q2, q3, q4, q5, q6⟩ := ck7 hS9 D0.o; obtain ⟨a0, a1, a2, a3, a4, a5, a6⟩ := ck7 hS9 Ea.o; obtain ⟨b0, b1, b2, b3, b4, b5, b6⟩ := ck7 hS9 Eb.o; go_simp; try exact rfl)
 try simp only [Act.put, lA, lZ, lS]
 refine rdH 4 rfl (fun K hK => ?_); go_simp; refine (HA.o _ (((Keep.refl [] w5).drew))).mono ?_; rintro e wc1 ⟨⟨X, rfl, hX⟩, hc⟩; have HC1 := hyd ((((Keep.refl [] w5).drew)).trans hc (by simp)); have hsX : X.size = (flat (operI a x)).length := by rw [size_list X, hX]
 have HXX := hyd hX; clear hX hc; go_wp2_with fail; refine hK.out _ _ HC1.o (fun hHeld2 => ?_); clear hK K hHeld; have hHeld := hHeld2; clear hHeld2
 try simp only [Act.put, lA, lZ, lS]
 refine tkL 5 (.string (X ++ ⟨#[32]⟩)) rfl ?run5 hHeld ?_
 case run5 => (intro w9 hS9; go_simp; first | done | omega | (simp; omega))
 try simp only [Act.put, lA, lZ, lS]
 refine tkL 8 (.string (X ++ ⟨#[32]⟩ ++ ⟨t.toArray⟩)) rfl ?run8 hHeld ?_
 case run8 => (intro w9 hS9; go_simp; first | done | omega | (simp; omega))
 try simp only [Act.put, lA, lZ, lS]
 refine tkL 9 (.string (X ++ ⟨#[32]⟩ ++ ⟨t.toArray⟩ ++ ⟨#[32]⟩)) rfl ?run9 hHeld ?_
 case run9 => (intro w9 hS9; go_simp; first | done | omega | (simp; omega))
 try simp only [Act.put, lA, lZ, lS]
 refine rdH 14 rfl (fun K hK => ?_); go_simp; refine (HB.o _ (HC1.o)).mono ?_; rintro e wc2 ⟨⟨Y, rfl, hY⟩, hc⟩; have HC2 := hyd ((HC1.o).trans hc (by simp)); have hsY : Y.size = (flat (operI b y)).length := by rw [size_list Y, hY]
 have HXY := hyd hY; clear hY hc; go_wp2_with fail; refine hK.out _ _ HC2.o (fun hHeld2 => ?_); clear hK K hHeld; have hHeld := hHeld2; clear hHeld2
 try simp only [Act.put, lA, lZ, lS]
 refine tkL 15 (.string (X ++ ⟨#[32]⟩ ++ ⟨t.toArray⟩ ++ ⟨#[32]⟩ ++ Y)) rfl ?run15 hHeld ?_
 case run15 => (intro w9 hS9; go_simp; first | done | omega | (simp; omega))
 try simp only [Act.put, lA, lZ, lS]
 refine tkL 16 ?v16 rfl ?run16 hHeld ?_
 case run16 => (intro w9 hS9; go_simp; try exact rfl)
 try simp only [Act.put, lA, lZ, lS]
 refine wpAnyH_done (by kernel_rfl) ?_ _; go_wp2_with fail; go_ret; exact ⟨⟨_, rfl, by ((have h1 : ¬ k = 1 := by omega); (have h2 : ¬ k = 2 := by omega); simp [HXX.o, HXY.o, h1, h2, flat_cons, flat_app, flat_nil, It.text])⟩, HK5.o.trans HC2.o (by simp)⟩
theorem tx_un {B : Nat} {k v : Int} {t : List UInt8} {a : Nd} {x : List It} (ha : TxT B a x) (h4 : 4 ≤ k) (htl : t.length ≤ 100) (hlen : (flat (operI a x)).length ≤ 140737488354000) (hlx : (flat x).length ≤ 140737488354000) :
  TxT B (.mk 10 0 t [a] [] []) (.t k v t :: sp :: operI a x) := by
 intro w S cs ht hnd; obtain ⟨kd, nu, at1, nm1, a0, b0, c0, va, vb, vc, rfl, hn, h1, h2, h3⟩ := id hnd.un7; injection hn with e1 e2 e3 e4 e5 e6; subst e1 e2 e3 e4 e5 e6; obtain ⟨p1, c1, e1⟩ := h1.form; obtain ⟨p2, c2, e2⟩ := h2.form; obtain ⟨p3, c3, e3⟩ := h3.form; replace e1 : va = .slice p1 1 c1 := e1; replace e2 : vb = .slice p2 0 c2 := e2; replace e3 : vc = .slice p3 0 c3 := e3; subst e1 e2 e3; have hk5 := (Keep.refl [] w).alloc (.cells #[.int .i64 10, .int .i64 0, .string ⟨t.toArray⟩, .int .i64 at1, .slice p1 1 c1, .slice p2 0 c2, .slice p3 0 c3] 29); have hb5 := heap_alloc_new w (.cells #[.int .i64 10, .int .i64 0, .string ⟨t.toArray⟩, .int .i64 at1, .slice p1 1 c1, .slice p2 0 c2, .slice p3 0 c3] 29); obtain ⟨d0, d1, d2, d3, d4, d5, d6⟩ := cells7 hb5; have D0 := hyd (And.intro d0 (And.intro d1 (And.intro d2 (And.intro d3 (And.intro d4 (And.intro d5 d6)))))); have HK5 := hyd hk5; have hT := ht.keep0 hk5; have HT := hyd hT; obtain ⟨aba, aoffa, csa, ea, -, hnda, hcella⟩ := (h1.keep hk5 (by simp)).at7 (i := 0) (by simp); replace hnda : NdR S _ false csa a := hnda; obtain ⟨kda, nua, ata, nma, p1a, n1a, c1a, p2a, n2a, c2a, p3a, n3a, c3a, rfl, -⟩ := id hnda.un7s; have a0 := hcella 0 (by decide); have a1 := hcella 1 (by decide); have a2 := hcella 2 (by decide); have a3 := hcella 3 (by decide); have a4 := hcella 4 (by decide); have a5 := hcella 5 (by decide); have a6 := hcella 6 (by decide); simp only [Nat.zero_mul, Nat.one_mul, Nat.add_zero, List.getElem?_cons_zero, List.getElem?_cons_succ] at a0 a1 a2 a3 a4 a5 a6; have Ea := hyd (And.intro a0 (And.intro a1 (And.intro a2 (And.intro a3 (And.intro a4 (And.intro a5 a6)))))); clear hcella a0 a1 a2 a3 a4 a5 a6; subst ea; have HA := hyd (fun W (k : Keep [] (w.alloc _) W) => p_operand (w := W) (hT.keep0 k) (hnda.keep k (by simp)) ha (by omega)); have htz : (⟨t.toArray⟩ : ByteArray).size ≤ 100 := by show t.toArray.size ≤ 100; rw [List.size_toArray]; exact htl
 clear hb5 hk5 hnd h1 h2 h3 ht hT ha hnda; go_enter Tryz.func10, Tryz.ntmps10; go_wp2_with fail; generalize w.alloc _ = w5 at *; clear d0 d1 d2 d3 d4 d5 d6; refine wp_region_held_drew (S := fun w' => Keep [] w5 w') (by kernel_rfl) ((Keep.refl [] w5).drew) (fun hHeld => ?_); refine tkL 0 ?v0 rfl ?run0 hHeld ?_
 case run0 => (intro w9 hS9; obtain ⟨q0, q1, q2, q3, q4, q5, q6⟩ := ck7 hS9 D0.o; obtain ⟨a0, a1, a2, a3, a4, a5, a6⟩ := ck7 hS9 Ea.o; go_simp; try exact rfl)
 try simp only [Act.put, lA, lZ, lS]
 refine tkL 1 ?v1 rfl ?run1 hHeld ?_
 case run1 => (intro w9 hS9; obtain ⟨q0, q1, q2, q3, q4, q5, q6⟩ := ck7 hS9 D0.o; obtain ⟨a0, a1, a2, a3, a4, a5, a6⟩ := ck7 hS9 Ea.o; go_simp; try exact rfl)
 try simp only [Act.put, lA, lZ, lS]
 refine tkL 3 ?v3 rfl ?run3 hHeld ?_
 case run3 => (intro w9 hS9; obtain ⟨q0, q1, q2, q3, q4, q5, q6⟩ := ck7 hS9 D0.o; obtain ⟨a0, a1, a2, a3, a4, a5, a6⟩ := ck7 hS9 Ea.o; go_simp; try exact rfl)
 try simp only [Act.put, lA, lZ, lS]
 refine tkL 4 ?v4 rfl ?run4 hHeld ?_
 case run4 => (intro w9 hS9; obtain ⟨q0, q1, q2, q3, q4, q5, q6⟩ := ck7 hS9 D0.o; obtain ⟨a0, a1, a2, a3, a4, a5, a6⟩ := ck7 hS9 Ea.o; go_simp; try exact rfl)
 try simp only [Act.put, lA, lZ, lS]
 refine tkL 5 ?v5 rfl ?run5 hHeld ?_
 case run5 => (intro w9 hS9; obtain ⟨q0, q1, q2, q3, q4, q5, q6⟩ := ck7 hS9 D0.o; obtain ⟨a0, a1, a2, a3, a4, a5, a6⟩ := ck7 hS9 Ea.o; go_simp; try exact rfl)
 try simp only [Act.put, lA, lZ, lS]
 refine tkL 6 ?v6 rfl ?run6 hHeld ?_
 case run6 => (intro w9 hS9; obtain ⟨q0, q1, q2, q3, q4, q5, q6⟩ := ck7 hS9 D0.o; obtain ⟨a0, a1, a2, a3, a4, a5, a6⟩ := ck7 hS9 Ea.o; go_simp; try exact rfl)
 try simp only [Act.put, lA, lZ, lS]
 refine tkL 2 (.string (⟨t.toArray⟩ ++ ⟨#[32]⟩)) rfl ?run2 hHeld ?_
 case run2 => (intro w9 hS9; go_simp; first | done | omega | (simp; omega))
 try simp only [Act.put, lA, lZ, lS]
 refine rdH 7 rfl (fun K hK => ?_); go_simp; refine (HA.o _ (((Keep.refl [] w5).drew))).mono ?_; rintro e wc1 ⟨⟨X, rfl, hX⟩, hc⟩; have HC1 := hyd ((((Keep.refl [] w5).drew)).trans hc (by simp)); have hsX : X.size = (flat (operI a x)).length := by rw [size_list X, hX]
 have HXX := hyd hX; clear hX hc; go_wp2_with fail; refine hK.out _ _ HC1.o (fun hHeld2 => ?_); clear hK K hHeld; have hHeld := hHeld2; clear hHeld2
 try simp only [Act.put, lA, lZ, lS]
 refine tkL 8 (.string (⟨t.toArray⟩ ++ ⟨#[32]⟩ ++ X)) rfl ?run8 hHeld ?_
 case run8 => (intro w9 hS9; go_simp; first | done | omega | (simp; omega))
 try simp only [Act.put, lA, lZ, lS]
 refine tkL 9 ?v9 rfl ?run9 hHeld ?_
 case run9 => (intro w9 hS9; go_simp; try exact rfl)
 try simp only [Act.put, lA, lZ, lS]
 refine wpAnyH_done (by kernel_rfl) ?_ _; go_wp2_with fail; go_ret; exact ⟨⟨_, rfl, by ((have h1 : ¬ k = 1 := by omega); (have h2 : ¬ k = 2 := by omega); simp [HXX.o, h1, h2, flat_cons, flat_app, flat_nil, It.text])⟩, HK5.o.trans HC1.o (by simp)⟩
theorem tx_mat {B : Nat} {a b : Nd} {x y : List It} (ha : TxT B a x) (hb : TxT B b y) (hlen : (flat (operI a x)).length + (flat (operI b y)).length ≤ 140737488354000) (hlx : (flat x).length ≤ 140737488354000) (hly : (flat y).length ≤ 140737488354000) :
  TxT B (.mk 11 0 [] [a, b] [] []) (operI a x ++ sp :: sg 61 :: sp :: operI b y) := by
 intro w S cs ht hnd; obtain ⟨kd, nu, at1, nm1, a0, b0, c0, va, vb, vc, rfl, hn, h1, h2, h3⟩ := id hnd.un7; injection hn with e1 e2 e3 e4 e5 e6; subst e1 e2 e3 e4 e5 e6; obtain ⟨p1, c1, e1⟩ := h1.form; obtain ⟨p2, c2, e2⟩ := h2.form; obtain ⟨p3, c3, e3⟩ := h3.form; replace e1 : va = .slice p1 2 c1 := e1; replace e2 : vb = .slice p2 0 c2 := e2; replace e3 : vc = .slice p3 0 c3 := e3; subst e1 e2 e3; have hk5 := (Keep.refl [] w).alloc (.cells #[.int .i64 11, .int .i64 0, .string ⟨#[]⟩, .int .i64 at1, .slice p1 2 c1, .slice p2 0 c2, .slice p3 0 c3] 29); have hb5 := heap_alloc_new w (.cells #[.int .i64 11, .int .i64 0, .string ⟨#[]⟩, .int .i64 at1, .slice p1 2 c1, .slice p2 0 c2, .slice p3 0 c3] 29); obtain ⟨d0, d1, d2, d3, d4, d5, d6⟩ := cells7 hb5; have D0 := hyd (And.intro d0 (And.intro d1 (And.intro d2 (And.intro d3 (And.intro d4 (And.intro d5 d6)))))); have HK5 := hyd hk5; have hT := ht.keep0 hk5; have HT := hyd hT; obtain ⟨aba, aoffa, csa, ea, -, hnda, hcella⟩ := (h1.keep hk5 (by simp)).at7 (i := 0) (by simp); replace hnda : NdR S _ false csa a := hnda; obtain ⟨kda, nua, ata, nma, p1a, n1a, c1a, p2a, n2a, c2a, p3a, n3a, c3a, rfl, -⟩ := id hnda.un7s; have a0 := hcella 0 (by decide); have a1 := hcella 1 (by decide); have a2 := hcella 2 (by decide); have a3 := hcella 3 (by decide); have a4 := hcella 4 (by decide); have a5 := hcella 5 (by decide); have a6 := hcella 6 (by decide); simp only [Nat.zero_mul, Nat.one_mul, Nat.add_zero, List.getElem?_cons_zero, List.getElem?_cons_succ] at a0 a1 a2 a3 a4 a5 a6; have Ea := hyd (And.intro a0 (And.intro a1 (And.intro a2 (And.intro a3 (And.intro a4 (And.intro a5 a6)))))); clear hcella a0 a1 a2 a3 a4 a5 a6; obtain ⟨abb, aoffb, csb, eb, -, hndb, hcellb⟩ := (h1.keep hk5 (by simp)).at7 (i := 1) (by simp); replace hndb : NdR S _ false csb b := hndb; obtain ⟨kdb, nub, atb, nmb, p1b, n1b, c1b, p2b, n2b, c2b, p3b, n3b, c3b, rfl, -⟩ := id hndb.un7s; have b0 := hcellb 0 (by decide); have b1 := hcellb 1 (by decide); have b2 := hcellb 2 (by decide); have b3 := hcellb 3 (by decide); have b4 := hcellb 4 (by decide); have b5 := hcellb 5 (by decide); have b6 := hcellb 6 (by decide); simp only [Nat.zero_mul, Nat.one_mul, Nat.add_zero, List.getElem?_cons_zero, List.getElem?_cons_succ] at b0 b1 b2 b3 b4 b5 b6; have Eb := hyd (And.intro b0 (And.intro b1 (And.intro b2 (And.intro b3 (And.intro b4 (And.intro b5 b6)))))); clear hcellb b0 b1 b2 b3 b4 b5 b6; subst ea
 cases eb
 have HA := hyd (fun W (k : Keep [] (w.alloc _) W) => p_operand (w := W) (hT.keep0 k) (hnda.keep k (by simp)) ha (by omega)); have HB := hyd (fun W (k : Keep [] (w.alloc _) W) => p_operand (w := W) (hT.keep0 k) (hndb.keep k (by simp)) hb (by omega)); clear hb5 hk5 hnd h1 h2 h3 ht hT ha hb hnda hndb; go_enter Tryz.func10, Tryz.ntmps10; go_wp2_with fail; generalize w.alloc _ = w5 at *; clear d0 d1 d2 d3 d4 d5 d6; refine wp_region_held_drew (S := fun w' => Keep [] w5 w') (by kernel_rfl) ((Keep.refl [] w5).drew) (fun hHeld => ?_); refine tkL 0 ?v0 rfl ?run0 hHeld ?_
 case run0 => (intro w9 hS9; obtain ⟨q0, q1, q2, q3, q4, q5, q6⟩ := ck7 hS9 D0.o; obtain ⟨a0, a1, a2, a3, a4, a5, a6⟩ := ck7 hS9 Ea.o; obtain ⟨b0, b1, b2, b3, b4, b5, b6⟩ := ck7 hS9 Eb.o; go_simp; try exact rfl)
 try simp only [Act.put, lA, lZ, lS]
 refine tkL 1 ?v1 rfl ?run1 hHeld ?_
 case run1 => (intro w9 hS9; obtain ⟨q0, q1, q2, q3, q4, q5, q6⟩ := ck7 hS9 D0.o; obtain ⟨a0, a1, a2, a3, a4, a5, a6⟩ := ck7 hS9 Ea.o; obtain ⟨b0, b1, b2, b3, b4, b5, b6⟩ := ck7 hS9 Eb.o; go_simp; try exact rfl)
 try simp only [Act.put, lA, lZ, lS]
 refine tkL 2 ?v2 rfl ?run2 hHeld ?_
 case run2 => (intro w9 hS9; obtain ⟨q0, q1, q2, q3, q4, q5, q6⟩ := ck7 hS9 D0.o; obtain ⟨a0, a1, a2, a3, a4, a5, a6⟩ := ck7 hS9 Ea.o; obtain ⟨b0, b1, b2, b3, b4, b5, b6⟩ := ck7 hS9 Eb.o; go_simp; try exact rfl)
 try simp only [Act.put, lA, lZ, lS]
 refine tkL 3 ?v3 rfl ?run3 hHeld ?_
 case run3 => (intro w9 hS9; obtain ⟨q0, q1, q2, q3, q4, q5, q6⟩ := ck7 hS9 D0.o; obtain ⟨a0, a1, a2, a3, a4, a5, a6⟩ := ck7 hS9 Ea.o; obtain ⟨b0, b1, b2, b3, b4, b5, b6⟩ := ck7 hS9 Eb.o; go_simp; try exact rfl)
 try simp only [Act.put, lA, lZ, lS]
 refine tkL 6 ?v6 rfl ?run6 hHeld ?_
 case run6 => (intro w9 hS9; obtain ⟨q0, q1, q2, q3, q4, q5, q6⟩ := ck7 hS9 D0.o; obtain ⟨a0, a1, a2, a3, a4, a5, a6⟩ := ck7 hS9 Ea.o; obtain ⟨b0, b1, b2, b3, b4, b5, b6⟩ := ck7 hS9 Eb.o; go_simp; try exact rfl)
 try simp only [Act.put, lA, lZ, lS]
 refine tkL 7 ?v7 rfl ?run7 hHeld ?_
 case run7 => (intro w9 hS9; obtain ⟨q0, q1, q2, q3, q4, q5, q6⟩ := ck7 hS9 D0.o; obtain ⟨a0, a1, a2, a3, a4, a5, a6⟩ := ck7 hS9 Ea.o; obtain ⟨b0, b1, b2, b3, b4, b5, b6⟩ := ck7 hS9 Eb.o; go_simp; try exact rfl)
 try simp only [Act.put, lA, lZ, lS]
 refine tkL 8 ?v8 rfl ?run8 hHeld ?_
 case run8 => (intro w9 hS9; obtain ⟨q0, q1, q2, q3, q4, q5, q6⟩ := ck7 hS9 D0.o; obtain ⟨a0, a1, a2, a3, a4, a5, a6⟩ := ck7 hS9 Ea.o; obtain ⟨b0, b1, b2, b3, b4, b5, b6⟩ := ck7 hS9 Eb.o; go_simp; try exact rfl)
 try simp only [Act.put, lA, lZ, lS]
 refine tkL 9 ?v9 rfl ?run9 hHeld ?_
 case run9 => (intro w9 hS9; obtain ⟨q0, q1, q2, q3, q4, q5, q6⟩ := ck7 hS9 D0.o; obtain ⟨a0, a1, a2, a3, a4, a5, a6⟩ := ck7 hS9 Ea.o; obtain ⟨b0, b1, b2, b3, b4, b5, b6⟩ := ck7 hS9 Eb.o; go_simp; try exact rfl)
 try simp only [Act.put, lA, lZ, lS]
 refine rdH 4 rfl (fun K hK => ?_); go_simp; refine (HA.o _ (((Keep.refl [] w5).drew))).mono ?_; rintro e wc1 ⟨⟨X, rfl, hX⟩, hc⟩; have HC1 := hyd ((((Keep.refl [] w5).drew)).trans hc (by simp)); have hsX : X.size = (flat (operI a x)).length := by rw [size_list X, hX]
 have HXX := hyd hX; clear hX hc; go_wp2_with fail; refine hK.out _ _ HC1.o (fun hHeld2 => ?_); clear hK K hHeld; have hHeld := hHeld2; clear hHeld2
 try simp only [Act.put, lA, lZ, lS]
 refine tkL 5 (.string (X ++ ⟨#[32, 61, 32]⟩)) rfl ?run5 hHeld ?_
 case run5 => (intro w9 hS9; go_simp; first | done | omega | (simp; omega))
 try simp only [Act.put, lA, lZ, lS]
 refine rdH 10 rfl (fun K hK => ?_); go_simp; refine (HB.o _ (HC1.o)).mono ?_; rintro e wc2 ⟨⟨Y, rfl, hY⟩, hc⟩; have HC2 := hyd ((HC1.o).trans hc (by simp)); have hsY : Y.size = (flat (operI b y)).length := by rw [size_list Y, hY]
 have HXY := hyd hY; clear hY hc; go_wp2_with fail; refine hK.out _ _ HC2.o (fun hHeld2 => ?_); clear hK K hHeld; have hHeld := hHeld2; clear hHeld2
 try simp only [Act.put, lA, lZ, lS]
 refine tkL 11 (.string (X ++ ⟨#[32, 61, 32]⟩ ++ Y)) rfl ?run11 hHeld ?_
 case run11 => (intro w9 hS9; go_simp; first | done | omega | (simp; omega))
 try simp only [Act.put, lA, lZ, lS]
 refine tkL 12 ?v12 rfl ?run12 hHeld ?_
 case run12 => (intro w9 hS9; go_simp; try exact rfl)
 try simp only [Act.put, lA, lZ, lS]
 refine wpAnyH_done (by kernel_rfl) ?_ _; go_wp2_with fail; go_ret; exact ⟨⟨_, rfl, by (simp [HXX.o, HXY.o, flat_cons, flat_app, flat_nil, It.text])⟩, HK5.o.trans HC2.o (by simp)⟩
theorem tx_send {B : Nat} {a b : Nd} {x y : List It} (ha : TxT B a x) (hb : TxT B b y) (hlen : (flat (operI a x)).length + (flat (operI b y)).length ≤ 140737488354000) (hlx : (flat x).length ≤ 140737488354000) (hly : (flat y).length ≤ 140737488354000) :
  TxT B (.mk 12 0 [] [a, b] [] []) (operI a x ++ sp :: sg 33 :: sp :: operI b y) := by
 intro w S cs ht hnd; obtain ⟨kd, nu, at1, nm1, a0, b0, c0, va, vb, vc, rfl, hn, h1, h2, h3⟩ := id hnd.un7; injection hn with e1 e2 e3 e4 e5 e6; subst e1 e2 e3 e4 e5 e6; obtain ⟨p1, c1, e1⟩ := h1.form; obtain ⟨p2, c2, e2⟩ := h2.form; obtain ⟨p3, c3, e3⟩ := h3.form; replace e1 : va = .slice p1 2 c1 := e1; replace e2 : vb = .slice p2 0 c2 := e2; replace e3 : vc = .slice p3 0 c3 := e3; subst e1 e2 e3; have hk5 := (Keep.refl [] w).alloc (.cells #[.int .i64 12, .int .i64 0, .string ⟨#[]⟩, .int .i64 at1, .slice p1 2 c1, .slice p2 0 c2, .slice p3 0 c3] 29); have hb5 := heap_alloc_new w (.cells #[.int .i64 12, .int .i64 0, .string ⟨#[]⟩, .int .i64 at1, .slice p1 2 c1, .slice p2 0 c2, .slice p3 0 c3] 29); obtain ⟨d0, d1, d2, d3, d4, d5, d6⟩ := cells7 hb5; have D0 := hyd (And.intro d0 (And.intro d1 (And.intro d2 (And.intro d3 (And.intro d4 (And.intro d5 d6)))))); have HK5 := hyd hk5; have hT := ht.keep0 hk5; have HT := hyd hT; obtain ⟨aba, aoffa, csa, ea, -, hnda, hcella⟩ := (h1.keep hk5 (by simp)).at7 (i := 0) (by simp); replace hnda : NdR S _ false csa a := hnda; obtain ⟨kda, nua, ata, nma, p1a, n1a, c1a, p2a, n2a, c2a, p3a, n3a, c3a, rfl, -⟩ := id hnda.un7s; have a0 := hcella 0 (by decide); have a1 := hcella 1 (by decide); have a2 := hcella 2 (by decide); have a3 := hcella 3 (by decide); have a4 := hcella 4 (by decide); have a5 := hcella 5 (by decide); have a6 := hcella 6 (by decide); simp only [Nat.zero_mul, Nat.one_mul, Nat.add_zero, List.getElem?_cons_zero, List.getElem?_cons_succ] at a0 a1 a2 a3 a4 a5 a6; have Ea := hyd (And.intro a0 (And.intro a1 (And.intro a2 (And.intro a3 (And.intro a4 (And.intro a5 a6)))))); clear hcella a0 a1 a2 a3 a4 a5 a6; obtain ⟨abb, aoffb, csb, eb, -, hndb, hcellb⟩ := (h1.keep hk5 (by simp)).at7 (i := 1) (by simp); replace hndb : NdR S _ false csb b := hndb; obtain ⟨kdb, nub, atb, nmb, p1b, n1b, c1b, p2b, n2b, c2b, p3b, n3b, c3b, rfl, -⟩ := id hndb.un7s; have b0 := hcellb 0 (by decide); have b1 := hcellb 1 (by decide); have b2 := hcellb 2 (by decide); have b3 := hcellb 3 (by decide); have b4 := hcellb 4 (by decide); have b5 := hcellb 5 (by decide); have b6 := hcellb 6 (by decide); simp only [Nat.zero_mul, Nat.one_mul, Nat.add_zero, List.getElem?_cons_zero, List.getElem?_cons_succ] at b0 b1 b2 b3 b4 b5 b6; have Eb := hyd (And.intro b0 (And.intro b1 (And.intro b2 (And.intro b3 (And.intro b4 (And.intro b5 b6)))))); clear hcellb b0 b1 b2 b3 b4 b5 b6; subst ea
 cases eb
 have HA := hyd (fun W (k : Keep [] (w.alloc _) W) => p_operand (w := W) (hT.keep0 k) (hnda.keep k (by simp)) ha (by omega)); have HB := hyd (fun W (k : Keep [] (w.alloc _) W) => p_operand (w := W) (hT.keep0 k) (hndb.keep k (by simp)) hb (by omega)); clear hb5 hk5 hnd h1 h2 h3 ht hT ha hb hnda hndb; go_enter Tryz.func10, Tryz.ntmps10; go_wp2_with fail; generalize w.alloc _ = w5 at *; clear d0 d1 d2 d3 d4 d5 d6; refine wp_region_held_drew (S := fun w' => Keep [] w5 w') (by kernel_rfl) ((Keep.refl [] w5).drew) (fun hHeld => ?_); refine tkL 0 ?v0 rfl ?run0 hHeld ?_
 case run0 => (intro w9 hS9; obtain ⟨q0, q1, q2, q3, q4, q5, q6⟩ := ck7 hS9 D0.o; obtain ⟨a0, a1, a2, a3, a4, a5, a6⟩ := ck7 hS9 Ea.o; obtain ⟨b0, b1, b2, b3, b4, b5, b6⟩ := ck7 hS9 Eb.o; go_simp; try exact rfl)
 try simp only [Act.put, lA, lZ, lS]
 refine tkL 1 ?v1 rfl ?run1 hHeld ?_
 case run1 => (intro w9 hS9; obtain ⟨q0, q1, q2, q3, q4, q5, q6⟩ := ck7 hS9 D0.o; obtain ⟨a0, a1, a2, a3, a4, a5, a6⟩ := ck7 hS9 Ea.o; obtain ⟨b0, b1, b2, b3, b4, b5, b6⟩ := ck7 hS9 Eb.o; go_simp; try exact rfl)
 try simp only [Act.put, lA, lZ, lS]
 refine tkL 2 ?v2 rfl ?run2 hHeld ?_
 case run2 => (intro w9 hS9; obtain ⟨q0, q1, q2, q3, q4, q5, q6⟩ := ck7 hS9 D0.o; obtain ⟨a0, a1, a2, a3, a4, a5, a6⟩ := ck7 hS9 Ea.o; obtain ⟨b0, b1, b2, b3, b4, b5, b6⟩ := ck7 hS9 Eb.o; go_simp; try exact rfl)
 try simp only [Act.put, lA, lZ, lS]
 refine tkL 3 ?v3 rfl ?run3 hHeld ?_
 case run3 => (intro w9 hS9; obtain ⟨q0, q1, q2, q3, q4, q5, q6⟩ := ck7 hS9 D0.o; obtain ⟨a0, a1, a2, a3, a4, a5, a6⟩ := ck7 hS9 Ea.o; obtain ⟨b0, b1, b2, b3, b4, b5, b6⟩ := ck7 hS9 Eb.o; go_simp; try exact rfl)
 try simp only [Act.put, lA, lZ, lS]
 refine tkL 6 ?v6 rfl ?run6 hHeld ?_
 case run6 => (intro w9 hS9; obtain ⟨q0, q1, q2, q3, q4, q5, q6⟩ := ck7 hS9 D0.o; obtain ⟨a0, a1, a2, a3, a4, a5, a6⟩ := ck7 hS9 Ea.o; obtain ⟨b0, b1, b2, b3, b4, b5, b6⟩ := ck7 hS9 Eb.o; go_simp; try exact rfl)
 try simp only [Act.put, lA, lZ, lS]
 refine tkL 7 ?v7 rfl ?run7 hHeld ?_
 case run7 => (intro w9 hS9; obtain ⟨q0, q1, q2, q3, q4, q5, q6⟩ := ck7 hS9 D0.o; obtain ⟨a0, a1, a2, a3, a4, a5, a6⟩ := ck7 hS9 Ea.o; obtain ⟨b0, b1, b2, b3, b4, b5, b6⟩ := ck7 hS9 Eb.o; go_simp; try exact rfl)
 try simp only [Act.put, lA, lZ, lS]
 refine tkL 8 ?v8 rfl ?run8 hHeld ?_
 case run8 => (intro w9 hS9; obtain ⟨q0, q1, q2, q3, q4, q5, q6⟩ := ck7 hS9 D0.o; obtain ⟨a0, a1, a2, a3, a4, a5, a6⟩ := ck7 hS9 Ea.o; obtain ⟨b0, b1, b2, b3, b4, b5, b6⟩ := ck7 hS9 Eb.o; go_simp; try exact rfl)
 try simp only [Act.put, lA, lZ, lS]
 refine tkL 9 ?v9 rfl ?run9 hHeld ?_
 case run9 => (intro w9 hS9; obtain ⟨q0, q1, q2, q3, q4, q5, q6⟩ := ck7 hS9 D0.o; obtain ⟨a0, a1, a2, a3, a4, a5, a6⟩ := ck7 hS9 Ea.o; obtain ⟨b0, b1, b2, b3, b4, b5, b6⟩ := ck7 hS9 Eb.o; go_simp; try exact rfl)
 try simp only [Act.put, lA, lZ, lS]
 refine rdH 4 rfl (fun K hK => ?_); go_simp; refine (HA.o _ (((Keep.refl [] w5).drew))).mono ?_; rintro e wc1 ⟨⟨X, rfl, hX⟩, hc⟩; have HC1 := hyd ((((Keep.refl [] w5).drew)).trans hc (by simp)); have hsX : X.size = (flat (operI a x)).length := by rw [size_list X, hX]
 have HXX := hyd hX; clear hX hc; go_wp2_with fail; refine hK.out _ _ HC1.o (fun hHeld2 => ?_); clear hK K hHeld; have hHeld := hHeld2; clear hHeld2
 try simp only [Act.put, lA, lZ, lS]
 refine tkL 5 (.string (X ++ ⟨#[32, 33, 32]⟩)) rfl ?run5 hHeld ?_
 case run5 => (intro w9 hS9; go_simp; first | done | omega | (simp; omega))
 try simp only [Act.put, lA, lZ, lS]
 refine rdH 10 rfl (fun K hK => ?_); go_simp; refine (HB.o _ (HC1.o)).mono ?_; rintro e wc2 ⟨⟨Y, rfl, hY⟩, hc⟩; have HC2 := hyd ((HC1.o).trans hc (by simp)); have hsY : Y.size = (flat (operI b y)).length := by rw [size_list Y, hY]
 have HXY := hyd hY; clear hY hc; go_wp2_with fail; refine hK.out _ _ HC2.o (fun hHeld2 => ?_); clear hK K hHeld; have hHeld := hHeld2; clear hHeld2
 try simp only [Act.put, lA, lZ, lS]
 refine tkL 11 (.string (X ++ ⟨#[32, 33, 32]⟩ ++ Y)) rfl ?run11 hHeld ?_
 case run11 => (intro w9 hS9; go_simp; first | done | omega | (simp; omega))
 try simp only [Act.put, lA, lZ, lS]
 refine tkL 12 ?v12 rfl ?run12 hHeld ?_
 case run12 => (intro w9 hS9; go_simp; try exact rfl)
 try simp only [Act.put, lA, lZ, lS]
 refine wpAnyH_done (by kernel_rfl) ?_ _; go_wp2_with fail; go_ret; exact ⟨⟨_, rfl, by (simp [HXX.o, HXY.o, flat_cons, flat_app, flat_nil, It.text])⟩, HK5.o.trans HC2.o (by simp)⟩
def HdL (B : Nat) (l : List Nd) (ls : List (List It)) : Prop := ls.length = l.length ∧ l.length ≤ 1000000 ∧ ∀ i (_ : i < l.length) (_ : i < ls.length), ∃ nm ps gs bs, ClT B l[i] nm ps gs bs ∧ nm.length ≤ 255 ∧ ls[i] = (if nm = [] then [] else [.t 2 0 nm]) ++ sg 40 :: sepI comma ps ++ sg 41 :: tailI gs bs
def ArL (B : Nat) (l : List Nd) (ls : List (List It)) : Prop := ls.length = l.length ∧ l.length ≤ 1000000 ∧ ∀ i (_ : i < l.length) (_ : i < ls.length), ∃ nm ps gs bs, ClT B l[i] nm ps gs bs ∧ ls[i] = sepI comma ps ++ tailI gs bs
theorem p_hd {w : World} {B : Nat} {S : Nat → Prop} {v : Value} {l : List Nd} {ls : List (List It)} (ht : TabOk B w) (h : NsR S w true v l) (hl : HdL B l ls) (hs : Sm (sepI semiB ls)) : Calls Tryz.prog 23 #[v] w (StrE w (flat (sepI semiB ls))) :=
 p_heads ht h hl.1 hl.2.2 (fun i hi => by have := (hs.sub (sep_sub semiB ls i hi)).2; omega) (by have := hs.2; omega) hl.2.1
theorem p_ar {w : World} {B : Nat} {S : Nat → Prop} {v : Value} {l : List Nd} {ls : List (List It)} (ht : TabOk B w) (h : NsR S w true v l) (hl : ArL B l ls) (hs : Sm (sepI semiB ls)) : Calls Tryz.prog 35 #[v] w (StrE w (flat (sepI semiB ls))) :=
 p_arms ht h hl.1 hl.2.2 (fun i hi => by have := (hs.sub (sep_sub semiB ls i hi)).2; omega) (by have := hs.2; omega) hl.2.1
theorem tx_fn {B : Nat} {l : List Nd} {ls : List (List It)} (hl : HdL B l ls) (hs : Sm (sepI semiB ls)) : TxT B (.mk 13 0 [] [] l []) (wd sFun :: sepI semiB ls ++ [sp, wd sEnd]) := by
 intro w S cs ht hnd; obtain ⟨kd, nu, at1, nm1, a0, b0, c0, va, vb, vc, rfl, hn, h1, h2, h3⟩ := id hnd.un7; injection hn with e1 e2 e3 e4 e5 e6; subst e1 e2 e3 e4 e5 e6; obtain ⟨p1, c1, e1⟩ := h1.form; obtain ⟨p2, c2, e2⟩ := h2.form; obtain ⟨p3, c3, e3⟩ := h3.form; replace e1 : va = .slice p1 0 c1 := e1; replace e2 : vb = .slice p2 l.length c2 := e2; replace e3 : vc = .slice p3 0 c3 := e3; subst e1 e2 e3; have hk5 := (Keep.refl [] w).alloc (.cells #[.int .i64 13, .int .i64 0, .string ⟨#[]⟩, .int .i64 at1, .slice p1 0 c1, .slice p2 l.length c2, .slice p3 0 c3] 29); have hb5 := heap_alloc_new w (.cells #[.int .i64 13, .int .i64 0, .string ⟨#[]⟩, .int .i64 at1, .slice p1 0 c1, .slice p2 l.length c2, .slice p3 0 c3] 29); obtain ⟨d0, d1, d2, d3, d4, d5, d6⟩ := cells7 hb5; have D0 := hyd (And.intro d0 (And.intro d1 (And.intro d2 (And.intro d3 (And.intro d4 (And.intro d5 d6)))))); have HK5 := hyd hk5; have hT := ht.keep0 hk5; have HT := hyd hT; have HC := hyd (p_hd hT (h2.keep hk5 (by simp)) hl hs); have hlen := hs.2; clear hb5 hk5 hnd h1 h2 h3 ht hT hl hs; go_enter Tryz.func10, Tryz.ntmps10; go_wp2_with fail; refine HC.o.mono ?_; rintro e w6 ⟨⟨X, rfl, hX⟩, hk6⟩; have hxs : X.size = (flat (sepI semiB ls)).length := by rw [size_list X, hX]
 have HK6 := hyd (And.intro hX (HK5.o.trans hk6 (by simp))); clear hX hk6; go_wp2_with fail; go_ret; exact ⟨⟨_, rfl, by simp [HK6.o.1, flat_cons, flat_app, flat_nil, It.text]⟩, HK6.o.2⟩
theorem tx_case {B : Nat} {a : Nd} {x : List It} {l : List Nd} {ls : List (List It)} (ha : TxT B a x) (hl : ArL B l ls) (hs : Sm (sepI semiB ls)) (hlen : (flat x).length + (flat (sepI semiB ls)).length ≤ 140737488354000) :
  TxT B (.mk 14 0 [] [a] l []) (wd sCase :: sp :: x ++ sp :: wd sOf :: sp :: sepI semiB ls ++ [sp, wd sEnd]) := by
 intro w S cs ht hnd; obtain ⟨kd, nu, at1, nm1, a0, b0, c0, va, vb, vc, rfl, hn, h1, h2, h3⟩ := id hnd.un7; injection hn with e1 e2 e3 e4 e5 e6; subst e1 e2 e3 e4 e5 e6; obtain ⟨p1, c1, e1⟩ := h1.form; obtain ⟨p2, c2, e2⟩ := h2.form; obtain ⟨p3, c3, e3⟩ := h3.form; replace e1 : va = .slice p1 1 c1 := e1; replace e2 : vb = .slice p2 l.length c2 := e2; replace e3 : vc = .slice p3 0 c3 := e3; subst e1 e2 e3; have hk5 := (Keep.refl [] w).alloc (.cells #[.int .i64 14, .int .i64 0, .string ⟨#[]⟩, .int .i64 at1, .slice p1 1 c1, .slice p2 l.length c2, .slice p3 0 c3] 29); have hb5 := heap_alloc_new w (.cells #[.int .i64 14, .int .i64 0, .string ⟨#[]⟩, .int .i64 at1, .slice p1 1 c1, .slice p2 l.length c2, .slice p3 0 c3] 29); obtain ⟨d0, d1, d2, d3, d4, d5, d6⟩ := cells7 hb5; have D0 := hyd (And.intro d0 (And.intro d1 (And.intro d2 (And.intro d3 (And.intro d4 (And.intro d5 d6)))))); have HK5 := hyd hk5; have hT := ht.keep0 hk5; have HT := hyd hT; obtain ⟨aba, aoffa, csa, ea, -, hnda, hcella⟩ := (h1.keep hk5 (by simp)).at7 (i := 0) (by simp); replace hnda : NdR S _ false csa a := hnda; obtain ⟨kda, nua, ata, nma, p1a, n1a, c1a, p2a, n2a, c2a, p3a, n3a, c3a, rfl, -⟩ := id hnda.un7s; have a0 := hcella 0 (by decide); have a1 := hcella 1 (by decide); have a2 := hcella 2 (by decide); have a3 := hcella 3 (by decide); have a4 := hcella 4 (by decide); have a5 := hcella 5 (by decide); have a6 := hcella 6 (by decide); simp only [Nat.zero_mul, Nat.one_mul, Nat.add_zero, List.getElem?_cons_zero, List.getElem?_cons_succ] at a0 a1 a2 a3 a4 a5 a6; have Ea := hyd (And.intro a0 (And.intro a1 (And.intro a2 (And.intro a3 (And.intro a4 (And.intro a5 a6)))))); clear hcella a0 a1 a2 a3 a4 a5 a6; subst ea; have HA := hyd (fun W (k : Keep [] (w.alloc _) W) => ha W _ _ (hT.keep0 k) (hnda.keep k (by simp))); have HB := hyd (fun W (k : Keep [] (w.alloc _) W) => p_ar (w := W) (hT.keep0 k) ((h2.keep hk5 (by simp)).keep k (by simp)) hl hs); clear hb5 hk5 hnd h1 h2 h3 ht hT ha hnda hl hs; go_enter Tryz.func10, Tryz.ntmps10; go_wp2_with fail; generalize w.alloc _ = w5 at *; clear d0 d1 d2 d3 d4 d5 d6; refine wp_region_held_drew (S := fun w' => Keep [] w5 w') (by kernel_rfl) ((Keep.refl [] w5).drew) (fun hHeld => ?_); refine tkL 0 ?v0 rfl ?run0 hHeld ?_
 case run0 => (intro w9 hS9; obtain ⟨q0, q1, q2, q3, q4, q5, q6⟩ := ck7 hS9 D0.o; obtain ⟨a0, a1, a2, a3, a4, a5, a6⟩ := ck7 hS9 Ea.o; go_simp; try exact rfl)
 try simp only [Act.put, lA, lZ, lS]
 refine tkL 1 ?v1 rfl ?run1 hHeld ?_
 case run1 => (intro w9 hS9; obtain ⟨q0, q1, q2, q3, q4, q5, q6⟩ := ck7 hS9 D0.o; obtain ⟨a0, a1, a2, a3, a4, a5, a6⟩ := ck7 hS9 Ea.o; go_simp; try exact rfl)
 try simp only [Act.put, lA, lZ, lS]
 refine tkL 2 ?v2 rfl ?run2 hHeld ?_
 case run2 => (intro w9 hS9; obtain ⟨q0, q1, q2, q3, q4, q5, q6⟩ := ck7 hS9 D0.o; obtain ⟨a0, a1, a2, a3, a4, a5, a6⟩ := ck7 hS9 Ea.o; go_simp; try exact rfl)
 try simp only [Act.put, lA, lZ, lS]
 refine tkL 3 ?v3 rfl ?run3 hHeld ?_
 case run3 => (intro w9 hS9; obtain ⟨q0, q1, q2, q3, q4, q5, q6⟩ := ck7 hS9 D0.o; obtain ⟨a0, a1, a2, a3, a4, a5, a6⟩ := ck7 hS9 Ea.o; go_simp; try exact rfl)
 try simp only [Act.put, lA, lZ, lS]
 refine tkL 7 ?v7 rfl ?run7 hHeld ?_
 case run7 => (intro w9 hS9; obtain ⟨q0, q1, q2, q3, q4, q5, q6⟩ := ck7 hS9 D0.o; obtain ⟨a0, a1, a2, a3, a4, a5, a6⟩ := ck7 hS9 Ea.o; go_simp; try exact rfl)
 try simp only [Act.put, lA, lZ, lS]
 refine tkL 8 ?v8 rfl ?run8 hHeld ?_
 case run8 => (intro w9 hS9; obtain ⟨q0, q1, q2, q3, q4, q5, q6⟩ := ck7 hS9 D0.o; obtain ⟨a0, a1, a2, a3, a4, a5, a6⟩ := ck7 hS9 Ea.o; go_simp; try exact rfl)
 try simp only [Act.put, lA, lZ, lS]
 refine rdH 4 rfl (fun K hK => ?_); go_simp; refine (HA.o _ (((Keep.refl [] w5).drew))).mono ?_; rintro e wc1 ⟨⟨X, rfl, hX⟩, hc⟩; have HC1 := hyd ((((Keep.refl [] w5).drew)).trans hc (by simp)); have hsX : X.size = (flat x).length := by rw [size_list X, hX]
 have HXX := hyd hX; clear hX hc; go_wp2_with fail; refine hK.out _ _ HC1.o (fun hHeld2 => ?_); clear hK K hHeld; have hHeld := hHeld2; clear hHeld2
 try simp only [Act.put, lA, lZ, lS]
 refine tkL 5 (.string (⟨#[99, 97, 115, 101, 32]⟩ ++ X)) rfl ?run5 hHeld ?_
 case run5 => (intro w9 hS9; go_simp; first | done | omega | (simp; omega))
 try simp only [Act.put, lA, lZ, lS]
 refine tkL 6 (.string (⟨#[99, 97, 115, 101, 32]⟩ ++ X ++ ⟨#[32, 111, 102, 32]⟩)) rfl ?run6 hHeld ?_
 case run6 => (intro w9 hS9; go_simp; first | done | omega | (simp; omega))
 try simp only [Act.put, lA, lZ, lS]
 refine rdH 9 rfl (fun K hK => ?_); go_simp; refine (HB.o _ (HC1.o)).mono ?_; rintro e wc2 ⟨⟨Y, rfl, hY⟩, hc⟩; have HC2 := hyd ((HC1.o).trans hc (by simp)); have hsY : Y.size = (flat (sepI semiB ls)).length := by rw [size_list Y, hY]
 have HXY := hyd hY; clear hY hc; go_wp2_with fail; refine hK.out _ _ HC2.o (fun hHeld2 => ?_); clear hK K hHeld; have hHeld := hHeld2; clear hHeld2
 try simp only [Act.put, lA, lZ, lS]
 refine tkL 10 (.string (⟨#[99, 97, 115, 101, 32]⟩ ++ X ++ ⟨#[32, 111, 102, 32]⟩ ++ Y)) rfl ?run10 hHeld ?_
 case run10 => (intro w9 hS9; go_simp; first | done | omega | (simp; omega))
 try simp only [Act.put, lA, lZ, lS]
 refine tkL 11 (.string (⟨#[99, 97, 115, 101, 32]⟩ ++ X ++ ⟨#[32, 111, 102, 32]⟩ ++ Y ++ ⟨#[32, 101, 110, 100]⟩)) rfl ?run11 hHeld ?_
 case run11 => (intro w9 hS9; go_simp; first | done | omega | (simp; omega))
 try simp only [Act.put, lA, lZ, lS]
 refine tkL 12 ?v12 rfl ?run12 hHeld ?_
 case run12 => (intro w9 hS9; go_simp; try exact rfl)
 try simp only [Act.put, lA, lZ, lS]
 refine wpAnyH_done (by kernel_rfl) ?_ _; go_wp2_with fail; go_ret; exact ⟨⟨_, rfl, by (simp [HXX.o, HXY.o, flat_cons, flat_app, flat_nil, It.text])⟩, HK5.o.trans HC2.o (by simp)⟩
theorem tx_tr {B : Nat} {b l : List Nd} {bs ls : List (List It)} (hb : TL B b bs) (hl : ArL B l ls) (hs : Sm (sepI semiB ls)) (hlen : (flat (sepI commaB bs)).length + (flat (sepI semiB ls)).length ≤ 140737488354000) :
  TxT B (.mk 16 0 [] [] l b) (wd sTry :: sp :: sepI commaB bs ++ sp :: wd sCatch :: sp :: sepI semiB ls ++ [sp, wd sEnd]) := by
 intro w S cs ht hnd; obtain ⟨kd, nu, at1, nm1, a0, b0, c0, va, vb, vc, rfl, hn, h1, h2, h3⟩ := id hnd.un7; injection hn with e1 e2 e3 e4 e5 e6; subst e1 e2 e3 e4 e5 e6; obtain ⟨p1, c1, e1⟩ := h1.form; obtain ⟨p2, c2, e2⟩ := h2.form; obtain ⟨p3, c3, e3⟩ := h3.form; replace e1 : va = .slice p1 0 c1 := e1; replace e2 : vb = .slice p2 l.length c2 := e2; replace e3 : vc = .slice p3 b.length c3 := e3; subst e1 e2 e3; have hk5 := (Keep.refl [] w).alloc (.cells #[.int .i64 16, .int .i64 0, .string ⟨#[]⟩, .int .i64 at1, .slice p1 0 c1, .slice p2 l.length c2, .slice p3 b.length c3] 29); have hb5 := heap_alloc_new w (.cells #[.int .i64 16, .int .i64 0, .string ⟨#[]⟩, .int .i64 at1, .slice p1 0 c1, .slice p2 l.length c2, .slice p3 b.length c3] 29); obtain ⟨d0, d1, d2, d3, d4, d5, d6⟩ := cells7 hb5; have D0 := hyd (And.intro d0 (And.intro d1 (And.intro d2 (And.intro d3 (And.intro d4 (And.intro d5 d6)))))); have HK5 := hyd hk5; have hT := ht.keep0 hk5; have HT := hyd hT; have HA := hyd (fun W (k : Keep [] (w.alloc _) W) => p_texts (w := W) (s := commaB) (sep := ⟨#[44, 32]⟩) (hT.keep0 k) ((h3.keep hk5 (by simp)).keep k (by simp)) hb.1 hb.2.2 rfl (by omega) hb.2.1); have HB := hyd (fun W (k : Keep [] (w.alloc _) W) => p_ar (w := W) (hT.keep0 k) ((h2.keep hk5 (by simp)).keep k (by simp)) hl hs); clear hb5 hk5 hnd h1 h2 h3 ht hT hb hl hs; go_enter Tryz.func10, Tryz.ntmps10; go_wp2_with fail; generalize w.alloc _ = w5 at *; clear d0 d1 d2 d3 d4 d5 d6; refine wp_region_held_drew (S := fun w' => Keep [] w5 w') (by kernel_rfl) ((Keep.refl [] w5).drew) (fun hHeld => ?_); refine tkL 0 ?v0 rfl ?run0 hHeld ?_
 case run0 => (intro w9 hS9; obtain ⟨q0, q1, q2, q3, q4, q5, q6⟩ := ck7 hS9 D0.o; go_simp; try exact rfl)
 try simp only [Act.put, lA, lZ, lS]
 refine tkL 1 ?v1 rfl ?run1 hHeld ?_
 case run1 => (intro w9 hS9; obtain ⟨q0, q1, q2, q3, q4, q5, q6⟩ := ck7 hS9 D0.o; go_simp; try exact rfl)
 try simp only [Act.put, lA, lZ, lS]
 refine tkL 5 ?v5 rfl ?run5 hHeld ?_
 case run5 => (intro w9 hS9; obtain ⟨q0, q1, q2, q3, q4, q5, q6⟩ := ck7 hS9 D0.o; go_simp; try exact rfl)
 try simp only [Act.put, lA, lZ, lS]
 refine tkL 6 ?v6 rfl ?run6 hHeld ?_
 case run6 => (intro w9 hS9; obtain ⟨q0, q1, q2, q3, q4, q5, q6⟩ := ck7 hS9 D0.o; go_simp; try exact rfl)
 try simp only [Act.put, lA, lZ, lS]
 refine rdH 2 rfl (fun K hK => ?_); go_simp; refine (HA.o _ (((Keep.refl [] w5).drew))).mono ?_; rintro e wc1 ⟨⟨X, rfl, hX⟩, hc⟩; have HC1 := hyd ((((Keep.refl [] w5).drew)).trans hc (by simp)); have hsX : X.size = (flat (sepI commaB bs)).length := by rw [size_list X, hX]
 have HXX := hyd hX; clear hX hc; go_wp2_with fail; refine hK.out _ _ HC1.o (fun hHeld2 => ?_); clear hK K hHeld; have hHeld := hHeld2; clear hHeld2
 try simp only [Act.put, lA, lZ, lS]
 refine tkL 3 (.string (⟨#[116, 114, 121, 32]⟩ ++ X)) rfl ?run3 hHeld ?_
 case run3 => (intro w9 hS9; go_simp; first | done | omega | (simp; omega))
 try simp only [Act.put, lA, lZ, lS]
 refine tkL 4 (.string (⟨#[116, 114, 121, 32]⟩ ++ X ++ ⟨#[32, 99, 97, 116, 99, 104, 32]⟩)) rfl ?run4 hHeld ?_
 case run4 => (intro w9 hS9; go_simp; first | done | omega | (simp; omega))
 try simp only [Act.put, lA, lZ, lS]
 refine rdH 7 rfl (fun K hK => ?_); go_simp; refine (HB.o _ (HC1.o)).mono ?_; rintro e wc2 ⟨⟨Y, rfl, hY⟩, hc⟩; have HC2 := hyd ((HC1.o).trans hc (by simp)); have hsY : Y.size = (flat (sepI semiB ls)).length := by rw [size_list Y, hY]
 have HXY := hyd hY; clear hY hc; go_wp2_with fail; refine hK.out _ _ HC2.o (fun hHeld2 => ?_); clear hK K hHeld; have hHeld := hHeld2; clear hHeld2
 try simp only [Act.put, lA, lZ, lS]
 refine tkL 8 (.string (⟨#[116, 114, 121, 32]⟩ ++ X ++ ⟨#[32, 99, 97, 116, 99, 104, 32]⟩ ++ Y)) rfl ?run8 hHeld ?_
 case run8 => (intro w9 hS9; go_simp; first | done | omega | (simp; omega))
 try simp only [Act.put, lA, lZ, lS]
 refine tkL 9 (.string (⟨#[116, 114, 121, 32]⟩ ++ X ++ ⟨#[32, 99, 97, 116, 99, 104, 32]⟩ ++ Y ++ ⟨#[32, 101, 110, 100]⟩)) rfl ?run9 hHeld ?_
 case run9 => (intro w9 hS9; go_simp; first | done | omega | (simp; omega))
 try simp only [Act.put, lA, lZ, lS]
 refine tkL 10 ?v10 rfl ?run10 hHeld ?_
 case run10 => (intro w9 hS9; go_simp; try exact rfl)
 try simp only [Act.put, lA, lZ, lS]
 refine wpAnyH_done (by kernel_rfl) ?_ _; go_wp2_with fail; go_ret; exact ⟨⟨_, rfl, by (simp [HXX.o, HXY.o, flat_cons, flat_app, flat_nil, It.text])⟩, HK5.o.trans HC2.o (by simp)⟩
theorem tx_recv {B : Nat} {l : List Nd} {ls : List (List It)} (h0 : l ≠ []) (hl : ArL B l ls) (hs : Sm (sepI semiB ls)) : TxT B (.mk 15 0 [] [] l []) (wd sReceive :: sp :: sepI semiB ls ++ [sp, wd sEnd]) := by
 intro w S cs ht hnd; obtain ⟨kd, nu, at1, nm1, a0, b0, c0, va, vb, vc, rfl, hn, h1, h2, h3⟩ := id hnd.un7; injection hn with e1 e2 e3 e4 e5 e6; subst e1 e2 e3 e4 e5 e6; obtain ⟨p1, c1, e1⟩ := h1.form; obtain ⟨p2, c2, e2⟩ := h2.form; obtain ⟨p3, c3, e3⟩ := h3.form; replace e1 : va = .slice p1 0 c1 := e1; replace e2 : vb = .slice p2 l.length c2 := e2; replace e3 : vc = .slice p3 0 c3 := e3; subst e1 e2 e3; have hk5 := (Keep.refl [] w).alloc (.cells #[.int .i64 15, .int .i64 0, .string ⟨#[]⟩, .int .i64 at1, .slice p1 0 c1, .slice p2 l.length c2, .slice p3 0 c3] 29); have hb5 := heap_alloc_new w (.cells #[.int .i64 15, .int .i64 0, .string ⟨#[]⟩, .int .i64 at1, .slice p1 0 c1, .slice p2 l.length c2, .slice p3 0 c3] 29); obtain ⟨d0, d1, d2, d3, d4, d5, d6⟩ := cells7 hb5; have D0 := hyd (And.intro d0 (And.intro d1 (And.intro d2 (And.intro d3 (And.intro d4 (And.intro d5 d6)))))); have HK5 := hyd hk5; have hT := ht.keep0 hk5; have HT := hyd hT; have HB := hyd (fun W (k : Keep [] (w.alloc _) W) => p_ar (w := W) (hT.keep0 k) ((h2.keep hk5 (by simp)).keep k (by simp)) hl hs); have hgp : (0 : Int) < (l.length : Int) := by have := List.length_pos_iff.2 h0; omega
 have hsl := hs.2; clear hb5 hk5 hnd h1 h2 h3 ht hT hl hs h0; go_enter Tryz.func10, Tryz.ntmps10; go_wp2_with fail; refine HB.o _ (Keep.refl [] _) |>.mono ?_
 rintro e w6 ⟨⟨Y, rfl, hY⟩, hk6⟩; have hsY : Y.size = (flat (sepI semiB ls)).length := by rw [size_list Y, hY]
 have HXY := hyd hY; have HK6 := hyd hk6; have HK56 := hyd (HK5.o.trans hk6 (by simp)); clear hY hk6 d0 d1 d2 d3 d4 d5 d6; generalize w.alloc _ = w5 at *; have q0 := HK6.o.cellOf D0.o.1; have q1 := HK6.o.cellOf D0.o.2.1; have q2 := HK6.o.cellOf D0.o.2.2.1; have q3 := HK6.o.cellOf D0.o.2.2.2.1; have q4 := HK6.o.cellOf D0.o.2.2.2.2.1; have q5 := HK6.o.cellOf D0.o.2.2.2.2.2.1; have q6 := HK6.o.cellOf D0.o.2.2.2.2.2.2; go_wp2_with fail; go_ret; exact ⟨⟨_, rfl, by simp [HXY.o, flat_cons, flat_app, flat_nil, It.text]⟩, HK56.o⟩
theorem tx_recvA {B : Nat} {l b : List Nd} {ls bs : List (List It)} {a : Nd} {x : List It} (h0 : l ≠ []) (hl : ArL B l ls) (hs : Sm (sepI semiB ls)) (ha : TxT B a x) (hb : TL B b bs) (hlen : (flat x).length + (flat (sepI commaB bs)).length + (flat (sepI semiB ls)).length ≤ 140737488354000) : TxT B (.mk 15 0 [] [a] l b) (wd sReceive :: sp :: sepI semiB ls ++ (sp :: wd sAfter :: sp :: x ++ sp :: .t 5 0 sTo :: sp :: sepI commaB bs) ++ [sp, wd sEnd]) := by
 intro w S cs ht hnd; obtain ⟨kd, nu, at1, nm1, a0, b0, c0, va, vb, vc, rfl, hn, h1, h2, h3⟩ := id hnd.un7; injection hn with e1 e2 e3 e4 e5 e6; subst e1 e2 e3 e4 e5 e6; obtain ⟨p1, c1, e1⟩ := h1.form; obtain ⟨p2, c2, e2⟩ := h2.form; obtain ⟨p3, c3, e3⟩ := h3.form; replace e1 : va = .slice p1 1 c1 := e1; replace e2 : vb = .slice p2 l.length c2 := e2; replace e3 : vc = .slice p3 b.length c3 := e3; subst e1 e2 e3; have hk5 := (Keep.refl [] w).alloc (.cells #[.int .i64 15, .int .i64 0, .string ⟨#[]⟩, .int .i64 at1, .slice p1 1 c1, .slice p2 l.length c2, .slice p3 b.length c3] 29); have hb5 := heap_alloc_new w (.cells #[.int .i64 15, .int .i64 0, .string ⟨#[]⟩, .int .i64 at1, .slice p1 1 c1, .slice p2 l.length c2, .slice p3 b.length c3] 29); obtain ⟨d0, d1, d2, d3, d4, d5, d6⟩ := cells7 hb5; have D0 := hyd (And.intro d0 (And.intro d1 (And.intro d2 (And.intro d3 (And.intro d4 (And.intro d5 d6)))))); have HK5 := hyd hk5; have hT := ht.keep0 hk5; have HT := hyd hT; obtain ⟨aba, aoffa, csa, ea, -, hnda, hcella⟩ := (h1.keep hk5 (by simp)).at7 (i := 0) (by simp); replace hnda : NdR S _ false csa a := hnda; obtain ⟨kda, nua, ata, nma, p1a, n1a, c1a, p2a, n2a, c2a, p3a, n3a, c3a, rfl, -⟩ := id hnda.un7s; have a0 := hcella 0 (by decide); have a1 := hcella 1 (by decide); have a2 := hcella 2 (by decide); have a3 := hcella 3 (by decide); have a4 := hcella 4 (by decide); have a5 := hcella 5 (by decide); have a6 := hcella 6 (by decide); simp only [Nat.zero_mul, Nat.one_mul, Nat.add_zero, List.getElem?_cons_zero, List.getElem?_cons_succ] at a0 a1 a2 a3 a4 a5 a6; have Ea := hyd (And.intro a0 (And.intro a1 (And.intro a2 (And.intro a3 (And.intro a4 (And.intro a5 a6)))))); clear hcella a0 a1 a2 a3 a4 a5 a6; subst ea; have HA := hyd (fun W (k : Keep [] (w.alloc _) W) => ha W _ _ (hT.keep0 k) (hnda.keep k (by simp))); have HC := hyd (fun W (k : Keep [] (w.alloc _) W) => p_texts (w := W) (s := commaB) (sep := ⟨#[44, 32]⟩) (hT.keep0 k) ((h3.keep hk5 (by simp)).keep k (by simp)) hb.1 hb.2.2 rfl (by omega) hb.2.1); have HB := hyd (fun W (k : Keep [] (w.alloc _) W) => p_ar (w := W) (hT.keep0 k) ((h2.keep hk5 (by simp)).keep k (by simp)) hl hs); have hgp : (0 : Int) < (l.length : Int) := by have := List.length_pos_iff.2 h0; omega
 have hsl := hs.2; clear hb5 hk5 hnd h1 h2 h3 ht hT hl hs h0 ha hb hnda; go_enter Tryz.func10, Tryz.ntmps10; go_wp2_with fail; refine HB.o _ (Keep.refl [] _) |>.mono ?_
 rintro e w6 ⟨⟨Y, rfl, hY⟩, hk6⟩; have hsY : Y.size = (flat (sepI semiB ls)).length := by rw [size_list Y, hY]
 have HXY := hyd hY; have HK6 := hyd hk6; have HK56 := hyd (HK5.o.trans hk6 (by simp)); clear hY hk6 d0 d1 d2 d3 d4 d5 d6; generalize w.alloc _ = w5 at *; have q0 := HK6.o.cellOf D0.o.1; have q1 := HK6.o.cellOf D0.o.2.1; have q2 := HK6.o.cellOf D0.o.2.2.1; have q3 := HK6.o.cellOf D0.o.2.2.2.1; have q4 := HK6.o.cellOf D0.o.2.2.2.2.1; have q5 := HK6.o.cellOf D0.o.2.2.2.2.2.1; have q6 := HK6.o.cellOf D0.o.2.2.2.2.2.2; go_wp2_with fail; clear q0 q1 q2 q3 q4 q5 q6; refine wp_region_held_drew (S := fun w' => Keep [] w5 w') (by kernel_rfl) (HK6.o.drew) (fun hHeld => ?_); refine tkL 0 ?v0 rfl ?run0 hHeld ?_
 case run0 => (intro w9 hS9; obtain ⟨q0, q1, q2, q3, q4, q5, q6⟩ := ck7 hS9 D0.o; obtain ⟨a0, a1, a2, a3, a4, a5, a6⟩ := ck7 hS9 Ea.o; go_simp; try exact rfl)
 try simp only [Act.put, lA, lZ, lS]
 refine tkL 1 ?v1 rfl ?run1 hHeld ?_
 case run1 => (intro w9 hS9; obtain ⟨q0, q1, q2, q3, q4, q5, q6⟩ := ck7 hS9 D0.o; obtain ⟨a0, a1, a2, a3, a4, a5, a6⟩ := ck7 hS9 Ea.o; go_simp; try exact rfl)
 try simp only [Act.put, lA, lZ, lS]
 refine tkL 2 ?v2 rfl ?run2 hHeld ?_
 case run2 => (intro w9 hS9; obtain ⟨q0, q1, q2, q3, q4, q5, q6⟩ := ck7 hS9 D0.o; obtain ⟨a0, a1, a2, a3, a4, a5, a6⟩ := ck7 hS9 Ea.o; go_simp; try exact rfl)
 try simp only [Act.put, lA, lZ, lS]
 refine tkL 3 ?v3 rfl ?run3 hHeld ?_
 case run3 => (intro w9 hS9; obtain ⟨q0, q1, q2, q3, q4, q5, q6⟩ := ck7 hS9 D0.o; obtain ⟨a0, a1, a2, a3, a4, a5, a6⟩ := ck7 hS9 Ea.o; go_simp; try exact rfl)
 try simp only [Act.put, lA, lZ, lS]
 refine tkL 4 ?v4 rfl ?run4 hHeld ?_
 case run4 => (intro w9 hS9; obtain ⟨q0, q1, q2, q3, q4, q5, q6⟩ := ck7 hS9 D0.o; obtain ⟨a0, a1, a2, a3, a4, a5, a6⟩ := ck7 hS9 Ea.o; go_simp; try exact rfl)
 try simp only [Act.put, lA, lZ, lS]
 refine tkL 8 ?v8 rfl ?run8 hHeld ?_
 case run8 => (intro w9 hS9; obtain ⟨q0, q1, q2, q3, q4, q5, q6⟩ := ck7 hS9 D0.o; obtain ⟨a0, a1, a2, a3, a4, a5, a6⟩ := ck7 hS9 Ea.o; go_simp; try exact rfl)
 try simp only [Act.put, lA, lZ, lS]
 refine tkL 9 ?v9 rfl ?run9 hHeld ?_
 case run9 => (intro w9 hS9; obtain ⟨q0, q1, q2, q3, q4, q5, q6⟩ := ck7 hS9 D0.o; obtain ⟨a0, a1, a2, a3, a4, a5, a6⟩ := ck7 hS9 Ea.o; go_simp; try exact rfl)
 try simp only [Act.put, lA, lZ, lS]
 refine rdH 5 rfl (fun K hK => ?_); go_simp; refine (HA.o _ ((HK6.o.drew))).mono ?_; rintro e wc1 ⟨⟨X, rfl, hX⟩, hc⟩; have HC1 := hyd (((HK6.o.drew)).trans hc (by simp)); have hsX : X.size = (flat x).length := by rw [size_list X, hX]
 have HXX := hyd hX; clear hX hc; go_wp2_with fail; refine hK.out _ _ HC1.o (fun hHeld2 => ?_); clear hK K hHeld; have hHeld := hHeld2; clear hHeld2
 try simp only [Act.put, lA, lZ, lS]
 refine tkL 6 (.string (⟨#[32, 97, 102, 116, 101, 114, 32]⟩ ++ X)) rfl ?run6 hHeld ?_
 case run6 => (intro w9 hS9; go_simp; first | done | omega | (simp; omega))
 try simp only [Act.put, lA, lZ, lS]
 refine tkL 7 (.string (⟨#[32, 97, 102, 116, 101, 114, 32]⟩ ++ X ++ ⟨#[32, 45, 62, 32]⟩)) rfl ?run7 hHeld ?_
 case run7 => (intro w9 hS9; go_simp; first | done | omega | (simp; omega))
 try simp only [Act.put, lA, lZ, lS]
 refine rdH 10 rfl (fun K hK => ?_); go_simp; refine (HC.o _ (HC1.o)).mono ?_; rintro e wc2 ⟨⟨Z, rfl, hZ⟩, hc⟩; have HC2 := hyd ((HC1.o).trans hc (by simp)); have hsZ : Z.size = (flat (sepI commaB bs)).length := by rw [size_list Z, hZ]
 have HXZ := hyd hZ; clear hZ hc; go_wp2_with fail; refine hK.out _ _ HC2.o (fun hHeld2 => ?_); clear hK K hHeld; have hHeld := hHeld2; clear hHeld2
 try simp only [Act.put, lA, lZ, lS]
 refine tkL 11 (.string (⟨#[32, 97, 102, 116, 101, 114, 32]⟩ ++ X ++ ⟨#[32, 45, 62, 32]⟩ ++ Z)) rfl ?run11 hHeld ?_
 case run11 => (intro w9 hS9; go_simp; first | done | omega | (simp; omega))
 try simp only [Act.put, lA, lZ, lS]
 refine tkL 12 (.string ((⟨#[114, 101, 99, 101, 105, 118, 101]⟩ ++ (⟨#[32]⟩ ++ Y)) ++ (⟨#[32, 97, 102, 116, 101, 114, 32]⟩ ++ X ++ ⟨#[32, 45, 62, 32]⟩ ++ Z))) rfl ?run12 hHeld ?_
 case run12 => (intro w9 hS9; go_simp; first | done | omega | (simp; omega))
 try simp only [Act.put, lA, lZ, lS]
 refine tkL 13 ?v13 rfl ?run13 hHeld ?_
 case run13 => (intro w9 hS9; go_simp; try exact rfl)
 try simp only [Act.put, lA, lZ, lS]
 refine wpAnyH_done (by kernel_rfl) ?_ _; go_wp2_with fail; go_ret; exact ⟨⟨_, rfl, by (simp [HXY.o, HXX.o, HXZ.o, flat_cons, flat_app, flat_nil, It.text])⟩, HK5.o.trans HC2.o (by simp)⟩
theorem tx_recvB {B : Nat} {b : List Nd} {bs : List (List It)} {a : Nd} {x : List It} (ha : TxT B a x) (hb : TL B b bs) (hlen : (flat x).length + (flat (sepI commaB bs)).length ≤ 140737488354000) : TxT B (.mk 15 0 [] [a] [] b) (wd sReceive :: (sp :: wd sAfter :: sp :: x ++ sp :: .t 5 0 sTo :: sp :: sepI commaB bs) ++ [sp, wd sEnd]) := by
 intro w S cs ht hnd; obtain ⟨kd, nu, at1, nm1, a0, b0, c0, va, vb, vc, rfl, hn, h1, h2, h3⟩ := id hnd.un7; injection hn with e1 e2 e3 e4 e5 e6; subst e1 e2 e3 e4 e5 e6; obtain ⟨p1, c1, e1⟩ := h1.form; obtain ⟨p2, c2, e2⟩ := h2.form; obtain ⟨p3, c3, e3⟩ := h3.form; replace e1 : va = .slice p1 1 c1 := e1; replace e2 : vb = .slice p2 0 c2 := e2; replace e3 : vc = .slice p3 b.length c3 := e3; subst e1 e2 e3; have hk5 := (Keep.refl [] w).alloc (.cells #[.int .i64 15, .int .i64 0, .string ⟨#[]⟩, .int .i64 at1, .slice p1 1 c1, .slice p2 0 c2, .slice p3 b.length c3] 29); have hb5 := heap_alloc_new w (.cells #[.int .i64 15, .int .i64 0, .string ⟨#[]⟩, .int .i64 at1, .slice p1 1 c1, .slice p2 0 c2, .slice p3 b.length c3] 29); obtain ⟨d0, d1, d2, d3, d4, d5, d6⟩ := cells7 hb5; have D0 := hyd (And.intro d0 (And.intro d1 (And.intro d2 (And.intro d3 (And.intro d4 (And.intro d5 d6)))))); have HK5 := hyd hk5; have hT := ht.keep0 hk5; have HT := hyd hT; obtain ⟨aba, aoffa, csa, ea, -, hnda, hcella⟩ := (h1.keep hk5 (by simp)).at7 (i := 0) (by simp); replace hnda : NdR S _ false csa a := hnda; obtain ⟨kda, nua, ata, nma, p1a, n1a, c1a, p2a, n2a, c2a, p3a, n3a, c3a, rfl, -⟩ := id hnda.un7s; have a0 := hcella 0 (by decide); have a1 := hcella 1 (by decide); have a2 := hcella 2 (by decide); have a3 := hcella 3 (by decide); have a4 := hcella 4 (by decide); have a5 := hcella 5 (by decide); have a6 := hcella 6 (by decide); simp only [Nat.zero_mul, Nat.one_mul, Nat.add_zero, List.getElem?_cons_zero, List.getElem?_cons_succ] at a0 a1 a2 a3 a4 a5 a6; have Ea := hyd (And.intro a0 (And.intro a1 (And.intro a2 (And.intro a3 (And.intro a4 (And.intro a5 a6)))))); clear hcella a0 a1 a2 a3 a4 a5 a6; subst ea; have HA := hyd (fun W (k : Keep [] (w.alloc _) W) => ha W _ _ (hT.keep0 k) (hnda.keep k (by simp))); have HC := hyd (fun W (k : Keep [] (w.alloc _) W) => p_texts (w := W) (s := commaB) (sep := ⟨#[44, 32]⟩) (hT.keep0 k) ((h3.keep hk5 (by simp)).keep k (by simp)) hb.1 hb.2.2 rfl (by omega) hb.2.1); clear hb5 hk5 hnd h1 h2 h3 ht hT ha hb hnda; go_enter Tryz.func10, Tryz.ntmps10; go_wp2_with fail; generalize w.alloc _ = w5 at *; clear d0 d1 d2 d3 d4 d5 d6; refine wp_region_held_drew (S := fun w' => Keep [] w5 w') (by kernel_rfl) ((Keep.refl [] w5).drew) (fun hHeld => ?_); refine tkL 0 ?v0 rfl ?run0 hHeld ?_
 case run0 => (intro w9 hS9; obtain ⟨q0, q1, q2, q3, q4, q5, q6⟩ := ck7 hS9 D0.o; obtain ⟨a0, a1, a2, a3, a4, a5, a6⟩ := ck7 hS9 Ea.o; go_simp; try exact rfl)
 try simp only [Act.put, lA, lZ, lS]
 refine tkL 1 ?v1 rfl ?run1 hHeld ?_
 case run1 => (intro w9 hS9; obtain ⟨q0, q1, q2, q3, q4, q5, q6⟩ := ck7 hS9 D0.o; obtain ⟨a0, a1, a2, a3, a4, a5, a6⟩ := ck7 hS9 Ea.o; go_simp; try exact rfl)
 try simp only [Act.put, lA, lZ, lS]
 refine tkL 2 ?v2 rfl ?run2 hHeld ?_
 case run2 => (intro w9 hS9; obtain ⟨q0, q1, q2, q3, q4, q5, q6⟩ := ck7 hS9 D0.o; obtain ⟨a0, a1, a2, a3, a4, a5, a6⟩ := ck7 hS9 Ea.o; go_simp; try exact rfl)
 try simp only [Act.put, lA, lZ, lS]
 refine tkL 3 ?v3 rfl ?run3 hHeld ?_
 case run3 => (intro w9 hS9; obtain ⟨q0, q1, q2, q3, q4, q5, q6⟩ := ck7 hS9 D0.o; obtain ⟨a0, a1, a2, a3, a4, a5, a6⟩ := ck7 hS9 Ea.o; go_simp; try exact rfl)
 try simp only [Act.put, lA, lZ, lS]
 refine tkL 4 ?v4 rfl ?run4 hHeld ?_
 case run4 => (intro w9 hS9; obtain ⟨q0, q1, q2, q3, q4, q5, q6⟩ := ck7 hS9 D0.o; obtain ⟨a0, a1, a2, a3, a4, a5, a6⟩ := ck7 hS9 Ea.o; go_simp; try exact rfl)
 try simp only [Act.put, lA, lZ, lS]
 refine tkL 8 ?v8 rfl ?run8 hHeld ?_
 case run8 => (intro w9 hS9; obtain ⟨q0, q1, q2, q3, q4, q5, q6⟩ := ck7 hS9 D0.o; obtain ⟨a0, a1, a2, a3, a4, a5, a6⟩ := ck7 hS9 Ea.o; go_simp; try exact rfl)
 try simp only [Act.put, lA, lZ, lS]
 refine tkL 9 ?v9 rfl ?run9 hHeld ?_
 case run9 => (intro w9 hS9; obtain ⟨q0, q1, q2, q3, q4, q5, q6⟩ := ck7 hS9 D0.o; obtain ⟨a0, a1, a2, a3, a4, a5, a6⟩ := ck7 hS9 Ea.o; go_simp; try exact rfl)
 try simp only [Act.put, lA, lZ, lS]
 refine rdH 5 rfl (fun K hK => ?_); go_simp; refine (HA.o _ (((Keep.refl [] w5).drew))).mono ?_; rintro e wc1 ⟨⟨X, rfl, hX⟩, hc⟩; have HC1 := hyd ((((Keep.refl [] w5).drew)).trans hc (by simp)); have hsX : X.size = (flat x).length := by rw [size_list X, hX]
 have HXX := hyd hX; clear hX hc; go_wp2_with fail; refine hK.out _ _ HC1.o (fun hHeld2 => ?_); clear hK K hHeld; have hHeld := hHeld2; clear hHeld2
 try simp only [Act.put, lA, lZ, lS]
 refine tkL 6 (.string (⟨#[32, 97, 102, 116, 101, 114, 32]⟩ ++ X)) rfl ?run6 hHeld ?_
 case run6 => (intro w9 hS9; go_simp; first | done | omega | (simp; omega))
 try simp only [Act.put, lA, lZ, lS]
 refine tkL 7 (.string (⟨#[32, 97, 102, 116, 101, 114, 32]⟩ ++ X ++ ⟨#[32, 45, 62, 32]⟩)) rfl ?run7 hHeld ?_
 case run7 => (intro w9 hS9; go_simp; first | done | omega | (simp; omega))
 try simp only [Act.put, lA, lZ, lS]
 refine rdH 10 rfl (fun K hK => ?_); go_simp; refine (HC.o _ (HC1.o)).mono ?_; rintro e wc2 ⟨⟨Z, rfl, hZ⟩, hc⟩; have HC2 := hyd ((HC1.o).trans hc (by simp)); have hsZ : Z.size = (flat (sepI commaB bs)).length := by rw [size_list Z, hZ]
 have HXZ := hyd hZ; clear hZ hc; go_wp2_with fail; refine hK.out _ _ HC2.o (fun hHeld2 => ?_); clear hK K hHeld; have hHeld := hHeld2; clear hHeld2
 try simp only [Act.put, lA, lZ, lS]
 refine tkL 11 (.string (⟨#[32, 97, 102, 116, 101, 114, 32]⟩ ++ X ++ ⟨#[32, 45, 62, 32]⟩ ++ Z)) rfl ?run11 hHeld ?_
 case run11 => (intro w9 hS9; go_simp; first | done | omega | (simp; omega))
 try simp only [Act.put, lA, lZ, lS]
 refine tkL 12 (.string (⟨#[114, 101, 99, 101, 105, 118, 101]⟩ ++ (⟨#[32, 97, 102, 116, 101, 114, 32]⟩ ++ X ++ ⟨#[32, 45, 62, 32]⟩ ++ Z))) rfl ?run12 hHeld ?_
 case run12 => (intro w9 hS9; go_simp; first | done | omega | (simp; omega))
 try simp only [Act.put, lA, lZ, lS]
 refine tkL 13 ?v13 rfl ?run13 hHeld ?_
 case run13 => (intro w9 hS9; go_simp; try exact rfl)
 try simp only [Act.put, lA, lZ, lS]
 refine wpAnyH_done (by kernel_rfl) ?_ _; go_wp2_with fail; go_ret; exact ⟨⟨_, rfl, by (simp [HXX.o, HXZ.o, flat_cons, flat_app, flat_nil, It.text])⟩, HK5.o.trans HC2.o (by simp)⟩
theorem oper_flat (a : Nd) (x : List It) : (flat x).length ≤ (flat (operI a x)).length := by
 unfold operI; split
 ·simp [inBr, flat_cons, flat_app, flat_nil]; omega
 ·exact Nat.le_refl _
theorem callI_flat (a : Nd) (x : List It) : (flat x).length ≤ (flat (callI a x)).length := by
 unfold callI; split
 ·exact Nat.le_refl _
 ·simp [inBr, flat_cons, flat_app, flat_nil]; omega
theorem oper_sub (a : Nd) (x : List It) : x.Sublist (operI a x) := by
 unfold operI; split
 ·exact List.IsInfix.sublist ⟨[sg 40], [sg 41], by simp [inBr]⟩
 ·exact List.Sublist.refl _
theorem callI_sub (a : Nd) (x : List It) : x.Sublist (callI a x) := by
 unfold callI; split
 ·exact List.Sublist.refl _
 ·exact List.IsInfix.sublist ⟨[sg 40], [sg 41], by simp [inBr]⟩
theorem tail_b (gs bs : List (List It)) : (sepI commaB bs).Sublist (tailI gs bs) :=
 List.IsInfix.sublist ⟨(if gs = [] then [] else sp :: wd sWhen :: sp :: sepI commaB gs) ++ [sp, .t 5 0 sTo, sp], [], by simp [tailI]⟩
theorem tail_g (gs bs : List (List It)) : (sepI commaB gs).Sublist (tailI gs bs) := by
 by_cases h : gs = []
 ·subst h; exact List.nil_sublist _
 ·exact List.IsInfix.sublist ⟨[sp, wd sWhen, sp], sp :: .t 5 0 sTo :: sp :: sepI commaB bs, by simp [tailI, h]⟩
theorem tok2 {nm : List UInt8} (h : TokOk ⟨2, 0, nm, 0⟩) : nm.length ≤ 255 ∧ nm ≠ [] := by
 rcases h with ⟨h, -⟩ | ⟨-, ⟨-, l1, l2⟩ | ⟨h, -⟩ | ⟨h, -⟩ | ⟨h, -⟩⟩
 ·simp at h
 ·refine ⟨by simpa using l2, ?_⟩; rintro rfl; simp at l1
 ·simp at h
 ·simp at h
 ·simp at h
theorem level_len {u : Nat} {t : List UInt8} (hu : u < 5) (ht : t ∈ levelsL u) : t.length ≤ 100 := by
 have h : ∀ u, u < 5 → ∀ t ∈ levelsL u, t.length ≤ 100 := by decide
 exact h u hu t ht
theorem un_len {t : List UInt8} (ht : t ∈ [sMinus, sNot]) : t.length ≤ 100 := by
 have h : ∀ t ∈ [sMinus, sNot], t.length ≤ 100 := by decide
 exact h t ht
theorem ar_of {B : Nat} {l : List Nd} {ls : List (List It)} (hl : ls.length = l.length) (h : ∀ i (h : i < l.length) (h' : i < ls.length), Pr 1 l[i] ls[i]) (ih : ∀ i (h : i < l.length) (h' : i < ls.length), Sm ls[i] → QT B 1 l[i] ls[i])
  (hs : Sm (sepI semiB ls)) : ArL B l ls :=
 ⟨hl, by have := sep_many semiB ls (pl_ne hl h); have := hs.1; omega, fun i hi hi' => (ih i hi hi' (hs.sub (sep_sub _ ls i hi'))).2.1 rfl⟩
theorem hd_of {B : Nat} {l : List Nd} {ls : List (List It)} (hl : ls.length = l.length) (h : ∀ i (h : i < l.length) (h' : i < ls.length), Pr 2 l[i] ls[i]) (ih : ∀ i (h : i < l.length) (h' : i < ls.length), Sm ls[i] → QT B 2 l[i] ls[i])
  (hs : Sm (sepI semiB ls)) : HdL B l ls :=
 ⟨hl, by have := sep_many semiB ls (pl_ne hl h); have := hs.1; omega, fun i hi hi' => by
   obtain ⟨ps, gs, bs, h1, h2⟩ := (ih i hi hi' (hs.sub (sep_sub _ ls i hi'))).2.2.1 rfl
   exact ⟨[], ps, gs, bs, h1, by simp, by rw [h2]; simp⟩⟩
theorem fhd_of {B : Nat} {l : List Nd} {ls : List (List It)} (hl : ls.length = l.length) (h : ∀ i (h : i < l.length) (h' : i < ls.length), Pr 3 l[i] ls[i]) (ih : ∀ i (h : i < l.length) (h' : i < ls.length), Sm ls[i] → QT B 3 l[i] ls[i])
  (hs : Sm (sepI semiB ls)) : HdL B l ls :=
 ⟨hl, by have := sep_many semiB ls (pl_ne hl h); have := hs.1; omega, fun i hi hi' => by
   obtain ⟨nm, ps, gs, bs, h1, h0, h3, h2⟩ := (ih i hi hi' (hs.sub (sep_sub _ ls i hi'))).2.2.2.1 rfl
   exact ⟨nm, ps, gs, bs, h1, h3, by rw [h2, if_neg h0]; simp⟩⟩
theorem one_tl {B : Nat} {p : Nd} {x : List It} (h : TxT B p x) : TL B [p] [x] :=
 ⟨rfl, by simp, fun i hi hi' => by
   have : i = 0 := by simp at hi; exact hi
   subst this; exact h⟩
theorem tx_all (B : Nat) {k : Nat} {n : Nd} {x : List It} (h : Pr k n x) : Sm x → QT B k n x := by
 induction h with
 | leaf h h3 => exact fun _ => .tree (tx_leaf h h3)
 | @tuple l ls hl h ih =>
  intro hs; have h1 : Sm (sepI comma ls) := hs.inf [sg 123] [sg 125] (by simp); exact .tree (tx_tuple (tl_of hl h (fun i h h' hs => (ih i h h' hs).1 rfl) h1) (by have := h1.2; omega))
 | nil => exact fun _ => .tree (tx_list (l := []) (ls := []) (t := .mk 5 0 [] [] [] []) (y := []) (tl := []) rfl (.inl rfl) ⟨rfl, by simp, fun i h => by simp at h⟩ (by simp [Nd.kind]) rfl (fun h => absurd rfl h) rfl (by decide))
 | @cons a t x r ha ht iha iht =>
  intro hs; obtain ⟨l, ls, t', y, tl, e, hTL, hll, h6, htl, hy5, hy, hfl⟩ := (iht (hs.inf (sg 91 :: x) [] (by simp))).2.2.2.2 rfl; have hxa := (iha (hs.inf [sg 91] r (by simp))).1 rfl
  have hfx : flat (sg 91 :: x ++ r) = 91 :: Lib.join ((x :: ls).map flat) [44] ++ tl ++ [93] := by
   rw [flat_app, hfl, List.map_cons, Lib.join_cons, flat_cons]; simp [It.text]
  have hlen : (Lib.join ((x :: ls).map flat) [44]).length + (flat y).length ≤ 140737488354000 := by
   have h2 := hs.2; rw [hfx] at h2; simp only [List.length_append, List.length_cons, List.length_nil] at h2
   by_cases h5 : t'.kind = 5
   ·rw [hy5 h5, flat_nil]; simp only [List.length_nil]; omega
   ·rw [if_neg h5] at htl; rw [htl] at h2; simp only [List.length_cons] at h2
    omega
  refine .tree (tx_list (l := a :: l) (ls := x :: ls) (t := t') (y := y) (tl := tl) (by rw [e]; rfl) (.inr rfl) ⟨by simp [hTL.1], ?_, ?_⟩ h6 htl hy hfx hlen)
  ·have h1 := hs.1; simp only [List.length_append, List.length_cons] at h1 ⊢
   omega
  ·rintro (_ | i) hi hi'
   ·exact hxa
   ·exact hTL.2.2 i (by simp at hi; omega) (by simp at hi'; omega)
 | rest_nil => exact fun _ => .rst ⟨[], [], .mk 5 0 [] [] [] [], [], [], rfl, ⟨rfl, by simp, fun i h => by simp at h⟩, by simp, by simp [Nd.kind], rfl, fun _ => rfl, fun h => absurd rfl h, rfl⟩
 | @rest_cons a t x r ha ht iha iht =>
  intro hs; obtain ⟨l, ls, t', y, tl, e, hTL, hll, h6, htl, hy5, hy, hfl⟩ := (iht (hs.inf (sg 44 :: x) [] (by simp))).2.2.2.2 rfl; have hxa := (iha (hs.inf [sg 44] r (by simp))).1 rfl; have h1 := hs.1; simp only [List.length_append, List.length_cons] at h1; refine .rst ⟨a :: l, x :: ls, t', y, tl, by rw [e]; rfl, ⟨by simp [hTL.1], by simp only [List.length_cons]; omega, ?_⟩, by simp; omega, h6, htl, hy5, hy, ?_⟩
  ·rintro (_ | i) hi hi'
   ·exact hxa
   ·exact hTL.2.2 i (by simp at hi; omega) (by simp at hi'; omega)
  ·rw [flat_app, hfl, flat_cons]; simp [It.text, Lib.joinTail]
 | @rest_bar t x ht h5 h6 ih =>
  intro hs; have hx := (ih (hs.inf [sg 124] [sg 93] (by simp))).1 rfl; exact .rst ⟨[], [], t, x, 124 :: flat x, rfl, ⟨rfl, by simp, fun i h => by simp at h⟩, by simp, h6, by rw [if_neg h5], fun h => absurd h h5, fun _ => hx, by simp [flat_cons, flat_app, flat_nil, It.text, Lib.joinTail]⟩
 | @call nm l ls hn hl h ih =>
  intro hs; have h1 : Sm (sepI comma ls) := hs.inf [.t 2 0 nm, sg 40] [sg 41] (by simp); have h2 := hs.2; simp [flat_cons, flat_app, flat_nil, It.text] at h2; exact .tree (tx_call (tok2 hn).1 (tl_of hl h (fun i h h' hs => (ih i h h' hs).1 rfl) h1) (by omega))
 | @apply f x l ls hf hl h ihf ih =>
  intro hs; have h1 : Sm (sepI comma ls) := hs.inf (callI f x ++ [sg 40]) [sg 41] (by simp); have h0 : Sm (callI f x) := hs.inf [] (sg 40 :: sepI comma ls ++ [sg 41]) (by simp); have h2 := hs.2; simp [flat_cons, flat_app, flat_nil, It.text] at h2; have h3 := callI_flat f x; exact .tree (tx_apply ((ihf (h0.sub (callI_sub f x))).1 rfl) (tl_of hl h (fun i h h' hs => (ih i h h' hs).1 rfl) h1) (by omega) (by omega))
 | @op k v u t a b x y hu ht hk h4 ha hb iha ihb =>
  intro hs; have h0 : Sm (operI a x) := hs.inf [] (sp :: .t k v t :: sp :: operI b y) (by simp); have h1 : Sm (operI b y) := hs.inf (operI a x ++ [sp, .t k v t, sp]) [] (by simp); have h2 := hs.2; simp only [flat_cons, flat_app, flat_nil, List.length_append] at h2; have h3 := oper_flat a x; have h5 := oper_flat b y; exact .tree (tx_op ((iha (h0.sub (oper_sub a x))).1 rfl) ((ihb (h1.sub (oper_sub b y))).1 rfl) h4 (level_len hu ht) (by omega) (by omega) (by omega))
 | @un k v t a x ht hk h4 ha iha =>
  intro hs; have h0 : Sm (operI a x) := hs.inf [.t k v t, sp] [] (by simp); have h2 := h0.2; have h3 := oper_flat a x; exact .tree (tx_un ((iha (h0.sub (oper_sub a x))).1 rfl) h4 (un_len ht) (by omega) (by omega))
 | @mat a b x y ha hb iha ihb =>
  intro hs; have h0 : Sm (operI a x) := hs.inf [] (sp :: sg 61 :: sp :: operI b y) (by simp); have h1 : Sm (operI b y) := hs.inf (operI a x ++ [sp, sg 61, sp]) [] (by simp); have h2 := hs.2; simp only [flat_cons, flat_app, flat_nil, List.length_append] at h2; have h3 := oper_flat a x; have h5 := oper_flat b y; exact .tree (tx_mat ((iha (h0.sub (oper_sub a x))).1 rfl) ((ihb (h1.sub (oper_sub b y))).1 rfl) (by omega) (by omega) (by omega))
 | @send a b x y ha hb iha ihb =>
  intro hs; have h0 : Sm (operI a x) := hs.inf [] (sp :: sg 33 :: sp :: operI b y) (by simp); have h1 : Sm (operI b y) := hs.inf (operI a x ++ [sp, sg 33, sp]) [] (by simp); have h2 := hs.2; simp only [flat_cons, flat_app, flat_nil, List.length_append] at h2; have h3 := oper_flat a x; have h5 := oper_flat b y; exact .tree (tx_send ((iha (h0.sub (oper_sub a x))).1 rfl) ((ihb (h1.sub (oper_sub b y))).1 rfl) (by omega) (by omega) (by omega))
 | @fn l ls h0 hl h ih =>
  intro hs; have h1 : Sm (sepI semiB ls) := hs.inf [wd sFun] [sp, wd sEnd] (by simp); exact .tree (tx_fn (hd_of hl h ih h1) h1)
 | @case a x l ls ha h0 hl h iha ih =>
  intro hs; have h1 : Sm (sepI semiB ls) := hs.inf (wd sCase :: sp :: x ++ [sp, wd sOf, sp]) [sp, wd sEnd] (by simp); have h2 : Sm x := hs.inf [wd sCase, sp] (sp :: wd sOf :: sp :: sepI semiB ls ++ [sp, wd sEnd]) (by simp); have h3 := hs.2; simp only [flat_cons, flat_app, flat_nil, List.length_append] at h3; exact .tree (tx_case ((iha h2).1 rfl) (ar_of hl h ih h1) h1 (by omega))
 | @tr b l bs ls hb0 hbl hb h0 hl h ihb ih =>
  intro hs; have h1 : Sm (sepI semiB ls) := hs.inf (wd sTry :: sp :: sepI commaB bs ++ [sp, wd sCatch, sp]) [sp, wd sEnd] (by simp); have h2 : Sm (sepI commaB bs) := hs.inf [wd sTry, sp] (sp :: wd sCatch :: sp :: sepI semiB ls ++ [sp, wd sEnd]) (by simp); have h3 := hs.2; simp only [flat_cons, flat_app, flat_nil, List.length_append] at h3; exact .tree (tx_tr (tl_of hbl hb (fun i h h' hs => (ihb i h h' hs).1 rfl) h2) (ar_of hl h ih h1) h1 (by omega))
 | @recv l ls h0 hl h ih =>
  intro hs; have h1 : Sm (sepI semiB ls) := hs.inf [wd sReceive, sp] [sp, wd sEnd] (by simp); exact .tree (tx_recv h0 (ar_of hl h ih h1) h1)
 | @recvA l b ls bs a x hl h ha hb0 hbl hb ih iha ihb =>
  intro hs
  by_cases h0 : ls = []
  ·subst h0; have := List.eq_nil_of_length_eq_zero hl.symm; subst this; rw [if_pos rfl] at hs ⊢; have h1 : Sm x := hs.inf [wd sReceive, sp, wd sAfter, sp] (sp :: .t 5 0 sTo :: sp :: sepI commaB bs ++ [sp, wd sEnd]) (by simp); have h2 : Sm (sepI commaB bs) := hs.inf (wd sReceive :: sp :: wd sAfter :: sp :: x ++ [sp, .t 5 0 sTo, sp]) [sp, wd sEnd] (by simp); have h3 := hs.2; simp only [flat_cons, flat_app, flat_nil, List.length_append] at h3; exact .tree (by simpa using tx_recvB ((iha h1).1 rfl) (tl_of hbl hb (fun i h h' hs => (ihb i h h' hs).1 rfl) h2) (by omega))
  ·rw [if_neg h0] at hs ⊢; have h1 : Sm x := hs.inf (wd sReceive :: sp :: sepI semiB ls ++ [sp, wd sAfter, sp]) (sp :: .t 5 0 sTo :: sp :: sepI commaB bs ++ [sp, wd sEnd]) (by simp); have h2 : Sm (sepI commaB bs) := hs.inf (wd sReceive :: sp :: sepI semiB ls ++ sp :: wd sAfter :: sp :: x ++ [sp, .t 5 0 sTo, sp]) [sp, wd sEnd] (by simp); have h4 : Sm (sepI semiB ls) := hs.inf [wd sReceive, sp] (sp :: wd sAfter :: sp :: x ++ sp :: .t 5 0 sTo :: sp :: sepI commaB bs ++ [sp, wd sEnd]) (by simp); have h3 := hs.2; simp only [flat_cons, flat_app, flat_nil, List.length_append] at h3; have hl0 : l ≠ [] := by rintro rfl; exact h0 (List.eq_nil_of_length_eq_zero hl)
   exact .tree (by simpa using tx_recvA hl0 (ar_of hl h ih h4) h4 ((iha h1).1 rfl) (tl_of hbl hb (fun i h h' hs => (ihb i h h' hs).1 rfl) h2) (by omega))
 | @arm p x g b gs bs hp hgl hg hb0 hbl hb ihp ihg ihb =>
  intro hs; have h1 : Sm x := hs.inf [] (tailI gs bs) (by simp); have h2 : Sm (tailI gs bs) := hs.inf x [] (by simp); exact .arm ⟨[], [x], gs, bs, ⟨[p], g, b, rfl, one_tl ((ihp h1).1 rfl), tl_of hgl hg (fun i h h' hs => (ihg i h h' hs).1 rfl) (h2.sub (tail_g gs bs)), tl_of hbl hb (fun i h h' hs => (ihb i h h' hs).1 rfl) (h2.sub (tail_b gs bs))⟩, rfl⟩
 | @head p g b ps gs bs hpl hp hgl hg hb0 hbl hb ihp ihg ihb =>
  intro hs; have h1 : Sm (sepI comma ps) := hs.inf [sg 40] (sg 41 :: tailI gs bs) (by simp); have h2 : Sm (tailI gs bs) := hs.inf (sg 40 :: sepI comma ps ++ [sg 41]) [] (by simp); exact .hd ⟨ps, gs, bs, ⟨p, g, b, rfl, tl_of hpl hp (fun i h h' hs => (ihp i h h' hs).1 rfl) h1, tl_of hgl hg (fun i h h' hs => (ihg i h h' hs).1 rfl) (h2.sub (tail_g gs bs)), tl_of hbl hb (fun i h h' hs => (ihb i h h' hs).1 rfl) (h2.sub (tail_b gs bs))⟩, rfl⟩
 | @fhead nm p g b ps gs bs hn hpl hp hgl hg hb0 hbl hb ihp ihg ihb =>
  intro hs; have h1 : Sm (sepI comma ps) := hs.inf [.t 2 0 nm, sg 40] (sg 41 :: tailI gs bs) (by simp); have h2 : Sm (tailI gs bs) := hs.inf (.t 2 0 nm :: sg 40 :: sepI comma ps ++ [sg 41]) [] (by simp); exact .fhd ⟨nm, ps, gs, bs, ⟨p, g, b, rfl, tl_of hpl hp (fun i h h' hs => (ihp i h h' hs).1 rfl) h1, tl_of hgl hg (fun i h h' hs => (ihg i h h' hs).1 rfl) (h2.sub (tail_g gs bs)), tl_of hbl hb (fun i h h' hs => (ihb i h h' hs).1 rfl) (h2.sub (tail_b gs bs))⟩, (tok2 hn).2, (tok2 hn).1, rfl⟩
theorem rd_atom (s : ByteArray) (w : World) : Calls Tryz.prog 26 #[.string s] w fun e w' => e = .returned (.agg #[.int .i64 2, .int .i64 0, .string s, .slice none 0 0]) ∧ Keep [] w w' := by
 go_enter Tryz.func26, Tryz.ntmps26; go_wp2_with fail
 try simp only [Exit.inBlock, Exit.then]
 refine bodyPost_ret (results_cell_row (ty := 70) rfl _ _ _ _ _ _ _ rfl (heap_alloc_new w _) Tryz.underlying70 rfl term_size) rfl ?_; exact ⟨rfl, (Keep.refl [] w).alloc _⟩
theorem rd_printA {w : World} (s : ByteArray) (hs : s.size ≤ 100000) :
  Calls Tryz.prog 25 #[.agg #[.int .i64 2, .int .i64 0, .string s, .slice none 0 0]] w fun e w' => e = .returned (.string ⟨(nameL s.data.toList).toArray⟩) ∧ Keep [] w w' := by
 have hk1 : Keep [] w (w.alloc (.cells #[.int .i64 2, .int .i64 0, .string s, .slice none 0 0] 70)) := (Keep.refl [] w).alloc _; have hb1 := heap_alloc_new w (.cells #[.int .i64 2, .int .i64 0, .string s, .slice none 0 0] 70); have hn := r_name s (w.alloc (.cells #[.int .i64 2, .int .i64 0, .string s, .slice none 0 0] 70)) hs; have HN := hyd hn; have HK1 := hyd hk1; obtain ⟨c0, c1, c2, c3⟩ := cells4 hb1; clear hb1 hk1 hn; go_enter Tryz.func25, Tryz.ntmps25; go_wp2_with fail; generalize w.alloc (.cells #[.int .i64 2, .int .i64 0, .string s, .slice none 0 0] 70) = w1 at *; refine HN.o.mono ?_; rintro e w2 ⟨rfl, hk2⟩; go_wp2_with fail; go_ret; exact ⟨rfl, HK1.o.trans hk2 (by simp)⟩
def TxD (n : Nd) (x : List It) : Prop := ∀ (w : World) (S : Nat → Prop) (cs : List Value), NdR S w false cs n → Calls Tryz.prog 11 #[.agg cs.toArray] w (StrE w (flat x))
def TLd (l : List Nd) (ls : List (List It)) : Prop := ls.length = l.length ∧ l.length ≤ 1000000 ∧ ∀ i (_ : i < l.length) (_ : i < ls.length), TxD l[i] ls[i]
theorem sepI_snoc (s x : List It) : ∀ ls : List (List It), sepI s (ls ++ [x]) = if ls = [] then x else sepI s ls ++ s ++ x
 | [] => rfl
 | [y] => by rw [if_neg (by simp)]; rfl
 | y :: z :: r => by
  have ih := sepI_snoc s x (z :: r); rw [if_neg (by simp)] at ih ⊢; show y ++ s ++ sepI s ((z :: r) ++ [x]) = _; rw [ih, sep_cons]; simp
theorem flat_take {s : List It} {ls : List (List It)} {k : Nat} (hk : k < ls.length) : flat (sepI s (ls.take (k + 1))) = flat (sepI s (ls.take k)) ++ (if k = 0 then [] else flat s) ++ flat ls[k] := by
 rw [List.take_succ_eq_append_getElem hk, sepI_snoc]
 by_cases h : k = 0
 ·subst h; simp [flat, sepI]
 ·rw [if_neg (by intro h2; have := congrArg List.length h2; rw [List.length_take, List.length_nil] at this; omega), if_neg h, flat_app, flat_app]
theorem take_flat_le {s : List It} (ls : List (List It)) : ∀ k, (flat (sepI s (ls.take k))).length ≤ (flat (sepI s ls)).length := by
 intro k
 by_cases hk : k < ls.length
 ·obtain ⟨m, hm⟩ : ∃ m, ls.length - k = m := ⟨_, rfl⟩
  induction m generalizing k with
  | zero => omega
  | succ m ih =>
   have h1 := flat_take (s := s) hk; have h2 : (flat (sepI s (ls.take k))).length ≤ (flat (sepI s (ls.take (k + 1)))).length := by rw [h1]; simp only [List.length_append]; omega
   by_cases h3 : k + 1 < ls.length
   ·exact Nat.le_trans h2 (ih (k + 1) h3 (by omega))
   ·rw [List.take_of_length_le (by omega : ls.length ≤ k + 1)] at h2; exact h2
 ·rw [List.take_of_length_le (by omega)]; exact Nat.le_refl _
theorem d_texts {w : World} {S : Nat → Prop} {v : Value} {l : List Nd} {ls : List (List It)} {s : List It} {sep : ByteArray} (h : NsR S w false v l) (hl : TLd l ls)
  (hs : sep.data.toList = flat s) (hlen : (flat (sepI s ls)).length ≤ 140737488355328) (hsz : sep.size ≤ 10) : Calls Tryz.prog 37 #[v, .string sep] w (StrE w (flat (sepI s ls))) := by
 obtain ⟨va, vc, rfl⟩ := h.form; have hlN := hl.2.1; have HH := hyd h; have HL := hyd hl; have HS := hyd hs; have HLEN := hyd hlen; clear h hl hs hlen; go_enter Tryz.func37, Tryz.ntmps37; go_wp2_with fail
 go_loopw [5, 6] (fun t i wr => ∃ (k : Nat) (X : ByteArray), k ≤ l.length ∧ i = .int .i64 k ∧ t = .string X ∧ X.data.toList = flat (sepI s (ls.take k)) ∧ Keep [] w wr) (fun _ i _ => l.length - (RowKit.intOf i).toNat)
 case atStart => exact ⟨0, ⟨#[]⟩, Nat.zero_le _, rfl, rfl, rfl, Keep.refl _ _⟩
 case round =>
  obtain ⟨k, X, hk, rfl, rfl, hX, hkw⟩ := hrel; have HX := hyd hX; have HKW := hyd hkw; clear hX hkw
  by_cases hlt : k < l.length
  ·have q0 : (0 : Int) ≤ (k : Int) := by omega
   have q1 : (k : Int) < (l.length : Int) := by omega
   have hw2 : IntKind.i64.wrap ((k : Int) + 1) = (k : Int) + 1 := IntWalk.i64_in _ (by omega); have hkl : k < ls.length := by rw [HL.o.1]; exact hlt
   obtain ⟨ab, aoff, csa, rfl, -, hnd, hcell⟩ := (HH.o.keep HKW.o (by simp)).at7 hlt; obtain ⟨kd, nu, at1, nm, p1, n1, c1, p2, n2, c2, p3, n3, c3, rfl, -⟩ := id hnd.un7s; have hleA0 := hcell 0 (by decide); have hleA1 := hcell 1 (by decide); have hleA2 := hcell 2 (by decide); have hleA3 := hcell 3 (by decide); have hleA4 := hcell 4 (by decide); have hleA5 := hcell 5 (by decide); have hleA6 := hcell 6 (by decide); simp only [Nat.add_zero, List.getElem?_cons_zero, List.getElem?_cons_succ] at hleA0 hleA1 hleA2 hleA3 hleA4 hleA5 hleA6; have HCALL := hyd (HL.o.2.2 k hlt hkl wr S _ hnd); have hft := flat_take (s := s) hkl; have hfl := take_flat_le (s := s) ls (k + 1); rw [hft] at hfl; simp only [List.length_append] at hfl; have hxs : X.size = (flat (sepI s (ls.take k))).length := by rw [size_list X, HX.o]
   have hss : sep.size = (flat s).length := by rw [size_list sep, HS.o]
   have HFT := hyd hft; have hbd := HLEN.o; clear hcell hnd hft
   by_cases h0 : k = 0
   ·have z1 : ¬ (0 : Int) < (k : Int) := by omega
    rw [if_pos h0] at hfl; simp only [List.length_nil] at hfl; have H0 := hyd h0; clear h0; go_wp2_with fail; refine HCALL.o.mono ?_; rintro e w6 ⟨⟨Y, rfl, hY⟩, hk6⟩; have hys : Y.size = (flat ls[k]).length := by rw [size_list Y, hY]
    have HY := hyd hY; have HK6 := hyd (HKW.o.trans hk6 (by simp)); clear hY hk6; go_wp2_with fail; go_roundw
    case rel => exact ⟨k + 1, X ++ Y, by omega, by go_num, rfl, by rw [HFT.o, if_pos H0.o, ← HY.o, ← HX.o]; simp, HK6.o⟩
    case measure => simp [intOf]; omega
   ·have z1 : (0 : Int) < (k : Int) := by omega
    rw [if_neg h0] at hfl; have H0 := hyd h0; clear h0; go_wp2_with fail; refine HCALL.o.mono ?_; rintro e w6 ⟨⟨Y, rfl, hY⟩, hk6⟩; have hys : Y.size = (flat ls[k]).length := by rw [size_list Y, hY]
    have HY := hyd hY; have HK6 := hyd (HKW.o.trans hk6 (by simp)); clear hY hk6; go_wp2_with fail; go_roundw
    case rel => exact ⟨k + 1, X ++ sep ++ Y, by omega, by go_num, rfl, by rw [HFT.o, if_neg H0.o, ← HY.o, ← HX.o, ← HS.o]; simp, HK6.o⟩
    case measure => simp [intOf]; omega
  ·obtain rfl : k = l.length := by omega
   have q1 : ¬ (l.length : Int) < (l.length : Int) := by omega
   have hX := HX.o; rw [List.take_of_length_le (by rw [HL.o.1]; exact Nat.le_refl _)] at hX; have HX2 := hyd hX; clear hX; go_wp2_with fail; go_ret; exact ⟨⟨X, rfl, HX2.o⟩, HKW.o⟩
end Go.Proofs.YtdmmhfbafinkpaaGreatDoor
