/- ParsePrints: a part of the proof (Pd5, Pd7, Pd8, Pd9, Pd10, Pd11, Pb14, Pd12, Pe1), squeezed by squeeze.py. -/
import Derived.Test.YtdmmhfbafinkpaaGreatDoorY15
import Derived.Test.YtdmmhfbafinkpaaGreatDoorY13
import Derived.Test.YtdmmhfbafinkpaaGreatDoorY14
import Derived.Test.YtdmmhfbafinkpaaGreatDoorY06
import Derived.Test.YtdmmhfbafinkpaaGreatDoorY05
import Derived.Test.YtdmmhfbafinkpaaGreatDoorY08
import Derived.Test.YtdmmhfbafinkpaaGreatDoorY01
set_option maxRecDepth 100000
set_option maxHeartbeats 8000000
namespace Go.Proofs.YtdmmhfbafinkpaaGreatDoor
open Go.RowKit Go.Emb
theorem td_recv {l : List Nd} {ls : List (List It)} (h0 : l ≠ []) (hl : ArLd l ls) (hs : Sm (sepI semiB ls)) : TxD (.mk 15 0 [] [] l []) (wd sReceive :: sp :: sepI semiB ls ++ [sp, wd sEnd]) := by
 intro w S cs hnd; obtain ⟨kd, nu, at1, nm1, a0, b0, c0, va, vb, vc, rfl, hn, h1, h2, h3⟩ := id hnd.un7; injection hn with e1 e2 e3 e4 e5 e6; subst e1 e2 e3 e4 e5 e6; obtain ⟨p1, c1, e1⟩ := h1.form; obtain ⟨p2, c2, e2⟩ := h2.form; obtain ⟨p3, c3, e3⟩ := h3.form; replace e1 : va = .slice p1 0 c1 := e1; replace e2 : vb = .slice p2 l.length c2 := e2; replace e3 : vc = .slice p3 0 c3 := e3; subst e1 e2 e3; have hk5 := (Keep.refl [] w).alloc (.cells #[.int .i64 15, .int .i64 0, .string ⟨#[]⟩, .int .i64 at1, .slice p1 0 c1, .slice p2 l.length c2, .slice p3 0 c3] 29); have hb5 := heap_alloc_new w (.cells #[.int .i64 15, .int .i64 0, .string ⟨#[]⟩, .int .i64 at1, .slice p1 0 c1, .slice p2 l.length c2, .slice p3 0 c3] 29); obtain ⟨d0, d1, d2, d3, d4, d5, d6⟩ := cells7 hb5; have D0 := hyd (And.intro d0 (And.intro d1 (And.intro d2 (And.intro d3 (And.intro d4 (And.intro d5 d6)))))); have HK5 := hyd hk5; have HB := hyd (fun W (k : Keep [] (w.alloc _) W) => d_arms (w := W) ((h2.keep hk5 (by simp)).keep k (by simp)) hl hs); have hgp : (0 : Int) < (l.length : Int) := by have := List.length_pos_iff.2 h0; omega
 have hsl := hs.2; clear hb5 hk5 hnd h1 h2 h3 hl hs h0; go_enter Tryz.func11, Tryz.ntmps11; go_wp2_with fail; refine HB.o _ (Keep.refl [] _) |>.mono ?_
 rintro e w6 ⟨⟨Y, rfl, hY⟩, hk6⟩; have hsY : Y.size = (flat (sepI semiB ls)).length := by rw [size_list Y, hY]
 have HXY := hyd hY; have HK6 := hyd hk6; have HK56 := hyd (HK5.o.trans hk6 (by simp)); clear hY hk6 d0 d1 d2 d3 d4 d5 d6; generalize w.alloc _ = w5 at *; have q0 := HK6.o.cellOf D0.o.1; have q1 := HK6.o.cellOf D0.o.2.1; have q2 := HK6.o.cellOf D0.o.2.2.1; have q3 := HK6.o.cellOf D0.o.2.2.2.1; have q4 := HK6.o.cellOf D0.o.2.2.2.2.1; have q5 := HK6.o.cellOf D0.o.2.2.2.2.2.1; have q6 := HK6.o.cellOf D0.o.2.2.2.2.2.2; go_wp2_with fail; go_ret; exact ⟨⟨_, rfl, by simp [HXY.o, flat_cons, flat_app, flat_nil, It.text]⟩, HK56.o⟩
theorem td_recvA {l b : List Nd} {ls bs : List (List It)} {a : Nd} {x : List It} (h0 : l ≠ []) (hl : ArLd l ls) (hs : Sm (sepI semiB ls)) (ha : TxD a x) (hb : TLd b bs) (hlen : (flat x).length + (flat (sepI commaB bs)).length + (flat (sepI semiB ls)).length ≤ 140737488354000) : TxD (.mk 15 0 [] [a] l b) (wd sReceive :: sp :: sepI semiB ls ++ (sp :: wd sAfter :: sp :: x ++ sp :: .t 5 0 sTo :: sp :: sepI commaB bs) ++ [sp, wd sEnd]) := by
 intro w S cs hnd; obtain ⟨kd, nu, at1, nm1, a0, b0, c0, va, vb, vc, rfl, hn, h1, h2, h3⟩ := id hnd.un7; injection hn with e1 e2 e3 e4 e5 e6; subst e1 e2 e3 e4 e5 e6; obtain ⟨p1, c1, e1⟩ := h1.form; obtain ⟨p2, c2, e2⟩ := h2.form; obtain ⟨p3, c3, e3⟩ := h3.form; replace e1 : va = .slice p1 1 c1 := e1; replace e2 : vb = .slice p2 l.length c2 := e2; replace e3 : vc = .slice p3 b.length c3 := e3; subst e1 e2 e3; have hk5 := (Keep.refl [] w).alloc (.cells #[.int .i64 15, .int .i64 0, .string ⟨#[]⟩, .int .i64 at1, .slice p1 1 c1, .slice p2 l.length c2, .slice p3 b.length c3] 29); have hb5 := heap_alloc_new w (.cells #[.int .i64 15, .int .i64 0, .string ⟨#[]⟩, .int .i64 at1, .slice p1 1 c1, .slice p2 l.length c2, .slice p3 b.length c3] 29); obtain ⟨d0, d1, d2, d3, d4, d5, d6⟩ := cells7 hb5; have D0 := hyd (And.intro d0 (And.intro d1 (And.intro d2 (And.intro d3 (And.intro d4 (And.intro d5 d6)))))); have HK5 := hyd hk5; obtain ⟨aba, aoffa, csa, ea, -, hnda, hcella⟩ := (h1.keep hk5 (by simp)).at7 (i := 0) (by simp); replace hnda : NdR S _ false csa a := hnda; obtain ⟨kda, nua, ata, nma, p1a, n1a, c1a, p2a, n2a, c2a, p3a, n3a, c3a, rfl, -⟩ := id hnda.un7s; have a0 := hcella 0 (by decide); have a1 := hcella 1 (by decide); have a2 := hcella 2 (by decide); have a3 := hcella 3 (by decide); have a4 := hcella 4 (by decide); have a5 := hcella 5 (by decide); have a6 := hcella 6 (by decide); simp only [Nat.zero_mul, Nat.one_mul, Nat.add_zero, List.getElem?_cons_zero, List.getElem?_cons_succ] at a0 a1 a2 a3 a4 a5 a6; have Ea := hyd (And.intro a0 (And.intro a1 (And.intro a2 (And.intro a3 (And.intro a4 (And.intro a5 a6)))))); clear hcella a0 a1 a2 a3 a4 a5 a6; subst ea; have HA := hyd (fun W (k : Keep [] (w.alloc _) W) => ha W _ _ (hnda.keep k (by simp))); have HC := hyd (fun W (k : Keep [] (w.alloc _) W) => d_texts (w := W) (s := commaB) (sep := ⟨#[44, 32]⟩) ((h3.keep hk5 (by simp)).keep k (by simp)) hb rfl (by omega) (by decide)); have HB := hyd (fun W (k : Keep [] (w.alloc _) W) => d_arms (w := W) ((h2.keep hk5 (by simp)).keep k (by simp)) hl hs); have hgp : (0 : Int) < (l.length : Int) := by have := List.length_pos_iff.2 h0; omega
 have hsl := hs.2; clear hb5 hk5 hnd h1 h2 h3 hl hs h0 ha hb hnda; go_enter Tryz.func11, Tryz.ntmps11; go_wp2_with fail; refine HB.o _ (Keep.refl [] _) |>.mono ?_
 rintro e w6 ⟨⟨Y, rfl, hY⟩, hk6⟩; have hsY : Y.size = (flat (sepI semiB ls)).length := by rw [size_list Y, hY]
 have HXY := hyd hY; have HK6 := hyd hk6; have HK56 := hyd (HK5.o.trans hk6 (by simp)); clear hY hk6 d0 d1 d2 d3 d4 d5 d6; generalize w.alloc _ = w5 at *; have q0 := HK6.o.cellOf D0.o.1; have q1 := HK6.o.cellOf D0.o.2.1; have q2 := HK6.o.cellOf D0.o.2.2.1; have q3 := HK6.o.cellOf D0.o.2.2.2.1; have q4 := HK6.o.cellOf D0.o.2.2.2.2.1; have q5 := HK6.o.cellOf D0.o.2.2.2.2.2.1; have q6 := HK6.o.cellOf D0.o.2.2.2.2.2.2; go_wp2_with fail; clear q0 q1 q2 q3 q4 q5 q6; refine wp_region_held_drew (S := fun w' => Keep [] w5 w') (by kernel_rfl) (HK6.o.drew) (fun hHeld => ?_); refine tkL 0 ?v0 rfl ?run0 hHeld ?_
 case run0 => (intro w9 hS9; obtain ⟨q0, q1, q2, q3, q4, q5, q6⟩ := ck7 hS9 D0.o; obtain ⟨a0, a1, a2, a3, a4, a5, a6⟩ := ck7 hS9 Ea.o; go_simp; try exact rfl)
 try simp only [Act.put, lA, lZ, lS]
 refine tkL 1 (.string ((⟨#[114, 101, 99, 101, 105, 118, 101]⟩ ++ ⟨#[32]⟩ ++ Y) ++ ⟨#[32, 97, 102, 116, 101, 114, 32]⟩)) rfl ?run1 hHeld ?_
 case run1 => (intro w9 hS9; go_simp; first | done | omega | (simp; omega))
 try simp only [Act.put, lA, lZ, lS]
 refine tkL 2 ?v2 rfl ?run2 hHeld ?_
 case run2 => (intro w9 hS9; obtain ⟨q0, q1, q2, q3, q4, q5, q6⟩ := ck7 hS9 D0.o; obtain ⟨a0, a1, a2, a3, a4, a5, a6⟩ := ck7 hS9 Ea.o; go_simp; try exact rfl)
 try simp only [Act.put, lA, lZ, lS]
 refine tkL 3 ?v3 rfl ?run3 hHeld ?_
 case run3 => (intro w9 hS9; obtain ⟨q0, q1, q2, q3, q4, q5, q6⟩ := ck7 hS9 D0.o; obtain ⟨a0, a1, a2, a3, a4, a5, a6⟩ := ck7 hS9 Ea.o; go_simp; try exact rfl)
 try simp only [Act.put, lA, lZ, lS]
 refine tkL 4 ?v4 rfl ?run4 hHeld ?_
 case run4 => (intro w9 hS9; obtain ⟨q0, q1, q2, q3, q4, q5, q6⟩ := ck7 hS9 D0.o; obtain ⟨a0, a1, a2, a3, a4, a5, a6⟩ := ck7 hS9 Ea.o; go_simp; try exact rfl)
 try simp only [Act.put, lA, lZ, lS]
 refine tkL 5 ?v5 rfl ?run5 hHeld ?_
 case run5 => (intro w9 hS9; obtain ⟨q0, q1, q2, q3, q4, q5, q6⟩ := ck7 hS9 D0.o; obtain ⟨a0, a1, a2, a3, a4, a5, a6⟩ := ck7 hS9 Ea.o; go_simp; try exact rfl)
 try simp only [Act.put, lA, lZ, lS]
 refine tkL 9 ?v9 rfl ?run9 hHeld ?_
 case run9 => (intro w9 hS9; obtain ⟨q0, q1, q2, q3, q4, q5, q6⟩ := ck7 hS9 D0.o; obtain ⟨a0, a1, a2, a3, a4, a5, a6⟩ := ck7 hS9 Ea.o; go_simp; try exact rfl)
 try simp only [Act.put, lA, lZ, lS]
 refine tkL 10 ?v10 rfl ?run10 hHeld ?_
 case run10 => (intro w9 hS9; obtain ⟨q0, q1, q2, q3, q4, q5, q6⟩ := ck7 hS9 D0.o; obtain ⟨a0, a1, a2, a3, a4, a5, a6⟩ := ck7 hS9 Ea.o; go_simp; try exact rfl)
 try simp only [Act.put, lA, lZ, lS]
 refine rdH 6 rfl (fun K hK => ?_); go_simp; refine (HA.o _ ((HK6.o.drew))).mono ?_; rintro e wc1 ⟨⟨X, rfl, hX⟩, hc⟩; have HC1 := hyd (((HK6.o.drew)).trans hc (by simp)); have hsX : X.size = (flat x).length := by rw [size_list X, hX]
 have HXX := hyd hX; clear hX hc; go_wp2_with fail; refine hK.out _ _ HC1.o (fun hHeld2 => ?_); clear hK K hHeld; have hHeld := hHeld2; clear hHeld2
 try simp only [Act.put, lA, lZ, lS]
 refine tkL 7 (.string ((⟨#[114, 101, 99, 101, 105, 118, 101]⟩ ++ ⟨#[32]⟩ ++ Y) ++ ⟨#[32, 97, 102, 116, 101, 114, 32]⟩ ++ X)) rfl ?run7 hHeld ?_
 case run7 => (intro w9 hS9; go_simp; first | done | omega | (simp; omega))
 try simp only [Act.put, lA, lZ, lS]
 refine tkL 8 (.string ((⟨#[114, 101, 99, 101, 105, 118, 101]⟩ ++ ⟨#[32]⟩ ++ Y) ++ ⟨#[32, 97, 102, 116, 101, 114, 32]⟩ ++ X ++ ⟨#[32, 45, 62, 32]⟩)) rfl ?run8 hHeld ?_
 case run8 => (intro w9 hS9; go_simp; first | done | omega | (simp; omega))
 try simp only [Act.put, lA, lZ, lS]
 refine rdH 11 rfl (fun K hK => ?_); go_simp; refine (HC.o _ (HC1.o)).mono ?_; rintro e wc2 ⟨⟨Z, rfl, hZ⟩, hc⟩; have HC2 := hyd ((HC1.o).trans hc (by simp)); have hsZ : Z.size = (flat (sepI commaB bs)).length := by rw [size_list Z, hZ]
 have HXZ := hyd hZ; clear hZ hc; go_wp2_with fail; refine hK.out _ _ HC2.o (fun hHeld2 => ?_); clear hK K hHeld; have hHeld := hHeld2; clear hHeld2
 try simp only [Act.put, lA, lZ, lS]
 refine tkL 12 (.string ((⟨#[114, 101, 99, 101, 105, 118, 101]⟩ ++ ⟨#[32]⟩ ++ Y) ++ ⟨#[32, 97, 102, 116, 101, 114, 32]⟩ ++ X ++ ⟨#[32, 45, 62, 32]⟩ ++ Z)) rfl ?run12 hHeld ?_
 case run12 => (intro w9 hS9; go_simp; first | done | omega | (simp; omega))
 try simp only [Act.put, lA, lZ, lS]
 refine tkL 13 ?v13 rfl ?run13 hHeld ?_
 case run13 => (intro w9 hS9; go_simp; try exact rfl)
 try simp only [Act.put, lA, lZ, lS]
 refine wpAnyH_done (by kernel_rfl) ?_ _; go_wp2_with fail; go_ret; exact ⟨⟨_, rfl, by (simp [HXY.o, HXX.o, HXZ.o, flat_cons, flat_app, flat_nil, It.text])⟩, HK5.o.trans HC2.o (by simp)⟩
theorem td_recvB {b : List Nd} {bs : List (List It)} {a : Nd} {x : List It} (ha : TxD a x) (hb : TLd b bs) (hlen : (flat x).length + (flat (sepI commaB bs)).length ≤ 140737488354000) : TxD (.mk 15 0 [] [a] [] b) (wd sReceive :: (sp :: wd sAfter :: sp :: x ++ sp :: .t 5 0 sTo :: sp :: sepI commaB bs) ++ [sp, wd sEnd]) := by
 intro w S cs hnd; obtain ⟨kd, nu, at1, nm1, a0, b0, c0, va, vb, vc, rfl, hn, h1, h2, h3⟩ := id hnd.un7; injection hn with e1 e2 e3 e4 e5 e6; subst e1 e2 e3 e4 e5 e6; obtain ⟨p1, c1, e1⟩ := h1.form; obtain ⟨p2, c2, e2⟩ := h2.form; obtain ⟨p3, c3, e3⟩ := h3.form; replace e1 : va = .slice p1 1 c1 := e1; replace e2 : vb = .slice p2 0 c2 := e2; replace e3 : vc = .slice p3 b.length c3 := e3; subst e1 e2 e3; have hk5 := (Keep.refl [] w).alloc (.cells #[.int .i64 15, .int .i64 0, .string ⟨#[]⟩, .int .i64 at1, .slice p1 1 c1, .slice p2 0 c2, .slice p3 b.length c3] 29); have hb5 := heap_alloc_new w (.cells #[.int .i64 15, .int .i64 0, .string ⟨#[]⟩, .int .i64 at1, .slice p1 1 c1, .slice p2 0 c2, .slice p3 b.length c3] 29); obtain ⟨d0, d1, d2, d3, d4, d5, d6⟩ := cells7 hb5; have D0 := hyd (And.intro d0 (And.intro d1 (And.intro d2 (And.intro d3 (And.intro d4 (And.intro d5 d6)))))); have HK5 := hyd hk5; obtain ⟨aba, aoffa, csa, ea, -, hnda, hcella⟩ := (h1.keep hk5 (by simp)).at7 (i := 0) (by simp); replace hnda : NdR S _ false csa a := hnda; obtain ⟨kda, nua, ata, nma, p1a, n1a, c1a, p2a, n2a, c2a, p3a, n3a, c3a, rfl, -⟩ := id hnda.un7s; have a0 := hcella 0 (by decide); have a1 := hcella 1 (by decide); have a2 := hcella 2 (by decide); have a3 := hcella 3 (by decide); have a4 := hcella 4 (by decide); have a5 := hcella 5 (by decide); have a6 := hcella 6 (by decide); simp only [Nat.zero_mul, Nat.one_mul, Nat.add_zero, List.getElem?_cons_zero, List.getElem?_cons_succ] at a0 a1 a2 a3 a4 a5 a6; have Ea := hyd (And.intro a0 (And.intro a1 (And.intro a2 (And.intro a3 (And.intro a4 (And.intro a5 a6)))))); clear hcella a0 a1 a2 a3 a4 a5 a6; subst ea; have HA := hyd (fun W (k : Keep [] (w.alloc _) W) => ha W _ _ (hnda.keep k (by simp))); have HC := hyd (fun W (k : Keep [] (w.alloc _) W) => d_texts (w := W) (s := commaB) (sep := ⟨#[44, 32]⟩) ((h3.keep hk5 (by simp)).keep k (by simp)) hb rfl (by omega) (by decide)); clear hb5 hk5 hnd h1 h2 h3 ha hb hnda; go_enter Tryz.func11, Tryz.ntmps11; go_wp2_with fail; generalize w.alloc _ = w5 at *; clear d0 d1 d2 d3 d4 d5 d6; refine wp_region_held_drew (S := fun w' => Keep [] w5 w') (by kernel_rfl) ((Keep.refl [] w5).drew) (fun hHeld => ?_); refine tkL 0 ?v0 rfl ?run0 hHeld ?_
 case run0 => (intro w9 hS9; obtain ⟨q0, q1, q2, q3, q4, q5, q6⟩ := ck7 hS9 D0.o; obtain ⟨a0, a1, a2, a3, a4, a5, a6⟩ := ck7 hS9 Ea.o; go_simp; try exact rfl)
 try simp only [Act.put, lA, lZ, lS]
 refine tkL 1 (.string (⟨#[114, 101, 99, 101, 105, 118, 101]⟩ ++ ⟨#[32, 97, 102, 116, 101, 114, 32]⟩)) rfl ?run1 hHeld ?_
 case run1 => (intro w9 hS9; go_simp; first | done | omega | (simp; omega))
 try simp only [Act.put, lA, lZ, lS]
 refine tkL 2 ?v2 rfl ?run2 hHeld ?_
 case run2 => (intro w9 hS9; obtain ⟨q0, q1, q2, q3, q4, q5, q6⟩ := ck7 hS9 D0.o; obtain ⟨a0, a1, a2, a3, a4, a5, a6⟩ := ck7 hS9 Ea.o; go_simp; try exact rfl)
 try simp only [Act.put, lA, lZ, lS]
 refine tkL 3 ?v3 rfl ?run3 hHeld ?_
 case run3 => (intro w9 hS9; obtain ⟨q0, q1, q2, q3, q4, q5, q6⟩ := ck7 hS9 D0.o; obtain ⟨a0, a1, a2, a3, a4, a5, a6⟩ := ck7 hS9 Ea.o; go_simp; try exact rfl)
 try simp only [Act.put, lA, lZ, lS]
 refine tkL 4 ?v4 rfl ?run4 hHeld ?_
 case run4 => (intro w9 hS9; obtain ⟨q0, q1, q2, q3, q4, q5, q6⟩ := ck7 hS9 D0.o; obtain ⟨a0, a1, a2, a3, a4, a5, a6⟩ := ck7 hS9 Ea.o; go_simp; try exact rfl)
 try simp only [Act.put, lA, lZ, lS]
 refine tkL 5 ?v5 rfl ?run5 hHeld ?_
 case run5 => (intro w9 hS9; obtain ⟨q0, q1, q2, q3, q4, q5, q6⟩ := ck7 hS9 D0.o; obtain ⟨a0, a1, a2, a3, a4, a5, a6⟩ := ck7 hS9 Ea.o; go_simp; try exact rfl)
 try simp only [Act.put, lA, lZ, lS]
 refine tkL 9 ?v9 rfl ?run9 hHeld ?_
 case run9 => (intro w9 hS9; obtain ⟨q0, q1, q2, q3, q4, q5, q6⟩ := ck7 hS9 D0.o; obtain ⟨a0, a1, a2, a3, a4, a5, a6⟩ := ck7 hS9 Ea.o; go_simp; try exact rfl)
 try simp only [Act.put, lA, lZ, lS]
 refine tkL 10 ?v10 rfl ?run10 hHeld ?_
 case run10 => (intro w9 hS9; obtain ⟨q0, q1, q2, q3, q4, q5, q6⟩ := ck7 hS9 D0.o; obtain ⟨a0, a1, a2, a3, a4, a5, a6⟩ := ck7 hS9 Ea.o; go_simp; try exact rfl)
 try simp only [Act.put, lA, lZ, lS]
 refine rdH 6 rfl (fun K hK => ?_); go_simp; refine (HA.o _ (((Keep.refl [] w5).drew))).mono ?_; rintro e wc1 ⟨⟨X, rfl, hX⟩, hc⟩; have HC1 := hyd ((((Keep.refl [] w5).drew)).trans hc (by simp)); have hsX : X.size = (flat x).length := by rw [size_list X, hX]
 have HXX := hyd hX; clear hX hc; go_wp2_with fail; refine hK.out _ _ HC1.o (fun hHeld2 => ?_); clear hK K hHeld; have hHeld := hHeld2; clear hHeld2
 try simp only [Act.put, lA, lZ, lS]
 refine tkL 7 (.string (⟨#[114, 101, 99, 101, 105, 118, 101]⟩ ++ ⟨#[32, 97, 102, 116, 101, 114, 32]⟩ ++ X)) rfl ?run7 hHeld ?_
 case run7 => (intro w9 hS9; go_simp; first | done | omega | (simp; omega))
 try simp only [Act.put, lA, lZ, lS]
 refine tkL 8 (.string (⟨#[114, 101, 99, 101, 105, 118, 101]⟩ ++ ⟨#[32, 97, 102, 116, 101, 114, 32]⟩ ++ X ++ ⟨#[32, 45, 62, 32]⟩)) rfl ?run8 hHeld ?_
 case run8 => (intro w9 hS9; go_simp; first | done | omega | (simp; omega))
 try simp only [Act.put, lA, lZ, lS]
 refine rdH 11 rfl (fun K hK => ?_); go_simp; refine (HC.o _ (HC1.o)).mono ?_; rintro e wc2 ⟨⟨Z, rfl, hZ⟩, hc⟩; have HC2 := hyd ((HC1.o).trans hc (by simp)); have hsZ : Z.size = (flat (sepI commaB bs)).length := by rw [size_list Z, hZ]
 have HXZ := hyd hZ; clear hZ hc; go_wp2_with fail; refine hK.out _ _ HC2.o (fun hHeld2 => ?_); clear hK K hHeld; have hHeld := hHeld2; clear hHeld2
 try simp only [Act.put, lA, lZ, lS]
 refine tkL 12 (.string (⟨#[114, 101, 99, 101, 105, 118, 101]⟩ ++ ⟨#[32, 97, 102, 116, 101, 114, 32]⟩ ++ X ++ ⟨#[32, 45, 62, 32]⟩ ++ Z)) rfl ?run12 hHeld ?_
 case run12 => (intro w9 hS9; go_simp; first | done | omega | (simp; omega))
 try simp only [Act.put, lA, lZ, lS]
 refine tkL 13 ?v13 rfl ?run13 hHeld ?_
 case run13 => (intro w9 hS9; go_simp; try exact rfl)
 try simp only [Act.put, lA, lZ, lS]
 refine wpAnyH_done (by kernel_rfl) ?_ _; go_wp2_with fail; go_ret; exact ⟨⟨_, rfl, by (simp [HXX.o, HXZ.o, flat_cons, flat_app, flat_nil, It.text])⟩, HK5.o.trans HC2.o (by simp)⟩
theorem td_apply {f : Nd} {x : List It} {l : List Nd} {ls : List (List It)} (hf : TxD f x) (hl : TLd l ls) (hlen : (flat (callI f x)).length + (flat (sepI comma ls)).length ≤ 140737488354000) (hlx : (flat x).length ≤ 140737488354000) : TxD (.mk 8 0 [] (f :: l) [] []) (callI f x ++ sg 40 :: sepI comma ls ++ [sg 41]) := by
 intro w S cs hnd; obtain ⟨kd, nu, at1, nm1, a0, b0, c0, va, vb, vc, rfl, hn, h1, h2, h3⟩ := id hnd.un7; injection hn with e1 e2 e3 e4 e5 e6; subst e1 e2 e3 e4 e5 e6; obtain ⟨p1, c1, e1⟩ := h1.form; obtain ⟨p2, c2, e2⟩ := h2.form; obtain ⟨p3, c3, e3⟩ := h3.form; replace e1 : va = .slice p1 (l.length + 1) c1 := e1; replace e2 : vb = .slice p2 0 c2 := e2; replace e3 : vc = .slice p3 0 c3 := e3; subst e1 e2 e3; have hk5 := (Keep.refl [] w).alloc (.cells #[.int .i64 8, .int .i64 0, .string ⟨#[]⟩, .int .i64 at1, .slice p1 (l.length + 1) c1, .slice p2 0 c2, .slice p3 0 c3] 29); have hb5 := heap_alloc_new w (.cells #[.int .i64 8, .int .i64 0, .string ⟨#[]⟩, .int .i64 at1, .slice p1 (l.length + 1) c1, .slice p2 0 c2, .slice p3 0 c3] 29); obtain ⟨d0, d1, d2, d3, d4, d5, d6⟩ := cells7 hb5; have D0 := hyd (And.intro d0 (And.intro d1 (And.intro d2 (And.intro d3 (And.intro d4 (And.intro d5 d6)))))); have HK5 := hyd hk5; obtain ⟨abf, aofff, csf, ef, -, hndf, hcellf⟩ := (h1.keep hk5 (by simp)).at7 (i := 0) (by simp); replace hndf : NdR S _ false csf f := hndf; obtain ⟨kdf, nuf, atf, nmf, af, bf, cf, vaf, vbf, vcf, rfl, ef2, g1, g2, g3⟩ := id hndf.un7; subst ef2; obtain ⟨p1f, c1f, rfl⟩ := g1.form; obtain ⟨p2f, c2f, rfl⟩ := g2.form; obtain ⟨p3f, c3f, rfl⟩ := g3.form; obtain ⟨n1, hn1⟩ : ∃ n1, n1 = af.length := ⟨_, rfl⟩; obtain ⟨n2, hn2⟩ : ∃ n2, n2 = bf.length := ⟨_, rfl⟩; obtain ⟨n3, hn3⟩ : ∃ n3, n3 = cf.length := ⟨_, rfl⟩; rw [← hn1, ← hn2, ← hn3] at hndf hcellf; have f0 := hcellf 0 (by decide); have f1 := hcellf 1 (by decide); have f2 := hcellf 2 (by decide); have f3 := hcellf 3 (by decide); have f4 := hcellf 4 (by decide); have f5 := hcellf 5 (by decide); have f6 := hcellf 6 (by decide); simp only [Nat.zero_mul, Nat.add_zero, List.getElem?_cons_zero, List.getElem?_cons_succ] at f0 f1 f2 f3 f4 f5 f6; subst ef; have hrest := (h1.keep hk5 (by simp)).rest; have hlN := hl.2.1; have hv : callI (.mk kdf nuf nmf af bf cf) x = if kdf = 3 ∨ kdf = 7 ∨ kdf = 8 then x else inBr x := rfl
 have HF := hyd (fun W (k : Keep [] (w.alloc _) W) => hf W _ _ (hndf.keep k (by simp))); have HC := hyd (fun W (k : Keep [] (w.alloc _) W) => d_texts (w := W) (s := comma) (sep := ⟨#[44]⟩) (hrest.keep k (by simp)) hl rfl (by omega) (by decide)); simp only [wid, Nat.add_sub_cancel] at HC; have hk6 := (Keep.refl [] (w.alloc (.cells #[.int .i64 8, .int .i64 0, .string ⟨#[]⟩, .int .i64 at1, .slice (some ⟨abf, aofff, none⟩) (l.length + 1) c1, .slice p2 0 c2, .slice p3 0 c3] 29))).alloc (.cells #[.int .i64 kdf, .int .i64 nuf, .string ⟨nmf.toArray⟩, .int .i64 atf, .slice p1f n1 c1f, .slice p2f n2 c2f, .slice p3f n3 c3f] 29); have hb6 := heap_alloc_new (w.alloc (.cells #[.int .i64 8, .int .i64 0, .string ⟨#[]⟩, .int .i64 at1, .slice (some ⟨abf, aofff, none⟩) (l.length + 1) c1, .slice p2 0 c2, .slice p3 0 c3] 29)) (.cells #[.int .i64 kdf, .int .i64 nuf, .string ⟨nmf.toArray⟩, .int .i64 atf, .slice p1f n1 c1f, .slice p2f n2 c2f, .slice p3f n3 c3f] 29); have HF6 := hyd (HF.o _ hk6); have HK6 := hyd hk6; obtain ⟨b0, b1, b2, b3, b4, b5, b6⟩ := cells7 hb6; have hsz : (w.alloc (.cells #[.int .i64 8, .int .i64 0, .string ⟨#[]⟩, .int .i64 at1, .slice (some ⟨abf, aofff, none⟩) (l.length + 1) c1, .slice p2 0 c2, .slice p3 0 c3] 29)).heap.size = w.heap.size + 1 := Array.size_push _; rw [hsz] at b0; clear hb5 hk5 hnd h1 h2 h3 hl hf hrest hndf hcellf g1 g2 g3 hn1 hn2 hn3 hk6 hb6 HF; go_enter Tryz.func11, Tryz.ntmps11
 by_cases hk : kdf = 3 ∨ kdf = 7 ∨ kdf = 8
 ·rw [if_pos hk] at hv; rw [hv] at hlen ⊢; clear hv; rcases hk with rfl | rfl | rfl
  all_goals
   go_wp2_with fail
   all_goals
    refine HF6.o.mono ?_; rintro e w7 ⟨⟨X, rfl, hX⟩, hk7⟩; have HK7 := hyd (HK6.o.trans hk7 (by simp)); have HX := hyd hX; have hsX : X.size = (flat x).length := by rw [size_list X, hX]
    have y0 := HK7.o.cellOf d0; have y4 := HK7.o.cellOf d4; have z0 := hk7.cellOf b0; clear hX hk7 d0 d1 d2 d3 d4 d5 d6 f0 f1 f2 f3 f4 f5 f6 b0 b1 b2 b3 b4 b5 b6; generalize (w.alloc _).alloc _ = w6 at *; generalize w.alloc _ = w5 at *; go_wp2_with fail
    all_goals
     have hcc := HC.o _ HK7.o; simp only [sliceOff, Bool.false_eq_true, if_false, Nat.one_mul] at hcc
     first
      | rw [if_pos h, (by rw [h] : c1 - 1 = 0)] at hcc
      | rw [if_neg h] at hcc
     refine hcc.mono ?_; rintro e w8 ⟨⟨Z, rfl, hZ⟩, hk8⟩; have HK8 := hyd (HK5.o.trans (HK7.o.trans hk8 (by simp)) (by simp)); have HZ := hyd hZ; have hsZ : Z.size = (flat (sepI comma ls)).length := by rw [size_list Z, hZ]
     clear hZ hk8; go_wp2_with fail; go_ret; exact ⟨⟨_, rfl, by simp [HX.o, HZ.o, flat_cons, flat_app, flat_nil, inBr, It.text]⟩, HK8.o⟩
 ·rw [if_neg hk] at hv; rw [hv] at hlen ⊢; clear hv; have e3 : (kdf == 3) = false := beq_eq_false_iff_ne.2 (fun h => hk (by simp [h])); have e7 : (kdf == 7) = false := beq_eq_false_iff_ne.2 (fun h => hk (by simp [h])); have e8 : (kdf == 8) = false := beq_eq_false_iff_ne.2 (fun h => hk (by simp [h])); have hbr : (flat (inBr x)).length = (flat x).length + 2 := by simp [inBr, flat_cons, flat_app, flat_nil, It.text]
  go_wp2_with fail
  all_goals
   refine HF6.o.mono ?_; rintro e w7 ⟨⟨X, rfl, hX⟩, hk7⟩; have HK7 := hyd (HK6.o.trans hk7 (by simp)); have HX := hyd hX; have hsX : X.size = (flat x).length := by rw [size_list X, hX]
   have y0 := HK7.o.cellOf d0; have y4 := HK7.o.cellOf d4; have z0 := hk7.cellOf b0; clear hX hk7 d0 d1 d2 d3 d4 d5 d6 f0 f1 f2 f3 f4 f5 f6 b0 b1 b2 b3 b4 b5 b6; generalize (w.alloc _).alloc _ = w6 at *; generalize w.alloc _ = w5 at *; go_wp2_with fail
   all_goals
    have hcc := HC.o _ HK7.o; simp only [sliceOff, Bool.false_eq_true, if_false, Nat.one_mul] at hcc
    first
     | rw [if_pos h, (by rw [h] : c1 - 1 = 0)] at hcc
     | rw [if_neg h] at hcc
    refine hcc.mono ?_; rintro e w8 ⟨⟨Z, rfl, hZ⟩, hk8⟩; have HK8 := hyd (HK5.o.trans (HK7.o.trans hk8 (by simp)) (by simp)); have HZ := hyd hZ; have hsZ : Z.size = (flat (sepI comma ls)).length := by rw [size_list Z, hZ]
    clear hZ hk8; go_wp2_with fail; go_ret
    first
     | exact absurd (by assumption : ((kdf != 3) = false ∨ (kdf != 7) = false) ∨ (kdf != 8) = false) (by simp [bne, e3, e7, e8])
     | exact ⟨⟨_, rfl, by simp [HX.o, HZ.o, flat_cons, flat_app, flat_nil, inBr, It.text]⟩, HK8.o⟩
def HdLd (l : List Nd) (ls : List (List It)) : Prop := ls.length = l.length ∧ l.length ≤ 1000000 ∧ ∀ i (_ : i < l.length) (_ : i < ls.length), ∃ nm ps gs bs, ClTd l[i] nm ps gs bs ∧ ls[i] = sg 40 :: sepI comma ps ++ sg 41 :: tailI gs bs
theorem td_fn {l : List Nd} {ls : List (List It)} (hl : HdLd l ls) (hs : Sm (sepI semiB ls)) : TxD (.mk 13 0 [] [] l []) (wd sFun :: sepI semiB ls ++ [sp, wd sEnd]) := by
 intro w S cs hnd; obtain ⟨kd, nu, at1, nm1, a0, b0, c0, va, vb, vc, rfl, hn, h1, h2, h3⟩ := id hnd.un7; injection hn with e1 e2 e3 e4 e5 e6; subst e1 e2 e3 e4 e5 e6; obtain ⟨p1, c1, e1⟩ := h1.form; obtain ⟨p2, c2, e2⟩ := h2.form; obtain ⟨p3, c3, e3⟩ := h3.form; replace e1 : va = .slice p1 0 c1 := e1; replace e2 : vb = .slice p2 l.length c2 := e2; replace e3 : vc = .slice p3 0 c3 := e3; subst e1 e2 e3; have hk5 := (Keep.refl [] w).alloc (.cells #[.int .i64 13, .int .i64 0, .string ⟨#[]⟩, .int .i64 at1, .slice p1 0 c1, .slice p2 l.length c2, .slice p3 0 c3] 29); have hb5 := heap_alloc_new w (.cells #[.int .i64 13, .int .i64 0, .string ⟨#[]⟩, .int .i64 at1, .slice p1 0 c1, .slice p2 l.length c2, .slice p3 0 c3] 29); obtain ⟨d0, d1, d2, d3, d4, d5, d6⟩ := cells7 hb5; have D0 := hyd (And.intro d0 (And.intro d1 (And.intro d2 (And.intro d3 (And.intro d4 (And.intro d5 d6)))))); have HK5 := hyd hk5; have h2' := h2.keep hk5 (by simp); have hlN := hl.2.1; have HH := hyd h2'; have HL := hyd hl; have HSM := hyd hs; clear hb5 hk5 hnd h1 h2 h3 h2' hl hs; go_enter Tryz.func11, Tryz.ntmps11; go_wp2_with fail; generalize w.alloc _ = w5 at *
 go_loopw [6, 7] (fun t i wr => ∃ (k : Nat) (T : ByteArray), k ≤ l.length ∧ i = .int .i64 k ∧ t = .string T ∧ T.data.toList = [102, 117, 110] ++ flat (sepI semiB (ls.take k)) ∧ Keep [] w5 wr) (fun _ i _ => l.length - (RowKit.intOf i).toNat)
 case atStart => exact ⟨0, ⟨#[102, 117, 110]⟩, Nat.zero_le _, rfl, rfl, rfl, Keep.refl _ _⟩
 case round =>
  obtain ⟨k, T, hk, rfl, rfl, hX, hkw⟩ := hrel; have HX := hyd hX; have HKW := hyd hkw; have q5 := hkw.cellOf d5; clear hX hkw d0 d1 d2 d3 d4 d5 d6
  by_cases hlt : k < l.length
  ·have q0 : (0 : Int) ≤ (k : Int) := by omega
   have q1 : (k : Int) < (l.length : Int) := by omega
   have hw2 : IntKind.i64.wrap ((k : Int) + 1) = (k : Int) + 1 := IntWalk.i64_in _ (by omega); have hkl : k < ls.length := by rw [HL.o.1]; exact hlt
   obtain ⟨ab, aoff, csa, ea, -, hnd, hcell⟩ := (HH.o.keep HKW.o (by simp)).atk hlt; obtain ⟨nm, ps, gs, bs, ⟨p, g, b, ec, hp, hg, hb⟩, hex⟩ := HL.o.2.2 k hlt hkl; have hszk := (HSM.o.sub (sep_sub semiB ls k hkl)).2; rw [hex] at hszk; have hszk2 : (flat (sepI comma ps)).length + (flat (tailI gs bs)).length ≤ 140737488354000 := by simp [flat_app, flat_cons] at hszk; omega
   rw [ec] at hnd; obtain ⟨at1', nm', a', g', b', va1, vb1, vc1, rfl, e, h1, h2, h3⟩ := id hnd.un5; injection e with e1 e2 e3 e4 e5 e6; subst e3 e4 e5 e6; have hA0 := hcell 0 (by decide); have hA1 := hcell 1 (by decide); have hA2 := hcell 2 (by decide); have hA3 := hcell 3 (by decide); have hA4 := hcell 4 (by decide); simp only [wid, if_true, Nat.add_zero, List.getElem?_cons_zero, List.getElem?_cons_succ] at hA0 hA1 hA2 hA3 hA4; subst ea; have HHD := hyd (fun W (k : Keep [] wr W) => d_head (w := W) (hnd.keep k (by simp)) hp hg hb hszk2); have hft := flat_take (s := semiB) hkl; have hfl := take_flat_le (s := semiB) ls (k + 1); rw [hft, hex] at hfl; simp only [List.length_append] at hfl; obtain ⟨NX, hNX⟩ : ∃ N, N = (flat (sg 40 :: sepI comma ps ++ sg 41 :: tailI gs bs)).length := ⟨_, rfl⟩; rw [← hNX] at hfl; have HNX := hyd hNX; clear hNX; have hbd := HSM.o.2; have hxs : T.size = 3 + (flat (sepI semiB (ls.take k))).length := by rw [size_list T, HX.o]; simp; omega
   rw [hex] at hft; have HFT := hyd hft; have hsb : (flat semiB).length = 2 := rfl; have q2 := hk; have q3 := hlt; clear hcell hnd h1 h2 h3 hp hg hb hft ec e1 e2 hex hszk
   by_cases h0 : k = 0
   ·have z1 : ¬ (0 : Int) < (k : Int) := by omega
    have H0 := hyd h0; rw [if_pos h0] at hfl; simp only [List.length_nil] at hfl; clear h0; go_wp2_with fail; refine (HHD.o _ (Keep.refl [] wr)).mono ?_; rintro e w7 ⟨⟨X, rfl, hX⟩, hk7⟩; have HK7 := hyd (HKW.o.trans hk7 (by simp)); have HXX := hyd hX; have hsX : X.size = NX := by rw [size_list X, hX, HNX.o]
    clear hX hk7 q2 q3; go_wp2_with fail; go_roundw
    case rel => exact ⟨k + 1, T ++ X, by omega, by go_num, rfl, by rw [HFT.o, if_pos H0.o]; simp [HXX.o, HX.o, flat_cons, flat_app, flat_nil, It.text], HK7.o⟩
    case measure => simp [intOf]; omega
   ·have z1 : (0 : Int) < (k : Int) := by omega
    have H0 := hyd h0; rw [if_neg h0] at hfl; have hng : ¬ 9223372036854775807 < 3 + (flat (sepI semiB (ls.take k))).length + 2 + NX := by omega
    clear h0; go_wp2_with fail; refine (HHD.o _ (Keep.refl [] wr)).mono ?_; rintro e w7 ⟨⟨X, rfl, hX⟩, hk7⟩; have HK7 := hyd (HKW.o.trans hk7 (by simp)); have HXX := hyd hX; have hsX : X.size = NX := by rw [size_list X, hX, HNX.o]
    clear hX hk7 q2 q3; go_wp2_with fail; go_roundw
    case rel => exact ⟨k + 1, T ++ ⟨#[59, 32]⟩ ++ X, by omega, by go_num, rfl, by rw [HFT.o, if_neg H0.o]; simp [HXX.o, HX.o, flat_cons, flat_app, flat_nil, It.text], HK7.o⟩
    case measure => simp [intOf]; omega
  ·obtain rfl : k = l.length := by omega
   have q1 : ¬ (l.length : Int) < (l.length : Int) := by omega
   have hX := HX.o; rw [List.take_of_length_le (by rw [HL.o.1]; exact Nat.le_refl _)] at hX; have hxs : T.size = 3 + (flat (sepI semiB ls)).length := by rw [size_list T, hX]; simp; omega
   have hbd := HSM.o.2; have HX2 := hyd hX; clear hX; go_wp2_with fail; go_ret; exact ⟨⟨_, rfl, by simp [HX2.o, flat_cons, flat_app, flat_nil, It.text]⟩, HK5.o.trans HKW.o (by simp)⟩
theorem td_nil {x : List It} (hx : flat x = [91, 93]) : TxD (.mk 5 0 [] [] [] []) x := by
 intro w S cs hnd; obtain ⟨kd, nu, at1, nm1, a0, b0, c0, va, vb, vc, rfl, hn, h1, h2, h3⟩ := id hnd.un7; injection hn with e1 e2 e3 e4 e5 e6; subst e1 e2 e3 e4 e5 e6; obtain ⟨p1, c1, rfl⟩ := h1.form; obtain ⟨p2, c2, rfl⟩ := h2.form; obtain ⟨p3, c3, rfl⟩ := h3.form; have hk5 := (Keep.refl [] w).alloc (.cells #[.int .i64 5, .int .i64 0, .string ⟨#[]⟩, .int .i64 at1, .slice p1 0 c1, .slice p2 0 c2, .slice p3 0 c3] 29); have hb5 := heap_alloc_new w (.cells #[.int .i64 5, .int .i64 0, .string ⟨#[]⟩, .int .i64 at1, .slice p1 0 c1, .slice p2 0 c2, .slice p3 0 c3] 29); obtain ⟨d0, d1, d2, d3, d4, d5, d6⟩ := cells7 hb5; have HK5 := hyd hk5; rw [hx]; clear hk5 hb5 hnd h1 h2 h3 hx; go_enter Tryz.func11, Tryz.ntmps11; go_wp2_with fail; go_ret; exact ⟨⟨_, rfl, rfl⟩, HK5.o⟩
def strN : Value → Nat
 | .string X => X.size
 | _ => 0
theorem consL_at {l : List Nd} {t : Nd} {k : Nat} (h : k < l.length) : consL (l.drop k) t = .mk 6 0 [] [l[k], consL (l.drop (k + 1)) t] [] [] := by rw [List.drop_eq_getElem_cons h]; rfl
def ChD (w : World) (l : List Nd) (t : Nd) (ls : List (List It)) (k : Nat) (v : Value) (wr : World) : Prop :=
 ∃ (T : ByteArray) (cs : List Value), v = .string T ∧ T.data.toList = 91 :: flat (sepI comma (ls.take k)) ∧ Keep [] w wr ∧
  wr.heap[w.heap.size]? = some (.cells cs.toArray 29) ∧ NdR (fun b => b < w.heap.size) wr false cs (consL (l.drop k) t)
theorem td_cons {l : List Nd} {ls : List (List It)} {t : Nd} {y x : List It} {tl : List UInt8} {ks : List Nd} (hc : Nd.mk 6 0 [] ks [] [] = consL l t) (hl : TLd l ls) (h6 : t.kind ≠ 6) (htl : tl = if t.kind = 5 then [] else 124 :: flat y) (hy : t.kind ≠ 5 → TxD t y)
  (hx : flat x = 91 :: flat (sepI comma ls) ++ tl ++ [93]) (hlen : (flat (sepI comma ls)).length + (flat y).length ≤ 140737488354000) : TxD (.mk 6 0 [] ks [] []) x := by
 intro w S cs hnd0; have hnd := ndr_low hnd0
 have hl0 : 0 < l.length := by
  cases l with
  | nil => exact absurd (by have e : Nd.mk 6 0 [] ks [] [] = t := hc; rw [← e]; rfl) h6
  | cons a l => simp
 have hlk : 0 < ls.length := by rw [hl.1]; exact hl0
 have e0 : consL l t = .mk 6 0 [] [l[0], consL (l.drop 1) t] [] [] := consL_at (k := 0) hl0; rw [hc, e0] at hnd; clear hnd0; obtain ⟨kd, nu, at1, nm1, a0, b0, c0, va, vb, vc, rfl, hn, h1, h2, h3⟩ := id hnd.un7; injection hn with e1 e2 e3 e4 e5 e6; subst e1 e2 e3 e4 e5 e6; obtain ⟨p1, c1, rfl⟩ := h1.form; obtain ⟨p2, c2, rfl⟩ := h2.form; obtain ⟨p3, c3, rfl⟩ := h3.form; obtain ⟨ab, aoff, csa, rfl, hab, hna, hca⟩ := h1.at7 (i := 0) (by simp); simp only [List.length_cons, List.length_nil, Nat.reduceAdd] at *; have hk5 := (Keep.refl [] w).alloc (.cells #[.int .i64 6, .int .i64 0, .string ⟨#[]⟩, .int .i64 at1, .slice (some ⟨ab, aoff, none⟩) 2 c1, .slice p2 0 c2, .slice p3 0 c3] 29); have hb5 := heap_alloc_new w (.cells #[.int .i64 6, .int .i64 0, .string ⟨#[]⟩, .int .i64 at1, .slice (some ⟨ab, aoff, none⟩) 2 c1, .slice p2 0 c2, .slice p3 0 c3] 29); obtain ⟨d0, d1, d2, d3, d4, d5, d6⟩ := cells7 hb5; obtain ⟨r1, r2, r3, r4, s1, s2, s3, s4, s5, s6, s7, s8, s9, rfl, -⟩ := id hna.un7s; have hA0 := hk5.cellOf (hca 0 (by decide)); have hA1 := hk5.cellOf (hca 1 (by decide)); have hA2 := hk5.cellOf (hca 2 (by decide)); have hA3 := hk5.cellOf (hca 3 (by decide)); have hA4 := hk5.cellOf (hca 4 (by decide)); have hA5 := hk5.cellOf (hca 5 (by decide)); have hA6 := hk5.cellOf (hca 6 (by decide)); simp only [Nat.zero_mul, Nat.add_zero, List.getElem?_cons_zero, List.getElem?_cons_succ] at hA0 hA1 hA2 hA3 hA4 hA5 hA6; have HCALL := hyd (hl.2.2 0 hl0 hlk _ _ _ (hna.keep hk5 (by simp))); have HG1 := hyd h1; have HL := hyd hl; have HY := hyd (And.intro h6 (And.intro hy hlen)); have HTL := hyd (And.intro htl hx); have HK5 := hyd hk5; have HB5 := hyd hb5; clear hc hl h6 htl hy hx hlen e0 hnd h1 h2 h3 hna hca hk5 hb5; go_enter Tryz.func11, Tryz.ntmps11; go_wp2_with fail; refine HCALL.o.mono ?_; rintro e w6 ⟨⟨X, rfl, hX⟩, hk6⟩; have hxs : X.size = (flat ls[0]).length := by rw [size_list X, hX]
 have hf0 : flat (sepI comma (ls.take 1)) = flat ls[0] := by rw [flat_take (k := 0) hlk]; simp [sepI, flat_nil]
 have hf1 := take_flat_le (s := comma) ls 1; rw [hf0] at hf1; have hbd := HY.o.2.2; have hb6 := blkK HB5.o hk6 (by simp); obtain ⟨b2, off2, cs2, e2, -, hn2, hc2⟩ := (HG1.o.keep (HK5.o.trans hk6 (by simp)) (by simp)).at7 (i := 1) (by simp)
 cases e2
 obtain ⟨r1', r2', r3', r4', s1', s2', s3', s4', s5', s6', s7', s8', s9', rfl, -⟩ := id hn2.un7s; have hC0 := hc2 0 (by decide); have hC1 := hc2 1 (by decide); have hC2 := hc2 2 (by decide); have hC3 := hc2 3 (by decide); have hC4 := hc2 4 (by decide); have hC5 := hc2 5 (by decide); have hC6 := hc2 6 (by decide); simp only [Nat.one_mul, Nat.add_zero, List.getElem?_cons_zero, List.getElem?_cons_succ] at hC0 hC1 hC2 hC3 hC4 hC5 hC6; clear d0 d1 d2 d3 d4 d5 d6; obtain ⟨d0, d1, d2, d3, d4, d5, d6⟩ := cells7 hb6; have f6 := frozenP hb6; have HX := hyd (And.intro hX hf0); have HK6 := hyd (HK5.o.trans hk6 (by simp)); obtain ⟨hb10, hk10⟩ := set7 hb6 (.int .i64 r1') (.int .i64 r2') (.string ⟨r4'.toArray⟩) (.int .i64 r3') (.slice s1' s2' s3') (.slice s4' s5' s6') (.slice s7' s8' s9'); have HB10 := hyd hb10; have HK10 := hyd hk10; have HN2 := hyd hn2; clear hX hk6 hb6 hb10 hk10 hn2 hc2 hf0 HG1 HB5 HCALL hA0 hA1 hA2 hA3 hA4 hA5 hA6 HK5; have q1 := hl0; have q2 := hlk; go_wp2_with fail
 have hstart : ChD w l t ls 1 (.string (⟨#[91]⟩ ++ X)) (((((((w6.setCell ⟨w.heap.size, 0, none⟩ (.int .i64 r1')).setCell ⟨w.heap.size, 1, none⟩ (.int .i64 r2')).setCell ⟨w.heap.size, 2, none⟩ (.string ⟨r4'.toArray⟩)).setCell ⟨w.heap.size, 3, none⟩ (.int .i64 r3')).setCell ⟨w.heap.size, 4, none⟩ (.slice s1' s2' s3')).setCell ⟨w.heap.size, 5, none⟩ (.slice s4' s5' s6')).setCell ⟨w.heap.size, 6, none⟩ (.slice s7' s8' s9')) :=
  ⟨_, _, rfl, by rw [HX.o.2, ← HX.o.1]; simp, HK6.o.trans HK10.o (fun x hx => .inr (by simp at hx; omega)), HB10.o, HN2.o.keep HK10.o (fun b hb h => by simp at hb; omega)⟩
 have HST := hyd hstart; clear hstart HX HK6 HB10 HK10 HN2 d0 d1 d2 d3 d4 d5 d6 f6 hC0 hC1 hC2 hC3 hC4 hC5 hC6
 go_loopw [3] (fun v wr => ∃ k : Nat, 1 ≤ k ∧ k ≤ l.length ∧ ChD w l t ls k v wr) (fun v _ => 2 + (flat (sepI comma ls)).length - strN v)
 case atStart => exact ⟨1, Nat.le_refl _, hl0, HST.o⟩
 case round =>
  obtain ⟨k, hk1, hk, T, cs, rfl, hT, hkw, hbx, hnd⟩ := hrel; have HT := hyd hT; have HKW := hyd hkw; have hts : T.size = 1 + (flat (sepI comma (ls.take k))).length := by rw [size_list T, hT]; simp; omega
  clear hT hkw
  by_cases hlt : k < l.length
  ·rw [consL_at hlt] at hnd; obtain ⟨kd', nu', at2, nm', a', b', c', va, vb, vc, rfl, en, g1, g2, g3⟩ := id hnd.un7; injection en with e1 e2 e3 e4 e5 e6; subst e1 e2 e3 e4 e5 e6; obtain ⟨p4, c4, rfl⟩ := g1.form; obtain ⟨p5, c5, rfl⟩ := g2.form; obtain ⟨p6, c6, rfl⟩ := g3.form; obtain ⟨ab, aoff, csa, rfl, hab, hna, hca⟩ := g1.at7 (i := 0) (by simp); obtain ⟨d0, d1, d2, d3, d4, d5, d6⟩ := cells7 hbx; obtain ⟨r1, r2, r3, r4, s1, s2, s3, s4, s5, s6, s7, s8, s9, rfl, -⟩ := id hna.un7s; have hA0 := hca 0 (by decide); have hA1 := hca 1 (by decide); have hA2 := hca 2 (by decide); have hA3 := hca 3 (by decide); have hA4 := hca 4 (by decide); have hA5 := hca 5 (by decide); have hA6 := hca 6 (by decide); simp only [Nat.zero_mul, Nat.add_zero, List.getElem?_cons_zero, List.getElem?_cons_succ] at hA0 hA1 hA2 hA3 hA4 hA5 hA6; have hkl : k < ls.length := by rw [HL.o.1]; exact hlt
   have hft := flat_take (s := comma) hkl; rw [if_neg (by omega)] at hft; have hfl := take_flat_le (s := comma) ls (k + 1); rw [hft] at hfl; simp only [List.length_append] at hfl; have hcl : (flat comma).length = 1 := rfl; have hcall := HL.o.2.2 k hlt hkl wr _ _ hna; have HCALL := hyd hcall; have HBX := hyd hbx; have HG1 := hyd g1; have HFT := hyd hft; clear hcall hca hna hbx hnd g1 g2 g3 hft; go_wp2_with fail; refine HCALL.o.mono ?_; rintro e w7 ⟨⟨Y, rfl, hY⟩, hk7⟩; have hys : Y.size = (flat ls[k]).length := by rw [size_list Y, hY]
   have hb7 := blkK HBX.o hk7 (by simp); obtain ⟨b2, off2, cs2, e2, -, hn2, hc2⟩ := (HG1.o.keep hk7 (by simp)).at7 (i := 1) (by simp)
   cases e2
   obtain ⟨r1', r2', r3', r4', s1', s2', s3', s4', s5', s6', s7', s8', s9', rfl, -⟩ := id hn2.un7s; have hC0 := hc2 0 (by decide); have hC1 := hc2 1 (by decide); have hC2 := hc2 2 (by decide); have hC3 := hc2 3 (by decide); have hC4 := hc2 4 (by decide); have hC5 := hc2 5 (by decide); have hC6 := hc2 6 (by decide); simp only [Nat.one_mul, Nat.add_zero, List.getElem?_cons_zero, List.getElem?_cons_succ] at hC0 hC1 hC2 hC3 hC4 hC5 hC6; clear d0 d1 d2 d3 d4 d5 d6 hA0 hA1 hA2 hA3 hA4 hA5 hA6; obtain ⟨d0, d1, d2, d3, d4, d5, d6⟩ := cells7 hb7; have f7 := frozenP hb7; obtain ⟨hb10, hk10⟩ := set7 hb7 (.int .i64 r1') (.int .i64 r2') (.string ⟨r4'.toArray⟩) (.int .i64 r3') (.slice s1' s2' s3') (.slice s4' s5' s6') (.slice s7' s8' s9'); have HB10 := hyd hb10; have HK10 := hyd hk10; have HN2 := hyd hn2; have HY7 := hyd (And.intro hY (HKW.o.trans hk7 (by simp))); clear hY hk7 hb7 hb10 hk10 hn2 hc2 HG1 HBX HCALL; go_wp2_with fail; go_roundw
   case rel =>
    refine ⟨k + 1, by omega, by omega, _, _, rfl, ?_, HY7.o.2.trans HK10.o (fun x hx => .inr (by simp at hx; omega)), HB10.o, HN2.o.keep HK10.o (fun b hb h => by simp at hb; omega)⟩; rw [HFT.o, ← HY7.o.1]; simp [HT.o, comma, flat_cons, flat_nil, It.text]
   case measure =>
    simp [strN]; rw [show (⟨#[44]⟩ : ByteArray).size = 1 from rfl]
    omega
  ·obtain rfl : k = l.length := by omega
   rw [List.drop_length] at hnd; obtain ⟨kd', nu', at2, nm', a', b', c', va, vb, vc, rfl, ht', g1, g2, g3⟩ := id hnd.un7; have ht2 : t = .mk kd' nu' nm' a' b' c' := ht'; obtain ⟨p4, c4, rfl⟩ := g1.form; obtain ⟨p5, c5, rfl⟩ := g2.form; obtain ⟨p6, c6, rfl⟩ := g3.form; have hne : (kd' == 6) = false := beq_eq_false_iff_ne.2 (by have := HY.o.1; rw [ht2] at this; exact this); have HBX := hyd hbx; have HN := hyd hnd; have HT2 := hyd ht2; obtain ⟨d0, d1, d2, d3, d4, d5, d6⟩ := cells7 hbx; have hT := HT.o; rw [List.take_of_length_le (by rw [HL.o.1]; exact Nat.le_refl _)] at hT hts; have HT3 := hyd hT; clear hbx hnd ht2 ht' g1 g2 g3 hT
   by_cases h5 : kd' = 5
   ·have htn : tl = [] := by rw [HTL.o.1, HT2.o, if_pos (show (Nd.mk kd' nu' nm' a' b' c').kind = 5 from h5)]
    have HTN := hyd htn; clear htn; subst h5; go_wp2_with fail; go_ret; exact ⟨⟨_, rfl, by rw [HTL.o.2, HTN.o]; simp [HT3.o]⟩, HKW.o⟩
   ·have htn : tl = 124 :: flat y := by rw [HTL.o.1, HT2.o, if_neg (show ¬ (Nd.mk kd' nu' nm' a' b' c').kind = 5 from h5)]
    have hne5 : (kd' != 5) = true := by simpa using h5
    have hc := HY.o.2.1 (by rw [HT2.o]; exact h5) wr _ _ HN.o; have HC := hyd hc; have HTN := hyd htn; clear hc htn; go_wp2_with fail; refine HC.o.mono ?_; rintro e w7 ⟨⟨Y, rfl, hY⟩, hk7⟩; have hys : Y.size = (flat y).length := by rw [size_list Y, hY]
    have HK7 := hyd (And.intro hY (HKW.o.trans hk7 (by simp))); clear hY hk7; go_wp2_with fail; go_ret; exact ⟨⟨_, rfl, by rw [HTL.o.2, HTN.o]; simp [HT3.o, HK7.o.1]⟩, HK7.o.2⟩
theorem tl_ofD {s : List It} {l : List Nd} {ls : List (List It)} (hl : ls.length = l.length) (h : ∀ i (h : i < l.length) (h' : i < ls.length), Pr 0 l[i] ls[i]) (ih : ∀ i (h : i < l.length) (h' : i < ls.length), Sm ls[i] → TxD l[i] ls[i])
  (hs : Sm (sepI s ls)) : TLd l ls :=
 ⟨hl, by have := sep_many s ls (pl_ne hl h); have := hs.1; omega, fun i hi hi' => ih i hi hi' (hs.sub (sep_sub s ls i hi'))⟩
def QD (k : Nat) (n : Nd) (x : List It) : Prop :=
 (k = 0 → TxD n x) ∧ (k = 1 → ∃ nm ps gs bs, ClTd n nm ps gs bs ∧ x = sepI comma ps ++ tailI gs bs) ∧
 (k = 2 → ∃ ps gs bs, ClTd n [] ps gs bs ∧ x = sg 40 :: sepI comma ps ++ sg 41 :: tailI gs bs) ∧
 (k = 3 → ∃ nm ps gs bs, ClTd n nm ps gs bs ∧ nm ≠ [] ∧ nm.length ≤ 255 ∧ x = .t 2 0 nm :: sg 40 :: sepI comma ps ++ sg 41 :: tailI gs bs) ∧
 (k = 4 → ∃ l ls t y tl, n = consL l t ∧ TLd l ls ∧ l.length ≤ x.length ∧ t.kind ≠ 6 ∧ tl = (if t.kind = 5 then [] else 124 :: flat y) ∧ (t.kind = 5 → y = []) ∧ (t.kind ≠ 5 → TxD t y) ∧ flat x = Lib.joinTail [44] (ls.map flat) ++ tl ++ [93])
theorem QD.tree {n : Nd} {x : List It} (h : TxD n x) : QD 0 n x := ⟨fun _ => h, fun h => (nomatch h), fun h => (nomatch h), fun h => (nomatch h), fun h => (nomatch h)⟩
theorem QD.arm {n : Nd} {x : List It} (h : ∃ nm ps gs bs, ClTd n nm ps gs bs ∧ x = sepI comma ps ++ tailI gs bs) : QD 1 n x := ⟨fun h => (nomatch h), fun _ => h, fun h => (nomatch h), fun h => (nomatch h), fun h => (nomatch h)⟩
theorem QD.hd {n : Nd} {x : List It} (h : ∃ ps gs bs, ClTd n [] ps gs bs ∧ x = sg 40 :: sepI comma ps ++ sg 41 :: tailI gs bs) : QD 2 n x := ⟨fun h => (nomatch h), fun h => (nomatch h), fun _ => h, fun h => (nomatch h), fun h => (nomatch h)⟩
theorem QD.fhd {n : Nd} {x : List It} (h : ∃ nm ps gs bs, ClTd n nm ps gs bs ∧ nm ≠ [] ∧ nm.length ≤ 255 ∧ x = .t 2 0 nm :: sg 40 :: sepI comma ps ++ sg 41 :: tailI gs bs) : QD 3 n x := ⟨fun h => (nomatch h), fun h => (nomatch h), fun h => (nomatch h), fun _ => h, fun h => (nomatch h)⟩
theorem QD.rst {n : Nd} {x : List It} (h : ∃ l ls t y tl, n = consL l t ∧ TLd l ls ∧ l.length ≤ x.length ∧ t.kind ≠ 6 ∧ tl = (if t.kind = 5 then [] else 124 :: flat y) ∧ (t.kind = 5 → y = []) ∧ (t.kind ≠ 5 → TxD t y) ∧ flat x = Lib.joinTail [44] (ls.map flat) ++ tl ++ [93]) : QD 4 n x := ⟨fun h => (nomatch h), fun h => (nomatch h), fun h => (nomatch h), fun h => (nomatch h), fun _ => h⟩
theorem ar_ofD {l : List Nd} {ls : List (List It)} (hl : ls.length = l.length) (h : ∀ i (h : i < l.length) (h' : i < ls.length), Pr 1 l[i] ls[i]) (ih : ∀ i (h : i < l.length) (h' : i < ls.length), Sm ls[i] → QD 1 l[i] ls[i])
  (hs : Sm (sepI semiB ls)) : ArLd l ls :=
 ⟨hl, by have := sep_many semiB ls (pl_ne hl h); have := hs.1; omega, fun i hi hi' => (ih i hi hi' (hs.sub (sep_sub _ ls i hi'))).2.1 rfl⟩
theorem hd_ofD {l : List Nd} {ls : List (List It)} (hl : ls.length = l.length) (h : ∀ i (h : i < l.length) (h' : i < ls.length), Pr 2 l[i] ls[i]) (ih : ∀ i (h : i < l.length) (h' : i < ls.length), Sm ls[i] → QD 2 l[i] ls[i])
  (hs : Sm (sepI semiB ls)) : HdLd l ls :=
 ⟨hl, by have := sep_many semiB ls (pl_ne hl h); have := hs.1; omega, fun i hi hi' => by
   obtain ⟨ps, gs, bs, h1, h2⟩ := (ih i hi hi' (hs.sub (sep_sub _ ls i hi'))).2.2.1 rfl
   exact ⟨[], ps, gs, bs, h1, h2⟩⟩
theorem one_tlD {p : Nd} {x : List It} (h : TxD p x) : TLd [p] [x] :=
 ⟨rfl, by simp, fun i hi hi' => by
   have : i = 0 := by simp at hi; exact hi
   subst this; exact h⟩
theorem td_all {k : Nat} {n : Nd} {x : List It} (h : Pr k n x) : Sm x → QD k n x := by
 induction h with
 | leaf h h3 => exact fun _ => .tree (td_leaf h h3)
 | @tuple l ls hl h ih =>
  intro hs; have h1 : Sm (sepI comma ls) := hs.inf [sg 123] [sg 125] (by simp); exact .tree (td_tuple (tl_ofD hl h (fun i h h' hs => (ih i h h' hs).1 rfl) h1) (by have := h1.2; omega))
 | nil => exact fun _ => .tree (td_nil rfl)
 | @cons a t x r ha ht iha iht =>
  intro hs; obtain ⟨l, ls, t', y, tl, e, hTL, hll, h6, htl, hy5, hy, hfl⟩ := (iht (hs.inf (sg 91 :: x) [] (by simp))).2.2.2.2 rfl; have hxa := (iha (hs.inf [sg 91] r (by simp))).1 rfl
  have hfx : flat (sg 91 :: x ++ r) = 91 :: Lib.join ((x :: ls).map flat) [44] ++ tl ++ [93] := by
   rw [flat_app, hfl, List.map_cons, Lib.join_cons, flat_cons]; simp [It.text]
  have hlen : (Lib.join ((x :: ls).map flat) [44]).length + (flat y).length ≤ 140737488354000 := by
   have h2 := hs.2; rw [hfx] at h2; simp only [List.length_append, List.length_cons, List.length_nil] at h2
   by_cases h5 : t'.kind = 5
   ·rw [hy5 h5, flat_nil]; simp only [List.length_nil]; omega
   ·rw [if_neg h5] at htl; rw [htl] at h2; simp only [List.length_cons] at h2
    omega
  have hj : flat (sepI comma (x :: ls)) = Lib.join ((x :: ls).map flat) [44] := flat_sep comma (x :: ls); rw [← hj] at hfx hlen; refine .tree (td_cons (l := a :: l) (ls := x :: ls) (t := t') (y := y) (tl := tl) (by rw [e]; rfl) ⟨by simp [hTL.1], ?_, ?_⟩ h6 htl hy hfx hlen)
  ·have h1 := hs.1; simp only [List.length_append, List.length_cons] at h1 ⊢
   omega
  ·rintro (_ | i) hi hi'
   ·exact hxa
   ·exact hTL.2.2 i (by simp at hi; omega) (by simp at hi'; omega)
 | rest_nil => exact fun _ => .rst ⟨[], [], .mk 5 0 [] [] [] [], [], [], rfl, ⟨rfl, by simp, fun i h => by simp at h⟩, by simp, by simp [Nd.kind], rfl, fun _ => rfl, fun h => absurd rfl h, rfl⟩
 | @rest_cons a t x r ha ht iha iht =>
  intro hs; obtain ⟨l, ls, t', y, tl, e, hTL, hll, h6, htl, hy5, hy, hfl⟩ := (iht (hs.inf (sg 44 :: x) [] (by simp))).2.2.2.2 rfl; have hxa := (iha (hs.inf [sg 44] r (by simp))).1 rfl; have h1 := hs.1; simp only [List.length_append, List.length_cons] at h1; refine .rst ⟨a :: l, x :: ls, t', y, tl, by rw [e]; rfl, ⟨by simp [hTL.1], by simp only [List.length_cons]; omega, ?_⟩, by simp; omega, h6, htl, hy5, hy, ?_⟩
  ·rintro (_ | i) hi hi'
   ·exact hxa
   ·exact hTL.2.2 i (by simp at hi; omega) (by simp at hi'; omega)
  ·rw [flat_app, hfl, flat_cons]; simp [It.text, Lib.joinTail]
 | @rest_bar t x ht h5 h6 ih =>
  intro hs; have hx := (ih (hs.inf [sg 124] [sg 93] (by simp))).1 rfl; exact .rst ⟨[], [], t, x, 124 :: flat x, rfl, ⟨rfl, by simp, fun i h => by simp at h⟩, by simp, h6, by rw [if_neg h5], fun h => absurd h h5, fun _ => hx, by simp [flat_cons, flat_app, flat_nil, It.text, Lib.joinTail]⟩
 | @call nm l ls hn hl h ih =>
  intro hs; have h1 : Sm (sepI comma ls) := hs.inf [.t 2 0 nm, sg 40] [sg 41] (by simp); have h2 := hs.2; simp [flat_cons, flat_app, flat_nil, It.text] at h2; exact .tree (td_call (tok2 hn).1 (tl_ofD hl h (fun i h h' hs => (ih i h h' hs).1 rfl) h1) (by omega))
 | @apply f x l ls hf hl h ihf ih =>
  intro hs; have h1 : Sm (sepI comma ls) := hs.inf (callI f x ++ [sg 40]) [sg 41] (by simp); have h0 : Sm (callI f x) := hs.inf [] (sg 40 :: sepI comma ls ++ [sg 41]) (by simp); have h2 := hs.2; simp [flat_cons, flat_app, flat_nil, It.text] at h2; have h3 := callI_flat f x; exact .tree (td_apply ((ihf (h0.sub (callI_sub f x))).1 rfl) (tl_ofD hl h (fun i h h' hs => (ih i h h' hs).1 rfl) h1) (by omega) (by omega))
 | @op k v u t a b x y hu ht hk h4 ha hb iha ihb =>
  intro hs; have h0 : Sm (operI a x) := hs.inf [] (sp :: .t k v t :: sp :: operI b y) (by simp); have h1 : Sm (operI b y) := hs.inf (operI a x ++ [sp, .t k v t, sp]) [] (by simp); have h2 := hs.2; simp only [flat_cons, flat_app, flat_nil, List.length_append] at h2; have h3 := oper_flat a x; have h5 := oper_flat b y; exact .tree (td_op ((iha (h0.sub (oper_sub a x))).1 rfl) ((ihb (h1.sub (oper_sub b y))).1 rfl) h4 (level_len hu ht) (by omega) (by omega) (by omega))
 | @un k v t a x ht hk h4 ha iha =>
  intro hs; have h0 : Sm (operI a x) := hs.inf [.t k v t, sp] [] (by simp); have h2 := h0.2; have h3 := oper_flat a x; exact .tree (td_un ((iha (h0.sub (oper_sub a x))).1 rfl) h4 (un_len ht) (by omega) (by omega))
 | @mat a b x y ha hb iha ihb =>
  intro hs; have h0 : Sm (operI a x) := hs.inf [] (sp :: sg 61 :: sp :: operI b y) (by simp); have h1 : Sm (operI b y) := hs.inf (operI a x ++ [sp, sg 61, sp]) [] (by simp); have h2 := hs.2; simp only [flat_cons, flat_app, flat_nil, List.length_append] at h2; have h3 := oper_flat a x; have h5 := oper_flat b y; exact .tree (td_mat ((iha (h0.sub (oper_sub a x))).1 rfl) ((ihb (h1.sub (oper_sub b y))).1 rfl) (by omega) (by omega) (by omega))
 | @send a b x y ha hb iha ihb =>
  intro hs; have h0 : Sm (operI a x) := hs.inf [] (sp :: sg 33 :: sp :: operI b y) (by simp); have h1 : Sm (operI b y) := hs.inf (operI a x ++ [sp, sg 33, sp]) [] (by simp); have h2 := hs.2; simp only [flat_cons, flat_app, flat_nil, List.length_append] at h2; have h3 := oper_flat a x; have h5 := oper_flat b y; exact .tree (td_send ((iha (h0.sub (oper_sub a x))).1 rfl) ((ihb (h1.sub (oper_sub b y))).1 rfl) (by omega) (by omega) (by omega))
 | @fn l ls h0 hl h ih =>
  intro hs; have h1 : Sm (sepI semiB ls) := hs.inf [wd sFun] [sp, wd sEnd] (by simp); exact .tree (td_fn (hd_ofD hl h ih h1) h1)
 | @case a x l ls ha h0 hl h iha ih =>
  intro hs; have h1 : Sm (sepI semiB ls) := hs.inf (wd sCase :: sp :: x ++ [sp, wd sOf, sp]) [sp, wd sEnd] (by simp); have h2 : Sm x := hs.inf [wd sCase, sp] (sp :: wd sOf :: sp :: sepI semiB ls ++ [sp, wd sEnd]) (by simp); have h3 := hs.2; simp only [flat_cons, flat_app, flat_nil, List.length_append] at h3; exact .tree (td_case ((iha h2).1 rfl) (ar_ofD hl h ih h1) h1 (by omega))
 | @tr b l bs ls hb0 hbl hb h0 hl h ihb ih =>
  intro hs; have h1 : Sm (sepI semiB ls) := hs.inf (wd sTry :: sp :: sepI commaB bs ++ [sp, wd sCatch, sp]) [sp, wd sEnd] (by simp); have h2 : Sm (sepI commaB bs) := hs.inf [wd sTry, sp] (sp :: wd sCatch :: sp :: sepI semiB ls ++ [sp, wd sEnd]) (by simp); have h3 := hs.2; simp only [flat_cons, flat_app, flat_nil, List.length_append] at h3; exact .tree (td_tr (tl_ofD hbl hb (fun i h h' hs => (ihb i h h' hs).1 rfl) h2) (ar_ofD hl h ih h1) h1 (by omega))
 | @recv l ls h0 hl h ih =>
  intro hs; have h1 : Sm (sepI semiB ls) := hs.inf [wd sReceive, sp] [sp, wd sEnd] (by simp); exact .tree (td_recv h0 (ar_ofD hl h ih h1) h1)
 | @recvA l b ls bs a x hl h ha hb0 hbl hb ih iha ihb =>
  intro hs
  by_cases h0 : ls = []
  ·subst h0; have := List.eq_nil_of_length_eq_zero hl.symm; subst this; rw [if_pos rfl] at hs ⊢; have h1 : Sm x := hs.inf [wd sReceive, sp, wd sAfter, sp] (sp :: .t 5 0 sTo :: sp :: sepI commaB bs ++ [sp, wd sEnd]) (by simp); have h2 : Sm (sepI commaB bs) := hs.inf (wd sReceive :: sp :: wd sAfter :: sp :: x ++ [sp, .t 5 0 sTo, sp]) [sp, wd sEnd] (by simp); have h3 := hs.2; simp only [flat_cons, flat_app, flat_nil, List.length_append] at h3; exact .tree (by simpa using td_recvB ((iha h1).1 rfl) (tl_ofD hbl hb (fun i h h' hs => (ihb i h h' hs).1 rfl) h2) (by omega))
  ·rw [if_neg h0] at hs ⊢; have h1 : Sm x := hs.inf (wd sReceive :: sp :: sepI semiB ls ++ [sp, wd sAfter, sp]) (sp :: .t 5 0 sTo :: sp :: sepI commaB bs ++ [sp, wd sEnd]) (by simp); have h2 : Sm (sepI commaB bs) := hs.inf (wd sReceive :: sp :: sepI semiB ls ++ sp :: wd sAfter :: sp :: x ++ [sp, .t 5 0 sTo, sp]) [sp, wd sEnd] (by simp); have h4 : Sm (sepI semiB ls) := hs.inf [wd sReceive, sp] (sp :: wd sAfter :: sp :: x ++ sp :: .t 5 0 sTo :: sp :: sepI commaB bs ++ [sp, wd sEnd]) (by simp); have h3 := hs.2; simp only [flat_cons, flat_app, flat_nil, List.length_append] at h3; have hl0 : l ≠ [] := by rintro rfl; exact h0 (List.eq_nil_of_length_eq_zero hl)
   exact .tree (by simpa using td_recvA hl0 (ar_ofD hl h ih h4) h4 ((iha h1).1 rfl) (tl_ofD hbl hb (fun i h h' hs => (ihb i h h' hs).1 rfl) h2) (by omega))
 | @arm p x g b gs bs hp hgl hg hb0 hbl hb ihp ihg ihb =>
  intro hs; have h1 : Sm x := hs.inf [] (tailI gs bs) (by simp); have h2 : Sm (tailI gs bs) := hs.inf x [] (by simp); exact .arm ⟨[], [x], gs, bs, ⟨[p], g, b, rfl, one_tlD ((ihp h1).1 rfl), tl_ofD hgl hg (fun i h h' hs => (ihg i h h' hs).1 rfl) (h2.sub (tail_g gs bs)), tl_ofD hbl hb (fun i h h' hs => (ihb i h h' hs).1 rfl) (h2.sub (tail_b gs bs))⟩, rfl⟩
 | @head p g b ps gs bs hpl hp hgl hg hb0 hbl hb ihp ihg ihb =>
  intro hs; have h1 : Sm (sepI comma ps) := hs.inf [sg 40] (sg 41 :: tailI gs bs) (by simp); have h2 : Sm (tailI gs bs) := hs.inf (sg 40 :: sepI comma ps ++ [sg 41]) [] (by simp); exact .hd ⟨ps, gs, bs, ⟨p, g, b, rfl, tl_ofD hpl hp (fun i h h' hs => (ihp i h h' hs).1 rfl) h1, tl_ofD hgl hg (fun i h h' hs => (ihg i h h' hs).1 rfl) (h2.sub (tail_g gs bs)), tl_ofD hbl hb (fun i h h' hs => (ihb i h h' hs).1 rfl) (h2.sub (tail_b gs bs))⟩, rfl⟩
 | @fhead nm p g b ps gs bs hn hpl hp hgl hg hb0 hbl hb ihp ihg ihb =>
  intro hs; have h1 : Sm (sepI comma ps) := hs.inf [.t 2 0 nm, sg 40] (sg 41 :: tailI gs bs) (by simp); have h2 : Sm (tailI gs bs) := hs.inf (.t 2 0 nm :: sg 40 :: sepI comma ps ++ [sg 41]) [] (by simp); exact .fhd ⟨nm, ps, gs, bs, ⟨p, g, b, rfl, tl_ofD hpl hp (fun i h h' hs => (ihp i h h' hs).1 rfl) h1, tl_ofD hgl hg (fun i h h' hs => (ihg i h h' hs).1 rfl) (h2.sub (tail_g gs bs)), tl_ofD hbl hb (fun i h h' hs => (ihb i h h' hs).1 rfl) (h2.sub (tail_b gs bs))⟩, (tok2 hn).2, (tok2 hn).1, rfl⟩
theorem cells1f {w : World} {q : Nat} {a : Value} {t : TypeId} (h : w.heap[q]? = some (.cells #[a] t (0, 0))) : w.cell? ⟨q, 0, none⟩ = some a := by simp [World.cell?, h]
theorem prf_sm {B : Nat} {l : List Nd} {x : List It} (h : PrF l x) (hs : Sm x) : ∃ ls, HdL B l ls ∧ Sm (sepI semiB ls) ∧ x = sepI semiB ls ++ [sg 46, .b 10] := by
 cases h with
 | @mk ls h0 hl h =>
  have h1 : Sm (sepI semiB ls) := hs.inf [] [sg 46, .b 10] (by simp [funI]); exact ⟨ls, fhd_of hl h (fun i h1 h2 => tx_all B (h i h1 h2)) h1, h1, rfl⟩
theorem flat_sub2 (xs : List (List It)) (i : Nat) (h : i < xs.length) : (xs[i]).Sublist xs.flatten :=
 List.sublist_flatten_of_mem (List.getElem_mem h)
theorem prg_ne {fs : List (List Nd)} {xs : List (List It)} (h : PrG fs xs) (h0 : fs ≠ []) : flat xs.flatten ≠ [] := by
 cases fs with
 | nil => exact absurd rfl h0
 | cons a l =>
  cases xs with
  | nil => have := h.1; simp at this
  | cons x r =>
   have h1 := (PrG.cons_iff.1 h).1
   cases h1 with
   | mk _ _ _ => rw [List.flatten_cons, flat_app]; simp [funI, flat_app, flat_cons, It.text]
theorem p_print {w : World} {B : Nat} {S : Nat → Prop} {v : Value} {fs : List (List Nd)} {xs : List (List It)} (ht : TabOk B w) (h : FsR S w v fs) (hS : ∀ b, S b → b < w.heap.size) (hx : PrG fs xs) (h0 : fs ≠ []) (hs : Sm xs.flatten) (hlen : (flat xs.flatten).length ≤ 90000000000000) :
  Calls Tryz.prog 8 #[v] w (StrE w (flat xs.flatten)) := by
 obtain ⟨va, vc, rfl⟩ := h.form; have hlm : fs.length ≤ 9223372036854775807 := by obtain ⟨es, o, ⟨-, a, c, e, h1, h2, -⟩, -⟩ := h; cases e; unfold maxLen at h2; omega
 have HH := hyd h; have HT := hyd ht; have HX := hyd (And.intro hx (And.intro hs hlen)); have HS := hyd hS; have H0 := hyd h0; have HB0 := hyd (isB_new w); clear h ht hx hs hS h0 hlen; go_enter Tryz.func8, Tryz.ntmps8; go_wp2_with fail
 go_loopw [8] (fun v wr => ∃ k : Nat, k ≤ fs.length ∧ v = .int .i64 k ∧ ∃ F, IsB wr w.heap.size (flat (xs.take k).flatten) F ∧ (∀ x ∈ F, w.heap.size ≤ x) ∧ Keep [] w wr) (fun v _ => fs.length - (RowKit.intOf v).toNat)
 case atStart => exact ⟨0, Nat.zero_le _, rfl, [w.heap.size], HB0.o, by simp, (Keep.refl [] w).alloc _⟩
 case round =>
  obtain ⟨k, hk, rfl, F, hb, hF, hkw⟩ := hrel; have HB := hyd hb; have HF := hyd hF; have HKW := hyd hkw; clear hb hF hkw
  by_cases hi : k < fs.length
  ·have hlt : (k : Int) < (fs.length : Int) := by omega
   have hge : (0 : Int) ≤ (k : Int) := by omega
   obtain ⟨ab, aoff, vk, rfl, -, hns, hcell⟩ := (HH.o.keep HKW.o (by simp)).at1 hi; obtain ⟨p4, c4, rfl⟩ := hns.form; have hxk : k < xs.length := by rw [HX.o.1.1]; exact hi
   obtain ⟨ls, hhd, hsm, hex⟩ := prf_sm (B := B) (HX.o.1.2 k hi hxk) (HX.o.2.1.sub (flat_sub2 xs k hxk)); have hk5 := (Keep.refl [] wr).alloc (.cells #[.slice p4 fs[k].length c4] 50); have hb5 := heap_alloc_new wr (.cells #[.slice p4 fs[k].length c4] 50); have hcall := p_hd (HT.o.keep0 (HKW.o.trans hk5 (by simp))) (hns.keep hk5 (by simp)) hhd hsm; have hsl := hsm.2; have HCALL := hyd hcall; have HEX := hyd hex; have HK5 := hyd hk5; have d0 := cells1f hb5; clear hns hcall hex hhd hsm hk5 hb5; go_wp2_with fail; refine HCALL.o.mono ?_; rintro e w6 ⟨⟨X, rfl, hX⟩, hk6⟩; have hsX : X.size = (flat (sepI semiB ls)).length := by rw [size_list X, hX]
   have hfl : flat (xs.take (k + 1)).flatten = flat (xs.take k).flatten ++ (X ++ ⟨#[46, 10]⟩ : ByteArray).data.toList := by
    rw [List.take_succ_eq_append_getElem hxk, List.flatten_append, flat_app, HEX.o]; simp [flat_app, flat_cons, flat_nil, It.text, hX]
   have hle : (flat (xs.take k).flatten).length + (X ++ ⟨#[46, 10]⟩ : ByteArray).size ≤ 90000000000000 := by
    have h1 := HX.o.2.2
    have h2 : (flat (xs.take (k + 1)).flatten).length ≤ (flat xs.flatten).length := flat_sub (by
      have := List.take_append_drop (k + 1) xs
      conv => rhs; rw [← this]
      rw [List.flatten_append]; exact List.sublist_append_left _ _)
    rw [hfl, List.length_append, ← size_list] at h2
    omega
   have hbs := b_string (HB.o.keep (HK5.o.trans hk6 (by simp)) (by simp)) (X ++ ⟨#[46, 10]⟩) (by rw [ByteArray.size_append]; show 0 < X.size + 2; omega) (by omega); have HBS := hyd hbs; have HFL := hyd hfl; have HK6 := hyd (HKW.o.trans (HK5.o.trans hk6 (by simp)) (by simp)); clear hX hk6 hfl hle hbs; go_wp2_with fail; refine HBS.o.mono ?_; rintro e w7 ⟨rfl, F', hb7, hF7, hk7⟩; have HB7 := hyd hb7; have HF7 := hyd hF7; have HK7 := hyd hk7; clear hb7 hF7 hk7; go_wp2_with fail; go_roundw
   case rel => 
    refine ⟨k + 1, by omega, by go_num, F', by rw [HFL.o]; exact HB7.o, fun x hx => ?_, HK6.o.trans HK7.o (fun x hx => .inr (HF.o x hx))⟩; rcases HF7.o x hx with h | h
    ·exact HF.o x h
    ·exact Nat.le_trans HK6.o.size h
   case measure => simp [intOf]; omega
  ·obtain rfl : k = fs.length := by omega
   have q1 : ¬ (fs.length : Int) < (fs.length : Int) := by omega
   have hb := HB.o; rw [List.take_of_length_le (by rw [HX.o.1.1]; exact Nat.le_refl _)] at hb; have HT2 := hyd (b_text hb (prg_ne HX.o.1 H0.o)); clear hb; go_wp2_with fail; refine HT2.o.mono ?_; rintro e w7 ⟨rfl, hk7⟩; have HK7 := hyd (HKW.o.trans hk7 (fun x hx => .inr (HF.o x hx))); clear hk7; go_wp2_with fail; go_ret; exact ⟨⟨_, rfl, by simp⟩, HK7.o⟩
def FhLd (l : List Nd) (ls : List (List It)) : Prop := ls.length = l.length ∧ l.length ≤ 1000000 ∧ ∀ i (_ : i < l.length) (_ : i < ls.length), ∃ nm ps gs bs, ClTd l[i] nm ps gs bs ∧ nm.length ≤ 255 ∧ ls[i] = .t 2 0 nm :: sg 40 :: sepI comma ps ++ sg 41 :: tailI gs bs
theorem prf_smD {l : List Nd} {x : List It} (h : PrF l x) (hs : Sm x) : ∃ ls, FhLd l ls ∧ Sm (sepI semiB ls) ∧ x = sepI semiB ls ++ [sg 46, .b 10] := by
 cases h with
 | @mk ls h0 hl h =>
  have h1 : Sm (sepI semiB ls) := hs.inf [] [sg 46, .b 10] (by simp [funI]); refine ⟨ls, ⟨hl, by have := sep_many semiB ls (pl_ne hl h); have := h1.1; omega, fun i hi hi' => ?_⟩, h1, rfl⟩; obtain ⟨nm, ps, gs, bs, a1, a0, a3, a2⟩ := (td_all (h i hi hi') (h1.sub (sep_sub semiB ls i hi'))).2.2.2.1 rfl; exact ⟨nm, ps, gs, bs, a1, a3, a2⟩
theorem take_flatten_le (xs : List (List It)) (k : Nat) : (flat (xs.take k).flatten).length ≤ (flat xs.flatten).length :=
 flat_sub (by
   have := List.take_append_drop k xs
   conv => rhs; rw [← this]
   rw [List.flatten_append]; exact List.sublist_append_left _ _)
theorem d_print {w : World} {S : Nat → Prop} {v : Value} {fs : List (List Nd)} {xs : List (List It)} (h : FsR S w v fs) (hx : PrG fs xs) (hs : Sm xs.flatten) (hlen : (flat xs.flatten).length ≤ 90000000000000) :
  Calls Tryz.prog 9 #[v] w (StrE w (flat xs.flatten)) := by
 obtain ⟨va, vc, rfl⟩ := h.form; have hlm : fs.length ≤ 9223372036854775807 := by obtain ⟨es, o, ⟨-, a, c, e, h1, h2, -⟩, -⟩ := h; cases e; unfold maxLen at h2; omega
 have HH := hyd h; have HX := hyd (And.intro hx (And.intro hs hlen)); clear h hx hs hlen; go_enter Tryz.func9, Tryz.ntmps9; go_wp2_with fail
 go_loopw [3, 4] (fun s i wr => ∃ (k : Nat) (X : ByteArray), k ≤ fs.length ∧ i = .int .i64 k ∧ s = .string X ∧ X.data.toList = flat (xs.take k).flatten ∧ Keep [] w wr) (fun _ i _ => fs.length - (RowKit.intOf i).toNat)
 case atStart => exact ⟨0, ⟨#[]⟩, Nat.zero_le _, rfl, rfl, rfl, Keep.refl _ _⟩
 case round =>
  obtain ⟨k, X, hk, rfl, rfl, hX, hkw⟩ := hrel; generalize wr = wo at *; clear wr; have HXX := hyd hX; have HKW := hyd hkw; have hxs : X.size = (flat (xs.take k).flatten).length := by rw [size_list X, hX]
  clear hX hkw
  by_cases hi : k < fs.length
  ·have hlt : (k : Int) < (fs.length : Int) := by omega
   have hge : (0 : Int) ≤ (k : Int) := by omega
   obtain ⟨ab, aoff, vk, rfl, -, hns, hcell⟩ := (HH.o.keep HKW.o (by simp)).at1 hi; obtain ⟨p4, c4, rfl⟩ := hns.form; have hxk : k < xs.length := by rw [HX.o.1.1]; exact hi
   obtain ⟨ls, hhd, hsm, hex⟩ := prf_smD (HX.o.1.2 k hi hxk) (HX.o.2.1.sub (flat_sub2 xs k hxk))
   have hfl : flat (xs.take (k + 1)).flatten = flat (xs.take k).flatten ++ (flat (sepI semiB ls) ++ [46, 10]) := by
    rw [List.take_succ_eq_append_getElem hxk, List.flatten_append, flat_app, hex]; simp [flat_cons, flat_app, flat_nil, It.text]
   have hle := take_flatten_le xs (k + 1); rw [hfl] at hle; simp only [List.length_append, List.length_cons, List.length_nil] at hle; have hbd := HX.o.2.2; have hlN := hhd.2.1; have HL := hyd hhd; have HSM := hyd hsm; have HFL := hyd hfl; have HNS := hyd hns; clear hns hex hhd hsm hfl; go_wp2_with fail
   go_loopw [3, 6] (fun s i wr2 => ∃ (j : Nat) (X2 : ByteArray), j ≤ fs[k].length ∧ i = .int .i64 j ∧ s = .string X2 ∧ X2.data.toList = flat (xs.take k).flatten ++ flat (sepI semiB (ls.take j)) ∧ Keep [] wo wr2) (fun _ i _ => fs[k].length - (RowKit.intOf i).toNat)
   case atStart => exact ⟨0, X, Nat.zero_le _, rfl, rfl, by rw [HXX.o]; simp [sepI, flat_nil], Keep.refl _ _⟩
   case round =>
    clear hcell; obtain ⟨j, X2, hj, rfl, rfl, hX2, hkw2⟩ := hrel; have HX2 := hyd hX2; have HKW2 := hyd hkw2; have hxs2 : X2.size = (flat (xs.take k).flatten).length + (flat (sepI semiB (ls.take j))).length := by rw [size_list X2, hX2, List.length_append]
    clear hX2 hkw2
    by_cases hjl : j < fs[k].length
    ·have q0 : (0 : Int) ≤ (j : Int) := by omega
     have q1 : (j : Int) < (fs[k].length : Int) := by omega
     have hw2 : IntKind.i64.wrap ((j : Int) + 1) = (j : Int) + 1 := IntWalk.i64_in _ (by omega); have hkl : j < ls.length := by rw [HL.o.1]; exact hjl
     obtain ⟨bb, boff, csa, ea, -, hnd, hcell⟩ := (HNS.o.keep HKW2.o (by simp)).atk hjl; obtain ⟨nm, ps, gs, bs, ⟨p, g, b, ec, hp, hg, hb⟩, hnm, hex⟩ := HL.o.2.2 j hjl hkl; have hszk := (HSM.o.sub (sep_sub semiB ls j hkl)).2; rw [hex] at hszk; have hszk2 : (flat (sepI comma ps)).length + (flat (tailI gs bs)).length ≤ 140737488354000 := by simp [flat_app, flat_cons] at hszk; omega
     rw [ec] at hnd; obtain ⟨at1', nm', a', g', b', va1, vb1, vc1, rfl, e, h1, h2, h3⟩ := id hnd.un5; injection e with e1 e2 e3 e4 e5 e6; subst e3 e4 e5 e6; obtain ⟨p7, c7, rfl⟩ := h1.form; obtain ⟨p8, c8, rfl⟩ := h2.form; obtain ⟨p9, c9, rfl⟩ := h3.form; have hA0 := hcell 0 (by decide); have hA1 := hcell 1 (by decide); have hA2 := hcell 2 (by decide); have hA3 := hcell 3 (by decide); have hA4 := hcell 4 (by decide); simp only [wid, if_true, Nat.add_zero, List.getElem?_cons_zero, List.getElem?_cons_succ] at hA0 hA1 hA2 hA3 hA4; subst ea; have A0 := hyd (And.intro hA0 (And.intro hA1 (And.intro hA2 (And.intro hA3 hA4)))); have HHD := hyd (fun W (k : Keep [] wr W) => d_head (w := W) (hnd.keep k (by simp)) hp hg hb hszk2); have HPA := hyd (fun W => rd_printA (w := W) ⟨nm.toArray⟩ (by show nm.toArray.size ≤ 100000; rw [List.size_toArray]; omega)); have hft := flat_take (s := semiB) hkl; have hfl := take_flat_le (s := semiB) ls (j + 1); rw [hft, hex] at hfl; rw [hex] at hft; have hft2 : flat (sepI semiB (ls.take (j + 1))) = flat (sepI semiB (ls.take j)) ++ (if j = 0 then [] else flat semiB) ++ (nameL nm ++ flat (sg 40 :: sepI comma ps ++ sg 41 :: tailI gs bs)) := by rw [hft]; simp [flat_cons, flat_app, flat_nil, It.text]
     have HFT0 := hyd hft2; obtain ⟨NX, hNX⟩ : ∃ N, N = (flat (sg 40 :: sepI comma ps ++ sg 41 :: tailI gs bs)).length := ⟨_, rfl⟩
     have hfl2 : (flat (sepI semiB (ls.take j))).length + (if j = 0 then 0 else 2) + ((nameL nm).length + NX) ≤ (flat (sepI semiB ls)).length := by
      rw [hNX]
      by_cases h0 : j = 0
      ·simp [h0, flat_cons, flat_app, flat_nil, It.text] at hfl ⊢; omega
      ·simp [h0, flat_cons, flat_app, flat_nil, It.text] at hfl ⊢; have : (flat semiB).length = 2 := rfl
       omega
     have HNX := hyd hNX; clear hcell hnd h1 h2 h3 hp hg hb hft hft2 hfl ec e1 e2 hex hszk hA0 hA1 hA2 hA3 hA4 hNX
     by_cases h0 : j = 0
     ·have z1 : ¬ (0 : Int) < (j : Int) := by omega
      have HFT := hyd HFT0.o; rw [if_pos h0] at HFT hfl2; clear HFT0 h0; go_wp2_with fail; refine wp_region_held_drew (S := fun w' => Keep [] wr w') (by kernel_rfl) ((Keep.refl [] wr).drew) (fun hHeld => ?_); refine tkL 0 ?vA0 rfl ?runA0 hHeld ?_
      case runA0 => (intro w9 hS9; obtain ⟨q0, q1, q2, q3, q4⟩ := ck5 hS9 A0.o; go_simp; try exact rfl)
      try simp only [Act.put, lA, lZ, lS]
      refine tkL 1 ?vA1 rfl ?runA1 hHeld ?_
      case runA1 => (intro w9 hS9; obtain ⟨q0, q1, q2, q3, q4⟩ := ck5 hS9 A0.o; go_simp; try exact rfl)
      try simp only [Act.put, lA, lZ, lS]
      refine tkL 2 ?vA2 rfl ?runA2 hHeld ?_
      case runA2 => (intro w9 hS9; obtain ⟨q0, q1, q2, q3, q4⟩ := ck5 hS9 A0.o; go_simp; try exact rfl)
      try simp only [Act.put, lA, lZ, lS]
      refine tkL 3 ?vA3 rfl ?runA3 hHeld ?_
      case runA3 => (intro w9 hS9; obtain ⟨q0, q1, q2, q3, q4⟩ := ck5 hS9 A0.o; go_simp; try exact rfl)
      try simp only [Act.put, lA, lZ, lS]
      refine tkL 4 ?vA4 rfl ?runA4 hHeld ?_
      case runA4 => (intro w9 hS9; obtain ⟨q0, q1, q2, q3, q4⟩ := ck5 hS9 A0.o; go_simp; try exact rfl)
      try simp only [Act.put, lA, lZ, lS]
      refine tkL 5 ?vA5 rfl ?runA5 hHeld ?_
      case runA5 => (intro w9 hS9; obtain ⟨q0, q1, q2, q3, q4⟩ := ck5 hS9 A0.o; go_simp; try exact rfl)
      try simp only [Act.put, lA, lZ, lS]
      refine tkL 9 ?vA9 rfl ?runA9 hHeld ?_
      case runA9 => (intro w9 hS9; obtain ⟨q0, q1, q2, q3, q4⟩ := ck5 hS9 A0.o; go_simp; try exact rfl)
      try simp only [Act.put, lA, lZ, lS]
      refine tkL 10 ?vA10 rfl ?runA10 hHeld ?_
      case runA10 => (intro w9 hS9; obtain ⟨q0, q1, q2, q3, q4⟩ := ck5 hS9 A0.o; go_simp; try exact rfl)
      try simp only [Act.put, lA, lZ, lS]
      refine tkL 11 ?vA11 rfl ?runA11 hHeld ?_
      case runA11 => (intro w9 hS9; obtain ⟨q0, q1, q2, q3, q4⟩ := ck5 hS9 A0.o; go_simp; try exact rfl)
      try simp only [Act.put, lA, lZ, lS]
      refine tkL 12 ?vA12 rfl ?runA12 hHeld ?_
      case runA12 => (intro w9 hS9; obtain ⟨q0, q1, q2, q3, q4⟩ := ck5 hS9 A0.o; go_simp; try exact rfl)
      try simp only [Act.put, lA, lZ, lS]
      refine rdH 6 rfl (fun K hK => ?_); go_simp; refine (rd_atom _ _).mono ?_; rintro e wc1 ⟨rfl, hc1⟩; have HC1 := hyd ((Keep.refl [] wr).drew.trans hc1 (by simp)); clear hc1; go_wp2_with fail; refine hK.out _ _ HC1.o (fun hHeld2 => ?_); clear hK K hHeld; have hHeld := hHeld2; clear hHeld2
      try simp only [Act.put, lA, lZ, lS]
      refine rdH 7 rfl (fun K hK => ?_); go_simp; refine (HPA.o _).mono ?_; rintro e wc2 ⟨rfl, hc2⟩; have HC2 := hyd (HC1.o.trans hc2 (by simp)); clear hc2; go_wp2_with fail; refine hK.out _ _ HC2.o (fun hHeld2 => ?_); clear hK K hHeld; have hHeld := hHeld2; clear hHeld2
      try simp only [Act.put, lA, lZ, lS]
      obtain ⟨Z, hZ⟩ : ∃ Z : ByteArray, Z = ⟨(nameL (⟨nm.toArray⟩ : ByteArray).data.toList).toArray⟩ := ⟨_, rfl⟩; rw [← hZ]; have hsZ : Z.size = (nameL nm).length := by rw [hZ, size_list]
      have HZ := hyd hZ; clear hZ; refine tkL 8 (.string (X2 ++ Z)) rfl ?runA8 hHeld ?_
      case runA8 => (intro w9 hS9; obtain ⟨q0, q1, q2, q3, q4⟩ := ck5 hS9 A0.o; go_simp; first | done | omega | (simp; omega))
      try simp only [Act.put, lA, lZ, lS]
      refine rdH 13 rfl (fun K hK => ?_); go_simp; refine (HHD.o _ HC2.o).mono ?_; rintro e wc3 ⟨⟨Y, rfl, hY⟩, hc3⟩; have HC3 := hyd (HC2.o.trans hc3 (by simp)); clear hc3; go_wp2_with fail; refine hK.out _ _ HC3.o (fun hHeld2 => ?_); clear hK K hHeld; have hHeld := hHeld2; clear hHeld2
      try simp only [Act.put, lA, lZ, lS]
      have hsY : Y.size = NX := by rw [size_list Y, hY, HNX.o]
      have HY := hyd hY; clear hY; refine tkL 14 (.string (X2 ++ Z ++ Y)) rfl ?runA14 hHeld ?_
      case runA14 => (intro w9 hS9; obtain ⟨q0, q1, q2, q3, q4⟩ := ck5 hS9 A0.o; go_simp; first | done | omega | (simp; omega))
      try simp only [Act.put, lA, lZ, lS]
      refine tkL 15 (.string (X2 ++ Z ++ Y)) rfl ?runA15 hHeld ?_
      case runA15 => (intro w9 hS9; obtain ⟨q0, q1, q2, q3, q4⟩ := ck5 hS9 A0.o; go_simp; first | done | exact rfl)
      try simp only [Act.put, lA, lZ, lS]
      refine wpAnyH_done (by kernel_rfl) ?_ _; go_wp2_with fail; go_roundw
      case rel => exact ⟨j + 1, _, by omega, by go_num, rfl, by rw [HFT.o]; simp [HX2.o, HZ.o, HY.o, flat_cons, flat_app, flat_nil, It.text], HKW2.o.trans HC3.o (by simp)⟩
      case measure => simp [intOf]; omega
     ·have z1 : (0 : Int) < (j : Int) := by omega
      have HFT := hyd HFT0.o; rw [if_neg h0] at HFT hfl2; clear HFT0 h0; go_wp2_with fail; refine wp_region_held_drew (S := fun w' => Keep [] wr w') (by kernel_rfl) ((Keep.refl [] wr).drew) (fun hHeld => ?_); refine tkL 0 ?vB0 rfl ?runB0 hHeld ?_
      case runB0 => (intro w9 hS9; obtain ⟨q0, q1, q2, q3, q4⟩ := ck5 hS9 A0.o; go_simp; try exact rfl)
      try simp only [Act.put, lA, lZ, lS]
      refine tkL 1 ?vB1 rfl ?runB1 hHeld ?_
      case runB1 => (intro w9 hS9; obtain ⟨q0, q1, q2, q3, q4⟩ := ck5 hS9 A0.o; go_simp; try exact rfl)
      try simp only [Act.put, lA, lZ, lS]
      refine tkL 2 ?vB2 rfl ?runB2 hHeld ?_
      case runB2 => (intro w9 hS9; obtain ⟨q0, q1, q2, q3, q4⟩ := ck5 hS9 A0.o; go_simp; try exact rfl)
      try simp only [Act.put, lA, lZ, lS]
      refine tkL 3 ?vB3 rfl ?runB3 hHeld ?_
      case runB3 => (intro w9 hS9; obtain ⟨q0, q1, q2, q3, q4⟩ := ck5 hS9 A0.o; go_simp; try exact rfl)
      try simp only [Act.put, lA, lZ, lS]
      refine tkL 4 ?vB4 rfl ?runB4 hHeld ?_
      case runB4 => (intro w9 hS9; obtain ⟨q0, q1, q2, q3, q4⟩ := ck5 hS9 A0.o; go_simp; try exact rfl)
      try simp only [Act.put, lA, lZ, lS]
      refine tkL 5 ?vB5 rfl ?runB5 hHeld ?_
      case runB5 => (intro w9 hS9; obtain ⟨q0, q1, q2, q3, q4⟩ := ck5 hS9 A0.o; go_simp; try exact rfl)
      try simp only [Act.put, lA, lZ, lS]
      refine tkL 9 ?vB9 rfl ?runB9 hHeld ?_
      case runB9 => (intro w9 hS9; obtain ⟨q0, q1, q2, q3, q4⟩ := ck5 hS9 A0.o; go_simp; try exact rfl)
      try simp only [Act.put, lA, lZ, lS]
      refine tkL 10 ?vB10 rfl ?runB10 hHeld ?_
      case runB10 => (intro w9 hS9; obtain ⟨q0, q1, q2, q3, q4⟩ := ck5 hS9 A0.o; go_simp; try exact rfl)
      try simp only [Act.put, lA, lZ, lS]
      refine tkL 11 ?vB11 rfl ?runB11 hHeld ?_
      case runB11 => (intro w9 hS9; obtain ⟨q0, q1, q2, q3, q4⟩ := ck5 hS9 A0.o; go_simp; try exact rfl)
      try simp only [Act.put, lA, lZ, lS]
      refine tkL 12 ?vB12 rfl ?runB12 hHeld ?_
      case runB12 => (intro w9 hS9; obtain ⟨q0, q1, q2, q3, q4⟩ := ck5 hS9 A0.o; go_simp; try exact rfl)
      try simp only [Act.put, lA, lZ, lS]
      refine rdH 6 rfl (fun K hK => ?_); go_simp; refine (rd_atom _ _).mono ?_; rintro e wc1 ⟨rfl, hc1⟩; have HC1 := hyd ((Keep.refl [] wr).drew.trans hc1 (by simp)); clear hc1; go_wp2_with fail; refine hK.out _ _ HC1.o (fun hHeld2 => ?_); clear hK K hHeld; have hHeld := hHeld2; clear hHeld2
      try simp only [Act.put, lA, lZ, lS]
      refine rdH 7 rfl (fun K hK => ?_); go_simp; refine (HPA.o _).mono ?_; rintro e wc2 ⟨rfl, hc2⟩; have HC2 := hyd (HC1.o.trans hc2 (by simp)); clear hc2; go_wp2_with fail; refine hK.out _ _ HC2.o (fun hHeld2 => ?_); clear hK K hHeld; have hHeld := hHeld2; clear hHeld2
      try simp only [Act.put, lA, lZ, lS]
      obtain ⟨Z, hZ⟩ : ∃ Z : ByteArray, Z = ⟨(nameL (⟨nm.toArray⟩ : ByteArray).data.toList).toArray⟩ := ⟨_, rfl⟩; rw [← hZ]; have hsZ : Z.size = (nameL nm).length := by rw [hZ, size_list]
      have HZ := hyd hZ; clear hZ; refine tkL 8 (.string ((X2 ++ ⟨#[59, 32]⟩) ++ Z)) rfl ?runB8 hHeld ?_
      case runB8 => (intro w9 hS9; obtain ⟨q0, q1, q2, q3, q4⟩ := ck5 hS9 A0.o; go_simp; first | done | omega | (simp; omega))
      try simp only [Act.put, lA, lZ, lS]
      refine rdH 13 rfl (fun K hK => ?_); go_simp; refine (HHD.o _ HC2.o).mono ?_; rintro e wc3 ⟨⟨Y, rfl, hY⟩, hc3⟩; have HC3 := hyd (HC2.o.trans hc3 (by simp)); clear hc3; go_wp2_with fail; refine hK.out _ _ HC3.o (fun hHeld2 => ?_); clear hK K hHeld; have hHeld := hHeld2; clear hHeld2
      try simp only [Act.put, lA, lZ, lS]
      have hsY : Y.size = NX := by rw [size_list Y, hY, HNX.o]
      have HY := hyd hY; clear hY; refine tkL 14 (.string ((X2 ++ ⟨#[59, 32]⟩) ++ Z ++ Y)) rfl ?runB14 hHeld ?_
      case runB14 => (intro w9 hS9; obtain ⟨q0, q1, q2, q3, q4⟩ := ck5 hS9 A0.o; go_simp; first | done | omega | (simp; omega))
      try simp only [Act.put, lA, lZ, lS]
      refine tkL 15 (.string ((X2 ++ ⟨#[59, 32]⟩) ++ Z ++ Y)) rfl ?runB15 hHeld ?_
      case runB15 => (intro w9 hS9; obtain ⟨q0, q1, q2, q3, q4⟩ := ck5 hS9 A0.o; go_simp; first | done | exact rfl)
      try simp only [Act.put, lA, lZ, lS]
      refine wpAnyH_done (by kernel_rfl) ?_ _; go_wp2_with fail; go_roundw
      case rel => exact ⟨j + 1, _, by omega, by go_num, rfl, by rw [HFT.o]; simp [HX2.o, HZ.o, HY.o, flat_cons, flat_app, flat_nil, It.text], HKW2.o.trans HC3.o (by simp)⟩
      case measure => simp [intOf]; omega
    ·obtain rfl : j = fs[k].length := by omega
     have q1 : ¬ (fs[k].length : Int) < (fs[k].length : Int) := by omega
     have hX := HX2.o; rw [List.take_of_length_le (l := ls) (by rw [HL.o.1]; exact Nat.le_refl _)] at hX hxs2; have HX3 := hyd hX; clear hX; go_wp2_with fail; go_roundw
     case rel => exact ⟨k + 1, _, by omega, by go_num, rfl, by rw [HFL.o]; simp [HX3.o], HKW.o.trans HKW2.o (by simp)⟩
     case measure => simp [intOf]; omega
  ·obtain rfl : k = fs.length := by omega
   have q1 : ¬ (fs.length : Int) < (fs.length : Int) := by omega
   have hX := HXX.o; rw [List.take_of_length_le (by rw [HX.o.1.1]; exact Nat.le_refl _)] at hX; have HX3 := hyd hX; clear hX; go_wp2_with fail; go_ret; exact ⟨⟨_, rfl, HX3.o⟩, HKW.o⟩
open Go.RowKit Go.Emb Go.Shelf
def BegD (s : ByteArray) (w : World) (e1 : Ending) (w' : World) : Prop :=
 ∃ (pb : Nat) (l : List TkD) (e : Int), e1 = .returned (.pointer (some ⟨pb, 0, none⟩)) ∧ DP (pb + 1) w' pb l 0 e ∧ w'.heap.size = pb + 1 ∧ w.heap.size ≤ pb ∧ l.length ≤ s.size ∧ (∀ t ∈ l, TokD t) ∧ Keep [] w w'
theorem d_begin (s : ByteArray) (hs : s.size ≤ 16384) (w : World) : Calls Tryz.prog 16 #[.string s] w (BegD s w) := by
 have HS := hyd (sd_scan s hs w); go_enter Tryz.func16, Tryz.ntmps16; go_wp2_with fail; refine HS.o.mono ?_; rintro e w3 ⟨hq, hk3⟩
 have h2 : ∃ (a : Option Addr) (c : Nat) (l : List TkD) (er a2 : Int), e = .returned (.tuple #[.slice a l.length c, .int .i64 er, .int .i64 a2]) ∧ (∃ o, Rd w3 5 (.slice a l.length c) l.length (l.flatMap encD) o ∧ ∀ b, o = some b → b < w3.heap.size) ∧ l.length ≤ s.size ∧ (∀ t ∈ l, TokD t) := by
  rcases hq with ⟨er, a, rfl, her⟩ | ⟨v, l, o, rfl, hrd, ho, hl, ht⟩
  ·exact ⟨none, 0, [], er, a, rfl, ⟨none, ⟨by simp, none, 0, rfl, Nat.le_refl _, by simp [maxLen], .inl ⟨rfl, rfl⟩⟩, by simp⟩, by simp, by simp⟩
  ·obtain ⟨a, c, rfl⟩ := rdd_form hrd; exact ⟨a, c, l, 0, 0, rfl, rd_low (by decide) hrd, hl, ht⟩
 obtain ⟨a, c, l, er, a2, rfl, ⟨o, hrd, ho⟩, hl, ht⟩ := h2; have HRD := hyd (And.intro hrd (And.intro ho (And.intro hl (And.intro ht hk3)))); clear hq hk3 hrd ho hl ht; go_wp2_with fail; go_ret; obtain ⟨hrd, ho, hl, ht, hk3⟩ := HRD.o; have hk4 := (Keep.refl [] w3).alloc (.cells #[.slice a l.length c, .int .i64 0, .int .i64 s.size, .int .i64 er, .int .i64 a2] 48); exact ⟨w3.heap.size, l, er, rfl, ⟨⟨_, o, s.size, a2, heap_alloc_new w3 _, hrd.keep hk4 (by simp), fun b hb => ⟨by have := ho b hb; omega, by have := ho b hb; omega⟩⟩, by omega, Nat.zero_le _⟩, Array.size_push _, hk3.size, hl, ht, hk3.trans hk4 (by simp)⟩
def ExprD (n0 : Nat) (w : World) (e1 : Ending) (w' : World) : Prop :=
 ∃ (cs : List Value) (n : Nd) (e at_ : Int), e1 = .returned (.tuple #[.agg cs.toArray, .int .i64 e, .int .i64 at_]) ∧ NdR (Frs w.heap.size w') w' false cs n ∧ (e = 0 → ∃ x, Pr 0 n x ∧ x.length ≤ 8 * n0) ∧ Keep [] w w'
theorem d_expr (s : ByteArray) (hs : s.size ≤ 16384) (w : World) : Calls Tryz.prog 7 #[.string s] w (ExprD s.size w) := by
 obtain ⟨Z, hZ⟩ : ∃ Z, Z = w.heap.size := ⟨_, rfl⟩; have hbZ := heap_alloc_new w zN; have hkZ := (Keep.refl [] w).alloc zN; have hsZ : (w.alloc zN).heap.size = w.heap.size + 1 := Array.size_push _; have HB := hyd (d_begin s hs); have HZ := hyd hZ; have HSZ := hyd hsZ; rw [← hZ] at hbZ; have HBZ := hyd hbZ; have HKZ := hyd hkZ; clear hZ hbZ hkZ hsZ; go_enter Tryz.func7, Tryz.ntmps7; go_wp2_with fail; refine (HB.o (w.alloc zN)).mono ?_; rintro e w2 ⟨q, l, e0, rfl, hdp, hsz2, hpb, hl, htk, hk2⟩; have hqZ : Z < q := by have := HZ.o; have := HSZ.o; omega
 have hZw : Z = w.heap.size := HZ.o; have hin : InD (q + 1) w2 q l 0 e0 0 := ⟨hdp, by omega, by omega⟩; have HC := hyd ((allD htk (by omega) (32 * mu l 0 e0 + 13)).expr hin (by omega)); have hbz2 := blkK HBZ.o hk2 (by simp); have HBZ2 := hyd hbz2; have HK2 := hyd (HKZ.o.trans hk2 (by simp)); have HQ := hyd (And.intro hqZ (And.intro hsz2 (And.intro hZw hl))); clear hdp hsz2 hpb hl htk hk2 hqZ hZw hin hbz2; go_wp2_with fail; refine HC.o.mono ?_; rintro e w3 ⟨cs, n, r2, e2, rfl, hnd3, hdp3, hgot, hk3⟩; obtain ⟨kindA, numA, atA, nameA, p1A, n1A, c1A, p2A, n2A, c2A, p3A, n3A, c3A, rfl, -⟩ := id hnd3.un7s; have hk4 := (Keep.refl [] w3).alloc (.cells #[.int .i64 kindA, .int .i64 numA, .string ⟨nameA.toArray⟩, .int .i64 atA, .slice p1A n1A c1A, .slice p2A n2A c2A, .slice p3A n3A c3A] 29); have hb4 := heap_alloc_new w3 (.cells #[.int .i64 kindA, .int .i64 numA, .string ⟨nameA.toArray⟩, .int .i64 atA, .slice p1A n1A c1A, .slice p2A n2A c2A, .slice p3A n3A c3A] 29); obtain ⟨hqZ, hsz2, hZw, hl⟩ := HQ.o; have hqs : q < w3.heap.size := hdp3.lt; have H4 := hyd (And.intro hb4 (And.intro (hdp3.keep hk4 (by simp)) (And.intro (blkK HBZ2.o (hk3.trans hk4 (by simp)) (by simp; omega)) (And.intro (hnd3.keep hk4 (by simp)) (((HK2.o.mono (G := [q]) (by simp)).trans hk3 (by simp)).trans hk4 (by simp)))))); have HG := hyd hgot; have HQS := hyd hqs; clear hb4 hk4 hnd3 hdp3 hgot HBZ HBZ2 hZw hsz2 hqZ hqs hl; rw [← HZ.o]; go_upto_region 3 with fail; generalize (w3.alloc (.cells #[.int .i64 kindA, .int .i64 numA, .string ⟨nameA.toArray⟩, .int .i64 atA, .slice p1A n1A c1A, .slice p2A n2A c2A, .slice p3A n3A c3A] 29)) = w4 at *; rename_i K_out a_out K_in a_in
 have hcut : ∀ a' w', CutF 38 (fun f wx => f 2 = .pointer (some ⟨Z, 0, none⟩) ∧ f 3 = .int .i64 0 ∧ f 4 = .int .i64 0 ∧ f 5 = .pointer (some ⟨q, 0, none⟩) ∧ f 6 = .pointer (some ⟨w3.heap.size, 0, none⟩) ∧ ∃ (r2 : Nat) (e2 : Int), wx.heap[w3.heap.size]? = some (.cells #[.int .i64 kindA, .int .i64 numA, .string ⟨nameA.toArray⟩, .int .i64 atA, .slice p1A n1A c1A, .slice p2A n2A c2A, .slice p3A n3A c3A] 29 (0, 0)) ∧ wx.heap[Z]? = some zN ∧ DP (q + 1) wx q l r2 e2 ∧ (e2 = 0 → ∃ x, Pr 0 n x ∧ x.length ≤ 8 * s.size) ∧ NdR (Frs w2.heap.size w3) wx false [.int .i64 kindA, .int .i64 numA, .string ⟨nameA.toArray⟩, .int .i64 atA, .slice p1A n1A c1A, .slice p2A n2A c2A, .slice p3A n3A c3A] n ∧ Keep [q] w wx) a' w' → K_out a' w' := by
  intro a' w' hc; refine a_out _ _ ?_; clear a_out a_in K_in; obtain ⟨f, rfl, h2, h3, h4, h5, h6, r2, e2, hb6, hbz, hdp, hpr, hnd, hkw⟩ := hc.lit; rw [show ((List.range 38).map f).toArray = #[f 0, f 1, f 2, f 3, f 4, f 5, f 6, f 7, f 8, f 9, f 10, f 11, f 12, f 13, f 14, f 15, f 16, f 17, f 18, f 19, f 20, f 21, f 22, f 23, f 24, f 25, f 26, f 27, f 28, f 29, f 30, f 31, f 32, f 33, f 34, f 35, f 36, f 37] from rfl]; rw [h2, h3, h4, h5, h6]; obtain ⟨v, o, en, at_, hpb, -, -⟩ := hdp.blk; obtain ⟨s0, s1, s2, s3, s4⟩ := cells5d hpb; have HPR := hyd hpr; have HBX := hyd hbz; have HB6 := hyd hb6; have HND := hyd hnd; have HPB := hyd hpb; have HKW := hyd hkw; clear hc h2 h3 h4 h5 h6 hpr hbz hb6 hdp hnd hkw hpb
  by_cases herr : e2 = 0
  ·have herr' : (e2 != 0) = false := by simp [herr]
   have HE := hyd herr; clear herr; obtain ⟨d0, d1, d2, d3, d4, d5, d6⟩ := cells7 HBX.o; obtain ⟨b0, b1, b2, b3, b4, b5, b6⟩ := cells7 HB6.o; have f6 := frozenP HBX.o; go_wp2_with fail; obtain ⟨hb7, hk7⟩ := set7 HBX.o (.int .i64 kindA) (.int .i64 numA) (.string ⟨nameA.toArray⟩) (.int .i64 atA) (.slice p1A n1A c1A) (.slice p2A n2A c2A) (.slice p3A n3A c3A); refine bodyPost_ret (results_node_tmp2 (ty := 29) rfl _ _ Z _ _ _ _ rfl hb7 Tryz.underlying29 rfl node_size) rfl ?_; obtain ⟨hqZ, hsz2, hZw, hl⟩ := HQ.o; exact ⟨_, n, 0, _, rfl, (HND.o.keep hk7 (fun b hb hc => by simp at hb; have := hc.1; omega)).mono (fun b hb => ⟨by have := hb.1; omega, by have := hb.2; have := (Array.getElem?_eq_some_iff.1 HB6.o).1; have := hk7.size; omega⟩), fun _ => HPR.o HE.o, ((HKW.o.mono (G := [q, Z]) (by simp)).trans hk7 (by simp)).mono (fun b hb hl => by simp at hb; omega)⟩
  ·have herr' : (e2 != 0) = true := by simp [herr]
   obtain ⟨d0, d1, d2, d3, d4, d5, d6⟩ := cells7 HBX.o; have f6 := frozenP HBX.o; have hqB : q ≠ Z := by have := HQ.o.1; omega
   go_wp2_with fail; refine wp_regionB [8, 9, 10] (fun w1' => w1'.heap[q]? = some (.cells #[v, .int .i64 r2, .int .i64 en, .int .i64 e2, .int .i64 at_] 48 (0, 0))) (by kernel_rfl) ?_; refine tkY 0 ?vA0 rfl ?runA0 ?_
   case runA0 => (intro w9 _; go_simp; try exact rfl)
   try simp only [Act.put, lA, lZ, lS]
   refine tkY 1 ?vA1 rfl ?runA1 ?_
   case runA1 => (intro w9 _; go_simp; try exact rfl)
   try simp only [Act.put, lA, lZ, lS]
   refine tkY 2 ?vA2 rfl ?runA2 ?_
   case runA2 => (intro w9 _; go_simp; try exact rfl)
   try simp only [Act.put, lA, lZ, lS]
   refine tkY 3 ?vA3 rfl ?runA3 ?_
   case runA3 => (intro w9 _; go_simp; try exact rfl)
   try simp only [Act.put, lA, lZ, lS]
   refine tkY 5 ?vA5 rfl ?runA5 ?_
   case runA5 => (intro w9 _; go_simp; try exact rfl)
   try simp only [Act.put, lA, lZ, lS]
   refine tkY 6 ?vA6 rfl ?runA6 ?_
   case runA6 => (intro w9 _; go_simp; try exact rfl)
   try simp only [Act.put, lA, lZ, lS]
   refine tkY 7 ?vA7 rfl ?runA7 ?_
   case runA7 => (intro w9 _; go_simp; try exact rfl)
   try simp only [Act.put, lA, lZ, lS]
   refine tkB [8, 9] 4 ?vA4 rfl ?runA4 ((blkK HPB.o (Keep.refl [] _).drew (by simp))) ?_
   case runA4 => (intro w9 hS9; obtain ⟨y0, y1, y2, y3, y4⟩ := cells5d hS9; go_simp; try exact rfl)
   try simp only [Act.put, lA, lZ, lS]
   refine tkB [9, 10] 8 ?vA8 rfl ?runA8 ((blkK HPB.o (Keep.refl [] _).drew (by simp))) ?_
   case runA8 => (intro w9 hS9; obtain ⟨y0, y1, y2, y3, y4⟩ := cells5d hS9; go_simp; try exact rfl)
   try simp only [Act.put, lA, lZ, lS]
   obtain ⟨hb7, hk7⟩ := set7 HBX.o (.int .i64 0) (.int .i64 0) (.string ⟨#[]⟩) (.int .i64 0) (.slice none 0 0) (.slice none 0 0) (.slice none 0 0); have hpb7 := blkK (blkK HPB.o hk7 (by simpa using hqB)) (Keep.refl [] _).drew (by simp); refine rdB 9 rfl (fun K hK => ?_); go_simp; refine hK.out _ _ (fun h => hpb7) ?_; clear hK K
   try simp only [Act.put, lA, lZ, lS]
   refine tkB [] 10 ?vA10 rfl ?runA10 (hpb7) ?_
   case runA10 => (intro w9 hS9; obtain ⟨y0, y1, y2, y3, y4⟩ := cells5d hS9; go_simp; try exact rfl)
   try simp only [Act.put, lA, lZ, lS]
   refine tkY 11 ?vA11 rfl ?runA11 ?_
   case runA11 => (intro w9 _; go_simp; try exact rfl)
   try simp only [Act.put, lA, lZ, lS]
   refine wpAnyB_done (by kernel_rfl) ?_ _; clear d0 d1 d2 d3 d4 d5 d6 f6 s0 s1 s2 s3 s4; go_wp2_with fail; have hb8 := blkK hb7 (Keep.refl [] _).drew (by simp); refine bodyPost_ret (results_node_tmp2 (ty := 29) rfl _ _ Z _ _ _ _ rfl hb8 Tryz.underlying29 rfl node_size) rfl ?_; obtain ⟨hqZ, hsz2, hZw, hl⟩ := HQ.o; exact ⟨_, nd0, e2, _, rfl, NdR.mk7 (kind := 0) (num := 0) (name := []) (NsR.nil _ _ false) (NsR.nil _ _ true) (NsR.nil _ _ false), fun h => absurd h herr, ((HKW.o.mono (G := [q, Z]) (by simp)).trans hk7 (by simp)).drew.mono (fun b hb hl => by simp at hb; omega)⟩
 have HCUT := hyd hcut; clear hcut a_out; obtain ⟨v, o, en, at_, hpb4, hrd4, -⟩ := H4.o.2.1.blk; obtain ⟨va, vc, rfl⟩ := rdd_form hrd4; obtain ⟨s0, s1, s2, s3, s4⟩ := cells5d hpb4; clear hrd4
 by_cases hr : r2 < l.length
 ·have hq1 : (r2 : Int) < (l.length : Int) := by omega
  go_wp2_with fail; go_quiet (fail); go_wp2_with fail; refine (d_fail (H4.o.2.1.keep ((Keep.refl [] w4).drewN _) (by simp)) (by decide)).mono ?_; rintro e w5 ⟨rfl, ⟨e3, he3, hdp5⟩, hk5⟩; obtain ⟨hb4, -, hz4, hn4, hkw4⟩ := H4.o; have hk5' := (((Keep.refl [] w4).drewN nq).mono (G := [q]) (by simp)).trans hk5 (by simp); obtain ⟨hqZ, hsz2, hZw, hl⟩ := HQ.o; have hqs := HQS.o; have H5 := hyd (And.intro (blkK hb4 hk5' (by simp; omega)) (And.intro (blkK hz4 hk5' (by simp; omega)) (And.intro hdp5 (And.intro he3 (And.intro (hn4.keep hk5' (fun b hb hc => by simp at hb; have := hc.1; omega)) (hkw4.trans hk5' (by simp))))))); clear hb4 hz4 hn4 hkw4 hk5' hk5 hdp5 he3 hqZ hsz2 hZw hl hqs s0 s1 s2 s3 s4; go_wp2_with fail; exact HCUT.o _ _ (CutF.mk rfl ⟨rfl, rfl, rfl, rfl, rfl, r2, e3, H5.o.1, H5.o.2.1, H5.o.2.2.1, fun h => absurd h H5.o.2.2.2.1, H5.o.2.2.2.2.1, H5.o.2.2.2.2.2⟩)
 ·have hq1 : ¬ (r2 : Int) < (l.length : Int) := by omega
  go_wp2_with fail; go_quiet (fail); go_wp2_with fail; obtain ⟨hb4, hdp4, hz4, hn4, hkw4⟩ := H4.o; have hk5' := (Keep.refl [] w4).drewN nq; obtain ⟨hqZ, hsz2, hZw, hl⟩ := HQ.o; have hqs := HQS.o; refine HCUT.o _ _ (CutF.mk rfl ⟨rfl, rfl, rfl, rfl, rfl, r2, e2, blkK hb4 hk5' (by simp), blkK hz4 hk5' (by simp), hdp4.keep hk5' (by simp), fun h => ?_, hn4.keep hk5' (by simp), hkw4.trans hk5' (by simp)⟩); obtain ⟨-, -, hg⟩ := HG.o; obtain ⟨c, ⟨x, hx, hxl⟩, hc⟩ := hg h; exact ⟨x, hx, by omega⟩
end Go.Proofs.YtdmmhfbafinkpaaGreatDoor
