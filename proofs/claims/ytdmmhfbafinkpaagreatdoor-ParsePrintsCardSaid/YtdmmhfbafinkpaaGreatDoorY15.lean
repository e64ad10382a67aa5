/- ParsePrints: a part of the proof (Qs, Pd1, Pd2, Pd3, Pd4, Pd6), squeezed by squeeze.py. -/
import Derived.Test.YtdmmhfbafinkpaaGreatDoorY14
import Derived.Test.YtdmmhfbafinkpaaGreatDoorY07
set_option maxRecDepth 100000
set_option maxHeartbeats 8000000
namespace Go.Proofs.YtdmmhfbafinkpaaGreatDoor
open Go.RowKit Go.Emb
theorem d_operand {w : World} {S : Nat → Prop} {cs : List Value} {n : Nd} {x : List It} (h : NdR S w false cs n) (hx : TxD n x) (hlen : (flat x).length ≤ 140737488355000) : Calls Tryz.prog 38 #[.agg cs.toArray] w (StrE w (flat (operI n x))) := by
 obtain ⟨kd, nu, at1, nm, a, b, c, va, vb, vc, rfl, rfl, h1, h2, h3⟩ := id h.un7; obtain ⟨p1, c1, rfl⟩ := h1.form; obtain ⟨p2, c2, rfl⟩ := h2.form; obtain ⟨p3, c3, rfl⟩ := h3.form; obtain ⟨n1, hn1⟩ : ∃ n1, n1 = a.length := ⟨_, rfl⟩; obtain ⟨n2, hn2⟩ : ∃ n2, n2 = b.length := ⟨_, rfl⟩; obtain ⟨n3, hn3⟩ : ∃ n3, n3 = c.length := ⟨_, rfl⟩; rw [← hn1, ← hn2, ← hn3] at h ⊢; have hk5 := (Keep.refl [] w).alloc (.cells #[.int .i64 kd, .int .i64 nu, .string ⟨nm.toArray⟩, .int .i64 at1, .slice p1 n1 c1, .slice p2 n2 c2, .slice p3 n3 c3] 29); have hb5 := heap_alloc_new w (.cells #[.int .i64 kd, .int .i64 nu, .string ⟨nm.toArray⟩, .int .i64 at1, .slice p1 n1 c1, .slice p2 n2 c2, .slice p3 n3 c3] 29); have hcall := hx (w.alloc (.cells #[.int .i64 kd, .int .i64 nu, .string ⟨nm.toArray⟩, .int .i64 at1, .slice p1 n1 c1, .slice p2 n2 c2, .slice p3 n3 c3] 29)) S _ (h.keep hk5 (by simp)); have HCALL := hyd hcall; have HLEN := hyd hlen; have HK5 := hyd hk5; obtain ⟨d0, d1, d2, d3, d4, d5, d6⟩ := cells7 hb5; have hv : operI (.mk kd nu nm a b c) x = if kd = 9 ∨ kd = 10 ∨ kd = 11 ∨ kd = 12 then inBr x else x := rfl
 clear hcall hb5 hk5 h hx hlen h1 h2 h3 hn1 hn2 hn3; go_enter Tryz.func38, Tryz.ntmps38
 by_cases hk : kd = 9 ∨ kd = 10 ∨ kd = 11 ∨ kd = 12
 ·rw [if_pos hk] at hv; rw [hv]; clear hv; rcases hk with rfl | rfl | rfl | rfl
  all_goals
   go_wp2_with fail; refine HCALL.o.mono ?_; rintro e w6 ⟨⟨X, rfl, hX⟩, hk6⟩; have HK6 := hyd (And.intro hX (HK5.o.trans hk6 (by simp))); have hxs : X.size ≤ 140737488355000 := by rw [size_list, hX]; exact HLEN.o
   clear hX hk6; go_wp2_with fail; go_ret; exact ⟨⟨_, rfl, by simp [HK6.o.1, flat_cons, flat_app, flat_nil, inBr, It.text]⟩, HK6.o.2⟩
 ·rw [if_neg hk] at hv; rw [hv]; clear hv; have e9 : (kd == 9) = false := beq_eq_false_iff_ne.2 (fun h => hk (by simp [h])); have e10 : (kd == 10) = false := beq_eq_false_iff_ne.2 (fun h => hk (by simp [h])); have e11 : (kd == 11) = false := beq_eq_false_iff_ne.2 (fun h => hk (by simp [h])); have e12 : (kd == 12) = false := beq_eq_false_iff_ne.2 (fun h => hk (by simp [h])); go_wp2_with fail; refine HCALL.o.mono ?_; rintro e w6 ⟨⟨X, rfl, hX⟩, hk6⟩; have HK6 := hyd (And.intro hX (HK5.o.trans hk6 (by simp))); have hxs : X.size ≤ 140737488355000 := by rw [size_list, hX]; exact HLEN.o
  clear hX hk6; go_wp2_with fail; go_ret; exact ⟨⟨_, rfl, by simp [HK6.o.1, flat_cons, flat_app, flat_nil, inBr, It.text]⟩, HK6.o.2⟩
theorem d_tail {w : World} {S : Nat → Prop} {cs : List Value} {nm : List UInt8} {p g b : List Nd} {gs bs : List (List It)} (h : NdR S w true cs (.mk 0 0 nm p g b))
  (hg : TLd g gs) (hb : TLd b bs)
  (hlen : (flat (tailI gs bs)).length ≤ 140737488355000) : Calls Tryz.prog 56 #[.agg cs.toArray] w (StrE w (flat (tailI gs bs))) := by
 obtain ⟨at1, nm', a', g', b', va, vb, vc, rfl, e, h1, h2, h3⟩ := id h.un5; injection e with e1 e2 e3 e4 e5 e6; subst e3 e4 e5 e6; obtain ⟨p1, c1, rfl⟩ := h1.form; obtain ⟨p2, c2, rfl⟩ := h2.form; obtain ⟨p3, c3, rfl⟩ := h3.form; have hk5 := (Keep.refl [] w).alloc (.cells #[.slice p1 p.length c1, .slice p2 g.length c2, .slice p3 b.length c3, .string ⟨nm.toArray⟩, .int .i64 at1] 52); have hb5 := heap_alloc_new w (.cells #[.slice p1 p.length c1, .slice p2 g.length c2, .slice p3 b.length c3, .string ⟨nm.toArray⟩, .int .i64 at1] 52)
 have hfl : flat (tailI gs bs) = (if gs = [] then [] else [32, 119, 104, 101, 110, 32] ++ flat (sepI commaB gs)) ++ ([32, 45, 62, 32] ++ flat (sepI commaB bs)) := by
  unfold tailI
  split <;> simp [flat_cons, flat_app, flat_nil, It.text]
 have HFL := hyd hfl; rw [hfl] at hlen; have hcB := fun W (k : Keep [] (w.alloc (.cells #[.slice p1 p.length c1, .slice p2 g.length c2, .slice p3 b.length c3, .string ⟨nm.toArray⟩, .int .i64 at1] 52)) W) => d_texts (w := W) (s := commaB) (sep := ⟨#[44, 32]⟩) ((h3.keep hk5 (by simp)).keep k (by simp)) hb rfl (by simp only [List.length_append] at hlen; omega) (by decide)
 have HCB := hyd hcB; have HLB := hyd (show (flat (sepI commaB bs)).length ≤ 140737488355000 by simp only [List.length_append] at hlen; omega); have HK5 := hyd hk5; obtain ⟨d0, d1, d2, d3, d4⟩ := cells5 hb5
 by_cases hg0 : g = []
 ·subst hg0; have := List.eq_nil_of_length_eq_zero hg.1; subst this; clear hfl hlen hcB h h1 h2 h3 hb hg hb5 hk5; go_enter Tryz.func56, Tryz.ntmps56; go_wp2_with fail; refine (HCB.o _ (Keep.refl _ _)).mono ?_; rintro e w6 ⟨⟨X, rfl, hX⟩, hk6⟩; have HK6 := hyd (And.intro hX (HK5.o.trans hk6 (by simp))); have hxs : X.size ≤ 140737488355000 := by rw [size_list, hX]; exact HLB.o
  clear hX hk6; go_wp2_with fail; go_ret; exact ⟨⟨_, rfl, by rw [HFL.o]; simp [HK6.o.1]⟩, HK6.o.2⟩
 ·have hgs : gs ≠ [] := by rintro rfl; exact hg0 (List.eq_nil_of_length_eq_zero hg.1.symm)
  have hgp : (0 : Int) < (g.length : Int) := by have := List.length_pos_iff.2 hg0; omega
  rw [if_neg hgs] at hlen; have hcG := d_texts (s := commaB) (sep := ⟨#[44, 32]⟩) (h2.keep hk5 (by simp)) hg rfl (by simp only [List.length_append] at hlen; omega) (by decide); have HCG := hyd hcG; have HLG := hyd (show (flat (sepI commaB gs)).length + (flat (sepI commaB bs)).length ≤ 140737488355000 by simp only [List.length_append] at hlen; omega); clear hfl hlen hcB hcG h h1 h2 h3 hb hg hb5 hk5; go_enter Tryz.func56, Tryz.ntmps56; go_wp2_with fail; refine HCG.o.mono ?_; rintro e w6 ⟨⟨X, rfl, hX⟩, hk6⟩; have HK6 := hyd (And.intro hX hk6); have hxs : X.size + (flat (sepI commaB bs)).length ≤ 140737488355000 := by rw [size_list, hX]; exact HLG.o
  have f2 := (hk6.cell (p := ⟨w.heap.size, 2, none⟩) (by simp) (by simp)).trans d2; clear hX hk6 d0 d1 d2 d3 d4; generalize w.alloc _ = w5 at *; go_wp2_with fail; refine (HCB.o _ HK6.o.2).mono ?_; rintro e w7 ⟨⟨Y, rfl, hY⟩, hk7⟩; have hys : X.size + Y.size ≤ 140737488355000 := by rw [size_list Y, hY]; exact hxs
  have HK7 := hyd (And.intro hY ((HK5.o.trans HK6.o.2 (by simp)).trans hk7 (by simp))); clear hY hk7; go_wp2_with fail; go_ret; exact ⟨⟨_, rfl, by rw [HFL.o, if_neg hgs]; simp [HK6.o.1, HK7.o.1]⟩, HK7.o.2⟩
theorem td_call {nm : List UInt8} {l : List Nd} {ls : List (List It)} (hnm : nm.length ≤ 255) (hl : TLd l ls) (hlen : (nameL nm).length + (flat (sepI comma ls)).length ≤ 140737488354000) : TxD (.mk 7 0 nm l [] []) (.t 2 0 nm :: sg 40 :: sepI comma ls ++ [sg 41]) := by
 intro w S cs hnd; obtain ⟨kd, nu, at1, nm1, a0, b0, c0, va, vb, vc, rfl, hn, h1, h2, h3⟩ := id hnd.un7; injection hn with e1 e2 e3 e4 e5 e6; subst e1 e2 e3 e4 e5 e6; obtain ⟨p1, c1, e1⟩ := h1.form; obtain ⟨p2, c2, e2⟩ := h2.form; obtain ⟨p3, c3, e3⟩ := h3.form; replace e1 : va = .slice p1 l.length c1 := e1; replace e2 : vb = .slice p2 0 c2 := e2; replace e3 : vc = .slice p3 0 c3 := e3; subst e1 e2 e3; have hk5 := (Keep.refl [] w).alloc (.cells #[.int .i64 7, .int .i64 0, .string ⟨nm.toArray⟩, .int .i64 at1, .slice p1 l.length c1, .slice p2 0 c2, .slice p3 0 c3] 29); have hb5 := heap_alloc_new w (.cells #[.int .i64 7, .int .i64 0, .string ⟨nm.toArray⟩, .int .i64 at1, .slice p1 l.length c1, .slice p2 0 c2, .slice p3 0 c3] 29); obtain ⟨d0, d1, d2, d3, d4, d5, d6⟩ := cells7 hb5; have D0 := hyd (And.intro d0 (And.intro d1 (And.intro d2 (And.intro d3 (And.intro d4 (And.intro d5 d6)))))); have HK5 := hyd hk5; have HC := hyd (fun W (k : Keep [] (w.alloc _) W) => d_texts (w := W) (s := comma) (sep := ⟨#[44]⟩) ((h1.keep hk5 (by simp)).keep k (by simp)) hl rfl (by omega) (by decide)); have HPA := hyd (fun W => rd_printA (w := W) ⟨nm.toArray⟩ (by show nm.toArray.size ≤ 100000; rw [List.size_toArray]; omega)); clear hb5 hk5 hnd h1 h2 h3 hl hnm; go_enter Tryz.func11, Tryz.ntmps11; go_wp2_with fail; generalize w.alloc _ = w5 at *; clear d0 d1 d2 d3 d4 d5 d6; refine wp_region_held_drew (S := fun w' => Keep [] w5 w') (by kernel_rfl) ((Keep.refl [] w5).drew) (fun hHeld => ?_); refine tkL 0 ?v0 rfl ?run0 hHeld ?_
 case run0 => (intro w9 hS9; obtain ⟨q0, q1, q2, q3, q4, q5, q6⟩ := ck7 hS9 D0.o; go_simp; try exact rfl)
 try simp only [Act.put, lA, lZ, lS]
 refine tkL 1 ?v1 rfl ?run1 hHeld ?_
 case run1 => (intro w9 hS9; obtain ⟨q0, q1, q2, q3, q4, q5, q6⟩ := ck7 hS9 D0.o; go_simp; try exact rfl)
 try simp only [Act.put, lA, lZ, lS]
 refine tkL 5 ?v5 rfl ?run5 hHeld ?_
 case run5 => (intro w9 hS9; obtain ⟨q0, q1, q2, q3, q4, q5, q6⟩ := ck7 hS9 D0.o; go_simp; try exact rfl)
 try simp only [Act.put, lA, lZ, lS]
 refine tkL 6 ?v6 rfl ?run6 hHeld ?_
 case run6 => (intro w9 hS9; obtain ⟨q0, q1, q2, q3, q4, q5, q6⟩ := ck7 hS9 D0.o; go_simp; try exact rfl)
 try simp only [Act.put, lA, lZ, lS]
 refine rdH 2 rfl (fun K hK => ?_); go_simp; refine (rd_atom _ _).mono ?_; rintro e wa ⟨rfl, hka⟩; have HA := hyd (((Keep.refl [] w5).drew).trans hka (by simp)); clear hka; go_wp2_with fail; refine hK.out _ _ HA.o (fun hHeld2 => ?_); clear hK K hHeld; have hHeld := hHeld2; clear hHeld2
 try simp only [Act.put, lA, lZ, lS]
 refine rdH 3 rfl (fun K hK => ?_); go_simp; refine (HPA.o _).mono ?_; rintro e wb ⟨rfl, hkb⟩; have HB := hyd (HA.o.trans hkb (by simp)); clear hkb; obtain ⟨Z, hZ⟩ : ∃ Z : ByteArray, Z = ⟨(nameL (⟨nm.toArray⟩ : ByteArray).data.toList).toArray⟩ := ⟨_, rfl⟩; rw [← hZ]; have hsZ : Z.size = (nameL nm).length := by rw [hZ, size_list]
 have HZ := hyd hZ; clear hZ; go_wp2_with fail; refine hK.out _ _ HB.o (fun hHeld2 => ?_); clear hK K hHeld; have hHeld := hHeld2; clear hHeld2
 try simp only [Act.put, lA, lZ, lS]
 refine tkL 4 (.string (Z ++ ⟨#[40]⟩)) rfl ?run4 hHeld ?_
 case run4 => (intro w9 hS9; go_simp; first | done | omega | (simp; omega))
 try simp only [Act.put, lA, lZ, lS]
 refine rdH 7 rfl (fun K hK => ?_); go_simp; refine (HC.o _ (HB.o)).mono ?_; rintro e wc1 ⟨⟨X, rfl, hX⟩, hc⟩; have HC1 := hyd ((HB.o).trans hc (by simp)); have hsX : X.size = (flat (sepI comma ls)).length := by rw [size_list X, hX]
 have HXX := hyd hX; clear hX hc; go_wp2_with fail; refine hK.out _ _ HC1.o (fun hHeld2 => ?_); clear hK K hHeld; have hHeld := hHeld2; clear hHeld2
 try simp only [Act.put, lA, lZ, lS]
 refine tkL 8 (.string (Z ++ ⟨#[40]⟩ ++ X)) rfl ?run8 hHeld ?_
 case run8 => (intro w9 hS9; go_simp; first | done | omega | (simp; omega))
 try simp only [Act.put, lA, lZ, lS]
 refine tkL 9 (.string (Z ++ ⟨#[40]⟩ ++ X ++ ⟨#[41]⟩)) rfl ?run9 hHeld ?_
 case run9 => (intro w9 hS9; go_simp; first | done | omega | (simp; omega))
 try simp only [Act.put, lA, lZ, lS]
 refine tkL 10 ?v10 rfl ?run10 hHeld ?_
 case run10 => (intro w9 hS9; go_simp; try exact rfl)
 try simp only [Act.put, lA, lZ, lS]
 refine wpAnyH_done (by kernel_rfl) ?_ _; go_wp2_with fail; go_ret; exact ⟨⟨_, rfl, by (simp [HXX.o, HZ.o, flat_cons, flat_app, flat_nil, It.text])⟩, HK5.o.trans HC1.o (by simp)⟩
theorem td_op {k v : Int} {t : List UInt8} {a b : Nd} {x y : List It} (ha : TxD a x) (hb : TxD b y) (h4 : 4 ≤ k) (htl : t.length ≤ 100) (hlen : (flat (operI a x)).length + (flat (operI b y)).length ≤ 140737488354000) (hlx : (flat x).length ≤ 140737488354000) (hly : (flat y).length ≤ 140737488354000) :
  TxD (.mk 9 0 t [a, b] [] []) (operI a x ++ sp :: .t k v t :: sp :: operI b y) := by
 intro w S cs hnd; obtain ⟨kd, nu, at1, nm1, a0, b0, c0, va, vb, vc, rfl, hn, h1, h2, h3⟩ := id hnd.un7; injection hn with e1 e2 e3 e4 e5 e6; subst e1 e2 e3 e4 e5 e6; obtain ⟨p1, c1, e1⟩ := h1.form; obtain ⟨p2, c2, e2⟩ := h2.form; obtain ⟨p3, c3, e3⟩ := h3.form; replace e1 : va = .slice p1 2 c1 := e1; replace e2 : vb = .slice p2 0 c2 := e2; replace e3 : vc = .slice p3 0 c3 := e3; subst e1 e2 e3; have hk5 := (Keep.refl [] w).alloc (.cells #[.int .i64 9, .int .i64 0, .string ⟨t.toArray⟩, .int .i64 at1, .slice p1 2 c1, .slice p2 0 c2, .slice p3 0 c3] 29); have hb5 := heap_alloc_new w (.cells #[.int .i64 9, .int .i64 0, .string ⟨t.toArray⟩, .int .i64 at1, .slice p1 2 c1, .slice p2 0 c2, .slice p3 0 c3] 29); obtain ⟨d0, d1, d2, d3, d4, d5, d6⟩ := cells7 hb5; have D0 := hyd (And.intro d0 (And.intro d1 (And.intro d2 (And.intro d3 (And.intro d4 (And.intro d5 d6)))))); have HK5 := hyd hk5; obtain ⟨aba, aoffa, csa, ea, -, hnda, hcella⟩ := (h1.keep hk5 (by simp)).at7 (i := 0) (by simp); replace hnda : NdR S _ false csa a := hnda; obtain ⟨kda, nua, ata, nma, p1a, n1a, c1a, p2a, n2a, c2a, p3a, n3a, c3a, rfl, -⟩ := id hnda.un7s; have a0 := hcella 0 (by decide); have a1 := hcella 1 (by decide); have a2 := hcella 2 (by decide); have a3 := hcella 3 (by decide); have a4 := hcella 4 (by decide); have a5 := hcella 5 (by decide); have a6 := hcella 6 (by decide); simp only [Nat.zero_mul, Nat.one_mul, Nat.add_zero, List.getElem?_cons_zero, List.getElem?_cons_succ] at a0 a1 a2 a3 a4 a5 a6; have Ea := hyd (And.intro a0 (And.intro a1 (And.intro a2 (And.intro a3 (And.intro a4 (And.intro a5 a6)))))); clear hcella a0 a1 a2 a3 a4 a5 a6; obtain ⟨abb, aoffb, csb, eb, -, hndb, hcellb⟩ := (h1.keep hk5 (by simp)).at7 (i := 1) (by simp); replace hndb : NdR S _ false csb b := hndb; obtain ⟨kdb, nub, atb, nmb, p1b, n1b, c1b, p2b, n2b, c2b, p3b, n3b, c3b, rfl, -⟩ := id hndb.un7s; have b0 := hcellb 0 (by decide); have b1 := hcellb 1 (by decide); have b2 := hcellb 2 (by decide); have b3 := hcellb 3 (by decide); have b4 := hcellb 4 (by decide); have b5 := hcellb 5 (by decide); have b6 := hcellb 6 (by decide); simp only [Nat.zero_mul, Nat.one_mul, Nat.add_zero, List.getElem?_cons_zero, List.getElem?_cons_succ] at b0 b1 b2 b3 b4 b5 b6; have Eb := hyd (And.intro b0 (And.intro b1 (And.intro b2 (And.intro b3 (And.intro b4 (And.intro b5 b6)))))); clear hcellb b0 b1 b2 b3 b4 b5 b6; subst ea
 cases eb
 have HA := hyd (fun W (k : Keep [] (w.alloc _) W) => d_operand (w := W) (hnda.keep k (by simp)) ha (by omega)); have HB := hyd (fun W (k : Keep [] (w.alloc _) W) => d_operand (w := W) (hndb.keep k (by simp)) hb (by omega)); have htz : (⟨t.toArray⟩ : ByteArray).size ≤ 100 := by show t.toArray.size ≤ 100; rw [List.size_toArray]; exact htl
 clear hb5 hk5 hnd h1 h2 h3 ha hb hnda hndb; go_enter Tryz.func11, Tryz.ntmps11; go_wp2_with fail; generalize w.alloc _ = w5 at *; clear d0 d1 d2 d3 d4 d5 d6; refine wp_region_held_drew (S := fun w' => Keep [] w5 w') (by kernel_rfl) ((Keep.refl [] w5).drew) (fun hHeld => ?_); refine tkL 0 ?v0 rfl ?run0 hHeld ?_
 case run0 => (intro w9 hS9; obtain ⟨q0, q1, q2, q3, q4, q5, q6⟩ := ck7 hS9 D0.o; obtain ⟨a0, a1, a2, a3, a4, a5, a6⟩ := ck7 hS9 Ea.o; obtain ⟨b0, b1, b2, b3, b4, b5, b6⟩ := ck7 hS9 Eb.o; go_simp; try exact rfl)
 try simp only [Act.put, lA, lZ, lS]
 refine tkL 1 ?v1 rfl ?run1 hHeld ?_
 case run1 => (intro w9 hS9; obtain ⟨q0, q1, q2, q3, q4, q5, q6⟩ := ck7 hS9 D0.o; obtain ⟨a0, a1, a2, a3, a4, a5, a6⟩ := ck7 hS9 Ea.o; obtain ⟨b0, b1, b2, b3, b4, b5, b6⟩ := ck7 hS9 Eb.o; go_simp; try exact rfl)
 try simp only [Act.put, lA, lZ, lS]
 refine tkL 2 ?v2 rfl ?run2 hHeld ?_
 case run2 => (intro w9 hS9; obtain ⟨q0, q1, q2, q3, q4, q5, q6⟩ := ck7 hS9 D0.o; obtain ⟨a0, a1, a2, a3, a4, a5, a6⟩ := ck7 hS9 Ea.o; obtain ⟨b0, b1, b2, b3, b4, b5, b6⟩ := ck7 hS9 Eb.o; go_simp; try exact rfl)
 try simp only [Act.put, lA, lZ, lS]
 refine tkL 3 ?v3 rfl ?run3 hHeld ?_
 case run3 => (intro w9 hS9; obtain ⟨q0, q1, q2, q3, q4, q5, q6⟩ := ck7 hS9 D0.o; obtain ⟨a0, a1, a2, a3, a4, a5, a6⟩ := ck7 hS9 Ea.o; obtain ⟨b0, b1, b2, b3, b4, b5, b6⟩ := ck7 hS9 Eb.o; go_simp; try exact rfl)
 try simp only [Act.put, lA, lZ, lS]
 refine tkL 6 ?v6 rfl ?run6 hHeld ?_
 case run6 => (intro w9 hS9; obtain ⟨q0, q1, q2, q3, q4, q5, q6⟩ := ck7 hS9 D0.o; obtain ⟨a0, a1, a2, a3, a4, a5, a6⟩ := ck7 hS9 Ea.o; obtain ⟨b0, b1, b2, b3, b4, b5, b6⟩ := ck7 hS9 Eb.o; go_simp; try exact rfl)
 try simp only [Act.put, lA, lZ, lS]
 refine tkL 7 ?v7 rfl ?run7 hHeld ?_
 case run7 => (intro w9 hS9; obtain ⟨q0, q1, q2, q3, q4, q5, q6⟩ := ck7 hS9 D0.o; obtain ⟨a0, a1, a2, a3, a4, a5, a6⟩ := ck7 hS9 Ea.o; obtain ⟨b0, b1, b2, b3, b4, b5, b6⟩ := ck7 hS9 Eb.o; go_simp; try exact rfl)
 try simp only [Act.put, lA, lZ, lS]
 refine tkL 10 ?v10 rfl ?run10 hHeld ?_
 case run10 => (intro w9 hS9; obtain ⟨q0, q1, q2, q3, q4, q5, q6⟩ := ck7 hS9 D0.o; obtain ⟨a0, a1, a2, a3, a4, a5, a6⟩ := ck7 hS9 Ea.o; obtain ⟨b0, b1, b2, b3, b4, b5, b6⟩ := ck7 hS9 Eb.o; go_simp; try exact rfl)
 try simp only [Act.put, lA, lZ, lS]
 refine tkL 11 ?v11 rfl ?run11 hHeld ?_
 case run11 => (intro w9 hS9; obtain ⟨q0, q1, q2, q3, q4, q5, q6⟩ := ck7 hS9 D0.o; obtain ⟨a0, a1, a2, a3, a4, a5, a6⟩ := ck7 hS9 Ea.o; obtain ⟨b0, b1, b2, b3, b4, b5, b6⟩ := ck7 hS9 Eb.o; go_simp; try exact rfl)
 try simp only [Act.put, lA, lZ, lS]
 refine tkL 12 ?v12 rfl ?run12 hHeld ?_
 case run12 => (intro w9 hS9; obtain ⟨q0, q1, q2, q3, q4, q5, q6⟩ := ck7 hS9 D0.o; obtain ⟨a0, a1, a2, a3, a4, a5, a6⟩ := ck7 hS9 Ea.o; obtain ⟨b0, b1, b2, b3, b4, b5, b6⟩ := ck7 hS9 Eb.o; go_simp; try exact rfl)
 try simp only [Act.put, lA, lZ, lS]
 refine tkL 13 ?v13 rfl ?run13 hHeld ?_
 case run13 => (intro w9 hS9; obtain ⟨q0, q1, q2, q3, q4, q5, q6⟩ := ck7 hS9 D0.o; obtain ⟨a0, a1, a2, a3, a4, a5, a6⟩ := ck7 hS9 Ea.o; obtain ⟨b0, b1, b2, b3, b4, b5, b6⟩ := ck7 hS9 Eb.o; go_simp; try exact rfl)
 try simp only [Act.put, lA, lZ, lS]
 refine rdH 4 rfl (fun K hK => ?_); go_simp; refine (HA.o _ (((Keep.refl [] w5).drew))).mono ?_; rintro e wc1 ⟨⟨X, rfl, hX⟩, hc⟩; have HC1 := hyd ((((Keep.refl [] w5).drew)).trans hc (by simp)); have hsX : X.size = (flat (operI a x)).length := by rw [size_list X, hX]
 have HXX := hyd hX; clear hX hc; go_wp2_with fail; refine hK.out _ _ HC1.o (fun hHeld2 => ?_); clear hK K hHeld; have hHeld := hHeld2; clear hHeld2
 try simp only [Act.put, lA, lZ, lS]
 refine tkL 5 (.string (X ++ ⟨#[32]⟩)) rfl ?run5 hHeld ?_
 case run5 => (intro w9 hS9; go_simp; first | done | omega | (simp; omega))
 try simp only [Act.put, lA, lZ, lS]
 refine tkL 8 (.string (X ++ ⟨#[32]⟩ ++ ⟨t.toArray⟩)) rfl ?run8 hHeld ?_
 case run8 => (intro w9 hS9; go_simp; first | done | omega | (simp; omega))
 try simp only [Act.put, lA, lZ, lS]
 refine tkL 9 (.string (X ++ ⟨#[32]⟩ ++ ⟨t.toArray⟩ ++ ⟨#[32]⟩)) rfl ?run9 hHeld ?_
 case run9 => (intro w9 hS9; go_simp; first | done | omega | (simp; omega))
 try simp only [Act.put, lA, lZ, lS]
 refine rdH 14 rfl (fun K hK => ?_); go_simp; refine (HB.o _ (HC1.o)).mono ?_; rintro e wc2 ⟨⟨Y, rfl, hY⟩, hc⟩; have HC2 := hyd ((HC1.o).trans hc (by simp)); have hsY : Y.size = (flat (operI b y)).length := by rw [size_list Y, hY]
 have HXY := hyd hY; clear hY hc; go_wp2_with fail; refine hK.out _ _ HC2.o (fun hHeld2 => ?_); clear hK K hHeld; have hHeld := hHeld2; clear hHeld2
 try simp only [Act.put, lA, lZ, lS]
 refine tkL 15 (.string (X ++ ⟨#[32]⟩ ++ ⟨t.toArray⟩ ++ ⟨#[32]⟩ ++ Y)) rfl ?run15 hHeld ?_
 case run15 => (intro w9 hS9; go_simp; first | done | omega | (simp; omega))
 try simp only [Act.put, lA, lZ, lS]
 refine tkL 16 ?v16 rfl ?run16 hHeld ?_
 case run16 => (intro w9 hS9; go_simp; try exact rfl)
 try simp only [Act.put, lA, lZ, lS]
 refine wpAnyH_done (by kernel_rfl) ?_ _; go_wp2_with fail; go_ret; exact ⟨⟨_, rfl, by ((have h1 : ¬ k = 1 := by omega); (have h2 : ¬ k = 2 := by omega); simp [HXX.o, HXY.o, h1, h2, flat_cons, flat_app, flat_nil, It.text])⟩, HK5.o.trans HC2.o (by simp)⟩
theorem td_un {k v : Int} {t : List UInt8} {a : Nd} {x : List It} (ha : TxD a x) (h4 : 4 ≤ k) (htl : t.length ≤ 100) (hlen : (flat (operI a x)).length ≤ 140737488354000) (hlx : (flat x).length ≤ 140737488354000) :
  TxD (.mk 10 0 t [a] [] []) (.t k v t :: sp :: operI a x) := by
 intro w S cs hnd; obtain ⟨kd, nu, at1, nm1, a0, b0, c0, va, vb, vc, rfl, hn, h1, h2, h3⟩ := id hnd.un7; injection hn with e1 e2 e3 e4 e5 e6; subst e1 e2 e3 e4 e5 e6; obtain ⟨p1, c1, e1⟩ := h1.form; obtain ⟨p2, c2, e2⟩ := h2.form; obtain ⟨p3, c3, e3⟩ := h3.form; replace e1 : va = .slice p1 1 c1 := e1; replace e2 : vb = .slice p2 0 c2 := e2; replace e3 : vc = .slice p3 0 c3 := e3; subst e1 e2 e3; have hk5 := (Keep.refl [] w).alloc (.cells #[.int .i64 10, .int .i64 0, .string ⟨t.toArray⟩, .int .i64 at1, .slice p1 1 c1, .slice p2 0 c2, .slice p3 0 c3] 29); have hb5 := heap_alloc_new w (.cells #[.int .i64 10, .int .i64 0, .string ⟨t.toArray⟩, .int .i64 at1, .slice p1 1 c1, .slice p2 0 c2, .slice p3 0 c3] 29); obtain ⟨d0, d1, d2, d3, d4, d5, d6⟩ := cells7 hb5; have D0 := hyd (And.intro d0 (And.intro d1 (And.intro d2 (And.intro d3 (And.intro d4 (And.intro d5 d6)))))); have HK5 := hyd hk5; obtain ⟨aba, aoffa, csa, ea, -, hnda, hcella⟩ := (h1.keep hk5 (by simp)).at7 (i := 0) (by simp); replace hnda : NdR S _ false csa a := hnda; obtain ⟨kda, nua, ata, nma, p1a, n1a, c1a, p2a, n2a, c2a, p3a, n3a, c3a, rfl, -⟩ := id hnda.un7s; have a0 := hcella 0 (by decide); have a1 := hcella 1 (by decide); have a2 := hcella 2 (by decide); have a3 := hcella 3 (by decide); have a4 := hcella 4 (by decide); have a5 := hcella 5 (by decide); have a6 := hcella 6 (by decide); simp only [Nat.zero_mul, Nat.one_mul, Nat.add_zero, List.getElem?_cons_zero, List.getElem?_cons_succ] at a0 a1 a2 a3 a4 a5 a6; have Ea := hyd (And.intro a0 (And.intro a1 (And.intro a2 (And.intro a3 (And.intro a4 (And.intro a5 a6)))))); clear hcella a0 a1 a2 a3 a4 a5 a6; subst ea; have HA := hyd (fun W (k : Keep [] (w.alloc _) W) => d_operand (w := W) (hnda.keep k (by simp)) ha (by omega)); have htz : (⟨t.toArray⟩ : ByteArray).size ≤ 100 := by show t.toArray.size ≤ 100; rw [List.size_toArray]; exact htl
 clear hb5 hk5 hnd h1 h2 h3 ha hnda; go_enter Tryz.func11, Tryz.ntmps11; go_wp2_with fail; generalize w.alloc _ = w5 at *; clear d0 d1 d2 d3 d4 d5 d6; refine wp_region_held_drew (S := fun w' => Keep [] w5 w') (by kernel_rfl) ((Keep.refl [] w5).drew) (fun hHeld => ?_); refine tkL 0 ?v0 rfl ?run0 hHeld ?_
 case run0 => (intro w9 hS9; obtain ⟨q0, q1, q2, q3, q4, q5, q6⟩ := ck7 hS9 D0.o; obtain ⟨a0, a1, a2, a3, a4, a5, a6⟩ := ck7 hS9 Ea.o; go_simp; try exact rfl)
 try simp only [Act.put, lA, lZ, lS]
 refine tkL 1 ?v1 rfl ?run1 hHeld ?_
 case run1 => (intro w9 hS9; obtain ⟨q0, q1, q2, q3, q4, q5, q6⟩ := ck7 hS9 D0.o; obtain ⟨a0, a1, a2, a3, a4, a5, a6⟩ := ck7 hS9 Ea.o; go_simp; try exact rfl)
 try simp only [Act.put, lA, lZ, lS]
 refine tkL 3 ?v3 rfl ?run3 hHeld ?_
 case run3 => (intro w9 hS9; obtain ⟨q0, q1, q2, q3, q4, q5, q6⟩ := ck7 hS9 D0.o; obtain ⟨a0, a1, a2, a3, a4, a5, a6⟩ := ck7 hS9 Ea.o; go_simp; try exact rfl)
 try simp only [Act.put, lA, lZ, lS]
 refine tkL 4 ?v4 rfl ?run4 hHeld ?_
 case run4 => (intro w9 hS9; obtain ⟨q0, q1, q2, q3, q4, q5, q6⟩ := ck7 hS9 D0.o; obtain ⟨a0, a1, a2, a3, a4, a5, a6⟩ := ck7 hS9 Ea.o; go_simp; try exact rfl)
 try simp only [Act.put, lA, lZ, lS]
 refine tkL 5 ?v5 rfl ?run5 hHeld ?_
 case run5 => (intro w9 hS9; obtain ⟨q0, q1, q2, q3, q4, q5, q6⟩ := ck7 hS9 D0.o; obtain ⟨a0, a1, a2, a3, a4, a5, a6⟩ := ck7 hS9 Ea.o; go_simp; try exact rfl)
 try simp only [Act.put, lA, lZ, lS]
 refine tkL 6 ?v6 rfl ?run6 hHeld ?_
 case run6 => (intro w9 hS9; obtain ⟨q0, q1, q2, q3, q4, q5, q6⟩ := ck7 hS9 D0.o; obtain ⟨a0, a1, a2, a3, a4, a5, a6⟩ := ck7 hS9 Ea.o; go_simp; try exact rfl)
 try simp only [Act.put, lA, lZ, lS]
 refine tkL 2 (.string (⟨t.toArray⟩ ++ ⟨#[32]⟩)) rfl ?run2 hHeld ?_
 case run2 => (intro w9 hS9; go_simp; first | done | omega | (simp; omega))
 try simp only [Act.put, lA, lZ, lS]
 refine rdH 7 rfl (fun K hK => ?_); go_simp; refine (HA.o _ (((Keep.refl [] w5).drew))).mono ?_; rintro e wc1 ⟨⟨X, rfl, hX⟩, hc⟩; have HC1 := hyd ((((Keep.refl [] w5).drew)).trans hc (by simp)); have hsX : X.size = (flat (operI a x)).length := by rw [size_list X, hX]
 have HXX := hyd hX; clear hX hc; go_wp2_with fail; refine hK.out _ _ HC1.o (fun hHeld2 => ?_); clear hK K hHeld; have hHeld := hHeld2; clear hHeld2
 try simp only [Act.put, lA, lZ, lS]
 refine tkL 8 (.string (⟨t.toArray⟩ ++ ⟨#[32]⟩ ++ X)) rfl ?run8 hHeld ?_
 case run8 => (intro w9 hS9; go_simp; first | done | omega | (simp; omega))
 try simp only [Act.put, lA, lZ, lS]
 refine tkL 9 ?v9 rfl ?run9 hHeld ?_
 case run9 => (intro w9 hS9; go_simp; try exact rfl)
 try simp only [Act.put, lA, lZ, lS]
 refine wpAnyH_done (by kernel_rfl) ?_ _; go_wp2_with fail; go_ret; exact ⟨⟨_, rfl, by ((have h1 : ¬ k = 1 := by omega); (have h2 : ¬ k = 2 := by omega); simp [HXX.o, h1, h2, flat_cons, flat_app, flat_nil, It.text])⟩, HK5.o.trans HC1.o (by simp)⟩
theorem td_mat {a b : Nd} {x y : List It} (ha : TxD a x) (hb : TxD b y) (hlen : (flat (operI a x)).length + (flat (operI b y)).length ≤ 140737488354000) (hlx : (flat x).length ≤ 140737488354000) (hly : (flat y).length ≤ 140737488354000) :
  TxD (.mk 11 0 [] [a, b] [] []) (operI a x ++ sp :: sg 61 :: sp :: operI b y) := by
 intro w S cs hnd; obtain ⟨kd, nu, at1, nm1, a0, b0, c0, va, vb, vc, rfl, hn, h1, h2, h3⟩ := id hnd.un7; injection hn with e1 e2 e3 e4 e5 e6; subst e1 e2 e3 e4 e5 e6; obtain ⟨p1, c1, e1⟩ := h1.form; obtain ⟨p2, c2, e2⟩ := h2.form; obtain ⟨p3, c3, e3⟩ := h3.form; replace e1 : va = .slice p1 2 c1 := e1; replace e2 : vb = .slice p2 0 c2 := e2; replace e3 : vc = .slice p3 0 c3 := e3; subst e1 e2 e3; have hk5 := (Keep.refl [] w).alloc (.cells #[.int .i64 11, .int .i64 0, .string ⟨#[]⟩, .int .i64 at1, .slice p1 2 c1, .slice p2 0 c2, .slice p3 0 c3] 29); have hb5 := heap_alloc_new w (.cells #[.int .i64 11, .int .i64 0, .string ⟨#[]⟩, .int .i64 at1, .slice p1 2 c1, .slice p2 0 c2, .slice p3 0 c3] 29); obtain ⟨d0, d1, d2, d3, d4, d5, d6⟩ := cells7 hb5; have D0 := hyd (And.intro d0 (And.intro d1 (And.intro d2 (And.intro d3 (And.intro d4 (And.intro d5 d6)))))); have HK5 := hyd hk5; obtain ⟨aba, aoffa, csa, ea, -, hnda, hcella⟩ := (h1.keep hk5 (by simp)).at7 (i := 0) (by simp); replace hnda : NdR S _ false csa a := hnda; obtain ⟨kda, nua, ata, nma, p1a, n1a, c1a, p2a, n2a, c2a, p3a, n3a, c3a, rfl, -⟩ := id hnda.un7s; have a0 := hcella 0 (by decide); have a1 := hcella 1 (by decide); have a2 := hcella 2 (by decide); have a3 := hcella 3 (by decide); have a4 := hcella 4 (by decide); have a5 := hcella 5 (by decide); have a6 := hcella 6 (by decide); simp only [Nat.zero_mul, Nat.one_mul, Nat.add_zero, List.getElem?_cons_zero, List.getElem?_cons_succ] at a0 a1 a2 a3 a4 a5 a6; have Ea := hyd (And.intro a0 (And.intro a1 (And.intro a2 (And.intro a3 (And.intro a4 (And.intro a5 a6)))))); clear hcella a0 a1 a2 a3 a4 a5 a6; obtain ⟨abb, aoffb, csb, eb, -, hndb, hcellb⟩ := (h1.keep hk5 (by simp)).at7 (i := 1) (by simp); replace hndb : NdR S _ false csb b := hndb; obtain ⟨kdb, nub, atb, nmb, p1b, n1b, c1b, p2b, n2b, c2b, p3b, n3b, c3b, rfl, -⟩ := id hndb.un7s; have b0 := hcellb 0 (by decide); have b1 := hcellb 1 (by decide); have b2 := hcellb 2 (by decide); have b3 := hcellb 3 (by decide); have b4 := hcellb 4 (by decide); have b5 := hcellb 5 (by decide); have b6 := hcellb 6 (by decide); simp only [Nat.zero_mul, Nat.one_mul, Nat.add_zero, List.getElem?_cons_zero, List.getElem?_cons_succ] at b0 b1 b2 b3 b4 b5 b6; have Eb := hyd (And.intro b0 (And.intro b1 (And.intro b2 (And.intro b3 (And.intro b4 (And.intro b5 b6)))))); clear hcellb b0 b1 b2 b3 b4 b5 b6; subst ea
 cases eb
 have HA := hyd (fun W (k : Keep [] (w.alloc _) W) => d_operand (w := W) (hnda.keep k (by simp)) ha (by omega)); have HB := hyd (fun W (k : Keep [] (w.alloc _) W) => d_operand (w := W) (hndb.keep k (by simp)) hb (by omega)); clear hb5 hk5 hnd h1 h2 h3 ha hb hnda hndb; go_enter Tryz.func11, Tryz.ntmps11; go_wp2_with fail; generalize w.alloc _ = w5 at *; clear d0 d1 d2 d3 d4 d5 d6; refine wp_region_held_drew (S := fun w' => Keep [] w5 w') (by kernel_rfl) ((Keep.refl [] w5).drew) (fun hHeld => ?_); refine tkL 0 ?v0 rfl ?run0 hHeld ?_
 case run0 => (intro w9 hS9; obtain ⟨q0, q1, q2, q3, q4, q5, q6⟩ := ck7 hS9 D0.o; obtain ⟨a0, a1, a2, a3, a4, a5, a6⟩ := ck7 hS9 Ea.o; obtain ⟨b0, b1, b2, b3, b4, b5, b6⟩ := ck7 hS9 Eb.o; go_simp; try exact rfl)
 try simp only [Act.put, lA, lZ, lS]
 refine tkL 1 ?v1 rfl ?run1 hHeld ?_
 case run1 => (intro w9 hS9; obtain ⟨q0, q1, q2, q3, q4, q5, q6⟩ := ck7 hS9 D0.o; obtain ⟨a0, a1, a2, a3, a4, a5, a6⟩ := ck7 hS9 Ea.o; obtain ⟨b0, b1, b2, b3, b4, b5, b6⟩ := ck7 hS9 Eb.o; go_simp; try exact rfl)
 try simp only [Act.put, lA, lZ, lS]
 refine tkL 2 ?v2 rfl ?run2 hHeld ?_
 case run2 => (intro w9 hS9; obtain ⟨q0, q1, q2, q3, q4, q5, q6⟩ := ck7 hS9 D0.o; obtain ⟨a0, a1, a2, a3, a4, a5, a6⟩ := ck7 hS9 Ea.o; obtain ⟨b0, b1, b2, b3, b4, b5, b6⟩ := ck7 hS9 Eb.o; go_simp; try exact rfl)
 try simp only [Act.put, lA, lZ, lS]
 refine tkL 3 ?v3 rfl ?run3 hHeld ?_
 case run3 => (intro w9 hS9; obtain ⟨q0, q1, q2, q3, q4, q5, q6⟩ := ck7 hS9 D0.o; obtain ⟨a0, a1, a2, a3, a4, a5, a6⟩ := ck7 hS9 Ea.o; obtain ⟨b0, b1, b2, b3, b4, b5, b6⟩ := ck7 hS9 Eb.o; go_simp; try exact rfl)
 try simp only [Act.put, lA, lZ, lS]
 refine tkL 6 ?v6 rfl ?run6 hHeld ?_
 case run6 => (intro w9 hS9; obtain ⟨q0, q1, q2, q3, q4, q5, q6⟩ := ck7 hS9 D0.o; obtain ⟨a0, a1, a2, a3, a4, a5, a6⟩ := ck7 hS9 Ea.o; obtain ⟨b0, b1, b2, b3, b4, b5, b6⟩ := ck7 hS9 Eb.o; go_simp; try exact rfl)
 try simp only [Act.put, lA, lZ, lS]
 refine tkL 7 ?v7 rfl ?run7 hHeld ?_
 case run7 => (intro w9 hS9; obtain ⟨q0, q1, q2, q3, q4, q5, q6⟩ := ck7 hS9 D0.o; obtain ⟨a0, a1, a2, a3, a4, a5, a6⟩ := ck7 hS9 Ea.o; obtain ⟨b0, b1, b2, b3, b4, b5, b6⟩ := ck7 hS9 Eb.o; go_simp; try exact rfl)
 try simp only [Act.put, lA, lZ, lS]
 refine tkL 8 ?v8 rfl ?run8 hHeld ?_
 case run8 => (intro w9 hS9; obtain ⟨q0, q1, q2, q3, q4, q5, q6⟩ := ck7 hS9 D0.o; obtain ⟨a0, a1, a2, a3, a4, a5, a6⟩ := ck7 hS9 Ea.o; obtain ⟨b0, b1, b2, b3, b4, b5, b6⟩ := ck7 hS9 Eb.o; go_simp; try exact rfl)
 try simp only [Act.put, lA, lZ, lS]
 refine tkL 9 ?v9 rfl ?run9 hHeld ?_
 case run9 => (intro w9 hS9; obtain ⟨q0, q1, q2, q3, q4, q5, q6⟩ := ck7 hS9 D0.o; obtain ⟨a0, a1, a2, a3, a4, a5, a6⟩ := ck7 hS9 Ea.o; obtain ⟨b0, b1, b2, b3, b4, b5, b6⟩ := ck7 hS9 Eb.o; go_simp; try exact rfl)
 try simp only [Act.put, lA, lZ, lS]
 refine rdH 4 rfl (fun K hK => ?_); go_simp; refine (HA.o _ (((Keep.refl [] w5).drew))).mono ?_; rintro e wc1 ⟨⟨X, rfl, hX⟩, hc⟩; have HC1 := hyd ((((Keep.refl [] w5).drew)).trans hc (by simp)); have hsX : X.size = (flat (operI a x)).length := by rw [size_list X, hX]
 have HXX := hyd hX; clear hX hc; go_wp2_with fail; refine hK.out _ _ HC1.o (fun hHeld2 => ?_); clear hK K hHeld; have hHeld := hHeld2; clear hHeld2
 try simp only [Act.put, lA, lZ, lS]
 refine tkL 5 (.string (X ++ ⟨#[32, 61, 32]⟩)) rfl ?run5 hHeld ?_
 case run5 => (intro w9 hS9; go_simp; first | done | omega | (simp; omega))
 try simp only [Act.put, lA, lZ, lS]
 refine rdH 10 rfl (fun K hK => ?_); go_simp; refine (HB.o _ (HC1.o)).mono ?_; rintro e wc2 ⟨⟨Y, rfl, hY⟩, hc⟩; have HC2 := hyd ((HC1.o).trans hc (by simp)); have hsY : Y.size = (flat (operI b y)).length := by rw [size_list Y, hY]
 have HXY := hyd hY; clear hY hc; go_wp2_with fail; refine hK.out _ _ HC2.o (fun hHeld2 => ?_); clear hK K hHeld; have hHeld := hHeld2; clear hHeld2
 try simp only [Act.put, lA, lZ, lS]
 refine tkL 11 (.string (X ++ ⟨#[32, 61, 32]⟩ ++ Y)) rfl ?run11 hHeld ?_
 case run11 => (intro w9 hS9; go_simp; first | done | omega | (simp; omega))
 try simp only [Act.put, lA, lZ, lS]
 refine tkL 12 ?v12 rfl ?run12 hHeld ?_
 case run12 => (intro w9 hS9; go_simp; try exact rfl)
 try simp only [Act.put, lA, lZ, lS]
 refine wpAnyH_done (by kernel_rfl) ?_ _; go_wp2_with fail; go_ret; exact ⟨⟨_, rfl, by (simp [HXX.o, HXY.o, flat_cons, flat_app, flat_nil, It.text])⟩, HK5.o.trans HC2.o (by simp)⟩
theorem td_send {a b : Nd} {x y : List It} (ha : TxD a x) (hb : TxD b y) (hlen : (flat (operI a x)).length + (flat (operI b y)).length ≤ 140737488354000) (hlx : (flat x).length ≤ 140737488354000) (hly : (flat y).length ≤ 140737488354000) :
  TxD (.mk 12 0 [] [a, b] [] []) (operI a x ++ sp :: sg 33 :: sp :: operI b y) := by
 intro w S cs hnd; obtain ⟨kd, nu, at1, nm1, a0, b0, c0, va, vb, vc, rfl, hn, h1, h2, h3⟩ := id hnd.un7; injection hn with e1 e2 e3 e4 e5 e6; subst e1 e2 e3 e4 e5 e6; obtain ⟨p1, c1, e1⟩ := h1.form; obtain ⟨p2, c2, e2⟩ := h2.form; obtain ⟨p3, c3, e3⟩ := h3.form; replace e1 : va = .slice p1 2 c1 := e1; replace e2 : vb = .slice p2 0 c2 := e2; replace e3 : vc = .slice p3 0 c3 := e3; subst e1 e2 e3; have hk5 := (Keep.refl [] w).alloc (.cells #[.int .i64 12, .int .i64 0, .string ⟨#[]⟩, .int .i64 at1, .slice p1 2 c1, .slice p2 0 c2, .slice p3 0 c3] 29); have hb5 := heap_alloc_new w (.cells #[.int .i64 12, .int .i64 0, .string ⟨#[]⟩, .int .i64 at1, .slice p1 2 c1, .slice p2 0 c2, .slice p3 0 c3] 29); obtain ⟨d0, d1, d2, d3, d4, d5, d6⟩ := cells7 hb5; have D0 := hyd (And.intro d0 (And.intro d1 (And.intro d2 (And.intro d3 (And.intro d4 (And.intro d5 d6)))))); have HK5 := hyd hk5; obtain ⟨aba, aoffa, csa, ea, -, hnda, hcella⟩ := (h1.keep hk5 (by simp)).at7 (i := 0) (by simp); replace hnda : NdR S _ false csa a := hnda; obtain ⟨kda, nua, ata, nma, p1a, n1a, c1a, p2a, n2a, c2a, p3a, n3a, c3a, rfl, -⟩ := id hnda.un7s; have a0 := hcella 0 (by decide); have a1 := hcella 1 (by decide); have a2 := hcella 2 (by decide); have a3 := hcella 3 (by decide); have a4 := hcella 4 (by decide); have a5 := hcella 5 (by decide); have a6 := hcella 6 (by decide); simp only [Nat.zero_mul, Nat.one_mul, Nat.add_zero, List.getElem?_cons_zero, List.getElem?_cons_succ] at a0 a1 a2 a3 a4 a5 a6; have Ea := hyd (And.intro a0 (And.intro a1 (And.intro a2 (And.intro a3 (And.intro a4 (And.intro a5 a6)))))); clear hcella a0 a1 a2 a3 a4 a5 a6; obtain ⟨abb, aoffb, csb, eb, -, hndb, hcellb⟩ := (h1.keep hk5 (by simp)).at7 (i := 1) (by simp); replace hndb : NdR S _ false csb b := hndb; obtain ⟨kdb, nub, atb, nmb, p1b, n1b, c1b, p2b, n2b, c2b, p3b, n3b, c3b, rfl, -⟩ := id hndb.un7s; have b0 := hcellb 0 (by decide); have b1 := hcellb 1 (by decide); have b2 := hcellb 2 (by decide); have b3 := hcellb 3 (by decide); have b4 := hcellb 4 (by decide); have b5 := hcellb 5 (by decide); have b6 := hcellb 6 (by decide); simp only [Nat.zero_mul, Nat.one_mul, Nat.add_zero, List.getElem?_cons_zero, List.getElem?_cons_succ] at b0 b1 b2 b3 b4 b5 b6; have Eb := hyd (And.intro b0 (And.intro b1 (And.intro b2 (And.intro b3 (And.intro b4 (And.intro b5 b6)))))); clear hcellb b0 b1 b2 b3 b4 b5 b6; subst ea
 cases eb
 have HA := hyd (fun W (k : Keep [] (w.alloc _) W) => d_operand (w := W) (hnda.keep k (by simp)) ha (by omega)); have HB := hyd (fun W (k : Keep [] (w.alloc _) W) => d_operand (w := W) (hndb.keep k (by simp)) hb (by omega)); clear hb5 hk5 hnd h1 h2 h3 ha hb hnda hndb; go_enter Tryz.func11, Tryz.ntmps11; go_wp2_with fail; generalize w.alloc _ = w5 at *; clear d0 d1 d2 d3 d4 d5 d6; refine wp_region_held_drew (S := fun w' => Keep [] w5 w') (by kernel_rfl) ((Keep.refl [] w5).drew) (fun hHeld => ?_); refine tkL 0 ?v0 rfl ?run0 hHeld ?_
 case run0 => (intro w9 hS9; obtain ⟨q0, q1, q2, q3, q4, q5, q6⟩ := ck7 hS9 D0.o; obtain ⟨a0, a1, a2, a3, a4, a5, a6⟩ := ck7 hS9 Ea.o; obtain ⟨b0, b1, b2, b3, b4, b5, b6⟩ := ck7 hS9 Eb.o; go_simp; try exact rfl)
 try simp only [Act.put, lA, lZ, lS]
 refine tkL 1 ?v1 rfl ?run1 hHeld ?_
 case run1 => (intro w9 hS9; obtain ⟨q0, q1, q2, q3, q4, q5, q6⟩ := ck7 hS9 D0.o; obtain ⟨a0, a1, a2, a3, a4, a5, a6⟩ := ck7 hS9 Ea.o; obtain ⟨b0, b1, b2, b3, b4, b5, b6⟩ := ck7 hS9 Eb.o; go_simp; try exact rfl)
 try simp only [Act.put, lA, lZ, lS]
 refine tkL 2 ?v2 rfl ?run2 hHeld ?_
 case run2 => (intro w9 hS9; obtain ⟨q0, q1, q2, q3, q4, q5, q6⟩ := ck7 hS9 D0.o; obtain ⟨a0, a1, a2, a3, a4, a5, a6⟩ := ck7 hS9 Ea.o; obtain ⟨b0, b1, b2, b3, b4, b5, b6⟩ := ck7 hS9 Eb.o; go_simp; try exact rfl)
 try simp only [Act.put, lA, lZ, lS]
 refine tkL 3 ?v3 rfl ?run3 hHeld ?_
 case run3 => (intro w9 hS9; obtain ⟨q0, q1, q2, q3, q4, q5, q6⟩ := ck7 hS9 D0.o; obtain ⟨a0, a1, a2, a3, a4, a5, a6⟩ := ck7 hS9 Ea.o; obtain ⟨b0, b1, b2, b3, b4, b5, b6⟩ := ck7 hS9 Eb.o; go_simp; try exact rfl)
 try simp only [Act.put, lA, lZ, lS]
 refine tkL 6 ?v6 rfl ?run6 hHeld ?_
 case run6 => (intro w9 hS9; obtain ⟨q0, q1, q2, q3, q4, q5, q6⟩ := ck7 hS9 D0.o; obtain ⟨a0, a1, a2, a3, a4, a5, a6⟩ := ck7 hS9 Ea.o; obtain ⟨b0, b1, b2, b3, b4, b5, b6⟩ := ck7 hS9 Eb.o; go_simp; try exact rfl)
 try simp only [Act.put, lA, lZ, lS]
 refine tkL 7 ?v7 rfl ?run7 hHeld ?_
 case run7 => (intro w9 hS9; obtain ⟨q0, q1, q2, q3, q4, q5, q6⟩ := ck7 hS9 D0.o; obtain ⟨a0, a1, a2, a3, a4, a5, a6⟩ := ck7 hS9 Ea.o; obtain ⟨b0, b1, b2, b3, b4, b5, b6⟩ := ck7 hS9 Eb.o; go_simp; try exact rfl)
 try simp only [Act.put, lA, lZ, lS]
 refine tkL 8 ?v8 rfl ?run8 hHeld ?_
 case run8 => (intro w9 hS9; obtain ⟨q0, q1, q2, q3, q4, q5, q6⟩ := ck7 hS9 D0.o; obtain ⟨a0, a1, a2, a3, a4, a5, a6⟩ := ck7 hS9 Ea.o; obtain ⟨b0, b1, b2, b3, b4, b5, b6⟩ := ck7 hS9 Eb.o; go_simp; try exact rfl)
 try simp only [Act.put, lA, lZ, lS]
 refine tkL 9 ?v9 rfl ?run9 hHeld ?_
 case run9 => (intro w9 hS9; obtain ⟨q0, q1, q2, q3, q4, q5, q6⟩ := ck7 hS9 D0.o; obtain ⟨a0, a1, a2, a3, a4, a5, a6⟩ := ck7 hS9 Ea.o; obtain ⟨b0, b1, b2, b3, b4, b5, b6⟩ := ck7 hS9 Eb.o; go_simp; try exact rfl)
 try simp only [Act.put, lA, lZ, lS]
 refine rdH 4 rfl (fun K hK => ?_); go_simp; refine (HA.o _ (((Keep.refl [] w5).drew))).mono ?_; rintro e wc1 ⟨⟨X, rfl, hX⟩, hc⟩; have HC1 := hyd ((((Keep.refl [] w5).drew)).trans hc (by simp)); have hsX : X.size = (flat (operI a x)).length := by rw [size_list X, hX]
 have HXX := hyd hX; clear hX hc; go_wp2_with fail; refine hK.out _ _ HC1.o (fun hHeld2 => ?_); clear hK K hHeld; have hHeld := hHeld2; clear hHeld2
 try simp only [Act.put, lA, lZ, lS]
 refine tkL 5 (.string (X ++ ⟨#[32, 33, 32]⟩)) rfl ?run5 hHeld ?_
 case run5 => (intro w9 hS9; go_simp; first | done | omega | (simp; omega))
 try simp only [Act.put, lA, lZ, lS]
 refine rdH 10 rfl (fun K hK => ?_); go_simp; refine (HB.o _ (HC1.o)).mono ?_; rintro e wc2 ⟨⟨Y, rfl, hY⟩, hc⟩; have HC2 := hyd ((HC1.o).trans hc (by simp)); have hsY : Y.size = (flat (operI b y)).length := by rw [size_list Y, hY]
 have HXY := hyd hY; clear hY hc; go_wp2_with fail; refine hK.out _ _ HC2.o (fun hHeld2 => ?_); clear hK K hHeld; have hHeld := hHeld2; clear hHeld2
 try simp only [Act.put, lA, lZ, lS]
 refine tkL 11 (.string (X ++ ⟨#[32, 33, 32]⟩ ++ Y)) rfl ?run11 hHeld ?_
 case run11 => (intro w9 hS9; go_simp; first | done | omega | (simp; omega))
 try simp only [Act.put, lA, lZ, lS]
 refine tkL 12 ?v12 rfl ?run12 hHeld ?_
 case run12 => (intro w9 hS9; go_simp; try exact rfl)
 try simp only [Act.put, lA, lZ, lS]
 refine wpAnyH_done (by kernel_rfl) ?_ _; go_wp2_with fail; go_ret; exact ⟨⟨_, rfl, by (simp [HXX.o, HXY.o, flat_cons, flat_app, flat_nil, It.text])⟩, HK5.o.trans HC2.o (by simp)⟩
def ClTd (c : Nd) (nm : List UInt8) (ps gs bs : List (List It)) : Prop := ∃ p g b, c = .mk 0 0 nm p g b ∧ TLd p ps ∧ TLd g gs ∧ TLd b bs
def ArLd (l : List Nd) (ls : List (List It)) : Prop := ls.length = l.length ∧ l.length ≤ 1000000 ∧ ∀ i (_ : i < l.length) (_ : i < ls.length), ∃ nm ps gs bs, ClTd l[i] nm ps gs bs ∧ ls[i] = sepI comma ps ++ tailI gs bs
theorem d_head {w : World} {S : Nat → Prop} {cs : List Value} {nm : List UInt8} {p g b : List Nd} {ps gs bs : List (List It)} (h : NdR S w true cs (.mk 0 0 nm p g b)) (hp : TLd p ps) (hg : TLd g gs) (hb : TLd b bs) (hlen : (flat (sepI comma ps)).length + (flat (tailI gs bs)).length ≤ 140737488354000) :
  Calls Tryz.prog 27 #[.agg cs.toArray] w (StrE w (flat (sg 40 :: sepI comma ps ++ sg 41 :: tailI gs bs))) := by
 obtain ⟨at1, nm', a', g', b', va, vb, vc, rfl, e, h1, h2, h3⟩ := id h.un5; injection e with e1 e2 e3 e4 e5 e6; subst e3 e4 e5 e6; obtain ⟨p1, c1, rfl⟩ := h1.form; obtain ⟨p2, c2, rfl⟩ := h2.form; obtain ⟨p3, c3, rfl⟩ := h3.form; have hk5 := (Keep.refl [] w).alloc (.cells #[.slice p1 p.length c1, .slice p2 g.length c2, .slice p3 b.length c3, .string ⟨nm.toArray⟩, .int .i64 at1] 52); have hb5 := heap_alloc_new w (.cells #[.slice p1 p.length c1, .slice p2 g.length c2, .slice p3 b.length c3, .string ⟨nm.toArray⟩, .int .i64 at1] 52); have HP := hyd (fun W (k : Keep [] (w.alloc (.cells #[.slice p1 p.length c1, .slice p2 g.length c2, .slice p3 b.length c3, .string ⟨nm.toArray⟩, .int .i64 at1] 52)) W) => d_texts (w := W) (s := comma) (sep := ⟨#[44]⟩) ((h1.keep hk5 (by simp)).keep k (by simp)) hp rfl (by omega) (by decide)); have HT := hyd (fun W (k : Keep [] (w.alloc (.cells #[.slice p1 p.length c1, .slice p2 g.length c2, .slice p3 b.length c3, .string ⟨nm.toArray⟩, .int .i64 at1] 52)) W) => d_tail (w := W) ((h.keep hk5 (by simp)).keep k (by simp)) hg hb (by omega)); have HK5 := hyd hk5; obtain ⟨d0, d1, d2, d3, d4⟩ := cells5 hb5; have D0 := hyd (And.intro d0 (And.intro d1 (And.intro d2 (And.intro d3 d4)))); clear h h1 h2 h3 hp hg hb hk5 hb5; go_enter Tryz.func27, Tryz.ntmps27; go_wp2_with fail; generalize w.alloc _ = w5 at *; clear d0 d1 d2 d3 d4; refine wp_region_held_drew (S := fun w' => Keep [] w5 w') (by kernel_rfl) ((Keep.refl [] w5).drew) (fun hHeld => ?_); refine tkL 0 ?v0 rfl ?run0 hHeld ?_
 case run0 => (intro w9 hS9; obtain ⟨q0, q1, q2, q3, q4⟩ := ck5 hS9 D0.o; go_simp; try exact rfl)
 try simp only [Act.put, lA, lZ, lS]
 refine tkL 1 ?v1 rfl ?run1 hHeld ?_
 case run1 => (intro w9 hS9; obtain ⟨q0, q1, q2, q3, q4⟩ := ck5 hS9 D0.o; go_simp; try exact rfl)
 try simp only [Act.put, lA, lZ, lS]
 refine tkL 5 ?v5 rfl ?run5 hHeld ?_
 case run5 => (intro w9 hS9; obtain ⟨q0, q1, q2, q3, q4⟩ := ck5 hS9 D0.o; go_simp; try exact rfl)
 try simp only [Act.put, lA, lZ, lS]
 refine rdH 2 rfl (fun K hK => ?_); go_simp; refine (HP.o _ (((Keep.refl [] w5).drew))).mono ?_; rintro e wc1 ⟨⟨X, rfl, hX⟩, hc⟩; have HC1 := hyd ((((Keep.refl [] w5).drew)).trans hc (by simp)); have hsX : X.size = (flat (sepI comma ps)).length := by rw [size_list X, hX]
 have HXX := hyd hX; clear hX hc; go_wp2_with fail; refine hK.out _ _ HC1.o (fun hHeld2 => ?_); clear hK K hHeld; have hHeld := hHeld2; clear hHeld2
 try simp only [Act.put, lA, lZ, lS]
 refine tkL 3 (.string (⟨#[40]⟩ ++ X)) rfl ?run3 hHeld ?_
 case run3 => (intro w9 hS9; go_simp; first | done | omega | (simp; omega))
 try simp only [Act.put, lA, lZ, lS]
 refine tkL 4 (.string (⟨#[40]⟩ ++ X ++ ⟨#[41]⟩)) rfl ?run4 hHeld ?_
 case run4 => (intro w9 hS9; go_simp; first | done | omega | (simp; omega))
 try simp only [Act.put, lA, lZ, lS]
 refine rdH 6 rfl (fun K hK => ?_); go_simp; refine (HT.o _ (HC1.o)).mono ?_; rintro e wc2 ⟨⟨Y, rfl, hY⟩, hc⟩; have HC2 := hyd ((HC1.o).trans hc (by simp)); have hsY : Y.size = (flat (tailI gs bs)).length := by rw [size_list Y, hY]
 have HXY := hyd hY; clear hY hc; go_wp2_with fail; refine hK.out _ _ HC2.o (fun hHeld2 => ?_); clear hK K hHeld; have hHeld := hHeld2; clear hHeld2
 try simp only [Act.put, lA, lZ, lS]
 refine tkL 7 (.string (⟨#[40]⟩ ++ X ++ ⟨#[41]⟩ ++ Y)) rfl ?run7 hHeld ?_
 case run7 => (intro w9 hS9; go_simp; first | done | omega | (simp; omega))
 try simp only [Act.put, lA, lZ, lS]
 refine tkL 8 ?v8 rfl ?run8 hHeld ?_
 case run8 => (intro w9 hS9; go_simp; try exact rfl)
 try simp only [Act.put, lA, lZ, lS]
 refine wpAnyH_done (by kernel_rfl) ?_ _; go_wp2_with fail; go_ret; exact ⟨⟨_, rfl, by (simp [HXX.o, HXY.o, flat_cons, flat_app, flat_nil, It.text])⟩, HK5.o.trans HC2.o (by simp)⟩
theorem d_arms {w : World} {S : Nat → Prop} {v : Value} {l : List Nd} {ls : List (List It)} (h : NsR S w true v l) (hl : ArLd l ls) (hs : Sm (sepI semiB ls)) : Calls Tryz.prog 39 #[v] w (StrE w (flat (sepI semiB ls))) := by
 obtain ⟨va, vc, rfl⟩ := h.form; have hlN := hl.2.1; have HH := hyd h; have HL := hyd hl; have HSM := hyd hs; clear h hl hs; go_enter Tryz.func39, Tryz.ntmps39; go_wp2_with fail
 go_loopw [3, 4] (fun t i wr => ∃ (k : Nat) (T : ByteArray), k ≤ l.length ∧ i = .int .i64 k ∧ t = .string T ∧ T.data.toList = flat (sepI semiB (ls.take k)) ∧ Keep [] w wr) (fun _ i _ => l.length - (RowKit.intOf i).toNat)
 case atStart => exact ⟨0, ⟨#[]⟩, Nat.zero_le _, rfl, rfl, rfl, Keep.refl _ _⟩
 case round =>
  obtain ⟨k, T, hk, rfl, rfl, hX, hkw⟩ := hrel; have HX := hyd hX; have HKW := hyd hkw; clear hX hkw
  by_cases hlt : k < l.length
  ·have q0 : (0 : Int) ≤ (k : Int) := by omega
   have q1 : (k : Int) < (l.length : Int) := by omega
   have hw2 : IntKind.i64.wrap ((k : Int) + 1) = (k : Int) + 1 := IntWalk.i64_in _ (by omega); have hkl : k < ls.length := by rw [HL.o.1]; exact hlt
   obtain ⟨ab, aoff, csa, rfl, -, hnd, hcell⟩ := (HH.o.keep HKW.o (by simp)).atk hlt; obtain ⟨nm, ps, gs, bs, ⟨p, g, b, ec, hp, hg, hb⟩, hex⟩ := HL.o.2.2 k hlt hkl; have hszk := (HSM.o.sub (sep_sub semiB ls k hkl)).2; rw [hex, flat_app, List.length_append] at hszk; rw [ec] at hnd; obtain ⟨at1, nm', a', g', b', va1, vb1, vc1, rfl, e, h1, h2, h3⟩ := id hnd.un5; injection e with e1 e2 e3 e4 e5 e6; subst e3 e4 e5 e6; obtain ⟨p1, c1, rfl⟩ := h1.form; obtain ⟨p2, c2, rfl⟩ := h2.form; obtain ⟨p3, c3, rfl⟩ := h3.form; have hA0 := hcell 0 (by decide); have hA1 := hcell 1 (by decide); have hA2 := hcell 2 (by decide); have hA3 := hcell 3 (by decide); have hA4 := hcell 4 (by decide); simp only [wid, if_true, Nat.add_zero, List.getElem?_cons_zero, List.getElem?_cons_succ] at hA0 hA1 hA2 hA3 hA4; have A0 := hyd (And.intro hA0 (And.intro hA1 (And.intro hA2 (And.intro hA3 hA4)))); have HP := hyd (fun W (k : Keep [] wr W) => d_texts (w := W) (s := comma) (sep := ⟨#[44]⟩) (h1.keep k (by simp)) hp rfl (by omega) (by decide)); have HTL := hyd (fun W (k : Keep [] wr W) => d_tail (w := W) (hnd.keep k (by simp)) hg hb (by omega)); have hft := flat_take (s := semiB) hkl; have hfl := take_flat_le (s := semiB) ls (k + 1); rw [hft, hex] at hfl; simp only [List.length_append, flat_app] at hfl; have hbd := HSM.o.2; have hxs : T.size = (flat (sepI semiB (ls.take k))).length := by rw [size_list T, HX.o]
   rw [hex] at hft; have HFT := hyd hft; have hsb : (flat semiB).length = 2 := rfl; clear hcell hnd h1 h2 h3 hp hg hb hft hA0 hA1 hA2 hA3 hA4 ec e1 e2 hex
   by_cases h0 : k = 0
   ·have z1 : ¬ (0 : Int) < (k : Int) := by omega
    have H0 := hyd h0; rw [if_pos h0] at hfl; simp only [List.length_nil] at hfl; clear h0; go_wp2_with fail; refine wp_region_held_drew (S := fun w' => Keep [] wr w') (by kernel_rfl) ((Keep.refl [] wr).drew) (fun hHeld => ?_); refine tkL 0 ?v0 rfl ?run0 hHeld ?_
    case run0 => (intro w9 hS9; obtain ⟨q0, q1, q2, q3, q4⟩ := ck5 hS9 A0.o; go_simp; try exact rfl)
    try simp only [Act.put, lA, lZ, lS]
    refine tkL 1 ?v1 rfl ?run1 hHeld ?_
    case run1 => (intro w9 hS9; obtain ⟨q0, q1, q2, q3, q4⟩ := ck5 hS9 A0.o; go_simp; try exact rfl)
    try simp only [Act.put, lA, lZ, lS]
    refine tkL 2 ?v2 rfl ?run2 hHeld ?_
    case run2 => (intro w9 hS9; obtain ⟨q0, q1, q2, q3, q4⟩ := ck5 hS9 A0.o; go_simp; try exact rfl)
    try simp only [Act.put, lA, lZ, lS]
    refine tkL 3 ?v3 rfl ?run3 hHeld ?_
    case run3 => (intro w9 hS9; obtain ⟨q0, q1, q2, q3, q4⟩ := ck5 hS9 A0.o; go_simp; try exact rfl)
    try simp only [Act.put, lA, lZ, lS]
    refine tkL 4 ?v4 rfl ?run4 hHeld ?_
    case run4 => (intro w9 hS9; obtain ⟨q0, q1, q2, q3, q4⟩ := ck5 hS9 A0.o; go_simp; try exact rfl)
    try simp only [Act.put, lA, lZ, lS]
    refine tkL 5 ?v5 rfl ?run5 hHeld ?_
    case run5 => (intro w9 hS9; obtain ⟨q0, q1, q2, q3, q4⟩ := ck5 hS9 A0.o; go_simp; try exact rfl)
    try simp only [Act.put, lA, lZ, lS]
    refine tkL 8 ?v8 rfl ?run8 hHeld ?_
    case run8 => (intro w9 hS9; obtain ⟨q0, q1, q2, q3, q4⟩ := ck5 hS9 A0.o; go_simp; try exact rfl)
    try simp only [Act.put, lA, lZ, lS]
    refine tkL 9 ?v9 rfl ?run9 hHeld ?_
    case run9 => (intro w9 hS9; obtain ⟨q0, q1, q2, q3, q4⟩ := ck5 hS9 A0.o; go_simp; try exact rfl)
    try simp only [Act.put, lA, lZ, lS]
    refine tkL 10 ?v10 rfl ?run10 hHeld ?_
    case run10 => (intro w9 hS9; obtain ⟨q0, q1, q2, q3, q4⟩ := ck5 hS9 A0.o; go_simp; try exact rfl)
    try simp only [Act.put, lA, lZ, lS]
    refine tkL 11 ?v11 rfl ?run11 hHeld ?_
    case run11 => (intro w9 hS9; obtain ⟨q0, q1, q2, q3, q4⟩ := ck5 hS9 A0.o; go_simp; try exact rfl)
    try simp only [Act.put, lA, lZ, lS]
    refine rdH 6 rfl (fun K hK => ?_); go_simp; refine (HP.o _ (((Keep.refl [] wr).drew))).mono ?_; rintro e wc1 ⟨⟨X, rfl, hX⟩, hc⟩; have HC1 := hyd ((((Keep.refl [] wr).drew)).trans hc (by simp)); have hsX : X.size = (flat (sepI comma ps)).length := by rw [size_list X, hX]
    have HXX := hyd hX; clear hX hc; go_wp2_with fail; refine hK.out _ _ HC1.o (fun hHeld2 => ?_); clear hK K hHeld; have hHeld := hHeld2; clear hHeld2
    try simp only [Act.put, lA, lZ, lS]
    refine tkL 7 (.string (T ++ X)) rfl ?run7 hHeld ?_
    case run7 => (intro w9 hS9; go_simp; first | done | omega | (simp; omega))
    try simp only [Act.put, lA, lZ, lS]
    refine rdH 12 rfl (fun K hK => ?_); go_simp; refine (HTL.o _ (HC1.o)).mono ?_; rintro e wc2 ⟨⟨Y, rfl, hY⟩, hc⟩; have HC2 := hyd ((HC1.o).trans hc (by simp)); have hsY : Y.size = (flat (tailI gs bs)).length := by rw [size_list Y, hY]
    have HXY := hyd hY; clear hY hc; go_wp2_with fail; refine hK.out _ _ HC2.o (fun hHeld2 => ?_); clear hK K hHeld; have hHeld := hHeld2; clear hHeld2
    try simp only [Act.put, lA, lZ, lS]
    refine tkL 13 (.string (T ++ X ++ Y)) rfl ?run13 hHeld ?_
    case run13 => (intro w9 hS9; go_simp; first | done | omega | (simp; omega))
    try simp only [Act.put, lA, lZ, lS]
    refine tkL 14 ?v14 rfl ?run14 hHeld ?_
    case run14 => (intro w9 hS9; go_simp; try exact rfl)
    try simp only [Act.put, lA, lZ, lS]
    refine wpAnyH_done (by kernel_rfl) ?_ _; have HK9 := hyd (HKW.o.trans HC2.o (by simp)); go_wp2_with fail; go_roundw
    case rel => exact ⟨k + 1, T ++ X ++ Y, by omega, by go_num, rfl, by rw [HFT.o, if_pos H0.o, ← HX.o]; simp [HXX.o, HXY.o, flat_cons, flat_app, flat_nil, It.text], HK9.o⟩
    case measure => simp [intOf]; omega
   ·have z1 : (0 : Int) < (k : Int) := by omega
    have H0 := hyd h0; rw [if_neg h0] at hfl; clear h0; go_wp2_with fail; refine wp_region_held_drew (S := fun w' => Keep [] wr w') (by kernel_rfl) ((Keep.refl [] wr).drew) (fun hHeld => ?_); refine tkL 0 ?vB0 rfl ?runB0 hHeld ?_
    case runB0 => (intro w9 hS9; obtain ⟨q0, q1, q2, q3, q4⟩ := ck5 hS9 A0.o; go_simp; try exact rfl)
    try simp only [Act.put, lA, lZ, lS]
    refine tkL 1 ?vB1 rfl ?runB1 hHeld ?_
    case runB1 => (intro w9 hS9; obtain ⟨q0, q1, q2, q3, q4⟩ := ck5 hS9 A0.o; go_simp; try exact rfl)
    try simp only [Act.put, lA, lZ, lS]
    refine tkL 2 ?vB2 rfl ?runB2 hHeld ?_
    case runB2 => (intro w9 hS9; obtain ⟨q0, q1, q2, q3, q4⟩ := ck5 hS9 A0.o; go_simp; try exact rfl)
    try simp only [Act.put, lA, lZ, lS]
    refine tkL 3 ?vB3 rfl ?runB3 hHeld ?_
    case runB3 => (intro w9 hS9; obtain ⟨q0, q1, q2, q3, q4⟩ := ck5 hS9 A0.o; go_simp; try exact rfl)
    try simp only [Act.put, lA, lZ, lS]
    refine tkL 4 ?vB4 rfl ?runB4 hHeld ?_
    case runB4 => (intro w9 hS9; obtain ⟨q0, q1, q2, q3, q4⟩ := ck5 hS9 A0.o; go_simp; try exact rfl)
    try simp only [Act.put, lA, lZ, lS]
    refine tkL 5 ?vB5 rfl ?runB5 hHeld ?_
    case runB5 => (intro w9 hS9; obtain ⟨q0, q1, q2, q3, q4⟩ := ck5 hS9 A0.o; go_simp; try exact rfl)
    try simp only [Act.put, lA, lZ, lS]
    refine tkL 8 ?vB8 rfl ?runB8 hHeld ?_
    case runB8 => (intro w9 hS9; obtain ⟨q0, q1, q2, q3, q4⟩ := ck5 hS9 A0.o; go_simp; try exact rfl)
    try simp only [Act.put, lA, lZ, lS]
    refine tkL 9 ?vB9 rfl ?runB9 hHeld ?_
    case runB9 => (intro w9 hS9; obtain ⟨q0, q1, q2, q3, q4⟩ := ck5 hS9 A0.o; go_simp; try exact rfl)
    try simp only [Act.put, lA, lZ, lS]
    refine tkL 10 ?vB10 rfl ?runB10 hHeld ?_
    case runB10 => (intro w9 hS9; obtain ⟨q0, q1, q2, q3, q4⟩ := ck5 hS9 A0.o; go_simp; try exact rfl)
    try simp only [Act.put, lA, lZ, lS]
    refine tkL 11 ?vB11 rfl ?runB11 hHeld ?_
    case runB11 => (intro w9 hS9; obtain ⟨q0, q1, q2, q3, q4⟩ := ck5 hS9 A0.o; go_simp; try exact rfl)
    try simp only [Act.put, lA, lZ, lS]
    refine rdH 6 rfl (fun K hK => ?_); go_simp; refine (HP.o _ (((Keep.refl [] wr).drew))).mono ?_; rintro e wc1 ⟨⟨X, rfl, hX⟩, hc⟩; have HC1 := hyd ((((Keep.refl [] wr).drew)).trans hc (by simp)); have hsX : X.size = (flat (sepI comma ps)).length := by rw [size_list X, hX]
    have HXX := hyd hX; clear hX hc; go_wp2_with fail; refine hK.out _ _ HC1.o (fun hHeld2 => ?_); clear hK K hHeld; have hHeld := hHeld2; clear hHeld2
    try simp only [Act.put, lA, lZ, lS]
    refine tkL 7 (.string (T ++ ⟨#[59, 32]⟩ ++ X)) rfl ?runB7 hHeld ?_
    case runB7 => (intro w9 hS9; go_simp; first | done | omega | (simp; omega))
    try simp only [Act.put, lA, lZ, lS]
    refine rdH 12 rfl (fun K hK => ?_); go_simp; refine (HTL.o _ (HC1.o)).mono ?_; rintro e wc2 ⟨⟨Y, rfl, hY⟩, hc⟩; have HC2 := hyd ((HC1.o).trans hc (by simp)); have hsY : Y.size = (flat (tailI gs bs)).length := by rw [size_list Y, hY]
    have HXY := hyd hY; clear hY hc; go_wp2_with fail; refine hK.out _ _ HC2.o (fun hHeld2 => ?_); clear hK K hHeld; have hHeld := hHeld2; clear hHeld2
    try simp only [Act.put, lA, lZ, lS]
    refine tkL 13 (.string (T ++ ⟨#[59, 32]⟩ ++ X ++ Y)) rfl ?runB13 hHeld ?_
    case runB13 => (intro w9 hS9; go_simp; first | done | omega | (simp; omega))
    try simp only [Act.put, lA, lZ, lS]
    refine tkL 14 ?vB14 rfl ?runB14 hHeld ?_
    case runB14 => (intro w9 hS9; go_simp; try exact rfl)
    try simp only [Act.put, lA, lZ, lS]
    refine wpAnyH_done (by kernel_rfl) ?_ _; have HK9 := hyd (HKW.o.trans HC2.o (by simp)); go_wp2_with fail; go_roundw
    case rel => exact ⟨k + 1, T ++ ⟨#[59, 32]⟩ ++ X ++ Y, by omega, by go_num, rfl, by rw [HFT.o, if_neg H0.o, ← HX.o]; simp [HXX.o, HXY.o, flat_cons, flat_app, flat_nil, It.text], HK9.o⟩
    case measure => simp [intOf]; omega
  ·obtain rfl : k = l.length := by omega
   have q1 : ¬ (l.length : Int) < (l.length : Int) := by omega
   have hX := HX.o; rw [List.take_of_length_le (by rw [HL.o.1]; exact Nat.le_refl _)] at hX; have HX2 := hyd hX; clear hX; go_wp2_with fail; go_ret; exact ⟨⟨T, rfl, HX2.o⟩, HKW.o⟩
theorem td_case {a : Nd} {x : List It} {l : List Nd} {ls : List (List It)} (ha : TxD a x) (hl : ArLd l ls) (hs : Sm (sepI semiB ls)) (hlen : (flat x).length + (flat (sepI semiB ls)).length ≤ 140737488354000) :
  TxD (.mk 14 0 [] [a] l []) (wd sCase :: sp :: x ++ sp :: wd sOf :: sp :: sepI semiB ls ++ [sp, wd sEnd]) := by
 intro w S cs hnd; obtain ⟨kd, nu, at1, nm1, a0, b0, c0, va, vb, vc, rfl, hn, h1, h2, h3⟩ := id hnd.un7; injection hn with e1 e2 e3 e4 e5 e6; subst e1 e2 e3 e4 e5 e6; obtain ⟨p1, c1, e1⟩ := h1.form; obtain ⟨p2, c2, e2⟩ := h2.form; obtain ⟨p3, c3, e3⟩ := h3.form; replace e1 : va = .slice p1 1 c1 := e1; replace e2 : vb = .slice p2 l.length c2 := e2; replace e3 : vc = .slice p3 0 c3 := e3; subst e1 e2 e3; have hk5 := (Keep.refl [] w).alloc (.cells #[.int .i64 14, .int .i64 0, .string ⟨#[]⟩, .int .i64 at1, .slice p1 1 c1, .slice p2 l.length c2, .slice p3 0 c3] 29); have hb5 := heap_alloc_new w (.cells #[.int .i64 14, .int .i64 0, .string ⟨#[]⟩, .int .i64 at1, .slice p1 1 c1, .slice p2 l.length c2, .slice p3 0 c3] 29); obtain ⟨d0, d1, d2, d3, d4, d5, d6⟩ := cells7 hb5; have D0 := hyd (And.intro d0 (And.intro d1 (And.intro d2 (And.intro d3 (And.intro d4 (And.intro d5 d6)))))); have HK5 := hyd hk5; obtain ⟨aba, aoffa, csa, ea, -, hnda, hcella⟩ := (h1.keep hk5 (by simp)).at7 (i := 0) (by simp); replace hnda : NdR S _ false csa a := hnda; obtain ⟨kda, nua, ata, nma, p1a, n1a, c1a, p2a, n2a, c2a, p3a, n3a, c3a, rfl, -⟩ := id hnda.un7s; have a0 := hcella 0 (by decide); have a1 := hcella 1 (by decide); have a2 := hcella 2 (by decide); have a3 := hcella 3 (by decide); have a4 := hcella 4 (by decide); have a5 := hcella 5 (by decide); have a6 := hcella 6 (by decide); simp only [Nat.zero_mul, Nat.one_mul, Nat.add_zero, List.getElem?_cons_zero, List.getElem?_cons_succ] at a0 a1 a2 a3 a4 a5 a6; have Ea := hyd (And.intro a0 (And.intro a1 (And.intro a2 (And.intro a3 (And.intro a4 (And.intro a5 a6)))))); clear hcella a0 a1 a2 a3 a4 a5 a6; subst ea; have HA := hyd (fun W (k : Keep [] (w.alloc _) W) => ha W _ _ (hnda.keep k (by simp))); have HB := hyd (fun W (k : Keep [] (w.alloc _) W) => d_arms (w := W) ((h2.keep hk5 (by simp)).keep k (by simp)) hl hs); clear hb5 hk5 hnd h1 h2 h3 ha hnda hl hs; go_enter Tryz.func11, Tryz.ntmps11; go_wp2_with fail; generalize w.alloc _ = w5 at *; clear d0 d1 d2 d3 d4 d5 d6; refine wp_region_held_drew (S := fun w' => Keep [] w5 w') (by kernel_rfl) ((Keep.refl [] w5).drew) (fun hHeld => ?_); refine tkL 0 ?v0 rfl ?run0 hHeld ?_
 case run0 => (intro w9 hS9; obtain ⟨q0, q1, q2, q3, q4, q5, q6⟩ := ck7 hS9 D0.o; obtain ⟨a0, a1, a2, a3, a4, a5, a6⟩ := ck7 hS9 Ea.o; go_simp; try exact rfl)
 try simp only [Act.put, lA, lZ, lS]
 refine tkL 1 ?v1 rfl ?run1 hHeld ?_
 case run1 => (intro w9 hS9; obtain ⟨q0, q1, q2, q3, q4, q5, q6⟩ := ck7 hS9 D0.o; obtain ⟨a0, a1, a2, a3, a4, a5, a6⟩ := ck7 hS9 Ea.o; go_simp; try exact rfl)
 try simp only [Act.put, lA, lZ, lS]
 refine tkL 2 ?v2 rfl ?run2 hHeld ?_
 case run2 => (intro w9 hS9; obtain ⟨q0, q1, q2, q3, q4, q5, q6⟩ := ck7 hS9 D0.o; obtain ⟨a0, a1, a2, a3, a4, a5, a6⟩ := ck7 hS9 Ea.o; go_simp; try exact rfl)
 try simp only [Act.put, lA, lZ, lS]
 refine tkL 3 ?v3 rfl ?run3 hHeld ?_
 case run3 => (intro w9 hS9; obtain ⟨q0, q1, q2, q3, q4, q5, q6⟩ := ck7 hS9 D0.o; obtain ⟨a0, a1, a2, a3, a4, a5, a6⟩ := ck7 hS9 Ea.o; go_simp; try exact rfl)
 try simp only [Act.put, lA, lZ, lS]
 refine tkL 7 ?v7 rfl ?run7 hHeld ?_
 case run7 => (intro w9 hS9; obtain ⟨q0, q1, q2, q3, q4, q5, q6⟩ := ck7 hS9 D0.o; obtain ⟨a0, a1, a2, a3, a4, a5, a6⟩ := ck7 hS9 Ea.o; go_simp; try exact rfl)
 try simp only [Act.put, lA, lZ, lS]
 refine tkL 8 ?v8 rfl ?run8 hHeld ?_
 case run8 => (intro w9 hS9; obtain ⟨q0, q1, q2, q3, q4, q5, q6⟩ := ck7 hS9 D0.o; obtain ⟨a0, a1, a2, a3, a4, a5, a6⟩ := ck7 hS9 Ea.o; go_simp; try exact rfl)
 try simp only [Act.put, lA, lZ, lS]
 refine rdH 4 rfl (fun K hK => ?_); go_simp; refine (HA.o _ (((Keep.refl [] w5).drew))).mono ?_; rintro e wc1 ⟨⟨X, rfl, hX⟩, hc⟩; have HC1 := hyd ((((Keep.refl [] w5).drew)).trans hc (by simp)); have hsX : X.size = (flat x).length := by rw [size_list X, hX]
 have HXX := hyd hX; clear hX hc; go_wp2_with fail; refine hK.out _ _ HC1.o (fun hHeld2 => ?_); clear hK K hHeld; have hHeld := hHeld2; clear hHeld2
 try simp only [Act.put, lA, lZ, lS]
 refine tkL 5 (.string (⟨#[99, 97, 115, 101, 32]⟩ ++ X)) rfl ?run5 hHeld ?_
 case run5 => (intro w9 hS9; go_simp; first | done | omega | (simp; omega))
 try simp only [Act.put, lA, lZ, lS]
 refine tkL 6 (.string (⟨#[99, 97, 115, 101, 32]⟩ ++ X ++ ⟨#[32, 111, 102, 32]⟩)) rfl ?run6 hHeld ?_
 case run6 => (intro w9 hS9; go_simp; first | done | omega | (simp; omega))
 try simp only [Act.put, lA, lZ, lS]
 refine rdH 9 rfl (fun K hK => ?_); go_simp; refine (HB.o _ (HC1.o)).mono ?_; rintro e wc2 ⟨⟨Y, rfl, hY⟩, hc⟩; have HC2 := hyd ((HC1.o).trans hc (by simp)); have hsY : Y.size = (flat (sepI semiB ls)).length := by rw [size_list Y, hY]
 have HXY := hyd hY; clear hY hc; go_wp2_with fail; refine hK.out _ _ HC2.o (fun hHeld2 => ?_); clear hK K hHeld; have hHeld := hHeld2; clear hHeld2
 try simp only [Act.put, lA, lZ, lS]
 refine tkL 10 (.string (⟨#[99, 97, 115, 101, 32]⟩ ++ X ++ ⟨#[32, 111, 102, 32]⟩ ++ Y)) rfl ?run10 hHeld ?_
 case run10 => (intro w9 hS9; go_simp; first | done | omega | (simp; omega))
 try simp only [Act.put, lA, lZ, lS]
 refine tkL 11 (.string (⟨#[99, 97, 115, 101, 32]⟩ ++ X ++ ⟨#[32, 111, 102, 32]⟩ ++ Y ++ ⟨#[32, 101, 110, 100]⟩)) rfl ?run11 hHeld ?_
 case run11 => (intro w9 hS9; go_simp; first | done | omega | (simp; omega))
 try simp only [Act.put, lA, lZ, lS]
 refine tkL 12 ?v12 rfl ?run12 hHeld ?_
 case run12 => (intro w9 hS9; go_simp; try exact rfl)
 try simp only [Act.put, lA, lZ, lS]
 refine wpAnyH_done (by kernel_rfl) ?_ _; go_wp2_with fail; go_ret; exact ⟨⟨_, rfl, by (simp [HXX.o, HXY.o, flat_cons, flat_app, flat_nil, It.text])⟩, HK5.o.trans HC2.o (by simp)⟩
theorem td_tr {b l : List Nd} {bs ls : List (List It)} (hb : TLd b bs) (hl : ArLd l ls) (hs : Sm (sepI semiB ls)) (hlen : (flat (sepI commaB bs)).length + (flat (sepI semiB ls)).length ≤ 140737488354000) :
  TxD (.mk 16 0 [] [] l b) (wd sTry :: sp :: sepI commaB bs ++ sp :: wd sCatch :: sp :: sepI semiB ls ++ [sp, wd sEnd]) := by
 intro w S cs hnd; obtain ⟨kd, nu, at1, nm1, a0, b0, c0, va, vb, vc, rfl, hn, h1, h2, h3⟩ := id hnd.un7; injection hn with e1 e2 e3 e4 e5 e6; subst e1 e2 e3 e4 e5 e6; obtain ⟨p1, c1, e1⟩ := h1.form; obtain ⟨p2, c2, e2⟩ := h2.form; obtain ⟨p3, c3, e3⟩ := h3.form; replace e1 : va = .slice p1 0 c1 := e1; replace e2 : vb = .slice p2 l.length c2 := e2; replace e3 : vc = .slice p3 b.length c3 := e3; subst e1 e2 e3; have hk5 := (Keep.refl [] w).alloc (.cells #[.int .i64 16, .int .i64 0, .string ⟨#[]⟩, .int .i64 at1, .slice p1 0 c1, .slice p2 l.length c2, .slice p3 b.length c3] 29); have hb5 := heap_alloc_new w (.cells #[.int .i64 16, .int .i64 0, .string ⟨#[]⟩, .int .i64 at1, .slice p1 0 c1, .slice p2 l.length c2, .slice p3 b.length c3] 29); obtain ⟨d0, d1, d2, d3, d4, d5, d6⟩ := cells7 hb5; have D0 := hyd (And.intro d0 (And.intro d1 (And.intro d2 (And.intro d3 (And.intro d4 (And.intro d5 d6)))))); have HK5 := hyd hk5; have HA := hyd (fun W (k : Keep [] (w.alloc _) W) => d_texts (w := W) (s := commaB) (sep := ⟨#[44, 32]⟩) ((h3.keep hk5 (by simp)).keep k (by simp)) hb rfl (by omega) (by decide)); have HB := hyd (fun W (k : Keep [] (w.alloc _) W) => d_arms (w := W) ((h2.keep hk5 (by simp)).keep k (by simp)) hl hs); clear hb5 hk5 hnd h1 h2 h3 hb hl hs; go_enter Tryz.func11, Tryz.ntmps11; go_wp2_with fail; generalize w.alloc _ = w5 at *; clear d0 d1 d2 d3 d4 d5 d6; refine wp_region_held_drew (S := fun w' => Keep [] w5 w') (by kernel_rfl) ((Keep.refl [] w5).drew) (fun hHeld => ?_); refine tkL 0 ?v0 rfl ?run0 hHeld ?_
 case run0 => (intro w9 hS9; obtain ⟨q0, q1, q2, q3, q4, q5, q6⟩ := ck7 hS9 D0.o; go_simp; try exact rfl)
 try simp only [Act.put, lA, lZ, lS]
 refine tkL 1 ?v1 rfl ?run1 hHeld ?_
 case run1 => (intro w9 hS9; obtain ⟨q0, q1, q2, q3, q4, q5, q6⟩ := ck7 hS9 D0.o; go_simp; try exact rfl)
 try simp only [Act.put, lA, lZ, lS]
 refine tkL 5 ?v5 rfl ?run5 hHeld ?_
 case run5 => (intro w9 hS9; obtain ⟨q0, q1, q2, q3, q4, q5, q6⟩ := ck7 hS9 D0.o; go_simp; try exact rfl)
 try simp only [Act.put, lA, lZ, lS]
 refine tkL 6 ?v6 rfl ?run6 hHeld ?_
 case run6 => (intro w9 hS9; obtain ⟨q0, q1, q2, q3, q4, q5, q6⟩ := ck7 hS9 D0.o; go_simp; try exact rfl)
 try simp only [Act.put, lA, lZ, lS]
 refine rdH 2 rfl (fun K hK => ?_); go_simp; refine (HA.o _ (((Keep.refl [] w5).drew))).mono ?_; rintro e wc1 ⟨⟨X, rfl, hX⟩, hc⟩; have HC1 := hyd ((((Keep.refl [] w5).drew)).trans hc (by simp)); have hsX : X.size = (flat (sepI commaB bs)).length := by rw [size_list X, hX]
 have HXX := hyd hX; clear hX hc; go_wp2_with fail; refine hK.out _ _ HC1.o (fun hHeld2 => ?_); clear hK K hHeld; have hHeld := hHeld2; clear hHeld2
 try simp only [Act.put, lA, lZ, lS]
 refine tkL 3 (.string (⟨#[116, 114, 121, 32]⟩ ++ X)) rfl ?run3 hHeld ?_
 case run3 => (intro w9 hS9; go_simp; first | done | omega | (simp; omega))
 try simp only [Act.put, lA, lZ, lS]
 refine tkL 4 (.string (⟨#[116, 114, 121, 32]⟩ ++ X ++ ⟨#[32, 99, 97, 116, 99, 104, 32]⟩)) rfl ?run4 hHeld ?_
 case run4 => (intro w9 hS9; go_simp; first | done | omega | (simp; omega))
 try simp only [Act.put, lA, lZ, lS]
 refine rdH 7 rfl (fun K hK => ?_); go_simp; refine (HB.o _ (HC1.o)).mono ?_; rintro e wc2 ⟨⟨Y, rfl, hY⟩, hc⟩; have HC2 := hyd ((HC1.o).trans hc (by simp)); have hsY : Y.size = (flat (sepI semiB ls)).length := by rw [size_list Y, hY]
 have HXY := hyd hY; clear hY hc; go_wp2_with fail; refine hK.out _ _ HC2.o (fun hHeld2 => ?_); clear hK K hHeld; have hHeld := hHeld2; clear hHeld2
 try simp only [Act.put, lA, lZ, lS]
 refine tkL 8 (.string (⟨#[116, 114, 121, 32]⟩ ++ X ++ ⟨#[32, 99, 97, 116, 99, 104, 32]⟩ ++ Y)) rfl ?run8 hHeld ?_
 case run8 => (intro w9 hS9; go_simp; first | done | omega | (simp; omega))
 try simp only [Act.put, lA, lZ, lS]
 refine tkL 9 (.string (⟨#[116, 114, 121, 32]⟩ ++ X ++ ⟨#[32, 99, 97, 116, 99, 104, 32]⟩ ++ Y ++ ⟨#[32, 101, 110, 100]⟩)) rfl ?run9 hHeld ?_
 case run9 => (intro w9 hS9; go_simp; first | done | omega | (simp; omega))
 try simp only [Act.put, lA, lZ, lS]
 refine tkL 10 ?v10 rfl ?run10 hHeld ?_
 case run10 => (intro w9 hS9; go_simp; try exact rfl)
 try simp only [Act.put, lA, lZ, lS]
 refine wpAnyH_done (by kernel_rfl) ?_ _; go_wp2_with fail; go_ret; exact ⟨⟨_, rfl, by (simp [HXX.o, HXY.o, flat_cons, flat_app, flat_nil, It.text])⟩, HK5.o.trans HC2.o (by simp)⟩
theorem td_leaf {k n : Int} {x : List UInt8} (h : TokOk ⟨k, n, x, 0⟩) (h3 : k ≤ 3) : TxD (.mk k n x [] [] []) [.t k n x] := by
 intro w S cs hnd; obtain ⟨kd, nu, at1, nm, a0, b0, c0, va, vb, vc, rfl, hn, h1, h2, h4⟩ := id hnd.un7; injection hn with e1 e2 e3 e4 e5 e6; subst e1 e2 e3 e4 e5 e6; obtain ⟨p1, c1, rfl⟩ := h1.form; obtain ⟨p2, c2, rfl⟩ := h2.form; obtain ⟨p3, c3, rfl⟩ := h4.form; have hk5 := (Keep.refl [] w).alloc (.cells #[.int .i64 k, .int .i64 n, .string ⟨x.toArray⟩, .int .i64 at1, .slice p1 0 c1, .slice p2 0 c2, .slice p3 0 c3] 29); have hb5 := heap_alloc_new w (.cells #[.int .i64 k, .int .i64 n, .string ⟨x.toArray⟩, .int .i64 at1, .slice p1 0 c1, .slice p2 0 c2, .slice p3 0 c3] 29); obtain ⟨d0, d1, d2, d3, d4, d5, d6⟩ := cells7 hb5; have HK5 := hyd hk5; have hsz : (flat [It.t k n x]) = (It.t k n x).text := by rw [flat_cons, flat_nil, List.append_nil]
 rw [hsz]; clear hsz hb5 hk5 hnd h1 h2 h4; rcases h with ⟨h, -, m, hm, hm2⟩ | ⟨-, ⟨h, l1, l2⟩ | ⟨h, -⟩ | ⟨h, -⟩ | ⟨h, -⟩⟩
 ·simp only at h hm; subst h hm; go_enter Tryz.func11, Tryz.ntmps11; go_wp2_with fail; refine (r_digits (n := (m : Int)) (by omega) (by omega)).mono ?_; rintro e w6 ⟨rfl, hk6⟩; have HK6 := hyd (HK5.o.trans hk6 (by simp)); clear hk6; go_wp2_with fail; go_ret; exact ⟨⟨_, rfl, by simp [It.text]⟩, HK6.o⟩
 ·simp only at h l2; subst h; have HPA := hyd (fun W => rd_printA (w := W) ⟨x.toArray⟩ (by show x.toArray.size ≤ 100000; rw [List.size_toArray]; omega)); go_enter Tryz.func11, Tryz.ntmps11; go_wp2_with fail; refine (rd_atom _ _).mono ?_; rintro e w6 ⟨rfl, hk6⟩; have HK6 := hyd hk6; clear hk6; go_wp2_with fail; refine (HPA.o _).mono ?_; rintro e w7 ⟨rfl, hk7⟩; have HK7 := hyd ((HK5.o.trans HK6.o (by simp)).trans hk7 (by simp)); clear hk7; go_wp2_with fail; go_ret; exact ⟨⟨_, rfl, by simp [It.text]⟩, HK7.o⟩
 ·simp only at h; subst h; go_enter Tryz.func11, Tryz.ntmps11; go_wp2_with fail; go_ret; exact ⟨⟨_, rfl, by simp [It.text]⟩, HK5.o⟩
 ·simp only at h; omega
 ·simp only at h; omega
theorem td_tuple {l : List Nd} {ls : List (List It)} (hl : TLd l ls) (hlen : (flat (sepI comma ls)).length ≤ 140737488354000) : TxD (.mk 4 0 [] l [] []) (sg 123 :: sepI comma ls ++ [sg 125]) := by
 intro w S cs hnd; obtain ⟨kd, nu, at1, nm, a0, b0, c0, va, vb, vc, rfl, hn, h1, h2, h4⟩ := id hnd.un7; injection hn with e1 e2 e3 e4 e5 e6; subst e1 e2 e3 e4 e5 e6; obtain ⟨p1, c1, rfl⟩ := h1.form; obtain ⟨p2, c2, rfl⟩ := h2.form; obtain ⟨p3, c3, rfl⟩ := h4.form; have hk5 := (Keep.refl [] w).alloc (.cells #[.int .i64 4, .int .i64 0, .string ⟨#[]⟩, .int .i64 at1, .slice p1 l.length c1, .slice p2 0 c2, .slice p3 0 c3] 29); have hb5 := heap_alloc_new w (.cells #[.int .i64 4, .int .i64 0, .string ⟨#[]⟩, .int .i64 at1, .slice p1 l.length c1, .slice p2 0 c2, .slice p3 0 c3] 29); obtain ⟨d0, d1, d2, d3, d4, d5, d6⟩ := cells7 hb5; have hc := d_texts (s := comma) (sep := ⟨#[44]⟩) (h1.keep hk5 (by simp)) hl rfl (by omega) (by decide); have HC := hyd hc; have HK5 := hyd hk5; have HLEN := hyd hlen; clear hb5 hk5 hnd h1 h2 h4 hc hlen hl; go_enter Tryz.func11, Tryz.ntmps11; go_wp2_with fail; refine HC.o.mono ?_; rintro e w6 ⟨⟨X, rfl, hX⟩, hk6⟩; have hxs : X.size ≤ 140737488354000 := by rw [size_list X, hX]; exact HLEN.o
 have HK6 := hyd (And.intro hX (HK5.o.trans hk6 (by simp))); clear hX hk6; go_wp2_with fail; go_ret; exact ⟨⟨_, rfl, by simp [HK6.o.1, flat_cons, flat_app, flat_nil, It.text]⟩, HK6.o.2⟩
end Go.Proofs.YtdmmhfbafinkpaaGreatDoor
