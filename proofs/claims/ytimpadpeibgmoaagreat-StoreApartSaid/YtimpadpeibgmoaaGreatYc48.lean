/- A part of the proof (StApart), joined by squeeze2.py. -/
import Derived.Test.YtimpadpeibgmoaaGreatYc47
import Derived.BigQuiet
set_option maxHeartbeats 8000000
set_option maxRecDepth 100000
namespace Go.Proofs.YtimpadpeibgmoaaGreat
open Go.RowKit Go.Emb Go.Lib Go.Emb.Ext Go.Shelf
attribute [local go_sem] Oper.semAt_some
theorem row_at {W : World} {lm : List Int} {a : Option Addr} {o : Option Nat} {jn : Nat} {z : Int} (h : (lm.length = 0 ∧ o = none) ∨ ∃ b off, a = some ⟨b, off, none⟩ ∧ o = some b ∧ ∀ i, i < lm.length * 1 → W.cell? ⟨b, off + i, none⟩ = (lm.map (Value.int .i64))[i]?) (hj : lm[jn]? = some z) :
  ∃ b off, a = some ⟨b, off, none⟩ ∧ W.cell? ⟨b, off + jn, none⟩ = some (.int .i64 z) := by
 have hl : jn < lm.length := (List.getElem?_eq_some_iff.1 hj).1
 rcases h with ⟨h, -⟩ | ⟨b, off, h1, -, h3⟩
 ·omega
 ·refine ⟨b, off, h1, ?_⟩
  rw [h3 jn (by omega), List.getElem?_map, hj]
  rfl
theorem apart_walk {w : World} {blk ar : Int} {v : Value} {l : List AcV} (hbl : I64 blk) (hal : I64 ar) (h : RdAs w.heap.size w v l) : Calls Tryz.prog 5 #[.int .i64 blk, .int .i64 ar, v] w fun e w' => e = .returned (.bool true) ∧ Keep [] w w' := by
 have hhg := huge_any h
 obtain ⟨va, vc, rfl⟩ := h.form
 have H := hyd h
 obtain ⟨n, hn⟩ : ∃ n, n = l.length := ⟨_, rfl⟩
 have HN := hyd hn
 rw [← hn] at hhg ⊢
 have HH := hyd hhg
 clear h hn hhg
 unfold I64 at hbl hal
 go_enter Tryz.func5, Tryz.ntmps5
 go_wp2_with fail
 refine HH.o.mono ?_
 rintro e w1 ⟨b, rfl, hb, hk1⟩
 have HK1 := hyd hk1
 clear hk1 HH
 by_cases hsmall : b = true ∨ blk < 1 ∨ 80 < blk
 ·have hlive : Calls Tryz.prog 8 #[] w1 fun e w' => e = .returned (.bool true) ∧ Keep [] w w' := live_any.mono (fun e w' hh => ⟨hh.1, HK1.o.trans hh.2 (by simp)⟩)
  have HLV := hyd hlive
  clear hlive hb
  cases b with
  | true =>
   go_wp2_with fail
   refine HLV.o.mono ?_
   rintro e w2 ⟨rfl, hk2⟩
   have HK2 := hyd hk2
   clear hk2 hsmall
   go_wp2_with fail
   go_ret
   exact ⟨rfl, HK2.o⟩
  | false =>
   by_cases hb1 : blk < 1
   ·have hb1' : decide (blk < 1) = true := decide_eq_true hb1
    clear hsmall
    go_wp2_with fail
    refine HLV.o.mono ?_
    rintro e w2 ⟨rfl, hk2⟩
    have HK2 := hyd hk2
    clear hk2
    go_wp2_with fail
    go_ret
    exact ⟨rfl, HK2.o⟩
   ·have hb2 : 80 < blk := by rcases hsmall with h | h | h; cases h; exact absurd h hb1; exact h
    have hb1' : decide (blk < 1) = false := decide_eq_false hb1
    have hb2' : decide (80 < blk) = true := decide_eq_true hb2
    clear hsmall
    go_wp2_with fail
    refine HLV.o.mono ?_
    rintro e w2 ⟨rfl, hk2⟩
    have HK2 := hyd hk2
    clear hk2
    go_wp2_with fail
    go_ret
    exact ⟨rfl, HK2.o⟩
 ·have hb0 : b = false := by cases b; rfl; exact absurd (.inl rfl) hsmall
  have hb1 : ¬ blk < 1 := fun h => hsmall (.inr (.inl h))
  have hb2 : ¬ 80 < blk := fun h => hsmall (.inr (.inr h))
  have hb1' : decide (blk < 1) = false := decide_eq_false hb1
  have hb2' : decide (80 < blk) = false := decide_eq_false hb2
  subst hb0
  have HNO := hyd (hb rfl)
  have hn40 : n ≤ 40 := by have := HN.o; have := HNO.o.1; omega
  obtain ⟨N, rfl⟩ : ∃ N : Nat, blk = (N : Int) := ⟨blk.toNat, by omega⟩
  have hN1 : 1 ≤ N := by omega
  have hN2 : N ≤ 80 := by omega
  clear hb hsmall
  have hnew := p_new (w := w1) (n := N) (sz := 64) hN1 (by omega) (by omega) (by omega)
  go_wp2_with fail
  clear hb1' hb2'
  refine hnew.mono ?_
  rintro e w2 ⟨q, D0, rfl, hd1, hD1, hk2⟩
  have HK2 := hyd (And.intro (HK1.o.trans hk2 (by simp)) (show ∀ b ∈ D0, w.heap.size ≤ b from fun b hb => Nat.le_trans HK1.o.size (hD1 b hb)))
  by_cases har : ar < 1 ∨ (N : Int) - 2 - 1 < ar
  ·have hf := st_format_bad (a := ar) hd1 hal har
   have HF := hyd hf
   clear hnew hd1 hD1 hk2 hf
   go_wp2_with fail
   refine HF.o.mono ?_
   rintro e w3 ⟨rfl, hk3⟩
   have HK3 := hyd (HK2.o.1.trans hk3 (by simp))
   clear hk3 HF
   go_wp2_with (go_at_call 11; refine (pl_num _).mono ?_; rintro e w2 ⟨rfl, rfl⟩)
   refine live_any.mono ?_
   rintro e w4 ⟨rfl, hk4⟩
   have HK4 := hyd (HK3.o.trans hk4 (by simp))
   clear hk4
   go_wp2_with fail
   go_ret
   exact ⟨rfl, HK4.o⟩
  ·obtain ⟨A, rfl⟩ : ∃ A : Nat, ar = (A : Int) := ⟨ar.toNat, by omega⟩
   have hA1 : 1 ≤ A := by omega
   have hA2 : A + 3 ≤ N := by omega
   have hf := st_format (A := A) hd1 rfl (by show (-1 : Int) < 0; omega) (by show 0 ≤ _; omega) hA1 (by show A + 3 ≤ N; omega)
   have HF := hyd hf
   clear hnew hd1 hD1 hk2 hf har
   go_wp2_with fail
   refine HF.o.mono ?_
   rintro e w3 ⟨s, D1, rfl, hs, hst, hD, hk3⟩
   obtain ⟨lm0, d0, hlw⟩ := lw_new (w0 := w) (A := A) (N := N) hA1 hA2 hN2 HK2.o.1 HK2.o.2 hs hst hD hk3 (fun _ => [])
   have HLW0 := hyd hlw
   clear hs hst hD hk3 hlw HF HK2
   go_upto_region 9 with (go_at_call 11; refine (pl_num _).mono ?_; rintro e w2 ⟨rfl, rfl⟩)
   go_wp2_with fail
   go_loopw [11, 12] (fun av i wr => ∃ (k : Nat) (lm : List Int) (D : List Nat) (d : DS) (x : SV) (im : Int → List UInt8) (o : Option Nat), k ≤ n ∧ i = .int .i64 k ∧ LW w wr s q lm D d x im N k ∧ RdE wr av (ckX x.os x.om.man) o ∧ (∀ b, o = some b → b < wr.heap.size ∧ b ∉ s :: D)) (fun _ i _ => n - (intOf i).toNat)
   case atStart => exact ⟨0, lm0, D1, d0, _, _, none, Nat.zero_le _, rfl, HLW0.o, ⟨rfl, none, 0, rfl, Nat.le_refl _, by unfold maxLen; omega, .inl ⟨rfl, rfl⟩⟩, fun b hb => by cases hb⟩
   case round =>
    obtain ⟨k, lm, D, d, x, im, ao, hk, rfl, hlw, hah, hao⟩ := hrel
    obtain ⟨NA, hNA⟩ : ∃ z, z = (ckX x.os x.om.man).length := ⟨_, rfl⟩
    obtain ⟨-, ha, hcp, rfl, -⟩ := id hah
    rw [← hNA]
    have HLWR := hyd hlw
    have HAO := hyd (And.intro hah (And.intro hao hNA))
    have HK40 := hyd (show k ≤ 40 by omega)
    have HSZ := hyd (show (ckX x.ns x.nm.man).length ≤ 1000000 ∧ (ckX x.os x.om.man).length ≤ 1000000 ∧ x.ns.ps.length ≤ 1000000 from by have := hlw.sizes hN2; omega)
    clear hlw HLW0 hah hao hNA
    by_cases hlt : k < n
    ·have HLW := HLWR
     have hl : k < l.length := by have := HN.o; omega
     have hls := H.o.keep HLW.o.kp
     rw [← HN.o] at hls
     obtain ⟨lb, loff, rfl, -, -, -, g2, g3, g4, g5⟩ := hls.at hl
     have hra := hls.2.1 _ (List.getElem_mem hl)
     have hrw := H.o.2.1 _ (List.getElem_mem hl)
     have hsm := HNO.o.2 _ (List.getElem_mem hl)
     obtain ⟨y, hy⟩ : ∃ y, y = l[k] := ⟨_, rfl⟩
     rw [← hy] at g2 g3 g4 g5 hra hsm hrw
     have HRW := hyd hrw
     obtain ⟨pa, pc, aa, ac, da, dc, e1, e2, e3⟩ := hra.forms
     rw [e1] at g2
     rw [e2] at g4
     rw [e3] at g5
     have HRA0 := hyd hra
     have HSM := hyd hsm
     have HY := hyd (show l[k]? = some y from by rw [hy]; exact List.getElem?_eq_getElem hl)
     have HFM := hyd (And.intro e1 (And.intro e2 e3))
     have HG := hyd (And.intro g2 (And.intro g3 (And.intro g4 g5)))
     have j0 : (0 : Int) ≤ (k : Int) := by omega
     have j1 : (k : Int) < (n : Int) := by omega
     clear hls hra hsm hrw hy e1 e2 e3 g2 g3 g4 g5 hl
     have HLL := hyd (show lm.length ≤ 10000000 by have := HLW.o.lg; omega)
     have hlml : (lm.length : Int) ≤ 10000000 := by have := HLL.o; omega
     go_wp2_with fail
     refine (d_log HLW.o.st.dk HLL.o).mono ?_
     rintro e wa ⟨v5, o5, rfl, hr5, -, hk5⟩
     obtain ⟨o6, ⟨-, a5, c5, hv5, -⟩, -⟩ := hr5.rd
     subst hv5
     have HKA := hyd hk5
     have hsu := st_super (w := wa) (HLW.o.st.keep0 hk5) (by have := HSZ.o; omega)
     have HSU := hyd hsu
     clear hr5 hk5 hsu
     go_wp2_with fail
     refine HSU.o.mono ?_
     rintro e wb ⟨sv, so, rfl, hsr, -, hkb⟩
     obtain ⟨sa, sc, rfl⟩ := hsr.form
     unfold aggS
     have hkb2 : Keep [] wb (wb.alloc (.cells #[.int .u64 (x.ns.gen : Nat), .slice sa x.ns.ps.length sc, .int .i64 x.ns.len, .int .i64 x.ns.ep] 56)) := (Keep.refl [] wb).alloc _
     have HB14 := hyd (heap_new wb (.cells #[.int .u64 (x.ns.gen : Nat), .slice sa x.ns.ps.length sc, .int .i64 x.ns.len, .int .i64 x.ns.ep] 56))
     have HSR := hyd (hsr.keep hkb2 (by simp))
     have HKB := hyd ((HKA.o.trans hkb (by simp)).trans hkb2 (by simp))
     have HB14L := hyd (show wr.heap.size ≤ wb.heap.size from (HKA.o.trans hkb (by simp)).size)
     clear hsr hkb hkb2 HSU HKA
     go_upto_region 15 with fail
     generalize wb.alloc (.cells #[.int .u64 (x.ns.gen : Nat), .slice sa x.ns.ps.length sc, .int .i64 x.ns.len, .int .i64 x.ns.ep] 56) = wc at *
     generalize wb.heap.size = B14 at *
     have hpc := pieces_any (w := wc) (HLW.o.st.keep0 HKB.o) (by have := HLW.o.sizes hN2; omega) (by have := HLW.o.sizes hN2; omega) (fun y hy => by have := (HLW.o.sizes hN2).2.2.2.1 y hy; omega)
     have HPC := hyd hpc
     clear hpc
     go_wp2_with fail
     refine HPC.o.mono ?_
     rintro e wB ⟨pv, po, rfl, hpr, hpo, hkp⟩
     obtain ⟨NP, hNP⟩ : ∃ z, z = (ckX x.ns x.nm.man).length := ⟨_, rfl⟩
     obtain ⟨pa2, pc2, hpv⟩ := hpr.form
     rw [← hNP] at hpv
     subst hpv
     have HPR := hyd (And.intro hpr (And.intro hpo hNP))
     clear hNP
     have HKB2 := hyd (HKB.o.trans hkp (by simp))
     have HBC := hyd (blkk HB14.o hkp (by simp))
     have HSR2 := hyd (Row.keep HSR.o hkp (by simp))
     go_upto_region 16 with fail
     have HLW := hyd (HLWR.o.keep HKB2.o)
     have HRA := hyd (HRA0.o.keep HKB2.o)
     have HAC := hyd (And.intro (HKB2.o.cellOf HG.o.1 (by simp)) (And.intro (HKB2.o.cellOf HG.o.2.1 (by simp)) (And.intro (HKB2.o.cellOf HG.o.2.2.1 (by simp)) (HKB2.o.cellOf HG.o.2.2.2 (by simp)))))
     clear hpr hpo hkp HPC
     refine wp_regionB [10, 15, 20, 21] (fun W => Keep [] wB W) (by kernel_rfl) ?_
     have HKD := hyd (show Keep [] wB wB.drew from (Keep.refl [] wB).drew)
     generalize wB.drew = wd at *
     refine tkY 0 ?vA0 rfl ?runA0 ?_
     case runA0 => (intro w9 _; go_simp; try exact rfl)
     try simp only [Act.put, lA, lZ, lS]
     refine tkY 1 ?vA1 rfl ?runA1 ?_
     case runA1 => (intro w9 _; go_simp; try exact rfl)
     try simp only [Act.put, lA, lZ, lS]
     refine tkY 2 ?vA2 rfl ?runA2 ?_
     case runA2 => (intro w9 _; go_simp; try exact rfl)
     try simp only [Act.put, lA, lZ, lS]
     refine tkY 3 ?vA3 rfl ?runA3 ?_
     case runA3 => (intro w9 _; go_simp; try exact rfl)
     try simp only [Act.put, lA, lZ, lS]
     refine tkY 4 ?vA4 rfl ?runA4 ?_
     case runA4 => (intro w9 _; go_simp; try exact rfl)
     try simp only [Act.put, lA, lZ, lS]
     refine tkY 6 ?vA6 rfl ?runA6 ?_
     case runA6 => (intro w9 _; go_simp; try exact rfl)
     try simp only [Act.put, lA, lZ, lS]
     refine tkY 7 ?vA7 rfl ?runA7 ?_
     case runA7 => (intro w9 _; go_simp; try exact rfl)
     try simp only [Act.put, lA, lZ, lS]
     refine tkY 8 ?vA8 rfl ?runA8 ?_
     case runA8 => (intro w9 _; go_simp; try exact rfl)
     try simp only [Act.put, lA, lZ, lS]
     refine tkY 9 ?vA9 rfl ?runA9 ?_
     case runA9 => (intro w9 _; go_simp; try exact rfl)
     try simp only [Act.put, lA, lZ, lS]
     refine tkY 11 ?vA11 rfl ?runA11 ?_
     case runA11 => (intro w9 _; go_simp; try exact rfl)
     try simp only [Act.put, lA, lZ, lS]
     refine tkY 12 ?vA12 rfl ?runA12 ?_
     case runA12 => (intro w9 _; go_simp; try exact rfl)
     try simp only [Act.put, lA, lZ, lS]
     refine tkY 13 ?vA13 rfl ?runA13 ?_
     case runA13 => (intro w9 _; go_simp; try exact rfl)
     try simp only [Act.put, lA, lZ, lS]
     refine tkY 14 ?vA14 rfl ?runA14 ?_
     case runA14 => (intro w9 _; go_simp; try exact rfl)
     try simp only [Act.put, lA, lZ, lS]
     refine tkY 16 ?vA16 rfl ?runA16 ?_
     case runA16 => (intro w9 _; go_simp; try exact rfl)
     try simp only [Act.put, lA, lZ, lS]
     refine tkY 17 ?vA17 rfl ?runA17 ?_
     case runA17 => (intro w9 _; go_simp; try exact rfl)
     try simp only [Act.put, lA, lZ, lS]
     refine tkY 18 ?vA18 rfl ?runA18 ?_
     case runA18 => (intro w9 _; go_simp; try exact rfl)
     try simp only [Act.put, lA, lZ, lS]
     refine tkY 19 ?vA19 rfl ?runA19 ?_
     case runA19 => (intro w9 _; go_simp; try exact rfl)
     try simp only [Act.put, lA, lZ, lS]
     refine tkB [10, 15, 20, 21] 5 ?vA5 rfl ?runA5 (HKD.o) ?_
     case runA5 => (intro w9 hS9; obtain ⟨q2, q3, q4, q5⟩ := And.intro (hS9.cellOf HAC.o.1 (by simp)) (And.intro (hS9.cellOf HAC.o.2.1 (by simp)) (And.intro (hS9.cellOf HAC.o.2.2.1 (by simp)) (hS9.cellOf HAC.o.2.2.2 (by simp)))); go_simp; try exact rfl)
     try simp only [Act.put, lA, lZ, lS]
     refine tkB [15, 20, 21] 10 ?vA10 rfl ?runA10 (HKD.o) ?_
     case runA10 => (intro w9 hS9; obtain ⟨q2, q3, q4, q5⟩ := And.intro (hS9.cellOf HAC.o.1 (by simp)) (And.intro (hS9.cellOf HAC.o.2.1 (by simp)) (And.intro (hS9.cellOf HAC.o.2.2.1 (by simp)) (hS9.cellOf HAC.o.2.2.2 (by simp)))); go_simp; try exact rfl)
     try simp only [Act.put, lA, lZ, lS]
     refine tkB [20, 21] 15 ?vA15 rfl ?runA15 (HKD.o) ?_
     case runA15 => (intro w9 hS9; obtain ⟨q2, q3, q4, q5⟩ := And.intro (hS9.cellOf HAC.o.1 (by simp)) (And.intro (hS9.cellOf HAC.o.2.1 (by simp)) (And.intro (hS9.cellOf HAC.o.2.2.1 (by simp)) (hS9.cellOf HAC.o.2.2.2 (by simp)))); go_simp; try exact rfl)
     try simp only [Act.put, lA, lZ, lS]
     refine tkB [] 20 ?vA20 rfl ?runA20 (HKD.o) ?_
     case runA20 => (intro w9 hS9; obtain ⟨q2, q3, q4, q5⟩ := And.intro (hS9.cellOf HAC.o.1 (by simp)) (And.intro (hS9.cellOf HAC.o.2.1 (by simp)) (And.intro (hS9.cellOf HAC.o.2.2.1 (by simp)) (hS9.cellOf HAC.o.2.2.2 (by simp)))); go_simp; try exact rfl)
     try simp only [Act.put, lA, lZ, lS]
     refine rdB 21 rfl (fun K hK => ?_)
     go_simp
     have him := images_any (w := wd) (HRA.o.2.2.2.2.2.keep HKD.o) (by have := HSM.o.2.2.2.1; omega) (fun z hz => by have := HSM.o.2.2.2.2 z hz; omega)
     rw [HFM.o.2.2] at him
     refine him.mono ?_
     rintro e we ⟨iv, ims, rfl, hir, hil, hke⟩
     obtain ⟨ia, ic, hiv⟩ := hir.form
     have hlen := imL_len hil
     rw [hlen] at hiv
     subst hiv
     have HKE := hyd (HKD.o.trans hke (by simp))
     have HIR := hyd hir
     have HIL := hyd (And.intro hil hlen)
     clear hir hil hke hlen him
     go_wp2_with fail
     refine hK.out _ _ (fun h => HKE.o) ?_
     clear hK K
     try simp only [Act.put, lA, lZ, lS]
     refine rdB 22 rfl (fun K hK => ?_)
     go_simp
     have hlw := HLW.o.keep HKE.o
     have hsv := lw_save hlw HK40.o (by omega) (HRA.o.2.2.2.2.1.keep HKE.o) (by have := HSM.o.2.2.1; omega) (HIR.o.mono (T := fun c => c ∉ s :: D) (fun c _ hc hm => by have := HLW.o.lt c hm; have := HKD.o.size; omega)) (by have := HIL.o.2; have := HSM.o.2.2.2.1; omega) (imL_len' HIL.o.1 (fun z hz => by have := HSM.o.2.2.2.2 z hz; omega)) ((HRA.o.keep HKE.o).2.2.1) (by have := HSM.o.1; omega) (src := y.src) (by have := HSM.o.2.1; omega)
     rw [HFM.o.1, HFM.o.2.1] at hsv
     refine hsv.mono ?_
     rintro e wf ⟨c, rfl, hpost⟩
     have HPO := hyd hpost
     clear hsv hlw hpost
     go_wp2_with fail
     refine hK.out _ _ (fun h => (nomatch h)) ?_
     clear hK K
     try simp only [Act.put, lA, lZ, lS]
     refine tkY 23 ?vA23 rfl ?runA23 ?_
     case runA23 => (intro w9 _; go_simp; try exact rfl)
     try simp only [Act.put, lA, lZ, lS]
     refine wpAnyB_done (by kernel_rfl) ?_ _
     have HKE2 := hyd (HKB2.o.trans HKE.o (by simp))
     rcases HPO.o with ⟨hc0, hl2, hkf⟩ | ⟨rfl, hrt, f0, tk, m, sp, pvm, D', d', hf0, hpi, hsg, hmp, hl2, hDD, hkf⟩
     ·have HL2 := hyd hl2
      have hcn : ¬ c = 0 := hc0
      have HBF := hyd (blkk (blkk HBC.o HKE.o (by simp)) hkf (by simp))
      have HCB := hyd (cells4s HBF.o)
      have HSRF := hyd ((Row.keep HSR2.o HKE.o (by simp)).keep hkf (by simp))
      have HSR := HSRF
      have HAF := hyd (((HAO.o.1.keep HKE2.o (by simp)).keep hkf (by simp)))
      have HKF2 := hyd (HKE2.o.trans hkf (by simp))
      clear hl2 hkf HPO
      go_upto_region 18 with (go_at_call 11; refine (pl_num _).mono ?_; rintro e w2 ⟨rfl, rfl⟩)
      refine wp_regionB [8] (fun W => Keep [] wf W) (by kernel_rfl) ?_
      have HKD := hyd (show Keep [] wf wf.drew from (Keep.refl [] wf).drew)
      generalize wf.drew = wd2 at *
      refine tkY 0 ?vN0 rfl ?runN0 ?_
      case runN0 => (intro w9 _; go_simp; try exact rfl)
      try simp only [Act.put, lA, lZ, lS]
      refine tkY 3 ?vN3 rfl ?runN3 ?_
      case runN3 => (intro w9 _; go_simp; try exact rfl)
      try simp only [Act.put, lA, lZ, lS]
      refine rdB 1 rfl (fun K hK => ?_)
      go_simp
      refine (d_log (HL2.o.st.dk.keep0 HKD.o) HLL.o).mono ?_
      rintro e wg ⟨vg, og, rfl, hrg, -, hkg⟩
      obtain ⟨oog, ⟨-, ag, cg, hvg, -⟩, -⟩ := hrg.rd
      subst hvg
      have HKG := hyd (HKD.o.trans hkg (by simp))
      clear hrg hkg
      go_wp2_with fail
      refine hK.out _ _ (fun h => (nomatch h)) ?_
      clear hK K
      try simp only [Act.put, lA, lZ, lS]
      refine tkY 2 ?vN2 rfl ?runN2 ?_
      case runN2 => (intro w9 _; go_simp; try exact rfl)
      try simp only [Act.put, lA, lZ, lS]
      refine tkY 4 (.bool false) rfl ?runN4 ?_
      case runN4 => (intro w9 _; go_simp; first | done | exact rfl | omega | (simp [*]; done) | (simp; omega))
      try simp only [Act.put, lA, lZ, lS]
      refine tkY 5 ?vN5 rfl ?runN5 ?_
      case runN5 => (intro w9 _; go_simp; try exact rfl)
      try simp only [Act.put, lA, lZ, lS]
      refine tkY 7 ?vN7 rfl ?runN7 ?_
      case runN7 => (intro w9 _; go_simp; try exact rfl)
      try simp only [Act.put, lA, lZ, lS]
      refine tkB [8] 6 ?vN6 rfl ?runN6 (HKG.o) ?_
      case runN6 => (intro w9 hS9; obtain ⟨q0, q1, q2, q3⟩ := And.intro (hS9.cellOf HCB.o.1 (by simp)) (And.intro (hS9.cellOf HCB.o.2.1 (by simp)) (And.intro (hS9.cellOf HCB.o.2.2.1 (by simp)) (hS9.cellOf HCB.o.2.2.2 (by simp)))); go_simp; try exact rfl)
      try simp only [Act.put, lA, lZ, lS]
      refine rdB 8 rfl (fun K hK => ?_)
      go_simp
      refine (st_super (HL2.o.st.keep0 HKG.o) (by have := HSZ.o; omega)).mono ?_
      rintro e wh ⟨vh, oh, rfl, hrh, -, hkh⟩
      have HKH := hyd (HKG.o.trans hkh (by simp))
      obtain ⟨oA, hA, -⟩ := (HSR.o.keep HKH.o (by simp)).rd
      obtain ⟨oB, hB, -⟩ := hrh.rd
      have hq := q_same (w := wh) (x := x.ns) (y := x.ns) hA hB (by have := HSZ.o; omega) (by have := HSZ.o; omega)
      obtain ⟨ah, ch, rfl⟩ := hrh.form
      have HQ := hyd hq
      unfold aggS at HQ
      unfold aggS
      clear hrh hkh hA hB hq
      go_wp2_with fail
      refine hK.out _ _ (fun h => HKH.o) ?_
      clear hK K
      try simp only [Act.put, lA, lZ, lS]
      refine rdB 9 rfl (fun K hK => ?_)
      go_simp
      refine HQ.o.mono ?_
      rintro e wi ⟨⟨bb, rfl, hbb⟩, hki⟩
      obtain rfl : bb = true := by simpa using hbb
      have HKI := hyd (HKH.o.trans hki (by simp))
      clear hki hbb
      go_wp2_with fail
      refine hK.out _ _ (fun h => (nomatch h)) ?_
      clear hK K
      try simp only [Act.put, lA, lZ, lS]
      refine tkY 10 ?vN10 rfl ?runN10 ?_
      case runN10 => (intro w9 _; go_simp; try exact rfl)
      try simp only [Act.put, lA, lZ, lS]
      refine tkY 11 ?vN11 rfl ?runN11 ?_
      case runN11 => (intro w9 _; go_simp; try exact rfl)
      try simp only [Act.put, lA, lZ, lS]
      refine wpAnyB_done (by kernel_rfl) ?_ _
      have HKX := hyd (HKF2.o.trans HKI.o (by simp))
      go_wp2_with fail
      go_roundw
      case rel => exact ⟨k + 1, lm, D, d, x, im, ao, by omega, by go_num, (HL2.o.keep HKI.o).more (by omega), by have := HAF.o.keep HKI.o (by simp); rw [HAO.o.2.2]; exact this, fun b hb => ⟨Nat.lt_of_lt_of_le (HAO.o.2.1 b hb).1 HKX.o.size, (HAO.o.2.1 b hb).2⟩⟩
      case measure => show n - (k + 1) < n - k; omega
     ·obtain ⟨ws, hws⟩ : ∃ z, z = (allW d.sz sp m ims).map (fun z => (z.1 : Int)) := ⟨_, rfl⟩
      rw [← hws] at hl2
      obtain ⟨lF, hlF⟩ : ∃ z, z = lm ++ ws := ⟨_, rfl⟩
      rw [← hlF] at hl2
      have HLF := hyd hl2
      have HLE := hyd hlF
      have hapl := fun z (hz : z ∈ ws) => apart_log HLWR.o.inv hpi hrt.nodup hf0 (z := z) (by rw [← hws]; exact hz)
      have HAPL := hyd hapl
      have hno : ∀ b ∈ s :: D, b < wr.heap.size := HLWR.o.lt
      have HPF := hyd ((Row.keep HPR.o.1 HKE.o (by simp)).keep hkf (fun b hb hm => by have h1 := hno b hm; have h2 := HPR.o.2.1 b hb; have h3 := HKB.o.size; omega))
      have HPN := hyd (show ∀ b, po = some b → b < wf.heap.size ∧ b ∉ s :: D' from fun b hb => by
        have h0 := Row.lt (Row.keep HPR.o.1 HKE.o (by simp)) b hb
        have h1 := HPR.o.2.1 b hb
        refine ⟨Nat.lt_of_lt_of_le h0 hkf.size, fun hm => ?_⟩
        have h3 := HKB.o.size
        rcases List.mem_cons.1 hm with h | h
        · have := hno s (by simp); omega
        · rcases hDD b h with h | h
          · have := hno b (by simp [h]); omega
          · omega)
      have HAF := hyd ((HAO.o.1.keep HKE2.o (by simp)).keep hkf (fun b hb hm => (HAO.o.2.1 b hb).2 hm))
      have HAL := hyd (show ∀ b, ao = some b → b < wf.heap.size from fun b hb => Nat.lt_of_lt_of_le (HAO.o.2.1 b hb).1 (Nat.le_trans HKE2.o.size hkf.size))
      have HLL2 := hyd (show lF.length ≤ 10000000 by have := hl2.lg; omega)
      have hlb : lm.length ≤ lF.length := by rw [hlF, List.length_append]; omega
      have hlb2 : lF.length ≤ 10000000 := HLL2.o
      clear hl2 hlF hapl hno hkf hDD hrt hf0 hpi hsg hmp hws HPO HLW
      go_wp2_with (go_at_call 11; refine (pl_num _).mono ?_; rintro e w2 ⟨rfl, rfl⟩)
      go_loopw [17] (fun j wr => ∃ (jn : Nat), lm.length ≤ jn ∧ jn ≤ lF.length ∧ j = .int .i64 jn ∧ Keep [] wf wr) (fun j _ => lF.length - (intOf j).toNat)
      case atStart => exact ⟨lm.length, Nat.le_refl _, hlb, rfl, Keep.refl _ _⟩
      case round =>
       obtain ⟨jn, hj1, hj2, rfl, hkj⟩ := hrel
       have HKJ := hyd hkj
       clear hkj
       go_wp2_with fail
       refine (d_log (HLF.o.st.dk.keep0 HKJ.o) HLL2.o).mono ?_
       rintro e wq ⟨vq, oq, rfl, hrq, -, hkq⟩
       obtain ⟨ooq, ⟨-, aq, cq, hvq, -⟩, -⟩ := hrq.rd
       subst hvq
       have HKQ := hyd (HKJ.o.trans hkq (by simp))
       have HLFQ := hyd (HLF.o.keep HKQ.o)
       clear hrq hkq
       by_cases hjl : jn < lF.length
       ·have hji : (jn : Int) < (lF.length : Int) := by omega
        have hj0 : (0 : Int) ≤ (jn : Int) := by omega
        obtain ⟨z, hz⟩ : ∃ z, lF[jn]? = some z := ⟨_, List.getElem?_eq_getElem hjl⟩
        have hzw : z ∈ ws := by
         have h1 := HLE.o
         rw [h1, List.getElem?_append_right hj1] at hz
         exact List.mem_of_getElem? hz
        have HJ := hyd hz
        have HA := hyd (HAPL.o z hzw)
        have HZB := hyd (show 0 ≤ z ∧ z ≤ 100000 from ⟨HA.o.2.2.1, HA.o.2.2.2.1⟩)
        have HA := hyd (And.intro HA.o.1 (And.intro HA.o.2.1 (And.intro HA.o.2.2.1 HA.o.2.2.2.2)))
        have HNOW := hyd (fun (W : World) (hW : Keep [] wq W) => (show HasE W (.slice pa2 NP pc2) (ckX x.ns x.nm.man) from by
          have hr := (Row.keep HPF.o HKQ.o (by simp)).keep hW (by simp)
          obtain ⟨o, h1, h2⟩ := RowE.rd hr
          exact ⟨o, h1, fun b hb => Row.lt hr b (h2 b hb)⟩))
        have HAHD := hyd (fun (W : World) (hW : Keep [] wq W) => (show HasE W (.slice ha NA hcp) (ckX x.os x.om.man) from ⟨ao, by rw [HAO.o.2.2] at *; exact (HAF.o.keep HKQ.o (by simp)).keep hW (by simp), fun b hb => Nat.lt_of_lt_of_le (HAL.o b hb) (HKQ.o.trans hW (by simp)).size⟩))
        clear hz hzw
        by_cases hz2 : 2 ≤ z
        ·have HZ2 := hyd hz2
         go_upto_region 23 with fail
         refine wp_regionB [] (fun W => Keep [] wq W) (by kernel_rfl) ?_
         have HKD := hyd (show Keep [] wq wq.drew from (Keep.refl [] wq).drew)
         generalize wq.drew = wdq at *
         refine tkY 0 ?vM0 rfl ?runM0 ?_
         case runM0 => (intro w9 _; go_simp; try exact rfl)
         try simp only [Act.put, lA, lZ, lS]
         refine tkY 2 ?vM2 rfl ?runM2 ?_
         case runM2 => (intro w9 _; go_simp; try exact rfl)
         try simp only [Act.put, lA, lZ, lS]
         refine tkY 5 ?vM5 rfl ?runM5 ?_
         case runM5 => (intro w9 _; go_simp; try exact rfl)
         try simp only [Act.put, lA, lZ, lS]
         refine rdB 1 rfl (fun K hK => ?_)
         go_simp
         refine (d_log (HLFQ.o.st.dk.keep0 (HKD.o)) HLL2.o).mono ?_
         rintro e wa ⟨vwa, owa, rfl, hrwa, -, hkwa⟩
         obtain ⟨oowa, ⟨-, awa, cwa, hvwa, -, -, hcwa⟩, -⟩ := hrwa.rd
         subst hvwa
         have HKwa := hyd ((HKD.o).trans hkwa (by simp))
         obtain ⟨bwa, offwa, rfl, hcellwa⟩ := row_at hcwa HJ.o
         have HCwa := hyd hcellwa
         clear hrwa hkwa hcwa hcellwa
         go_wp2_with fail
         refine hK.out _ _ (fun h => (nomatch h)) ?_
         clear hK K
         try simp only [Act.put, lA, lZ, lS]
         refine tkY 3 ?vM3 rfl ?runM3 ?_
         case runM3 => (intro w9 _; go_simp; try exact rfl)
         try simp only [Act.put, lA, lZ, lS]
         refine rdB 4 rfl (fun K hK => ?_)
         have hcc := HCwa.o
         go_simp
         clear hcc
         refine hK.out _ _ (fun h => (nomatch h)) ?_
         clear hK K
         try simp only [Act.put, lA, lZ, lS]
         refine rdB 6 rfl (fun K hK => ?_)
         go_simp
         have hh := r_has (w := wa) (v := _) (l := ckX x.ns x.nm.man) (HNOW.o _ HKwa.o) (by have := HSZ.o; omega) z (by have := HZB.o; omega) (by have := HZB.o; omega)
         rw [HA.o.1] at hh
         refine hh.mono ?_
         rintro e wb ⟨rfl, hkwb⟩
         have HKwb := hyd ((HKwa.o).trans hkwb (by simp))
         clear hkwb hh
         go_wp2_with fail
         refine hK.out _ _ (fun h => (nomatch h)) ?_
         clear hK K
         try simp only [Act.put, lA, lZ, lS]
         refine tkY 7 ?vM7 rfl ?runM7 ?_
         case runM7 => (intro w9 _; go_simp; try exact rfl)
         try simp only [Act.put, lA, lZ, lS]
         refine tkY 8 ?vM8 rfl ?runM8 ?_
         case runM8 => (intro w9 _; go_simp; try exact rfl)
         try simp only [Act.put, lA, lZ, lS]
         refine tkY 10 ?vM10 rfl ?runM10 ?_
         case runM10 => (intro w9 _; go_simp; try exact rfl)
         try simp only [Act.put, lA, lZ, lS]
         refine tkY 13 ?vM13 rfl ?runM13 ?_
         case runM13 => (intro w9 _; go_simp; try exact rfl)
         try simp only [Act.put, lA, lZ, lS]
         refine rdB 9 rfl (fun K hK => ?_)
         go_simp
         refine (d_log (HLFQ.o.st.dk.keep0 (HKwb.o)) HLL2.o).mono ?_
         rintro e wc ⟨vwc, owc, rfl, hrwc, -, hkwc⟩
         obtain ⟨oowc, ⟨-, awc, cwc, hvwc, -, -, hcwc⟩, -⟩ := hrwc.rd
         subst hvwc
         have HKwc := hyd ((HKwb.o).trans hkwc (by simp))
         obtain ⟨bwc, offwc, rfl, hcellwc⟩ := row_at hcwc HJ.o
         have HCwc := hyd hcellwc
         clear hrwc hkwc hcwc hcellwc
         go_wp2_with fail
         refine hK.out _ _ (fun h => (nomatch h)) ?_
         clear hK K
         try simp only [Act.put, lA, lZ, lS]
         refine tkY 11 ?vM11 rfl ?runM11 ?_
         case runM11 => (intro w9 _; go_simp; try exact rfl)
         try simp only [Act.put, lA, lZ, lS]
         refine rdB 12 rfl (fun K hK => ?_)
         have hcc := HCwc.o
         go_simp
         clear hcc
         refine hK.out _ _ (fun h => (nomatch h)) ?_
         clear hK K
         try simp only [Act.put, lA, lZ, lS]
         refine rdB 14 rfl (fun K hK => ?_)
         go_simp
         have hh := r_has (w := wc) (v := _) (l := ckX x.os x.om.man) (HAHD.o _ HKwc.o) (by have := HSZ.o; omega) z (by have := HZB.o; omega) (by have := HZB.o; omega)
         rw [HA.o.2.1] at hh
         refine hh.mono ?_
         rintro e we ⟨rfl, hkwe⟩
         have HKwe := hyd ((HKwc.o).trans hkwe (by simp))
         clear hkwe hh
         go_wp2_with fail
         refine hK.out _ _ (fun h => (nomatch h)) ?_
         clear hK K
         try simp only [Act.put, lA, lZ, lS]
         refine tkY 15 ?vM15 rfl ?runM15 ?_
         case runM15 => (intro w9 _; go_simp; try exact rfl)
         try simp only [Act.put, lA, lZ, lS]
         refine tkY 16 ?vM16 rfl ?runM16 ?_
         case runM16 => (intro w9 _; go_simp; try exact rfl)
         try simp only [Act.put, lA, lZ, lS]
         refine tkY 17 ?vM17 rfl ?runM17 ?_
         case runM17 => (intro w9 _; go_simp; try exact rfl)
         try simp only [Act.put, lA, lZ, lS]
         refine tkY 19 ?vM19 rfl ?runM19 ?_
         case runM19 => (intro w9 _; go_simp; try exact rfl)
         try simp only [Act.put, lA, lZ, lS]
         refine rdB 18 rfl (fun K hK => ?_)
         go_simp
         refine (d_log (HLFQ.o.st.dk.keep0 (HKwe.o)) HLL2.o).mono ?_
         rintro e wff ⟨vwff, owff, rfl, hrwff, -, hkwff⟩
         obtain ⟨oowff, ⟨-, awff, cwff, hvwff, -, -, hcwff⟩, -⟩ := hrwff.rd
         subst hvwff
         have HKwff := hyd ((HKwe.o).trans hkwff (by simp))
         obtain ⟨bwff, offwff, rfl, hcellwff⟩ := row_at hcwff HJ.o
         have HCwff := hyd hcellwff
         clear hrwff hkwff hcwff hcellwff
         go_wp2_with fail
         refine hK.out _ _ (fun h => (nomatch h)) ?_
         clear hK K
         try simp only [Act.put, lA, lZ, lS]
         refine tkY 20 ?vM20 rfl ?runM20 ?_
         case runM20 => (intro w9 _; go_simp; try exact rfl)
         try simp only [Act.put, lA, lZ, lS]
         refine rdB 21 rfl (fun K hK => ?_)
         have hcc := HCwff.o
         go_simp
         clear hcc
         refine hK.out _ _ (fun h => (nomatch h)) ?_
         clear hK K
         try simp only [Act.put, lA, lZ, lS]
         refine tkY 22 (.bool true) rfl ?runM22 ?_
         case runM22 => (intro w9 _; go_simp; first | done | exact rfl | omega | (simp [*]; done) | (simp; omega))
         try simp only [Act.put, lA, lZ, lS]
         refine tkY 23 ?vM23 rfl ?runM23 ?_
         case runM23 => (intro w9 _; go_simp; try exact rfl)
         try simp only [Act.put, lA, lZ, lS]
         refine tkY 24 ?vM24 rfl ?runM24 ?_
         case runM24 => (intro w9 _; go_simp; try exact rfl)
         try simp only [Act.put, lA, lZ, lS]
         refine tkY 26 ?vM26 rfl ?runM26 ?_
         case runM26 => (intro w9 _; go_simp; try exact rfl)
         try simp only [Act.put, lA, lZ, lS]
         refine tkY 29 ?vM29 rfl ?runM29 ?_
         case runM29 => (intro w9 _; go_simp; try exact rfl)
         try simp only [Act.put, lA, lZ, lS]
         refine rdB 25 rfl (fun K hK => ?_)
         go_simp
         refine (d_log (HLFQ.o.st.dk.keep0 (HKwff.o)) HLL2.o).mono ?_
         rintro e wg ⟨vwg, owg, rfl, hrwg, -, hkwg⟩
         obtain ⟨oowg, ⟨-, awg, cwg, hvwg, -, -, hcwg⟩, -⟩ := hrwg.rd
         subst hvwg
         have HKwg := hyd ((HKwff.o).trans hkwg (by simp))
         obtain ⟨bwg, offwg, rfl, hcellwg⟩ := row_at hcwg HJ.o
         have HCwg := hyd hcellwg
         clear hrwg hkwg hcwg hcellwg
         go_wp2_with fail
         refine hK.out _ _ (fun h => (nomatch h)) ?_
         clear hK K
         try simp only [Act.put, lA, lZ, lS]
         refine tkY 27 ?vM27 rfl ?runM27 ?_
         case runM27 => (intro w9 _; go_simp; try exact rfl)
         try simp only [Act.put, lA, lZ, lS]
         refine wpAnyB_ready (rs := [28, 30]) (by kernel_rfl) (by simp) ?_
         refine AllReadyB.cons rfl (fun K hK => ?_) (AllReadyB.cons rfl (fun K hK => ?_) AllReadyB.nil)
         ·have hcc := HCwg.o
          go_simp
          clear hcc
          refine hK.out _ _ (fun h => (nomatch h)) ?_
          clear hK K
          try simp only [Act.put, lA, lZ, lS]
          refine rdB 30 rfl (fun K hK => ?_)
          go_simp
          refine (st_area (HLFQ.o.st.keep0 HKwg.o)).mono ?_
          rintro e wh ⟨rfl, hkh⟩
          have HKwh := hyd (HKwg.o.trans hkh (by simp))
          have HCwh := hyd (hkh.cellOf HCwg.o (by simp))
          clear hkh
          unfold aggE
          go_wp2_with fail
          refine hK.out _ _ (fun h => (nomatch h)) ?_
          clear hK K
          try simp only [Act.put, lA, lZ, lS]
          refine rdB 31 rfl (fun K hK => ?_)
          go_simp
          have hkA : Keep [] wh (wh.alloc (.cells #[.int .i64 x.area.1, .int .i64 x.area.2] 34)) := (Keep.refl [] wh).alloc _
          have HKA := hyd (HKwh.o.trans hkA (by simp))
          have HCwi := hyd (hkA.cellOf HCwh.o (by simp))
          have HLT := hyd (has_lit1 wh x.area.1 x.area.2 34)
          generalize wh.alloc (.cells #[.int .i64 x.area.1, .int .i64 x.area.2] 34) = wi at *
          generalize wh.heap.size = Bh at *
          clear hkA
          refine hK.out _ _ (fun h => (nomatch h)) ?_
          clear hK K
          try simp only [Act.put, lA, lZ, lS]
          refine rdB 32 rfl (fun K hK => ?_)
          go_simp
          have hh := r_has (w := wi) (l := [(x.area.1, x.area.2)]) HLT.o (by simp) z (by have := HZB.o; omega) (by have := HZB.o; omega)
          rw [show ([(x.area.1, x.area.2)] : List E) = [x.area] from rfl, HA.o.2.2.2 HZ2.o] at hh
          refine hh.mono ?_
          rintro e wj ⟨rfl, hkj⟩
          have HKwj := hyd (HKA.o.trans hkj (by simp))
          clear hkj hh
          go_wp2_with fail
          refine hK.out _ _ (fun h => (nomatch h)) ?_
          clear hK K
          try simp only [Act.put, lA, lZ, lS]
          refine tkY 33 ?vMz17533 rfl ?runMz17533 ?_
          case runMz17533 => (intro w9 _; go_simp; try exact rfl)
          try simp only [Act.put, lA, lZ, lS]
          refine tkY 34 ?vMz17534 rfl ?runMz17534 ?_
          case runMz17534 => (intro w9 _; go_simp; try exact rfl)
          try simp only [Act.put, lA, lZ, lS]
          refine wpAnyB_done (by kernel_rfl) ?_ _
          have HKE := hyd (HKwj.o)
          go_wp2_with fail
          go_roundw
          case rel => exact ⟨jn + 1, by omega, by omega, by go_num, HKQ.o.trans HKE.o (by simp)⟩
          case measure => show lF.length - (jn + 1) < lF.length - jn; omega
         ·go_simp
          refine (st_area (HLFQ.o.st.keep0 HKwg.o)).mono ?_
          rintro e wh ⟨rfl, hkh⟩
          have HKwh := hyd (HKwg.o.trans hkh (by simp))
          have HCwh := hyd (hkh.cellOf HCwg.o (by simp))
          clear hkh
          unfold aggE
          go_wp2_with fail
          refine hK.out _ _ (fun h => (nomatch h)) ?_
          clear hK K
          try simp only [Act.put, lA, lZ, lS]
          refine wpAnyB_ready (rs := [28, 31]) (by kernel_rfl) (by simp) ?_
          refine AllReadyB.cons rfl (fun K hK => ?_) (AllReadyB.cons rfl (fun K hK => ?_) AllReadyB.nil)
          ·have hcc := HCwh.o
           go_simp
           clear hcc
           refine hK.out _ _ (fun h => (nomatch h)) ?_
           clear hK K
           try simp only [Act.put, lA, lZ, lS]
           refine rdB 31 rfl (fun K hK => ?_)
           go_simp
           have hkA : Keep [] wh (wh.alloc (.cells #[.int .i64 x.area.1, .int .i64 x.area.2] 34)) := (Keep.refl [] wh).alloc _
           have HKA := hyd (HKwh.o.trans hkA (by simp))
           have HCwi := hyd (hkA.cellOf HCwh.o (by simp))
           have HLT := hyd (has_lit1 wh x.area.1 x.area.2 34)
           generalize wh.alloc (.cells #[.int .i64 x.area.1, .int .i64 x.area.2] 34) = wi at *
           generalize wh.heap.size = Bh at *
           clear hkA
           refine hK.out _ _ (fun h => (nomatch h)) ?_
           clear hK K
           try simp only [Act.put, lA, lZ, lS]
           refine rdB 32 rfl (fun K hK => ?_)
           go_simp
           have hh := r_has (w := wi) (l := [(x.area.1, x.area.2)]) HLT.o (by simp) z (by have := HZB.o; omega) (by have := HZB.o; omega)
           rw [show ([(x.area.1, x.area.2)] : List E) = [x.area] from rfl, HA.o.2.2.2 HZ2.o] at hh
           refine hh.mono ?_
           rintro e wj ⟨rfl, hkj⟩
           have HKwj := hyd (HKA.o.trans hkj (by simp))
           clear hkj hh
           go_wp2_with fail
           refine hK.out _ _ (fun h => (nomatch h)) ?_
           clear hK K
           try simp only [Act.put, lA, lZ, lS]
           refine tkY 33 ?vMz232z1333 rfl ?runMz232z1333 ?_
           case runMz232z1333 => (intro w9 _; go_simp; try exact rfl)
           try simp only [Act.put, lA, lZ, lS]
           refine tkY 34 ?vMz232z1334 rfl ?runMz232z1334 ?_
           case runMz232z1334 => (intro w9 _; go_simp; try exact rfl)
           try simp only [Act.put, lA, lZ, lS]
           refine wpAnyB_done (by kernel_rfl) ?_ _
           have HKE := hyd (HKwj.o)
           go_wp2_with fail
           go_roundw
           case rel => exact ⟨jn + 1, by omega, by omega, by go_num, HKQ.o.trans HKE.o (by simp)⟩
           case measure => show lF.length - (jn + 1) < lF.length - jn; omega
          ·go_simp
           have hkA : Keep [] wh (wh.alloc (.cells #[.int .i64 x.area.1, .int .i64 x.area.2] 34)) := (Keep.refl [] wh).alloc _
           have HKA := hyd (HKwh.o.trans hkA (by simp))
           have HCwi := hyd (hkA.cellOf HCwh.o (by simp))
           have HLT := hyd (has_lit1 wh x.area.1 x.area.2 34)
           generalize wh.alloc (.cells #[.int .i64 x.area.1, .int .i64 x.area.2] 34) = wi at *
           generalize wh.heap.size = Bh at *
           clear hkA
           refine hK.out _ _ (fun h => (nomatch h)) ?_
           clear hK K
           try simp only [Act.put, lA, lZ, lS]
           refine rdB 28 rfl (fun K hK => ?_)
           have hcc := HCwi.o
           go_simp
           clear hcc
           refine hK.out _ _ (fun h => (nomatch h)) ?_
           clear hK K
           try simp only [Act.put, lA, lZ, lS]
           refine rdB 32 rfl (fun K hK => ?_)
           go_simp
           have hh := r_has (w := wi) (l := [(x.area.1, x.area.2)]) HLT.o (by simp) z (by have := HZB.o; omega) (by have := HZB.o; omega)
           rw [show ([(x.area.1, x.area.2)] : List E) = [x.area] from rfl, HA.o.2.2.2 HZ2.o] at hh
           refine hh.mono ?_
           rintro e wj ⟨rfl, hkj⟩
           have HKwj := hyd (HKA.o.trans hkj (by simp))
           clear hkj hh
           go_wp2_with fail
           refine hK.out _ _ (fun h => (nomatch h)) ?_
           clear hK K
           try simp only [Act.put, lA, lZ, lS]
           refine tkY 33 ?vMz232z5733 rfl ?runMz232z5733 ?_
           case runMz232z5733 => (intro w9 _; go_simp; try exact rfl)
           try simp only [Act.put, lA, lZ, lS]
           refine tkY 34 ?vMz232z5734 rfl ?runMz232z5734 ?_
           case runMz232z5734 => (intro w9 _; go_simp; try exact rfl)
           try simp only [Act.put, lA, lZ, lS]
           refine wpAnyB_done (by kernel_rfl) ?_ _
           have HKE := hyd (HKwj.o)
           go_wp2_with fail
           go_roundw
           case rel => exact ⟨jn + 1, by omega, by omega, by go_num, HKQ.o.trans HKE.o (by simp)⟩
           case measure => show lF.length - (jn + 1) < lF.length - jn; omega
        ·go_upto_region 23 with fail
         refine wp_regionB [] (fun W => Keep [] wq W) (by kernel_rfl) ?_
         have HKD := hyd (show Keep [] wq wq.drew from (Keep.refl [] wq).drew)
         generalize wq.drew = wdq at *
         refine tkY 0 ?vL0 rfl ?runL0 ?_
         case runL0 => (intro w9 _; go_simp; try exact rfl)
         try simp only [Act.put, lA, lZ, lS]
         refine tkY 2 ?vL2 rfl ?runL2 ?_
         case runL2 => (intro w9 _; go_simp; try exact rfl)
         try simp only [Act.put, lA, lZ, lS]
         refine tkY 5 ?vL5 rfl ?runL5 ?_
         case runL5 => (intro w9 _; go_simp; try exact rfl)
         try simp only [Act.put, lA, lZ, lS]
         refine rdB 1 rfl (fun K hK => ?_)
         go_simp
         refine (d_log (HLFQ.o.st.dk.keep0 (HKD.o)) HLL2.o).mono ?_
         rintro e wa ⟨vwa, owa, rfl, hrwa, -, hkwa⟩
         obtain ⟨oowa, ⟨-, awa, cwa, hvwa, -, -, hcwa⟩, -⟩ := hrwa.rd
         subst hvwa
         have HKwa := hyd ((HKD.o).trans hkwa (by simp))
         obtain ⟨bwa, offwa, rfl, hcellwa⟩ := row_at hcwa HJ.o
         have HCwa := hyd hcellwa
         clear hrwa hkwa hcwa hcellwa
         go_wp2_with fail
         refine hK.out _ _ (fun h => (nomatch h)) ?_
         clear hK K
         try simp only [Act.put, lA, lZ, lS]
         refine tkY 3 ?vL3 rfl ?runL3 ?_
         case runL3 => (intro w9 _; go_simp; try exact rfl)
         try simp only [Act.put, lA, lZ, lS]
         refine rdB 4 rfl (fun K hK => ?_)
         have hcc := HCwa.o
         go_simp
         clear hcc
         refine hK.out _ _ (fun h => (nomatch h)) ?_
         clear hK K
         try simp only [Act.put, lA, lZ, lS]
         refine rdB 6 rfl (fun K hK => ?_)
         go_simp
         have hh := r_has (w := wa) (v := _) (l := ckX x.ns x.nm.man) (HNOW.o _ HKwa.o) (by have := HSZ.o; omega) z (by have := HZB.o; omega) (by have := HZB.o; omega)
         rw [HA.o.1] at hh
         refine hh.mono ?_
         rintro e wb ⟨rfl, hkwb⟩
         have HKwb := hyd ((HKwa.o).trans hkwb (by simp))
         clear hkwb hh
         go_wp2_with fail
         refine hK.out _ _ (fun h => (nomatch h)) ?_
         clear hK K
         try simp only [Act.put, lA, lZ, lS]
         refine tkY 7 ?vL7 rfl ?runL7 ?_
         case runL7 => (intro w9 _; go_simp; try exact rfl)
         try simp only [Act.put, lA, lZ, lS]
         refine tkY 8 ?vL8 rfl ?runL8 ?_
         case runL8 => (intro w9 _; go_simp; try exact rfl)
         try simp only [Act.put, lA, lZ, lS]
         refine tkY 10 ?vL10 rfl ?runL10 ?_
         case runL10 => (intro w9 _; go_simp; try exact rfl)
         try simp only [Act.put, lA, lZ, lS]
         refine tkY 13 ?vL13 rfl ?runL13 ?_
         case runL13 => (intro w9 _; go_simp; try exact rfl)
         try simp only [Act.put, lA, lZ, lS]
         refine rdB 9 rfl (fun K hK => ?_)
         go_simp
         refine (d_log (HLFQ.o.st.dk.keep0 (HKwb.o)) HLL2.o).mono ?_
         rintro e wc ⟨vwc, owc, rfl, hrwc, -, hkwc⟩
         obtain ⟨oowc, ⟨-, awc, cwc, hvwc, -, -, hcwc⟩, -⟩ := hrwc.rd
         subst hvwc
         have HKwc := hyd ((HKwb.o).trans hkwc (by simp))
         obtain ⟨bwc, offwc, rfl, hcellwc⟩ := row_at hcwc HJ.o
         have HCwc := hyd hcellwc
         clear hrwc hkwc hcwc hcellwc
         go_wp2_with fail
         refine hK.out _ _ (fun h => (nomatch h)) ?_
         clear hK K
         try simp only [Act.put, lA, lZ, lS]
         refine tkY 11 ?vL11 rfl ?runL11 ?_
         case runL11 => (intro w9 _; go_simp; try exact rfl)
         try simp only [Act.put, lA, lZ, lS]
         refine rdB 12 rfl (fun K hK => ?_)
         have hcc := HCwc.o
         go_simp
         clear hcc
         refine hK.out _ _ (fun h => (nomatch h)) ?_
         clear hK K
         try simp only [Act.put, lA, lZ, lS]
         refine rdB 14 rfl (fun K hK => ?_)
         go_simp
         have hh := r_has (w := wc) (v := _) (l := ckX x.os x.om.man) (HAHD.o _ HKwc.o) (by have := HSZ.o; omega) z (by have := HZB.o; omega) (by have := HZB.o; omega)
         rw [HA.o.2.1] at hh
         refine hh.mono ?_
         rintro e we ⟨rfl, hkwe⟩
         have HKwe := hyd ((HKwc.o).trans hkwe (by simp))
         clear hkwe hh
         go_wp2_with fail
         refine hK.out _ _ (fun h => (nomatch h)) ?_
         clear hK K
         try simp only [Act.put, lA, lZ, lS]
         refine tkY 15 ?vL15 rfl ?runL15 ?_
         case runL15 => (intro w9 _; go_simp; try exact rfl)
         try simp only [Act.put, lA, lZ, lS]
         refine tkY 16 ?vL16 rfl ?runL16 ?_
         case runL16 => (intro w9 _; go_simp; try exact rfl)
         try simp only [Act.put, lA, lZ, lS]
         refine tkY 17 ?vL17 rfl ?runL17 ?_
         case runL17 => (intro w9 _; go_simp; try exact rfl)
         try simp only [Act.put, lA, lZ, lS]
         refine tkY 19 ?vL19 rfl ?runL19 ?_
         case runL19 => (intro w9 _; go_simp; try exact rfl)
         try simp only [Act.put, lA, lZ, lS]
         refine rdB 18 rfl (fun K hK => ?_)
         go_simp
         refine (d_log (HLFQ.o.st.dk.keep0 (HKwe.o)) HLL2.o).mono ?_
         rintro e wff ⟨vwff, owff, rfl, hrwff, -, hkwff⟩
         obtain ⟨oowff, ⟨-, awff, cwff, hvwff, -, -, hcwff⟩, -⟩ := hrwff.rd
         subst hvwff
         have HKwff := hyd ((HKwe.o).trans hkwff (by simp))
         obtain ⟨bwff, offwff, rfl, hcellwff⟩ := row_at hcwff HJ.o
         have HCwff := hyd hcellwff
         clear hrwff hkwff hcwff hcellwff
         go_wp2_with fail
         refine hK.out _ _ (fun h => (nomatch h)) ?_
         clear hK K
         try simp only [Act.put, lA, lZ, lS]
         refine tkY 20 ?vL20 rfl ?runL20 ?_
         case runL20 => (intro w9 _; go_simp; try exact rfl)
         try simp only [Act.put, lA, lZ, lS]
         refine rdB 21 rfl (fun K hK => ?_)
         have hcc := HCwff.o
         go_simp
         clear hcc
         refine hK.out _ _ (fun h => (nomatch h)) ?_
         clear hK K
         try simp only [Act.put, lA, lZ, lS]
         refine tkY 22 (.bool false) rfl ?runL22 ?_
         case runL22 => (intro w9 _; go_simp; first | done | exact rfl | omega | (simp [*]; done) | (simp; omega))
         try simp only [Act.put, lA, lZ, lS]
         refine tkY 23 ?vL23 rfl ?runL23 ?_
         case runL23 => (intro w9 _; go_simp; try exact rfl)
         try simp only [Act.put, lA, lZ, lS]
         refine wpAnyB_takeY (i := 24) (v := undef) rfl (by kernel_rfl) (by kernel_rfl) (by kernel_rfl) (by kernel_rfl) (fun _ _ _ h => h) (Or.inr ⟨by kernel_rfl, rfl⟩) ?_
         try simp only [Act.put, lA, lZ, lS]
         refine wpAnyB_takeY (i := 25) (v := undef) rfl (by kernel_rfl) (by kernel_rfl) (by kernel_rfl) (by kernel_rfl) (fun _ _ _ h => h) (Or.inr ⟨by kernel_rfl, rfl⟩) ?_
         try simp only [Act.put, lA, lZ, lS]
         refine wpAnyB_takeY (i := 26) (v := undef) rfl (by kernel_rfl) (by kernel_rfl) (by kernel_rfl) (by kernel_rfl) (fun _ _ _ h => h) (Or.inr ⟨by kernel_rfl, rfl⟩) ?_
         try simp only [Act.put, lA, lZ, lS]
         refine wpAnyB_takeY (i := 27) (v := undef) rfl (by kernel_rfl) (by kernel_rfl) (by kernel_rfl) (by kernel_rfl) (fun _ _ _ h => h) (Or.inr ⟨by kernel_rfl, rfl⟩) ?_
         try simp only [Act.put, lA, lZ, lS]
         refine wpAnyB_takeY (i := 28) (v := undef) rfl (by kernel_rfl) (by kernel_rfl) (by kernel_rfl) (by kernel_rfl) (fun _ _ _ h => h) (Or.inr ⟨by kernel_rfl, rfl⟩) ?_
         try simp only [Act.put, lA, lZ, lS]
         refine wpAnyB_takeY (i := 29) (v := undef) rfl (by kernel_rfl) (by kernel_rfl) (by kernel_rfl) (by kernel_rfl) (fun _ _ _ h => h) (Or.inr ⟨by kernel_rfl, rfl⟩) ?_
         try simp only [Act.put, lA, lZ, lS]
         refine wpAnyB_takeY (i := 30) (v := undef) rfl (by kernel_rfl) (by kernel_rfl) (by kernel_rfl) (by kernel_rfl) (fun _ _ _ h => h) (Or.inr ⟨by kernel_rfl, rfl⟩) ?_
         try simp only [Act.put, lA, lZ, lS]
         refine wpAnyB_takeY (i := 31) (v := undef) rfl (by kernel_rfl) (by kernel_rfl) (by kernel_rfl) (by kernel_rfl) (fun _ _ _ h => h) (Or.inr ⟨by kernel_rfl, rfl⟩) ?_
         try simp only [Act.put, lA, lZ, lS]
         refine wpAnyB_takeY (i := 32) (v := undef) rfl (by kernel_rfl) (by kernel_rfl) (by kernel_rfl) (by kernel_rfl) (fun _ _ _ h => h) (Or.inr ⟨by kernel_rfl, rfl⟩) ?_
         try simp only [Act.put, lA, lZ, lS]
         refine tkY 33 ?vL33 rfl ?runL33 ?_
         case runL33 => (intro w9 _; go_simp; try exact rfl)
         try simp only [Act.put, lA, lZ, lS]
         refine tkY 34 ?vL34 rfl ?runL34 ?_
         case runL34 => (intro w9 _; go_simp; try exact rfl)
         try simp only [Act.put, lA, lZ, lS]
         refine wpAnyB_done (by kernel_rfl) ?_ _
         have HKE := hyd (HKwff.o)
         go_wp2_with fail
         go_roundw
         case rel => exact ⟨jn + 1, by omega, by omega, by go_num, HKQ.o.trans HKE.o (by simp)⟩
         case measure => show lF.length - (jn + 1) < lF.length - jn; omega
       ·have hji : ¬ (jn : Int) < (lF.length : Int) := by omega
        have husd := HLFQ.o.inv.used
        have hfree := st_free HLFQ.o.st husd.1 husd.2
        have HFREE := hyd hfree
        clear husd hfree
        go_wp2_with fail
        refine HFREE.o.mono ?_
        rintro e wg ⟨fv, out, fo, rfl, hfr, -, hfi, hkg⟩
        obtain ⟨NF, hNF⟩ : ∃ z, z = out.length := ⟨_, rfl⟩
        obtain ⟨fa, fc, hfv⟩ := hfr.form
        rw [← hNF] at hfv
        subst hfv
        have HFR := hyd (And.intro hfr (And.intro hfi hNF))
        have HKG := hyd (HKQ.o.trans hkg (by simp))
        clear hfr hfi hNF hkg HFREE
        have hk0 : Keep [] wg (wg.alloc (.cells #[] 34)) := (Keep.refl [] wg).alloc _
        have HMD := hyd (Row.made0 wg 34 2)
        have HKM := hyd (HKG.o.trans hk0 (by simp))
        have HKM0 := hyd hk0
        have hszf := (HLF.o).sizes hN2
        have hpcs := pieces_any (w := wg.alloc (.cells #[] 34)) (HLF.o.st.keep0 HKM.o) (Nat.le_trans hszf.1 (by omega)) (Nat.le_trans hszf.2.2.1 (by omega)) (fun y hy => Nat.le_trans (hszf.2.2.2.1 y hy) (by omega))
        have HPCS := hyd hpcs
        clear hk0 hpcs hszf
        go_upto_region 27 with fail
        go_wp2_with fail
        generalize wg.alloc (.cells #[] 34) = wm at *
        refine HPCS.o.mono ?_
        rintro e wp ⟨pv3, po3, rfl, hpr3, hpo3, hkp3⟩
        obtain ⟨i0, hi, hi0, hi1, hi2⟩ := info_parts exti_info
        have HI := hyd hi
        obtain ⟨NX, hNX⟩ : ∃ z, z = (ckX sp m.man).length := ⟨_, rfl⟩
        have hpr3' : RowE wp pv3 (ckX sp m.man) po3 := hpr3
        obtain ⟨a3, c3, hv3⟩ := hpr3'.form
        rw [← hNX] at hv3
        subst hv3
        have hnx : NX ≤ 100 := by rw [hNX]; exact (HLF.o.sizes hN2).1
        have hnp : NP ≤ 1000000 := by rw [HPR.o.2.2]; exact HSZ.o.1
        have HPF3 := hyd (show Keep [] wf wp from HKM.o.trans hkp3 (by simp))
        have hrd3 : ∃ o, Rd wp 2 (.slice a3 NX c3) NX ((ckX sp m.man).flatMap encE) o := by
         obtain ⟨o, h1, -⟩ := hpr3'.rd
         unfold RdE at h1
         rw [← hNX] at h1
         exact ⟨o, h1⟩
        have hrdP : ∃ o, Rd wp 2 (.slice pa2 NP pc2) NP ((ckX x.ns x.nm.man).flatMap encE) o ∧ ∀ b, o = some b → b < wf.heap.size := by
         obtain ⟨o, h1, h2⟩ := RowE.rd (Row.keep HPF.o HPF3.o (by simp))
         unfold RdE at h1
         rw [← HPR.o.2.2] at h1
         exact ⟨o, h1, fun b hb => (HPN.o b (h2 b hb)).1⟩
        obtain ⟨o33, hrd3⟩ := hrd3
        obtain ⟨oP, hrdP, hoP⟩ := hrdP
        have HRD3 := hyd hrd3
        have HRDP := hyd hrdP
        have HNX := hyd hNX
        have HMD2 := hyd (HMD.o.keep hkp3 (by simp))
        have HKP3 := hyd hkp3
        clear hi hNX hpr3 hpr3' hpo3 hrd3 hrdP hkp3 HPCS
        go_wp2_with (at_builtin; refine wpList_append_any _ rfl _ _ 46 46 rfl 34 34 i0 (.agg #[.int .i64 0, .int .i64 0]) 2 16 Tryz.underlying46 Tryz.underlying46 HI.o hi0 hi1 hi2 rfl _ 0 [] (some wg.heap.size) rfl HMD2.o _ rfl NX _ o33 HRD3.o (encX_all _) (by unfold maxLen; omega) (by omega) ?_)
        intro v4 o4 w4 hr4 hk4 ho4
        try simp only [Nat.zero_add, List.nil_append] at hr4
        obtain ⟨oo4, ⟨-, a4, c4, hv4, -⟩, -⟩ := hr4.rd
        subst hv4
        have hg4 : ∀ b ∈ [wg.heap.size], wf.heap.size ≤ b := fun b hb => by rw [List.mem_singleton.1 hb]; exact HKG.o.size
        have HK4 := hyd (show Keep [] wf w4 from HPF3.o.trans hk4 (fun b hb => .inr (hg4 b (by simpa using hb))))
        have HRDP4 := hyd (HRDP.o.keep hk4 (fun b hb hm => by have h1 := hoP b hb; have h2 := hg4 b (by simpa using hm); omega))
        have HR4 := hyd hr4
        have HK4G := hyd (show Keep [wg.heap.size] wp w4 from hk4)
        have HO4 := hyd (show ∀ b, o4 = some b → wg.heap.size ≤ b from fun b hb => by
          rcases ho4 b hb with h | h
          · cases h; exact Nat.le_refl _
          · have := HKP3.o.size; have := HKM0.o.size; omega)
        clear hr4 hk4 ho4 hg4
        try simp only [Nat.zero_add]
        go_wp2_with (at_builtin; refine wpList_append_any _ rfl _ _ 46 46 rfl 34 34 i0 (.agg #[.int .i64 0, .int .i64 0]) 2 16 Tryz.underlying46 Tryz.underlying46 HI.o hi0 hi1 hi2 rfl _ NX _ o4 rfl HR4.o _ rfl NP _ oP HRDP4.o (encX_all _) (by unfold maxLen; omega) (by omega) ?_)
        intro v5 o5 w5 hr5 hk5 ho5
        have hkg5 : Keep [] wg w5 := ((HKM0.o.trans HKP3.o (by simp)).trans HK4G.o (fun b hb => .inr (by rw [List.mem_singleton.1 hb]; exact Nat.le_refl _))).trans hk5 (fun b hb => .inr (HO4.o b (by simpa using hb)))
        have hrow5 : RowE w5 v5 (ckX sp m.man ++ ckX x.ns x.nm.man) o5 := by
         unfold RowE
         rw [List.flatMap_append, List.length_append, ← HNX.o, ← HPR.o.2.2]
         exact hr5
        obtain ⟨a5', c5', hv5'⟩ := hrow5.form
        obtain ⟨NB, hNB⟩ : ∃ z, z = (ckX sp m.man ++ ckX x.ns x.nm.man).length := ⟨_, rfl⟩
        rw [← hNB] at hv5'
        subst hv5'
        have hNBb : NB ≤ 1000000 := by
         rw [hNB, List.length_append]
         have h1 := (HLF.o.sizes hN2).1
         have h2 := (HLWR.o.sizes hN2).1
         exact Nat.le_trans (Nat.add_le_add h1 h2) (by omega)
        have HR5 := hyd hrow5
        have HKG5 := hyd hkg5
        have HNB := hyd (And.intro hNB hNBb)
        have HL5 := hyd (HLF.o.keep (HKG.o.trans hkg5 (by simp)))
        have HHB := hyd (fun (W : World) (hW : Keep [] w5 W) => (show HasE W (.slice a5' NB c5') (ckX sp m.man ++ ckX x.ns x.nm.man) from by
          have hr := Row.keep HR5.o hW (by simp)
          obtain ⟨o, h1, h2⟩ := RowE.rd hr
          exact ⟨o, h1, fun b hb => Row.lt hr b (h2 b hb)⟩))
        have HHF := hyd (fun (W : World) (hW : Keep [] w5 W) => (show HasE W (.slice fa NF fc) out from by
          have hr := Row.keep HFR.o.1 (HKG5.o.trans hW (by simp)) (by simp)
          obtain ⟨o, h1, h2⟩ := RowE.rd hr
          exact ⟨o, h1, fun b hb => Row.lt hr b (h2 b hb)⟩))
        have hafr := fun (j : Nat) (hj : j < N) => apart_free HLF.o.inv HFR.o.2.1 (j := j) (by rw [HLF.o.n]; exact hj)
        have HAFR := hyd hafr
        have HNFb := hyd (show out.length ≤ 1000000 from by
          have h1 := disj_len (n := d'.n) HFR.o.2.1.1.disj (fun e he => by
            have h1 := HFR.o.2.1.1.pos e he
            have h2 := (HFR.o.2.1.2.2 e.1).1 ⟨e, he, by unfold covers; omega⟩
            have h3 := (HFR.o.2.1.2.2 (e.1 + e.2 - 1)).1 ⟨e, he, by unfold covers; omega⟩
            omega)
          have h2 := HLF.o.n
          omega)
        clear hr5 hk5 ho5 hrow5 hkg5 hNB hNBb hafr
        go_wp2_with fail
        go_loopw [20] (fun j wr => ∃ (jn : Nat), jn ≤ N ∧ j = .int .i64 jn ∧ Keep [] w5 wr) (fun j _ => N - (intOf j).toNat)
        case atStart => exact ⟨0, Nat.zero_le _, rfl, Keep.refl _ _⟩
        case round =>
         obtain ⟨tn, ht, rfl, hkt⟩ := hrel
         have HKT := hyd hkt
         clear hkt
         by_cases htl : tn < N
         ·have hp : out.any (hasE tn) = !(decide ((tn : Int) < 2) || ([x.area].any (hasE tn) || (ckX sp m.man ++ ckX x.ns x.nm.man).any (hasE tn))) := HAFR.o tn htl
          have ht0 : (0 : Int) ≤ (tn : Int) := by omega
          have ht1 : (tn : Int) < (N : Int) := by omega
          obtain ⟨B, hB⟩ : ∃ z, z = [x.area].any (hasE tn) := ⟨_, rfl⟩
          obtain ⟨C, hC⟩ : ∃ z, z = (ckX sp m.man ++ ckX x.ns x.nm.man).any (hasE tn) := ⟨_, rfl⟩
          rw [← hB, ← hC] at hp
          by_cases h2 : (tn : Int) < 2
          ·rw [decide_eq_true h2, Bool.true_or, Bool.not_true] at hp
           have HP := hyd hp
           clear hp hB hC
           go_wp2_with fail
           have hh := r_has (w := _) (l := out) (HHF.o _ HKT.o) (by have := HNB.o; have := HNFb.o; first | omega | simp) (tn : Int) (by omega) (by omega)
           rw [HP.o] at hh
           refine hh.mono ?_
           rintro e we ⟨rfl, hkwe⟩
           have HKwe := hyd ((HKT.o).trans hkwe (by simp))
           clear hkwe hh
           go_wp2_with fail
           go_roundw
           case rel => exact ⟨tn + 1, by omega, by go_num, HKwe.o⟩
           case measure => show N - (tn + 1) < N - tn; omega
          ·rw [decide_eq_false h2, Bool.false_or] at hp
           have HB1 := hyd hB
           have HC1 := hyd hC
           have HP := hyd hp
           clear hp hB hC
           go_wp2_with fail
           refine (st_area (HL5.o.st.keep0 HKT.o)).mono ?_
           rintro e wa ⟨rfl, hka⟩
           have HKA := hyd (HKT.o.trans hka (by simp))
           clear hka
           unfold aggE
           have hkA : Keep [] wa (wa.alloc (.cells #[.int .i64 x.area.1, .int .i64 x.area.2] 34)) := (Keep.refl [] wa).alloc _
           have HKA2 := hyd (HKA.o.trans hkA (by simp))
           have HLT := hyd (has_lit1 wa x.area.1 x.area.2 34)
           clear hkA
           go_wp2_with fail
           generalize wa.alloc (.cells #[.int .i64 x.area.1, .int .i64 x.area.2] 34) = wi at *
           have hh := r_has (w := wi) (l := [(x.area.1, x.area.2)]) HLT.o (by simp) (tn : Int) (by omega) (by omega)
           rw [show ([(x.area.1, x.area.2)] : List E) = [x.area] from rfl, ← HB1.o] at hh
           refine hh.mono ?_
           rintro e wj ⟨rfl, hkj⟩
           have HKwj := hyd (HKA2.o.trans hkj (by simp))
           clear hkj hh
           cases B with
           | true =>
            have HP2 := hyd (show out.any (hasE tn) = false from by rw [HP.o]; rfl)
            go_wp2_with fail
            have hh := r_has (w := _) (l := out) (HHF.o _ HKwj.o) (by have := HNB.o; have := HNFb.o; first | omega | simp) (tn : Int) (by omega) (by omega)
            rw [HP2.o] at hh
            refine hh.mono ?_
            rintro e we ⟨rfl, hkwe⟩
            have HKwe := hyd ((HKwj.o).trans hkwe (by simp))
            clear hkwe hh
            go_wp2_with fail
            go_roundw
            case rel => exact ⟨tn + 1, by omega, by go_num, HKwe.o⟩
            case measure => show N - (tn + 1) < N - tn; omega
           | false =>
            go_wp2_with fail
            have hh := r_has (w := _) (l := ckX sp m.man ++ ckX x.ns x.nm.man) (HHB.o _ HKwj.o) (by have := HNB.o; have := HNFb.o; first | omega | simp) (tn : Int) (by omega) (by omega)
            rw [← HC1.o] at hh
            refine hh.mono ?_
            rintro e wk ⟨rfl, hkwk⟩
            have HKwk := hyd ((HKwj.o).trans hkwk (by simp))
            clear hkwk hh
            go_wp2_with fail
            cases C with
            | true =>
             have HP2 := hyd (show out.any (hasE tn) = false from by rw [HP.o]; rfl)
             try go_wp2_with fail
             have hh := r_has (w := _) (l := out) (HHF.o _ HKwk.o) (by have := HNB.o; have := HNFb.o; first | omega | simp) (tn : Int) (by omega) (by omega)
             rw [HP2.o] at hh
             refine hh.mono ?_
             rintro e we ⟨rfl, hkwe⟩
             have HKwe := hyd ((HKwk.o).trans hkwe (by simp))
             clear hkwe hh
             go_wp2_with fail
             go_roundw
             case rel => exact ⟨tn + 1, by omega, by go_num, HKwe.o⟩
             case measure => show N - (tn + 1) < N - tn; omega
            | false =>
             have HP2 := hyd (show out.any (hasE tn) = true from by rw [HP.o]; rfl)
             try go_wp2_with fail
             have hh := r_has (w := _) (l := out) (HHF.o _ HKwk.o) (by have := HNB.o; have := HNFb.o; first | omega | simp) (tn : Int) (by omega) (by omega)
             rw [HP2.o] at hh
             refine hh.mono ?_
             rintro e we ⟨rfl, hkwe⟩
             have HKwe := hyd ((HKwk.o).trans hkwe (by simp))
             clear hkwe hh
             go_wp2_with fail
             go_roundw
             case rel => exact ⟨tn + 1, by omega, by go_num, HKwe.o⟩
             case measure => show N - (tn + 1) < N - tn; omega
         ·obtain rfl : tn = N := by omega
          have HKF5 := hyd ((HKG.o.trans HKG5.o (by simp)).trans HKT.o (by simp))
          have HLZ := hyd (HL5.o.keep HKT.o)
          go_wp2_with fail
          go_roundw
          case rel =>
           have hr := Row.keep HPF.o HKF5.o (by simp)
           obtain ⟨oz, hz1, hz2⟩ := RowE.rd hr
           exact ⟨k + 1, lF, D', d', _, _, oz, by omega, by go_num, HLZ.o, hz1, fun b hb => ⟨Nat.lt_of_lt_of_le (HPN.o b (hz2 b hb)).1 HKF5.o.size, (HPN.o b (hz2 b hb)).2⟩⟩
          case measure => show n - (k + 1) < n - k; omega
    ·obtain rfl : k = n := by omega
     have HKP := hyd HLWR.o.kp
     go_wp2_with fail
     refine live_any.mono ?_
     rintro e wa ⟨rfl, hka⟩
     have HKA := hyd (HKP.o.trans hka (by simp))
     clear hka
     go_wp2_with fail
     go_ret
     exact ⟨rfl, HKA.o⟩
end Go.Proofs.YtimpadpeibgmoaaGreat
