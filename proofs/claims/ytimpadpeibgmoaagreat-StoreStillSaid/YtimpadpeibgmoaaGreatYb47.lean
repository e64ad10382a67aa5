/- A part of the proof (StStill), joined by squeeze2.py. -/
import Derived.Test.YtimpadpeibgmoaaGreatYb46
import Derived.BigQuiet
import Derived.Deep.CutRange
set_option maxHeartbeats 8000000
set_option maxRecDepth 100000
namespace Go.Proofs.YtimpadpeibgmoaaGreat
open Go.RowKit Go.Emb Go.Lib Go.Emb.Ext Go.Shelf
attribute [local go_sem] Oper.semAt_some
theorem still_walk {w : World} {v : Value} {l : List AcV} (h : RdAs w.heap.size w v l) : Calls Tryz.prog 3 #[v] w fun e w' => e = .returned (.bool true) ∧ Keep [] w w' := by
 have hhg := huge_any h
 obtain ⟨va, vc, rfl⟩ := h.form
 have H := hyd h
 obtain ⟨n, hn⟩ : ∃ n, n = l.length := ⟨_, rfl⟩
 have HN := hyd hn
 rw [← hn] at hhg ⊢
 have HH := hyd hhg
 clear h hn hhg
 go_enter Tryz.func3, Tryz.ntmps3
 go_wp2_with fail
 refine HH.o.mono ?_
 rintro e w1 ⟨b, rfl, hb, hk1⟩
 have HK1 := hyd hk1
 clear hk1 HH
 cases b with
 | true =>
  go_wp2_with fail
  refine live_any.mono ?_
  rintro e w2 ⟨rfl, hk2⟩
  have HK2 := hyd (HK1.o.trans hk2 (by simp))
  clear hk2 hb
  go_wp2_with fail
  go_ret
  exact ⟨rfl, HK2.o⟩
 | false =>
  have HNO := hyd (hb rfl)
  have hn40 : n ≤ 40 := by have := HN.o; have := HNO.o.1; omega
  clear hb
  have hnew := p_new (w := w1) (n := 80) (sz := 64) (by omega) (by omega) (by omega) (by omega)
  go_wp2_with fail
  refine hnew.mono ?_
  rintro e w2 ⟨q, D0, rfl, hd1, hD1, hk2⟩
  have hf := st_format (A := 3) hd1 rfl (by show (-1 : Int) < 0; omega) (by show 0 ≤ _; omega) (by omega) (by show 3 + 3 ≤ 80; omega)
  have HF := hyd hf
  have HK2 := hyd (And.intro (HK1.o.trans hk2 (by simp)) (show ∀ b ∈ D0, w.heap.size ≤ b from fun b hb => Nat.le_trans HK1.o.size (hD1 b hb)))
  clear hnew hd1 hD1 hk2 hf
  go_wp2_with fail
  refine HF.o.mono ?_
  rintro e w3 ⟨s, D1, rfl, hs, hst, hD, hk3⟩
  obtain ⟨lm0, d0, hlw⟩ := lw_new (w0 := w) (A := 3) (N := 80) (by omega) (by omega) (by omega) HK2.o.1 HK2.o.2 hs hst hD hk3 (fun _ => [])
  have HLW0 := hyd hlw
  clear hs hst hD hk3 hlw HF HK2
  go_upto_region 7 with (go_at_call 11; refine (pl_num _).mono ?_; rintro e w2 ⟨rfl, rfl⟩)
  go_wp2_with fail
  go_loopw [7] (fun i wr => ∃ (k : Nat) (lm : List Int) (D : List Nat) (d : DS) (x : SV) (im : Int → List UInt8), k ≤ n ∧ i = .int .i64 k ∧ LW w wr s q lm D d x im 80 k) (fun i _ => n - (intOf i).toNat)
  case atStart => exact ⟨0, lm0, D1, d0, _, _, Nat.zero_le _, rfl, HLW0.o⟩
  case round =>
   obtain ⟨k, lm, D, d, x, im, hk, rfl, hlw⟩ := hrel
   have HLWR := hyd hlw
   have HK40 := hyd (show k ≤ 40 by omega)
   clear hlw HLW0
   by_cases hlt : k < n
   ·have HLW := HLWR
    have hl : k < l.length := by have := HN.o; omega
    have hls := H.o.keep HLW.o.kp
    rw [← HN.o] at hls
    obtain ⟨lb, loff, rfl, -, -, -, g2, g3, g4, g5⟩ := hls.at hl
    have hra := hls.2.1 _ (List.getElem_mem hl)
    have hrw := H.o.2.1 _ (List.getElem_mem hl)
    have hsm := HNO.o.2 _ (List.getElem_mem hl)
    obtain ⟨y, hy⟩ : ∃ y, y = l[k] := ⟨_, rfl⟩
    rw [← hy] at g2 g3 g4 g5 hra hsm hrw
    have HRW := hyd hrw
    obtain ⟨pa, pc, aa, ac, da, dc, e1, e2, e3⟩ := hra.forms
    rw [e1] at g2
    rw [e2] at g4
    rw [e3] at g5
    have HRA0 := hyd hra
    have HSM := hyd hsm
    have HY := hyd (show l[k]? = some y from by rw [hy]; exact List.getElem?_eq_getElem hl)
    have HFM := hyd (And.intro e1 (And.intro e2 e3))
    have HG := hyd (And.intro g2 (And.intro g3 (And.intro g4 g5)))
    have j0 : (0 : Int) ≤ (k : Int) := by omega
    have j1 : (k : Int) < (n : Int) := by omega
    clear hls hra hsm hrw hy e1 e2 e3 g2 g3 g4 g5 hl
    have hma := st_manifest HLW.o.st (by have := (HLW.o.sizes (by omega)).2.2.1; omega) (fun z hz => by have := (HLW.o.sizes (by omega)).2.2.2.1 z hz; omega)
    have HMA := hyd hma
    clear hma HLW
    go_wp2_with fail
    refine HMA.o.mono ?_
    rintro e wa ⟨m1, rfl, hman1, -, hmr1, hka⟩
    obtain ⟨⟨ra1, rc1, hrv1⟩, va1, vc1, hpv1⟩ := hmr1.forms
    obtain ⟨n1, hn1⟩ : ∃ z, z = m1.places.length := ⟨_, rfl⟩
    rw [← hn1] at hpv1
    have hag1 : aggM m1 = .agg #[.string m1.s, .int .i64 m1.area.1, .int .i64 m1.area.2, .slice ra1 m1.rest.length rc1, .slice va1 n1 vc1] := by unfold aggM; rw [hrv1, hpv1]
    rw [hag1]
    have hkb : Keep [] wa (wa.alloc (.cells #[.string m1.s, .int .i64 m1.area.1, .int .i64 m1.area.2, .slice ra1 m1.rest.length rc1, .slice va1 n1 vc1] 38)) := (Keep.refl [] wa).alloc _
    have HB1 := hyd (heap_new wa (.cells #[.string m1.s, .int .i64 m1.area.1, .int .i64 m1.area.2, .slice ra1 m1.rest.length rc1, .slice va1 n1 vc1] 38))
    have HM1 := hyd (And.intro hman1 (And.intro (hmr1.keep hkb (by simp)) (And.intro hn1 (And.intro hag1 hpv1))))
    have HKB := hyd (hka.trans hkb (by simp))
    have HSA := hyd hka.size
    clear hman1 hmr1 hka hrv1 hpv1 hn1 hag1 hkb HMA
    go_upto_region 11 with fail
    generalize wa.alloc (.cells #[.string m1.s, .int .i64 m1.area.1, .int .i64 m1.area.2, .slice ra1 m1.rest.length rc1, .slice va1 n1 vc1] 38) = wb at *
    have hB8 : wr.heap.size ≤ wa.heap.size := HSA.o
    generalize wa.heap.size = B8 at *
    have HE0 := hyd hB8
    clear hB8
    have HLW := hyd (HLWR.o.keep HKB.o)
    have HRA := hyd (HRA0.o.keep HKB.o)
    have HAC := hyd (And.intro (HKB.o.cellOf HG.o.1 (by simp)) (And.intro (HKB.o.cellOf HG.o.2.1 (by simp)) (And.intro (HKB.o.cellOf HG.o.2.2.1 (by simp)) (HKB.o.cellOf HG.o.2.2.2 (by simp)))))
    refine wp_regionB [10, 15, 20, 21] (fun W => Keep [] wb W) (by kernel_rfl) ?_
    have HKD := hyd (show Keep [] wb wb.drew from (Keep.refl [] wb).drew)
    generalize wb.drew = wd at *
    refine wpAnyB_takeY (i := 0) (v := ?vA0) rfl (by kernel_rfl) (by kernel_rfl) (by kernel_rfl) (by kernel_rfl) (fun _ _ _ h => h) (Or.inl ⟨by kernel_rfl, ?runA0⟩) ?_
    case runA0 => (intro w9 _; go_simp; try exact rfl)
    try simp only [Act.put, lA, lZ, lS]
    refine wpAnyB_takeY (i := 1) (v := ?vA1) rfl (by kernel_rfl) (by kernel_rfl) (by kernel_rfl) (by kernel_rfl) (fun _ _ _ h => h) (Or.inl ⟨by kernel_rfl, ?runA1⟩) ?_
    case runA1 => (intro w9 _; go_simp; try exact rfl)
    try simp only [Act.put, lA, lZ, lS]
    refine wpAnyB_takeY (i := 2) (v := ?vA2) rfl (by kernel_rfl) (by kernel_rfl) (by kernel_rfl) (by kernel_rfl) (fun _ _ _ h => h) (Or.inl ⟨by kernel_rfl, ?runA2⟩) ?_
    case runA2 => (intro w9 _; go_simp; try exact rfl)
    try simp only [Act.put, lA, lZ, lS]
    refine wpAnyB_takeY (i := 3) (v := ?vA3) rfl (by kernel_rfl) (by kernel_rfl) (by kernel_rfl) (by kernel_rfl) (fun _ _ _ h => h) (Or.inl ⟨by kernel_rfl, ?runA3⟩) ?_
    case runA3 => (intro w9 _; go_simp; try exact rfl)
    try simp only [Act.put, lA, lZ, lS]
    refine wpAnyB_takeY (i := 4) (v := ?vA4) rfl (by kernel_rfl) (by kernel_rfl) (by kernel_rfl) (by kernel_rfl) (fun _ _ _ h => h) (Or.inl ⟨by kernel_rfl, ?runA4⟩) ?_
    case runA4 => (intro w9 _; go_simp; try exact rfl)
    try simp only [Act.put, lA, lZ, lS]
    refine wpAnyB_takeY (i := 6) (v := ?vA6) rfl (by kernel_rfl) (by kernel_rfl) (by kernel_rfl) (by kernel_rfl) (fun _ _ _ h => h) (Or.inl ⟨by kernel_rfl, ?runA6⟩) ?_
    case runA6 => (intro w9 _; go_simp; try exact rfl)
    try simp only [Act.put, lA, lZ, lS]
    refine wpAnyB_takeY (i := 7) (v := ?vA7) rfl (by kernel_rfl) (by kernel_rfl) (by kernel_rfl) (by kernel_rfl) (fun _ _ _ h => h) (Or.inl ⟨by kernel_rfl, ?runA7⟩) ?_
    case runA7 => (intro w9 _; go_simp; try exact rfl)
    try simp only [Act.put, lA, lZ, lS]
    refine wpAnyB_takeY (i := 8) (v := ?vA8) rfl (by kernel_rfl) (by kernel_rfl) (by kernel_rfl) (by kernel_rfl) (fun _ _ _ h => h) (Or.inl ⟨by kernel_rfl, ?runA8⟩) ?_
    case runA8 => (intro w9 _; go_simp; try exact rfl)
    try simp only [Act.put, lA, lZ, lS]
    refine wpAnyB_takeY (i := 9) (v := ?vA9) rfl (by kernel_rfl) (by kernel_rfl) (by kernel_rfl) (by kernel_rfl) (fun _ _ _ h => h) (Or.inl ⟨by kernel_rfl, ?runA9⟩) ?_
    case runA9 => (intro w9 _; go_simp; try exact rfl)
    try simp only [Act.put, lA, lZ, lS]
    refine wpAnyB_takeY (i := 11) (v := ?vA11) rfl (by kernel_rfl) (by kernel_rfl) (by kernel_rfl) (by kernel_rfl) (fun _ _ _ h => h) (Or.inl ⟨by kernel_rfl, ?runA11⟩) ?_
    case runA11 => (intro w9 _; go_simp; try exact rfl)
    try simp only [Act.put, lA, lZ, lS]
    refine wpAnyB_takeY (i := 12) (v := ?vA12) rfl (by kernel_rfl) (by kernel_rfl) (by kernel_rfl) (by kernel_rfl) (fun _ _ _ h => h) (Or.inl ⟨by kernel_rfl, ?runA12⟩) ?_
    case runA12 => (intro w9 _; go_simp; try exact rfl)
    try simp only [Act.put, lA, lZ, lS]
    refine wpAnyB_takeY (i := 13) (v := ?vA13) rfl (by kernel_rfl) (by kernel_rfl) (by kernel_rfl) (by kernel_rfl) (fun _ _ _ h => h) (Or.inl ⟨by kernel_rfl, ?runA13⟩) ?_
    case runA13 => (intro w9 _; go_simp; try exact rfl)
    try simp only [Act.put, lA, lZ, lS]
    refine wpAnyB_takeY (i := 14) (v := ?vA14) rfl (by kernel_rfl) (by kernel_rfl) (by kernel_rfl) (by kernel_rfl) (fun _ _ _ h => h) (Or.inl ⟨by kernel_rfl, ?runA14⟩) ?_
    case runA14 => (intro w9 _; go_simp; try exact rfl)
    try simp only [Act.put, lA, lZ, lS]
    refine wpAnyB_takeY (i := 16) (v := ?vA16) rfl (by kernel_rfl) (by kernel_rfl) (by kernel_rfl) (by kernel_rfl) (fun _ _ _ h => h) (Or.inl ⟨by kernel_rfl, ?runA16⟩) ?_
    case runA16 => (intro w9 _; go_simp; try exact rfl)
    try simp only [Act.put, lA, lZ, lS]
    refine wpAnyB_takeY (i := 17) (v := ?vA17) rfl (by kernel_rfl) (by kernel_rfl) (by kernel_rfl) (by kernel_rfl) (fun _ _ _ h => h) (Or.inl ⟨by kernel_rfl, ?runA17⟩) ?_
    case runA17 => (intro w9 _; go_simp; try exact rfl)
    try simp only [Act.put, lA, lZ, lS]
    refine wpAnyB_takeY (i := 18) (v := ?vA18) rfl (by kernel_rfl) (by kernel_rfl) (by kernel_rfl) (by kernel_rfl) (fun _ _ _ h => h) (Or.inl ⟨by kernel_rfl, ?runA18⟩) ?_
    case runA18 => (intro w9 _; go_simp; try exact rfl)
    try simp only [Act.put, lA, lZ, lS]
    refine wpAnyB_takeY (i := 19) (v := ?vA19) rfl (by kernel_rfl) (by kernel_rfl) (by kernel_rfl) (by kernel_rfl) (fun _ _ _ h => h) (Or.inl ⟨by kernel_rfl, ?runA19⟩) ?_
    case runA19 => (intro w9 _; go_simp; try exact rfl)
    try simp only [Act.put, lA, lZ, lS]
    refine wpAnyB_take [10, 15, 20, 21] (i := 5) (v := ?vA5) rfl (by kernel_rfl) (by kernel_rfl) (by kernel_rfl) (by kernel_rfl) (by kernel_rfl) (fun _ _ _ h => h) (Or.inl ⟨by kernel_rfl, ?runA5⟩) (HKD.o) ?_
    case runA5 => (intro w9 hS9; obtain ⟨q2, q3, q4, q5⟩ := And.intro (hS9.cellOf HAC.o.1 (by simp)) (And.intro (hS9.cellOf HAC.o.2.1 (by simp)) (And.intro (hS9.cellOf HAC.o.2.2.1 (by simp)) (hS9.cellOf HAC.o.2.2.2 (by simp)))); go_simp; try exact rfl)
    try simp only [Act.put, lA, lZ, lS]
    refine wpAnyB_take [15, 20, 21] (i := 10) (v := ?vA10) rfl (by kernel_rfl) (by kernel_rfl) (by kernel_rfl) (by kernel_rfl) (by kernel_rfl) (fun _ _ _ h => h) (Or.inl ⟨by kernel_rfl, ?runA10⟩) (HKD.o) ?_
    case runA10 => (intro w9 hS9; obtain ⟨q2, q3, q4, q5⟩ := And.intro (hS9.cellOf HAC.o.1 (by simp)) (And.intro (hS9.cellOf HAC.o.2.1 (by simp)) (And.intro (hS9.cellOf HAC.o.2.2.1 (by simp)) (hS9.cellOf HAC.o.2.2.2 (by simp)))); go_simp; try exact rfl)
    try simp only [Act.put, lA, lZ, lS]
    refine wpAnyB_take [20, 21] (i := 15) (v := ?vA15) rfl (by kernel_rfl) (by kernel_rfl) (by kernel_rfl) (by kernel_rfl) (by kernel_rfl) (fun _ _ _ h => h) (Or.inl ⟨by kernel_rfl, ?runA15⟩) (HKD.o) ?_
    case runA15 => (intro w9 hS9; obtain ⟨q2, q3, q4, q5⟩ := And.intro (hS9.cellOf HAC.o.1 (by simp)) (And.intro (hS9.cellOf HAC.o.2.1 (by simp)) (And.intro (hS9.cellOf HAC.o.2.2.1 (by simp)) (hS9.cellOf HAC.o.2.2.2 (by simp)))); go_simp; try exact rfl)
    try simp only [Act.put, lA, lZ, lS]
    refine wpAnyB_take [] (i := 20) (v := ?vA20) rfl (by kernel_rfl) (by kernel_rfl) (by kernel_rfl) (by kernel_rfl) (by kernel_rfl) (fun _ _ _ h => h) (Or.inl ⟨by kernel_rfl, ?runA20⟩) (HKD.o) ?_
    case runA20 => (intro w9 hS9; obtain ⟨q2, q3, q4, q5⟩ := And.intro (hS9.cellOf HAC.o.1 (by simp)) (And.intro (hS9.cellOf HAC.o.2.1 (by simp)) (And.intro (hS9.cellOf HAC.o.2.2.1 (by simp)) (hS9.cellOf HAC.o.2.2.2 (by simp)))); go_simp; try exact rfl)
    try simp only [Act.put, lA, lZ, lS]
    refine rdB 21 rfl (fun K hK => ?_)
    go_simp
    have him := images_any (w := wd) (HRA.o.2.2.2.2.2.keep HKD.o) (by have := HSM.o.2.2.2.1; omega) (fun z hz => by have := HSM.o.2.2.2.2 z hz; omega)
    rw [HFM.o.2.2] at him
    refine him.mono ?_
    rintro e we ⟨iv, ims, rfl, hir, hil, hke⟩
    obtain ⟨ia, ic, hiv⟩ := hir.form
    have hlen := imL_len hil
    rw [hlen] at hiv
    subst hiv
    have HKE := hyd (HKD.o.trans hke (by simp))
    have HIR := hyd hir
    have HIL := hyd (And.intro hil hlen)
    clear hir hil hke hlen him
    go_wp2_with fail
    refine hK.out _ _ (fun h => HKE.o) ?_
    clear hK K
    try simp only [Act.put, lA, lZ, lS]
    refine rdB 22 rfl (fun K hK => ?_)
    go_simp
    have hlw := HLW.o.keep HKE.o
    have hsv := lw_save hlw HK40.o (by omega) (HRA.o.2.2.2.2.1.keep HKE.o) (by have := HSM.o.2.2.1; omega) (HIR.o.mono (T := fun c => c ∉ s :: D) (fun c _ hc hm => by have := HLW.o.lt c hm; have := HKD.o.size; omega)) (by have := HIL.o.2; have := HSM.o.2.2.2.1; omega) (imL_len' HIL.o.1 (fun z hz => by have := HSM.o.2.2.2.2 z hz; omega)) ((HRA.o.keep HKE.o).2.2.1) (by have := HSM.o.1; omega) (src := y.src) (by have := HSM.o.2.1; omega)
    rw [HFM.o.1, HFM.o.2.1] at hsv
    refine hsv.mono ?_
    rintro e wf ⟨c, rfl, hpost⟩
    have HPO := hyd hpost
    clear hsv hlw hpost
    go_wp2_with fail
    refine hK.out _ _ (fun h => (nomatch h)) ?_
    clear hK K
    try simp only [Act.put, lA, lZ, lS]
    refine wpAnyB_takeY (i := 23) (v := ?vA23) rfl (by kernel_rfl) (by kernel_rfl) (by kernel_rfl) (by kernel_rfl) (fun _ _ _ h => h) (Or.inl ⟨by kernel_rfl, ?runA23⟩) ?_
    case runA23 => (intro w9 _; go_simp; try exact rfl)
    try simp only [Act.put, lA, lZ, lS]
    refine wpAnyB_done (by kernel_rfl) ?_ _
    have HE1 := hyd (And.intro HE0.o HKB.o)
    rcases HPO.o with ⟨hc, hl2, hkf⟩ | ⟨rfl, hrt, f0, tk, m, sp, pv, D', d', hf0, hpi, hsg, hmp, hl2, hDD, hkf⟩
    ·have HL2 := hyd hl2
     have hc0 : ¬ c = 0 := hc
     clear hl2 hkf HPO
     go_wp2_with (go_at_call 11; refine (pl_num _).mono ?_; rintro e w2 ⟨rfl, rfl⟩)
     go_roundw
     case rel => exact ⟨k + 1, lm, D, d, x, im, by omega, by go_num, HL2.o.more (by omega)⟩
     case measure => show n - (k + 1) < n - k; omega
    ·have HL2 := hyd hl2
     have HRT := hyd hrt
     have HPI := hyd hpi
     have HF0 := hyd hf0
     have HMP := hyd hmp
     have hnB : B8 ∉ s :: D := fun hm => by have := HLWR.o.lt B8 hm; have := HE0.o; omega
     have hb1f := blkk (blkk HB1.o HKE.o (by simp)) hkf hnB
     have hm1f := (HM1.o.2.1.keep HKE.o (by simp)).keep hkf (fun b hb _ hw => by have := HLWR.o.lt b hb; omega)
     have HB1F := hyd hb1f
     have HM1F := hyd hm1f
     have hma := st_manifest hl2.st (by have := (hl2.sizes (by omega)).2.2.1; omega) (fun z hz => by have := (hl2.sizes (by omega)).2.2.2.1 z hz; omega)
     have HMA := hyd hma
     clear hl2 hrt hpi hf0 hmp hkf hDD hsg hnB hb1f hm1f hma HPO HLW
     go_wp2_with (go_at_call 11; refine (pl_num _).mono ?_; rintro e w2 ⟨rfl, rfl⟩)
     refine HMA.o.mono ?_
     rintro e wg ⟨m2, rfl, hman2, -, hmr2, hkg⟩
     obtain ⟨⟨ra2, rc2, hrv2⟩, va2, vc2, hpv2⟩ := hmr2.forms
     obtain ⟨n2, hn2⟩ : ∃ z, z = m2.places.length := ⟨_, rfl⟩
     rw [← hn2] at hpv2
     have hag2 : aggM m2 = .agg #[.string m2.s, .int .i64 m2.area.1, .int .i64 m2.area.2, .slice ra2 m2.rest.length rc2, .slice va2 n2 vc2] := by unfold aggM; rw [hrv2, hpv2]
     rw [hag2]
     have hkh : Keep [] wg (wg.alloc (.cells #[.string m2.s, .int .i64 m2.area.1, .int .i64 m2.area.2, .slice ra2 m2.rest.length rc2, .slice va2 n2 vc2] 38)) := (Keep.refl [] wg).alloc _
     have HB2 := hyd (heap_new wg (.cells #[.string m2.s, .int .i64 m2.area.1, .int .i64 m2.area.2, .slice ra2 m2.rest.length rc2, .slice va2 n2 vc2] 38))
     have HM2 := hyd (And.intro hman2 (And.intro (hmr2.keep hkh (by simp)) (And.intro hn2 hpv2)))
     have HKH := hyd (hkg.trans hkh (by simp))
     clear hman2 hmr2 hkg hrv2 hpv2 hn2 hag2 hkh HMA
     go_upto_region 14 with fail
     generalize wg.alloc (.cells #[.string m2.s, .int .i64 m2.area.1, .int .i64 m2.area.2, .slice ra2 m2.rest.length rc2, .slice va2 n2 vc2] 38) = wh at *
     generalize wg.heap.size = B10 at *
     have HLH := hyd (HL2.o.keep HKH.o)
     have HB1H := hyd (blkk HB1F.o HKH.o (by simp))
     have HM1H := hyd (HM1F.o.keep HKH.o (by simp))
     have hlen2 : n2 = y.alive.length := by
      have h1 := congrArg (fun z : Man => z.places.length) HM2.o.1
      unfold MnV.man at h1
      simp only [List.length_map] at h1
      rw [HMP.o, List.length_map] at h1
      have := HM2.o.2.2.1
      omega
     have hn2b : n2 ≤ 1000 := by
      have h1 := (HLH.o.inv.places).1
      have h2 := HLH.o.n
      have h3 := congrArg (fun z : Man => z.places.length) HM2.o.1
      unfold MnV.man at h3 h1
      simp only [List.length_map] at h3 h1
      have h4 := HM2.o.2.2.1
      omega
     have hlw2 := HLH.o
     have hls := H.o.keep HLH.o.kp
     have hl : k < l.length := by have := HN.o; omega
     obtain ⟨b1, b2, e12, -, -, -, -, -, q4, q5⟩ := (show RdAs w.heap.size wh (.slice (some ⟨lb, loff, none⟩) n vc) l from by rw [HN.o]; exact hls).at hl
     simp only [Option.some.injEq, Addr.mk.injEq, and_true] at e12
     obtain ⟨rfl, rfl⟩ := e12
     have ey : l[k] = y := by have := HY.o; rw [List.getElem?_eq_getElem hl] at this; exact Option.some.inj this
     rw [ey] at q4 q5
     rw [HFM.o.2.1] at q4
     rw [HFM.o.2.2] at q5
     have HG2 := hyd (And.intro q4 q5)
     have HL22 := hyd hlen2
     clear hlw2 hls hl hlen2 ey
     obtain ⟨g0, g1, g2, g3, g4⟩ := cells5 HB2.o
     have j4 : (n2 : Int) = (y.alive.length : Nat) := by have := HL22.o; omega
     go_quiet (fail)
     go_wp2_with fail
     go_loopw [11] (fun i wx => ∃ (j : Nat), j ≤ n2 ∧ i = .int .i64 j ∧ Keep [] wh wx) (fun i _ => n2 - (intOf i).toNat)
     case atStart => exact ⟨0, Nat.zero_le _, rfl, by first | exact Keep.drewN (Keep.refl [] wh) _ | exact (Keep.refl [] wh).drew⟩
     case round =>
      obtain ⟨j, hj, rfl, hkx⟩ := hrel
      have HKX := hyd hkx
      clear hkx g0 g1 g2 g3 g4 q4 q5
      obtain ⟨g0, g1, g2, g3, g4⟩ := cells5 (blkk HB2.o HKX.o (by simp))
      by_cases hlt2 : j < n2
      ·have hjm : j < m2.places.length := by have := HM2.o.2.2.1; omega
       obtain ⟨f0', f1', f2', f3', f4'⟩ := cells5 (blkk HB1H.o HKX.o (by simp))
       have hp2 := (HM2.o.2.1.2.2.2.keep HKX.o (by simp)).rdp
       rw [HM2.o.2.2.2] at hp2
       have hp3 := HM2.o.2.1.2.2.2.2.1 _ (List.getElem_mem hjm)
       have hold := still_old (dirty := ims) HPI.o HMP.o HM1.o.1 HM2.o.1 hjm
       have hnew := fun hn z hz (e0 e1 : E) h0 h1 => still_new (dirty := ims) HLWR.o.inv HPI.o HF0.o HMP.o HM1.o.1 HM2.o.1 hjm hn (z := z) hz (e0 := e0) (e1 := e1) h0 h1
       obtain ⟨pb, poff, rfl, -, p0, p1, p2⟩ := hp2.at hjm
       obtain ⟨yp, hyp⟩ : ∃ z, z = m2.places[j] := ⟨_, rfl⟩
       rw [← hyp] at p0 p1 p2 hp3 hold hnew
       obtain ⟨pid, hpid⟩ : ∃ z, z = yp.p.pid := ⟨_, rfl⟩
       rw [← hpid] at p0 hold hnew
       obtain ⟨ya, yc, hyv, -, -⟩ := hp3.2.2.form
       obtain ⟨ny, hny⟩ : ∃ z, z = yp.p.pieces.length := ⟨_, rfl⟩
       rw [← hny] at hyv
       rw [hyv] at p2
       rw [imL_pid HIL.o.1] at hold hnew
       have HOLD := hyd hold
       have HNEW := hyd hnew
       have HP3 := hyd (And.intro hp3 (And.intro hyv (And.intro hny (And.intro hpid (show m2.places[j]? = some yp from by rw [hyp]; exact List.getElem?_eq_getElem hjm)))))
       have hpi64 : I64 pid := by rw [hpid]; exact hp3.1
       have HPP := hyd (And.intro p0 (And.intro p1 p2))
       have hm1x := (HM1H.o.keep HKX.o (by simp))
       obtain ⟨fa, fb, fv, fn, fc, hff⟩ := find_form hm1x pid
       have HFF := hyd hff
       have HRF := hyd (fun (W : World) (hW : Keep [] wr W) => r_find (w := W) ((hm1x.keep hW (by simp)).rdm) (by have h1 := HM1.o.2.2.1; have h2 := congrArg (fun z : Man => z.places.length) HM1.o.1; unfold MnV.man at h2; simp only [List.length_map] at h2; have := (HLWR.o.sizes (by omega)).2.2.1; omega) hpi64)
       unfold FindP at HRF
       rw [HM1.o.2.2.2.1] at HRF
       simp only [hff] at HRF
       have j5 : (0 : Int) ≤ (j : Int) := by omega
       have j6 : (j : Int) < (n2 : Int) := by omega
       have HGG := hyd (And.intro g4 (And.intro f0' (And.intro f1' (And.intro f2' (And.intro f3' f4')))))
       obtain ⟨had, hhad⟩ : ∃ z, z = (findL m1 pid).isSome := ⟨_, rfl⟩
       rw [← hhad] at HRF
       have HHAD := hyd hhad
       clear hp2 hp3 hold hnew hyp hyv hny hpid hpi64 hm1x hff hjm hhad p0 p1 p2
       clear g0 g1 g2 g3 f0' f1' f2' f3' f4'
       clear j4
       go_upto_region 19 with fail
       clear g4
       go_cut [12, 13] from 88 to 105 (fun s12 s13 wy => ∃ b : Nat, s12 = .pointer (some ⟨b, 0, none⟩) ∧ s13 = .bool had ∧ wr.heap.size ≤ b ∧ wy.heap[b]? = some (.cells #[.int .i64 fa, .int .i64 fb, .slice fv fn fc] 48) ∧ Keep [] wr wy)
       case first =>
        refine wp_regionB [0, 11] (fun W => Keep [] wr W) (by kernel_rfl) ?_
        have HKD := hyd (show Keep [] wr wr.drew from (Keep.refl [] wr).drew)
        generalize wr.drew = wd at *
        refine wpAnyB_takeY (i := 1) (v := ?vF1) rfl (by kernel_rfl) (by kernel_rfl) (by kernel_rfl) (by kernel_rfl) (fun _ _ _ h => h) (Or.inl ⟨by kernel_rfl, ?runF1⟩) ?_
        case runF1 => (intro w9 _; go_simp; try exact rfl)
        try simp only [Act.put, lA, lZ, lS]
        refine wpAnyB_takeY (i := 3) (v := ?vF3) rfl (by kernel_rfl) (by kernel_rfl) (by kernel_rfl) (by kernel_rfl) (fun _ _ _ h => h) (Or.inl ⟨by kernel_rfl, ?runF3⟩) ?_
        case runF3 => (intro w9 _; go_simp; try exact rfl)
        try simp only [Act.put, lA, lZ, lS]
        refine wpAnyB_take [0, 11] (i := 2) (v := ?vF2) rfl (by kernel_rfl) (by kernel_rfl) (by kernel_rfl) (by kernel_rfl) (by kernel_rfl) (fun _ _ _ h => h) (Or.inl ⟨by kernel_rfl, ?runF2⟩) (HKD.o) ?_
        case runF2 => (intro w9 hS9; obtain ⟨q2, q3, q4, q5, q6, q7, q8⟩ := And.intro (hS9.cellOf HGG.o.1 (by simp)) (And.intro (hS9.cellOf HGG.o.2.1 (by simp)) (And.intro (hS9.cellOf HGG.o.2.2.1 (by simp)) (And.intro (hS9.cellOf HGG.o.2.2.2.1 (by simp)) (And.intro (hS9.cellOf HGG.o.2.2.2.2.1 (by simp)) (And.intro (hS9.cellOf HGG.o.2.2.2.2.2 (by simp)) (hS9.cellOf HPP.o.1 (by simp))))))); go_simp; try exact rfl)
        try simp only [Act.put, lA, lZ, lS]
        refine wpAnyB_takeY (i := 4) (v := ?vF4) rfl (by kernel_rfl) (by kernel_rfl) (by kernel_rfl) (by kernel_rfl) (fun _ _ _ h => h) (Or.inl ⟨by kernel_rfl, ?runF4⟩) ?_
        case runF4 => (intro w9 _; go_simp; try exact rfl)
        try simp only [Act.put, lA, lZ, lS]
        refine wpAnyB_takeY (i := 5) (v := ?vF5) rfl (by kernel_rfl) (by kernel_rfl) (by kernel_rfl) (by kernel_rfl) (fun _ _ _ h => h) (Or.inl ⟨by kernel_rfl, ?runF5⟩) ?_
        case runF5 => (intro w9 _; go_simp; try exact rfl)
        try simp only [Act.put, lA, lZ, lS]
        refine wpAnyB_take [0, 11] (i := 6) (v := ?vF6) rfl (by kernel_rfl) (by kernel_rfl) (by kernel_rfl) (by kernel_rfl) (by kernel_rfl) (fun _ _ _ h => h) (Or.inl ⟨by kernel_rfl, ?runF6⟩) (HKD.o) ?_
        case runF6 => (intro w9 hS9; obtain ⟨q2, q3, q4, q5, q6, q7, q8⟩ := And.intro (hS9.cellOf HGG.o.1 (by simp)) (And.intro (hS9.cellOf HGG.o.2.1 (by simp)) (And.intro (hS9.cellOf HGG.o.2.2.1 (by simp)) (And.intro (hS9.cellOf HGG.o.2.2.2.1 (by simp)) (And.intro (hS9.cellOf HGG.o.2.2.2.2.1 (by simp)) (And.intro (hS9.cellOf HGG.o.2.2.2.2.2 (by simp)) (hS9.cellOf HPP.o.1 (by simp))))))); go_simp; try exact rfl)
        try simp only [Act.put, lA, lZ, lS]
        refine wpAnyB_take [11] (i := 0) (v := ?vF0) rfl (by kernel_rfl) (by kernel_rfl) (by kernel_rfl) (by kernel_rfl) (by kernel_rfl) (fun _ _ _ h => h) (Or.inl ⟨by kernel_rfl, ?runF0⟩) (HKD.o) ?_
        case runF0 => (intro w9 hS9; obtain ⟨q2, q3, q4, q5, q6, q7, q8⟩ := And.intro (hS9.cellOf HGG.o.1 (by simp)) (And.intro (hS9.cellOf HGG.o.2.1 (by simp)) (And.intro (hS9.cellOf HGG.o.2.2.1 (by simp)) (And.intro (hS9.cellOf HGG.o.2.2.2.1 (by simp)) (And.intro (hS9.cellOf HGG.o.2.2.2.2.1 (by simp)) (And.intro (hS9.cellOf HGG.o.2.2.2.2.2 (by simp)) (hS9.cellOf HPP.o.1 (by simp))))))); go_simp; try exact rfl)
        try simp only [Act.put, lA, lZ, lS]
        refine wpAnyB_ready (rs := [7, 11]) (by kernel_rfl) (by simp) ?_
        refine AllReadyB.cons rfl (fun K hK => ?_) (AllReadyB.cons rfl (fun K hK => ?_) AllReadyB.nil)
        ·go_simp
         refine (HRF.o _ (HKD.o)).mono ?_
         rintro e wc ⟨hkc, rfl⟩
         have HKC := hyd ((HKD.o).trans hkc (by simp))
         clear hkc
         go_wp2_with fail
         refine hK.out _ _ (fun h => (nomatch h)) ?_
         clear hK K
         try simp only [Act.put, lA, lZ, lS]
         refine wpAnyB_takeY (i := 8) (v := ?vG78) rfl (by kernel_rfl) (by kernel_rfl) (by kernel_rfl) (by kernel_rfl) (fun _ _ _ h => h) (Or.inl ⟨by kernel_rfl, ?runG78⟩) ?_
         case runG78 => (intro w9 _; go_simp; try exact rfl)
         try simp only [Act.put, lA, lZ, lS]
         refine wpAnyB_takeY (i := 9) (v := ?vG79) rfl (by kernel_rfl) (by kernel_rfl) (by kernel_rfl) (by kernel_rfl) (fun _ _ _ h => h) (Or.inl ⟨by kernel_rfl, ?runG79⟩) ?_
         case runG79 => (intro w9 _; go_simp; try exact rfl)
         try simp only [Act.put, lA, lZ, lS]
         refine wpAnyB_takeY (i := 10) (v := ?vG710) rfl (by kernel_rfl) (by kernel_rfl) (by kernel_rfl) (by kernel_rfl) (fun _ _ _ h => h) (Or.inl ⟨by kernel_rfl, ?runG710⟩) ?_
         case runG710 => (intro w9 _; go_simp; try exact rfl)
         try simp only [Act.put, lA, lZ, lS]
         refine rdB 11 rfl (fun K hK => ?_)
         go_simp
         have HKA := hyd (show Keep [] wr (wc.alloc (.cells #[.int .i64 0, .int .i64 0, .slice none 0 0] 48)) from (HKC.o).alloc _)
         have HBQ := hyd (heap_new wc (.cells #[.int .i64 0, .int .i64 0, .slice none 0 0] 48))
         have HSQ := hyd (show wr.heap.size ≤ wc.heap.size from (HKC.o).size)
         generalize wc.alloc (.cells #[.int .i64 0, .int .i64 0, .slice none 0 0] 48) = wq at *
         generalize wc.heap.size = bq at *
         refine hK.out _ _ (fun h => HKA.o) ?_
         clear hK K
         try simp only [Act.put, lA, lZ, lS]
         refine rdB 12 rfl (fun K hK => ?_)
         have HS3 := hyd (set3 HBQ.o (.int .i64 fa) (.int .i64 fb) (.slice fv fn fc))
         obtain ⟨z0, z1, z2⟩ := cells3b HBQ.o
         have fz := frozen4 HBQ.o
         go_simp
         clear z0 z1 z2 fz
         generalize (((wq.setCell ⟨bq, 0, none⟩ (.int .i64 fa)).setCell ⟨bq, 1, none⟩ (.int .i64 fb)).setCell ⟨bq, 2, none⟩ (.slice fv fn fc)) = wz at *
         refine hK.out _ _ (fun h => (nomatch h)) ?_
         clear hK K
         try simp only [Act.put, lA, lZ, lS]
         refine wpAnyB_takeY (i := 13) (v := ?vG713) rfl (by kernel_rfl) (by kernel_rfl) (by kernel_rfl) (by kernel_rfl) (fun _ _ _ h => h) (Or.inl ⟨by kernel_rfl, ?runG713⟩) ?_
         case runG713 => (intro w9 _; go_simp; try exact rfl)
         try simp only [Act.put, lA, lZ, lS]
         refine wpAnyB_done (by kernel_rfl) ?_ _
         go_wp2_with fail
         go_meet
         case rel => exact ⟨bq, rfl, rfl, HSQ.o, HS3.o.1, (HKA.o).trans HS3.o.2 (fun c hc => .inr (by rw [List.mem_singleton.1 hc]; exact HSQ.o))⟩
        ·go_simp
         have HKA := hyd (show Keep [] wr (wd.alloc (.cells #[.int .i64 0, .int .i64 0, .slice none 0 0] 48)) from (HKD.o).alloc _)
         have HBQ := hyd (heap_new wd (.cells #[.int .i64 0, .int .i64 0, .slice none 0 0] 48))
         have HSQ := hyd (show wr.heap.size ≤ wd.heap.size from (HKD.o).size)
         generalize wd.alloc (.cells #[.int .i64 0, .int .i64 0, .slice none 0 0] 48) = wq at *
         generalize wd.heap.size = bq at *
         refine hK.out _ _ (fun h => HKA.o) ?_
         clear hK K
         try simp only [Act.put, lA, lZ, lS]
         refine rdB 7 rfl (fun K hK => ?_)
         go_simp
         refine (HRF.o _ (HKA.o)).mono ?_
         rintro e wc ⟨hkc, rfl⟩
         have HKC := hyd ((HKA.o).trans hkc (by simp))
         have HBQ := hyd (blkk HBQ.o hkc (by simp))
         clear hkc
         go_wp2_with fail
         refine hK.out _ _ (fun h => (nomatch h)) ?_
         clear hK K
         try simp only [Act.put, lA, lZ, lS]
         refine wpAnyB_takeY (i := 8) (v := ?vG118) rfl (by kernel_rfl) (by kernel_rfl) (by kernel_rfl) (by kernel_rfl) (fun _ _ _ h => h) (Or.inl ⟨by kernel_rfl, ?runG118⟩) ?_
         case runG118 => (intro w9 _; go_simp; try exact rfl)
         try simp only [Act.put, lA, lZ, lS]
         refine wpAnyB_takeY (i := 9) (v := ?vG119) rfl (by kernel_rfl) (by kernel_rfl) (by kernel_rfl) (by kernel_rfl) (fun _ _ _ h => h) (Or.inl ⟨by kernel_rfl, ?runG119⟩) ?_
         case runG119 => (intro w9 _; go_simp; try exact rfl)
         try simp only [Act.put, lA, lZ, lS]
         refine wpAnyB_takeY (i := 10) (v := ?vG1110) rfl (by kernel_rfl) (by kernel_rfl) (by kernel_rfl) (by kernel_rfl) (fun _ _ _ h => h) (Or.inl ⟨by kernel_rfl, ?runG1110⟩) ?_
         case runG1110 => (intro w9 _; go_simp; try exact rfl)
         try simp only [Act.put, lA, lZ, lS]
         refine rdB 12 rfl (fun K hK => ?_)
         have HS3 := hyd (set3 HBQ.o (.int .i64 fa) (.int .i64 fb) (.slice fv fn fc))
         obtain ⟨z0, z1, z2⟩ := cells3b HBQ.o
         have fz := frozen4 HBQ.o
         go_simp
         clear z0 z1 z2 fz
         generalize (((wc.setCell ⟨bq, 0, none⟩ (.int .i64 fa)).setCell ⟨bq, 1, none⟩ (.int .i64 fb)).setCell ⟨bq, 2, none⟩ (.slice fv fn fc)) = wz at *
         refine hK.out _ _ (fun h => (nomatch h)) ?_
         clear hK K
         try simp only [Act.put, lA, lZ, lS]
         refine wpAnyB_takeY (i := 13) (v := ?vG1113) rfl (by kernel_rfl) (by kernel_rfl) (by kernel_rfl) (by kernel_rfl) (fun _ _ _ h => h) (Or.inl ⟨by kernel_rfl, ?runG1113⟩) ?_
         case runG1113 => (intro w9 _; go_simp; try exact rfl)
         try simp only [Act.put, lA, lZ, lS]
         refine wpAnyB_done (by kernel_rfl) ?_ _
         go_wp2_with fail
         go_meet
         case rel => exact ⟨bq, rfl, rfl, HSQ.o, HS3.o.1, (HKC.o).trans HS3.o.2 (fun c hc => .inr (by rw [List.mem_singleton.1 hc]; exact HSQ.o))⟩
       case rest =>
        obtain ⟨bq, rfl, rfl, hbq, hbl, hkc⟩ := hcut
        have HBL := hyd hbl
        have HKC := hyd (HKX.o.trans hkc (by simp))
        obtain ⟨nd, hnd⟩ : ∃ z, z = y.dirty.length := ⟨_, rfl⟩
        have HND := hyd hnd
        have hnd40 : nd ≤ 40 := by have := HSM.o.2.2.2.1; omega
        clear hbq hbl hkc hnd
        go_wp2_with fail
        go_loopw [14, 15] (fun dv i wz => ∃ (c : Nat), c ≤ nd ∧ i = .int .i64 c ∧ dv = .bool (decide (∃ z ∈ y.dirty.take c, z.pid = pid)) ∧ Keep [] wc wz) (fun _ i _ => nd - (intOf i).toNat)
        case atStart => exact ⟨0, Nat.zero_le _, rfl, by simp, Keep.refl _ _⟩
        case round =>
         obtain ⟨c, hcn, rfl, rfl, hkz⟩ := hrel
         have HKZ := hyd (HKC.o.trans hkz (by simp))
         have HKY := hyd hkz
         have hkzz := hkz
         clear hkz
         have q5 := HKZ.o.cellOf HG2.o.2 (by simp)
         rw [← HND.o] at q5
         obtain ⟨g0, g1, g2, g3, g4⟩ := cells5 (blkk HB2.o HKZ.o (by simp))
         have hp2 := (HM2.o.2.1.2.2.2.keep HKZ.o (by simp)).rdp
         rw [HM2.o.2.2.2] at hp2
         have hjm : j < m2.places.length := by have := HM2.o.2.2.1; omega
         have j5 : (0 : Int) ≤ (j : Int) := by omega
         have j6 : (j : Int) < (n2 : Int) := by omega
         have ep : m2.places[j] = yp := by have := HP3.o.2.2.2.2; rw [List.getElem?_eq_getElem hjm] at this; exact Option.some.inj this
         obtain ⟨pb2, poff2, e1, -, p0, p1, p2⟩ := hp2.at hjm
         simp only [Option.some.injEq, Addr.mk.injEq, and_true] at e1
         obtain ⟨rfl, rfl⟩ := e1
         rw [ep, ← HP3.o.2.2.2.1] at p0
         rw [ep] at p1
         rw [ep, HP3.o.2.1] at p2
         clear hp2 hjm ep
         by_cases hlt3 : c < nd
         ·have hcl : c < y.dirty.length := by have := HND.o; omega
          have hda := HRW.o.2.2.2.2.2.keep (HLH.o.kp.trans HKZ.o (by simp))
          rw [HFM.o.2.2] at hda
          obtain ⟨db, doff, hdd, -, r0, r1⟩ := hda.at hcl
          subst hdd
          have htk : y.dirty.take (c + 1) = y.dirty.take c ++ [y.dirty[c]] := List.take_succ_eq_append_getElem hcl
          obtain ⟨zp, hzp⟩ : ∃ z, z = y.dirty[c].pid := ⟨_, rfl⟩
          rw [← hzp] at r0
          have HTK := hyd (show ∀ Q : Int → Prop, (∃ z ∈ y.dirty.take (c + 1), Q z.pid) ↔ (∃ z ∈ y.dirty.take c, Q z.pid) ∨ Q zp from fun Q => by
            rw [htk, hzp]
            simp only [List.mem_append, List.mem_singleton]
            exact ⟨fun ⟨z, hz, hq⟩ => by
              rcases hz with hz | hz
              · exact .inl ⟨z, hz, hq⟩
              · exact .inr (hz ▸ hq), fun h => by
              rcases h with ⟨z, hz, hq⟩ | hq
              · exact ⟨z, .inl hz, hq⟩
              · exact ⟨_, .inr rfl, hq⟩⟩)
          have j7 : (0 : Int) ≤ (c : Int) := by omega
          have j8 : (c : Int) < (nd : Int) := by omega
          obtain ⟨bf, hbf⟩ : ∃ z, z = decide (∃ z ∈ y.dirty.take c, z.pid = pid) := ⟨_, rfl⟩
          have HBF := hyd hbf
          rw [← hbf]
          clear hkzz htk hzp hbf hcl hda r1 p1 p2 g0 g1 g2 g3
          cases bf with
          | true =>
           go_upto_region 24 with fail
           go_quiet (fail)
           go_wp2_with fail
           go_roundw
           case rel =>
            refine ⟨c + 1, by omega, by go_num, ?_, by first | exact Keep.drewN HKY.o _ | exact HKY.o.drew⟩
            have := (HTK.o (fun z => z = pid)).2 (.inl (of_decide_eq_true HBF.o.symm))
            rw [decide_eq_true this]
           case measure => show nd - (c + 1) < nd - c; omega
          | false =>
           go_upto_region 24 with fail
           go_quiet (fail)
           go_wp2_with fail
           go_roundw
           case rel =>
            refine ⟨c + 1, by omega, by go_num, ?_, by first | exact Keep.drewN HKY.o _ | exact HKY.o.drew⟩
            have h1 := of_decide_eq_false HBF.o.symm
            by_cases hzz : zp = pid
            ·rw [decide_eq_true ((HTK.o (fun z => z = pid)).2 (.inr hzz))]
             simp [hzz]
            ·rw [decide_eq_false (fun h => by
               rcases (HTK.o (fun z => z = pid)).1 h with h | h
               · exact h1 h
               · exact hzz h)]
             simp [hzz]
           case measure => show nd - (c + 1) < nd - c; omega
         ·obtain rfl : c = nd := by omega
          have hdr : (∃ z ∈ y.dirty.take c, z.pid = pid) ↔ pid ∈ y.dirty.map (·.pid) := by
           rw [List.take_of_length_le (by have := HND.o; omega), List.mem_map]
          have HDR := hyd hdr
          obtain ⟨z0, z1, z2⟩ := cells3b (blkk HBL.o hkzz (by simp))
          by_cases hd : pid ∈ y.dirty.map (·.pid)
          ·have hdt : decide (∃ z ∈ y.dirty.take c, z.pid = pid) = true := decide_eq_true (hdr.2 hd)
           rw [hdt]
           clear hdr hdt
           go_upto_region 25 with fail
           go_quiet (fail)
           go_upto_region 27 with fail
           have HK27 := hyd (show ∀ W, Keep [] wr W → Keep [] wh W from fun W hW => HKZ.o.trans hW (by simp))
           cases had with
           | false =>
            clear z0 z1 z2 g0 g1 g2 g3 g4 p0 p1 p2 q5
            go_quiet (fail)
            go_wp2_with fail
            go_roundw
            case rel => exact ⟨j + 1, by omega, by go_num, by first | exact HK27.o _ (Keep.drewN (Keep.refl [] wr) _) | exact Keep.drewN (HK27.o _ (Keep.drewN (Keep.refl [] wr) _)) _⟩
            case measure => show n2 - (j + 1) < n2 - j; omega
           | true =>
            obtain ⟨zz, hz1⟩ : ∃ zz, findL m1 pid = some zz := by
             have := HHAD.o
             cases hf : findL m1 pid with
             | none => rw [hf] at this; cases this
             | some u => exact ⟨u, rfl⟩
            have e1 : aggP zz = .agg #[.int .i64 fa, .int .i64 fb, .slice fv fn fc] := by have := HFF.o; rw [hz1] at this; exact this
            have ez : zz.v = .slice fv fn fc := by
             unfold aggP at e1
             simp only [Value.agg.injEq, Array.mk.injEq, List.cons.injEq, and_true] at e1
             exact e1.2.2
            have hpz := (HM1H.o.keep HKZ.o (by simp)).2.2.2.2.1 zz (List.mem_of_find?_eq_some hz1)
            have hpy := HP3.o.1.keep HKZ.o (by simp)
            have hzr := hpz.2.2
            have hyr := hpy.2.2
            rw [ez] at hzr
            rw [HP3.o.2.1] at hyr
            have hzl : fn = zz.p.pieces.length := by
             obtain ⟨a, c, h, -⟩ := hzr.form
             injection h
            have hyl := HP3.o.2.2.1
            have hne := HNEW.o hd zz hz1
            obtain ⟨ps0, hps0⟩ : ∃ z, z = zz.p.pieces := ⟨_, rfl⟩
            obtain ⟨ps1, hps1⟩ : ∃ z, z = yp.p.pieces := ⟨_, rfl⟩
            rw [← hps0] at hzr hzl hne
            rw [← hps1] at hyr hyl hne
            clear e1 ez hpz hpy hps0 hps1 g0 g1 g2 g3 p0 p1 q5
            cases ps0 with
            | nil =>
             obtain rfl : fn = 0 := hzl
             clear hzr hyr hne
             go_quiet (fail)
             go_wp2_with fail
             go_roundw
             case rel => exact ⟨j + 1, by omega, by go_num, HK27.o _ (Keep.drewN (Keep.refl [] wr) _)⟩
             case measure => show n2 - (j + 1) < n2 - j; omega
            | cons x0 r0 =>
             have k0 : (0 : Int) < (fn : Int) := by rw [hzl]; simp
             have k0' : 0 < fn := by rw [hzl]; simp
             cases ps1 with
             | nil =>
              obtain rfl : ny = 0 := hyl
              clear hzr hyr hne hzl
              go_quiet (fail)
              go_wp2_with fail
              go_roundw
              case rel => exact ⟨j + 1, by omega, by go_num, HK27.o _ (Keep.drewN (Keep.refl [] wr) _)⟩
              case measure => show n2 - (j + 1) < n2 - j; omega
             | cons x1 r1 =>
              have k1 : (0 : Int) < (ny : Int) := by rw [hyl]; simp
              have k1' : 0 < ny := by rw [hyl]; simp
              have hne0 : ¬ x0.1 = x1.1 := hne x0 x1 (by simp) (by simp)
              obtain ⟨⟨o0, hr0, -⟩, -⟩ := hzr
              obtain ⟨⟨o1, hr1, -⟩, -⟩ := hyr
              obtain ⟨b0, off0, rfl, -, hc0⟩ := rd_at (e := encX) (m := 2) (fun x => rfl) hr0 (k := 0) (by simp) (by decide)
              obtain ⟨b1, off1, rfl, -, hc1⟩ := rd_at (e := encX) (m := 2) (fun x => rfl) hr1 (k := 0) (by simp) (by decide)
              have y0 : wr.cell? ⟨b0, off0, none⟩ = some (.int .i64 x0.1) := by have := hc0 0 (by decide); simpa [encX] using this
              have y1 : wr.cell? ⟨b1, off1, none⟩ = some (.int .i64 x1.1) := by have := hc1 0 (by decide); simpa [encX] using this
              clear hr0 hr1 hc0 hc1 hne hzl hyl
              go_quiet (fail)
              go_wp2_with fail
              go_roundw
              case rel => exact ⟨j + 1, by omega, by go_num, HK27.o _ (Keep.drewN (Keep.refl [] wr) _)⟩
              case measure => show n2 - (j + 1) < n2 - j; omega
          ·have hdt : decide (∃ z ∈ y.dirty.take c, z.pid = pid) = false := decide_eq_false (fun h => hd (hdr.1 h))
           rw [hdt]
           clear hdr hdt
           obtain ⟨zz, hz1, hz2⟩ := HOLD.o hd
           obtain rfl : had = true := by rw [HHAD.o, hz1]; rfl
           go_upto_region 25 with fail
           have HZZ := hyd (And.intro z0 (And.intro z1 (And.intro z2 (And.intro g4 (And.intro p0 (And.intro p1 p2))))))
           have hmz := (HM1H.o.keep HKZ.o (by simp))
           have hpz := hmz.2.2.2.2.1 zz (List.mem_of_find?_eq_some hz1)
           have hpy := HP3.o.1.keep HKZ.o (by simp)
           have hly : yp.p.pieces.length ≤ 100 := by
            have h1 := (HLH.o.inv.places).2 yp.p (by rw [← show m2.man = m.man from HM2.o.1]; exact List.mem_map.2 ⟨yp, List.mem_of_getElem? HP3.o.2.2.2.2, rfl⟩)
            have h2 := HLH.o.n
            omega
           have hsp : ∀ W, Keep [] wr W → Calls Tryz.prog 16 #[.agg #[.int .i64 fa, .int .i64 fb, .slice fv fn fc], .agg #[.int .i64 pid, .int .i64 yp.p.len, .slice ya ny yc]] W fun e w' => e = .returned (.bool true) ∧ Keep [] W w' := fun W hW => by
            have e1 : aggP zz = .agg #[.int .i64 fa, .int .i64 fb, .slice fv fn fc] := by have := HFF.o; rw [hz1] at this; exact this
            have e2 : aggP yp = .agg #[.int .i64 pid, .int .i64 yp.p.len, .slice ya ny yc] := by unfold aggP; rw [HP3.o.2.1, ← HP3.o.2.2.2.1]
            have h3 := r_sameplace (w := W) (B := W.heap.size) (x := zz) (y := yp) ⟨hpz.1, hpz.2.1, (hpz.2.2.keep hW (by simp)).rdx⟩ ⟨hpy.1, hpy.2.1, (hpy.2.2.keep hW (by simp)).rdx⟩ (by rw [hz2]; omega) (by omega)
            rw [e1, e2, (plcB_iff _ _).2 hz2] at h3
            exact h3
           have HSP := hyd hsp
           clear hsp hly hpy hpz hmz z0 z1 z2 g0 g1 g2 g3 g4 p0 p1 p2 q5
           refine wp_regionB [6, 11] (fun W => Keep [] wr W) (by kernel_rfl) ?_
           have HKD := hyd (show Keep [] wr wr.drew from (Keep.refl [] wr).drew)
           generalize wr.drew = wd at *
           refine wpAnyB_takeY (i := 0) (v := ?vH0) rfl (by kernel_rfl) (by kernel_rfl) (by kernel_rfl) (by kernel_rfl) (fun _ _ _ h => h) (Or.inl ⟨by kernel_rfl, ?runH0⟩) ?_
           case runH0 => (intro w9 _; go_simp; try exact rfl)
           try simp only [Act.put, lA, lZ, lS]
           refine wpAnyB_takeY (i := 1) (v := ?vH1) rfl (by kernel_rfl) (by kernel_rfl) (by kernel_rfl) (by kernel_rfl) (fun _ _ _ h => h) (Or.inl ⟨by kernel_rfl, ?runH1⟩) ?_
           case runH1 => (intro w9 _; go_simp; try exact rfl)
           try simp only [Act.put, lA, lZ, lS]
           refine wpAnyB_takeY (i := 2) (v := ?vH2) rfl (by kernel_rfl) (by kernel_rfl) (by kernel_rfl) (by kernel_rfl) (fun _ _ _ h => h) (Or.inl ⟨by kernel_rfl, ?runH2⟩) ?_
           case runH2 => (intro w9 _; go_simp; try exact rfl)
           try simp only [Act.put, lA, lZ, lS]
           refine wpAnyB_takeY (i := 3) (v := ?vH3) rfl (by kernel_rfl) (by kernel_rfl) (by kernel_rfl) (by kernel_rfl) (fun _ _ _ h => h) (Or.inl ⟨by kernel_rfl, ?runH3⟩) ?_
           case runH3 => (intro w9 _; go_simp; try exact rfl)
           try simp only [Act.put, lA, lZ, lS]
           refine wpAnyB_takeY (i := 4) (v := ?vH4) rfl (by kernel_rfl) (by kernel_rfl) (by kernel_rfl) (by kernel_rfl) (fun _ _ _ h => h) (Or.inl ⟨by kernel_rfl, ?runH4⟩) ?_
           case runH4 => (intro w9 _; go_simp; try exact rfl)
           try simp only [Act.put, lA, lZ, lS]
           refine wpAnyB_takeY (i := 5) (v := ?vH5) rfl (by kernel_rfl) (by kernel_rfl) (by kernel_rfl) (by kernel_rfl) (fun _ _ _ h => h) (Or.inl ⟨by kernel_rfl, ?runH5⟩) ?_
           case runH5 => (intro w9 _; go_simp; try exact rfl)
           try simp only [Act.put, lA, lZ, lS]
           refine wpAnyB_takeY (i := 7) (v := ?vH7) rfl (by kernel_rfl) (by kernel_rfl) (by kernel_rfl) (by kernel_rfl) (fun _ _ _ h => h) (Or.inl ⟨by kernel_rfl, ?runH7⟩) ?_
           case runH7 => (intro w9 _; go_simp; try exact rfl)
           try simp only [Act.put, lA, lZ, lS]
           refine wpAnyB_takeY (i := 9) (v := ?vH9) rfl (by kernel_rfl) (by kernel_rfl) (by kernel_rfl) (by kernel_rfl) (fun _ _ _ h => h) (Or.inl ⟨by kernel_rfl, ?runH9⟩) ?_
           case runH9 => (intro w9 _; go_simp; try exact rfl)
           try simp only [Act.put, lA, lZ, lS]
           refine wpAnyB_take [6] (i := 8) (v := ?vH8) rfl (by kernel_rfl) (by kernel_rfl) (by kernel_rfl) (by kernel_rfl) (by kernel_rfl) (fun _ _ _ h => h) (Or.inl ⟨by kernel_rfl, ?runH8⟩) (HKD.o) ?_
           case runH8 => (intro w9 hS9; obtain ⟨q2, q3, q4, q6, q7, q8, q9⟩ := And.intro (hS9.cellOf HZZ.o.1 (by simp)) (And.intro (hS9.cellOf HZZ.o.2.1 (by simp)) (And.intro (hS9.cellOf HZZ.o.2.2.1 (by simp)) (And.intro (hS9.cellOf HZZ.o.2.2.2.1 (by simp)) (And.intro (hS9.cellOf HZZ.o.2.2.2.2.1 (by simp)) (And.intro (hS9.cellOf HZZ.o.2.2.2.2.2.1 (by simp)) (hS9.cellOf HZZ.o.2.2.2.2.2.2 (by simp))))))); go_simp; try exact rfl)
           try simp only [Act.put, lA, lZ, lS]
           refine wpAnyB_takeY (i := 10) (v := ?vH10) rfl (by kernel_rfl) (by kernel_rfl) (by kernel_rfl) (by kernel_rfl) (fun _ _ _ h => h) (Or.inl ⟨by kernel_rfl, ?runH10⟩) ?_
           case runH10 => (intro w9 _; go_simp; try exact rfl)
           try simp only [Act.put, lA, lZ, lS]
           refine wpAnyB_take [6] (i := 11) (v := ?vH11) rfl (by kernel_rfl) (by kernel_rfl) (by kernel_rfl) (by kernel_rfl) (by kernel_rfl) (fun _ _ _ h => h) (Or.inl ⟨by kernel_rfl, ?runH11⟩) (HKD.o) ?_
           case runH11 => (intro w9 hS9; obtain ⟨q2, q3, q4, q6, q7, q8, q9⟩ := And.intro (hS9.cellOf HZZ.o.1 (by simp)) (And.intro (hS9.cellOf HZZ.o.2.1 (by simp)) (And.intro (hS9.cellOf HZZ.o.2.2.1 (by simp)) (And.intro (hS9.cellOf HZZ.o.2.2.2.1 (by simp)) (And.intro (hS9.cellOf HZZ.o.2.2.2.2.1 (by simp)) (And.intro (hS9.cellOf HZZ.o.2.2.2.2.2.1 (by simp)) (hS9.cellOf HZZ.o.2.2.2.2.2.2 (by simp))))))); go_simp; try exact rfl)
           try simp only [Act.put, lA, lZ, lS]
           refine wpAnyB_take [] (i := 6) (v := ?vH6) rfl (by kernel_rfl) (by kernel_rfl) (by kernel_rfl) (by kernel_rfl) (by kernel_rfl) (fun _ _ _ h => h) (Or.inl ⟨by kernel_rfl, ?runH6⟩) (HKD.o) ?_
           case runH6 => (intro w9 hS9; obtain ⟨q2, q3, q4, q6, q7, q8, q9⟩ := And.intro (hS9.cellOf HZZ.o.1 (by simp)) (And.intro (hS9.cellOf HZZ.o.2.1 (by simp)) (And.intro (hS9.cellOf HZZ.o.2.2.1 (by simp)) (And.intro (hS9.cellOf HZZ.o.2.2.2.1 (by simp)) (And.intro (hS9.cellOf HZZ.o.2.2.2.2.1 (by simp)) (And.intro (hS9.cellOf HZZ.o.2.2.2.2.2.1 (by simp)) (hS9.cellOf HZZ.o.2.2.2.2.2.2 (by simp))))))); go_simp; try exact rfl)
           try simp only [Act.put, lA, lZ, lS]
           refine rdB 12 rfl (fun K hK => ?_)
           go_simp
           refine (HSP.o _ HKD.o).mono ?_
           rintro e w25 ⟨rfl, hk25⟩
           have HK25 := hyd (HKZ.o.trans (HKD.o.trans hk25 (by simp)) (by simp))
           have HKW25 := hyd (HKD.o.trans hk25 (by simp))
           clear hk25
           go_wp2_with fail
           refine hK.out _ _ (fun h => (nomatch h)) ?_
           clear hK K
           try simp only [Act.put, lA, lZ, lS]
           refine wpAnyB_takeY (i := 13) (v := ?vH13) rfl (by kernel_rfl) (by kernel_rfl) (by kernel_rfl) (by kernel_rfl) (fun _ _ _ h => h) (Or.inl ⟨by kernel_rfl, ?runH13⟩) ?_
           case runH13 => (intro w9 _; go_simp; try exact rfl)
           try simp only [Act.put, lA, lZ, lS]
           refine wpAnyB_takeY (i := 14) (v := ?vH14) rfl (by kernel_rfl) (by kernel_rfl) (by kernel_rfl) (by kernel_rfl) (fun _ _ _ h => h) (Or.inl ⟨by kernel_rfl, ?runH14⟩) ?_
           case runH14 => (intro w9 _; go_simp; try exact rfl)
           try simp only [Act.put, lA, lZ, lS]
           refine wpAnyB_takeY (i := 15) (v := ?vH15) rfl (by kernel_rfl) (by kernel_rfl) (by kernel_rfl) (by kernel_rfl) (fun _ _ _ h => h) (Or.inl ⟨by kernel_rfl, ?runH15⟩) ?_
           case runH15 => (intro w9 _; go_simp; try exact rfl)
           try simp only [Act.put, lA, lZ, lS]
           refine wpAnyB_done (by kernel_rfl) ?_ _
           go_upto_region 27 with fail
           go_quiet (fail)
           go_wp2_with fail
           go_roundw
           case rel => exact ⟨j + 1, by omega, by go_num, by first | exact Keep.drewN HK25.o _ | exact HK25.o.drew⟩
           case measure => show n2 - (j + 1) < n2 - j; omega
      ·obtain rfl : j = n2 := by omega
       have HL9 := hyd (HLH.o.keep HKX.o)
       go_wp2_with fail
       go_roundw
       case rel => exact ⟨k + 1, _, D', d', _, _, by omega, by go_num, HL9.o⟩
       case measure => show n - (k + 1) < n - k; omega
   ·obtain rfl : k = n := by omega
    have hsz := HLWR.o.sizes (by omega)
    have hsu := st_super HLWR.o.st (by omega)
    have HSU := hyd hsu
    clear hsu hsz
    go_wp2_with fail
    refine HSU.o.mono ?_
    rintro e wa ⟨sv, so, rfl, hsr, -, hka⟩
    obtain ⟨sa, sc, rfl⟩ := hsr.form
    have hfd := fld_gen wa (.int .u64 (x.ns.gen : Nat)) (.slice sa x.ns.ps.length sc) (.int .i64 x.ns.len) (.int .i64 x.ns.ep)
    have HLA := hyd (HLWR.o.keep hka)
    unfold aggS
    clear hsr hka HSU
    by_cases hg : x.ns.gen = 0
    ·clear hfd
     rw [hg, show ((0 : Nat) : Int) = 0 from rfl]
     have hfd := fld_gen wa (.int .u64 0) (.slice sa x.ns.ps.length sc) (.int .i64 x.ns.len) (.int .i64 x.ns.ep)
     go_wp2_with fail
     refine live_any.mono ?_
     rintro e wb ⟨rfl, hkb⟩
     have HKB := hyd (HLA.o.kp.trans hkb (by simp))
     clear hkb hfd
     go_wp2_with fail
     go_ret
     exact ⟨rfl, HKB.o⟩
    ·have hg1 : ¬ ((x.ns.gen : Nat) : Int) = 0 := by omega
     have hge := HLA.o.gen
     have hop := st_open (HLA.o.inv.openIn HLA.o.st.dk HLA.o.off hg (by omega) (by rw [HLA.o.n]; omega))
     rw [HLA.o.inv.best hg] at hop
     have HOP := hyd hop
     clear hop
     go_wp2_with fail
     clear hfd
     refine HOP.o.mono ?_
     rintro e wb ⟨s2, m, iv, imgs, x8, rfl, hs2, hst8, ha8, hn8, hm8, ho8, hom8, -, hmm, hmr, hir, hil, hkb⟩
     obtain ⟨⟨ra, rc, hrv⟩, va8, vc8, hpv⟩ := hmr.forms
     obtain ⟨ia, ic, hiv⟩ := hir.form
     have hlen : imgs.length = m.places.length := by
      have h1 := congrArg List.length hil
      unfold imL at h1
      rw [← hmm] at h1
      unfold MnV.man at h1
      simpa using h1
     rw [hlen] at hiv
     subst hiv
     obtain ⟨n8, hn8e⟩ : ∃ z, z = m.places.length := ⟨_, rfl⟩
     rw [← hn8e] at hpv
     rw [← hn8e]
     have hag : aggM m = .agg #[.string m.s, .int .i64 m.area.1, .int .i64 m.area.2, .slice ra m.rest.length rc, .slice va8 n8 vc8] := by unfold aggM; rw [hrv, hpv]
     rw [hag]
     have hkc : Keep [] wb (wb.alloc (.cells #[.string m.s, .int .i64 m.area.1, .int .i64 m.area.2, .slice ra m.rest.length rc, .slice va8 n8 vc8] 38)) := (Keep.refl [] wb).alloc _
     have HB := hyd (heap_new wb (.cells #[.string m.s, .int .i64 m.area.1, .int .i64 m.area.2, .slice ra m.rest.length rc, .slice va8 n8 vc8] 38))
     have HM8 := hyd (And.intro hmm (And.intro (hmr.keep hkc (by simp)) (And.intro hag hn8e)))
     have HST8 := hyd (And.intro (hst8.keep0 hkc) (And.intro ha8 (And.intro hn8 (And.intro hm8 (And.intro ho8 hom8)))))
     have HLC := hyd (HLA.o.keep (hkb.trans hkc (by simp)))
     clear hs2 hst8 ha8 hn8 hm8 ho8 hom8 hmm hmr hir hil hkb hrv hpv hlen hag hkc hn8e HOP
     go_upto_region 32 with fail
     generalize wb.alloc (.cells #[.string m.s, .int .i64 m.area.1, .int .i64 m.area.2, .slice ra m.rest.length rc, .slice va8 n8 vc8] 38) = wc at *
     generalize wb.heap.size = B17 at *
     have hsz := HLC.o.sizes (by omega)
     have hus := HLC.o.inv.used
     have hue : usedL x8 = usedL x := by
      have har : x.nm.man.area = x.area := by
       rcases HLC.o.inv.now with ⟨h, -, -⟩ | ⟨-, -, -, h, -⟩
       ·rw [h] at hg; exact absurd rfl hg
       ·exact h
      rw [usedL_eq, usedL_eq, HST8.o.2.1, HST8.o.2.2.1, HST8.o.2.2.2.1, HST8.o.2.2.2.2.1, HST8.o.2.2.2.2.2, har]
     have HMA := hyd (fun (W : World) (hW : Keep [] wc W) => st_manifest (w := W) (HLC.o.st.keep0 hW) (by omega) (fun z hz => by have := hsz.2.2.2.1 z hz; omega))
     have HSM8 := hyd (show (∀ z ∈ m.places, z.p.pieces.length ≤ 100) ∧ (∀ z ∈ x.nm.places, z.p.pieces.length ≤ 100) from ⟨fun z hz => by
       have h1 := (HLC.o.inv.places).2 z.p (by rw [← HM8.o.1]; exact List.mem_map.2 ⟨z, hz, rfl⟩)
       have h2 := HLC.o.n
       omega, hsz.2.2.2.1⟩)
     have HF8 := hyd (fun (W : World) (hW : Keep [] wc W) => st_free (w := W) (HST8.o.1.keep0 hW) (by rw [hue]; exact hus.1) (by rw [hue]; exact hus.2))
     have HFX := hyd (fun (W : World) (hW : Keep [] wc W) => st_free (w := W) (HLC.o.st.keep0 hW) hus.1 hus.2)
     have HUE := hyd hue
     clear hsz hus hue
     have HCB := hyd (cells5 HB.o)
     refine wp_regionB [10] (fun W => Keep [] wc W) (by kernel_rfl) ?_
     have HKD := hyd (show Keep [] wc wc.drew from (Keep.refl [] wc).drew)
     generalize wc.drew = wd at *
     refine wpAnyB_takeY (i := 0) (v := ?vJ0) rfl (by kernel_rfl) (by kernel_rfl) (by kernel_rfl) (by kernel_rfl) (fun _ _ _ h => h) (Or.inl ⟨by kernel_rfl, ?runJ0⟩) ?_
     case runJ0 => (intro w9 _; go_simp; try exact rfl)
     try simp only [Act.put, lA, lZ, lS]
     refine rdB 1 rfl (fun K hK => ?_)
     go_simp
     refine (pl_num _).mono ?_
     rintro e w2 ⟨rfl, rfl⟩
     go_wp2_with fail
     refine hK.out _ _ (fun h => (nomatch h)) ?_
     clear hK K
     try simp only [Act.put, lA, lZ, lS]
     refine wpAnyB_takeY (i := 2) (v := ?vJ2) rfl (by kernel_rfl) (by kernel_rfl) (by kernel_rfl) (by kernel_rfl) (fun _ _ _ h => h) (Or.inl ⟨by kernel_rfl, ?runJ2⟩) ?_
     case runJ2 => (intro w9 _; go_simp; try exact rfl)
     try simp only [Act.put, lA, lZ, lS]
     refine wpAnyB_takeY (i := 3) (v := ?vJ3) rfl (by kernel_rfl) (by kernel_rfl) (by kernel_rfl) (by kernel_rfl) (fun _ _ _ h => h) (Or.inl ⟨by kernel_rfl, ?runJ3⟩) ?_
     case runJ3 => (intro w9 _; go_simp; try exact rfl)
     try simp only [Act.put, lA, lZ, lS]
     refine wpAnyB_takeY (i := 4) (v := ?vJ4) rfl (by kernel_rfl) (by kernel_rfl) (by kernel_rfl) (by kernel_rfl) (fun _ _ _ h => h) (Or.inl ⟨by kernel_rfl, ?runJ4⟩) ?_
     case runJ4 => (intro w9 _; go_simp; try exact rfl)
     try simp only [Act.put, lA, lZ, lS]
     refine wpAnyB_takeY (i := 5) (v := ?vJ5) rfl (by kernel_rfl) (by kernel_rfl) (by kernel_rfl) (by kernel_rfl) (fun _ _ _ h => h) (Or.inl ⟨by kernel_rfl, ?runJ5⟩) ?_
     case runJ5 => (intro w9 _; go_simp; try exact rfl)
     try simp only [Act.put, lA, lZ, lS]
     refine wpAnyB_takeY (i := 6) (v := ?vJ6) rfl (by kernel_rfl) (by kernel_rfl) (by kernel_rfl) (by kernel_rfl) (fun _ _ _ h => h) (Or.inl ⟨by kernel_rfl, ?runJ6⟩) ?_
     case runJ6 => (intro w9 _; go_simp; try exact rfl)
     try simp only [Act.put, lA, lZ, lS]
     refine wpAnyB_takeY (i := 7) (v := ?vJ7) rfl (by kernel_rfl) (by kernel_rfl) (by kernel_rfl) (by kernel_rfl) (fun _ _ _ h => h) (Or.inl ⟨by kernel_rfl, ?runJ7⟩) ?_
     case runJ7 => (intro w9 _; go_simp; try exact rfl)
     try simp only [Act.put, lA, lZ, lS]
     refine wpAnyB_takeY (i := 9) (v := ?vJ9) rfl (by kernel_rfl) (by kernel_rfl) (by kernel_rfl) (by kernel_rfl) (fun _ _ _ h => h) (Or.inl ⟨by kernel_rfl, ?runJ9⟩) ?_
     case runJ9 => (intro w9 _; go_simp; try exact rfl)
     try simp only [Act.put, lA, lZ, lS]
     refine wpAnyB_take [10] (i := 8) (v := ?vJ8) rfl (by kernel_rfl) (by kernel_rfl) (by kernel_rfl) (by kernel_rfl) (by kernel_rfl) (fun _ _ _ h => h) (Or.inl ⟨by kernel_rfl, ?runJ8⟩) (HKD.o) ?_
     case runJ8 => (intro w9 hS9; obtain ⟨q0, q1, q2, q3, q4⟩ := And.intro (hS9.cellOf HCB.o.1 (by simp)) (And.intro (hS9.cellOf HCB.o.2.1 (by simp)) (And.intro (hS9.cellOf HCB.o.2.2.1 (by simp)) (And.intro (hS9.cellOf HCB.o.2.2.2.1 (by simp)) (hS9.cellOf HCB.o.2.2.2.2 (by simp))))); go_simp; try exact rfl)
     try simp only [Act.put, lA, lZ, lS]
     refine rdB 10 rfl (fun K hK => ?_)
     go_simp
     refine (HMA.o _ HKD.o).mono ?_
     rintro e we ⟨m9, rfl, hm9, -, hmr9, hk9⟩
     obtain ⟨⟨ra9, rc9, hrv9⟩, va9, vc9, hpv9⟩ := hmr9.forms
     have hag9 : aggM m9 = .agg #[.string m9.s, .int .i64 m9.area.1, .int .i64 m9.area.2, .slice ra9 m9.rest.length rc9, .slice va9 m9.places.length vc9] := by unfold aggM; rw [hrv9, hpv9]
     rw [hag9]
     have HK9 := hyd (HKD.o.trans hk9 (by simp))
     have hsame := r_same (w := we) (a := m) (b := m9) (HM8.o.2.1.keep HK9.o (by simp)).rdm hmr9.rdm (fun z hz => by have := HSM8.o.1 z hz; omega) (fun z hz => by have h1 : z.p ∈ x.nm.man.places := (by rw [← hm9]; exact List.mem_map.2 ⟨z, hz, rfl⟩); obtain ⟨u, hu, e⟩ := List.mem_map.1 h1; have := HSM8.o.2 u hu; rw [← e]; omega)
     rw [(manB_iff _ _).2 (HM8.o.1.trans hm9.symm), HM8.o.2.2.1, hag9] at hsame
     have HSAME := hyd hsame
     clear hsame hm9 hmr9 hk9 hrv9 hpv9 hag9
     go_wp2_with fail
     refine hK.out _ _ (fun h => HK9.o) ?_
     clear hK K
     try simp only [Act.put, lA, lZ, lS]
     refine rdB 11 rfl (fun K hK => ?_)
     go_simp
     refine HSAME.o.mono ?_
     rintro e wf ⟨rfl, hkf⟩
     have HKF := hyd (HK9.o.trans hkf (by simp))
     clear hkf
     go_wp2_with fail
     refine hK.out _ _ (fun h => (nomatch h)) ?_
     clear hK K
     try simp only [Act.put, lA, lZ, lS]
     refine wpAnyB_takeY (i := 12) (v := ?vJ12) rfl (by kernel_rfl) (by kernel_rfl) (by kernel_rfl) (by kernel_rfl) (fun _ _ _ h => h) (Or.inl ⟨by kernel_rfl, ?runJ12⟩) ?_
     case runJ12 => (intro w9 _; go_simp; try exact rfl)
     try simp only [Act.put, lA, lZ, lS]
     refine wpAnyB_takeY (i := 13) (v := ?vJ13) rfl (by kernel_rfl) (by kernel_rfl) (by kernel_rfl) (by kernel_rfl) (fun _ _ _ h => h) (Or.inl ⟨by kernel_rfl, ?runJ13⟩) ?_
     case runJ13 => (intro w9 _; go_simp; try exact rfl)
     try simp only [Act.put, lA, lZ, lS]
     refine wpAnyB_takeY (i := 14) (v := ?vJ14) rfl (by kernel_rfl) (by kernel_rfl) (by kernel_rfl) (by kernel_rfl) (fun _ _ _ h => h) (Or.inl ⟨by kernel_rfl, ?runJ14⟩) ?_
     case runJ14 => (intro w9 _; go_simp; try exact rfl)
     try simp only [Act.put, lA, lZ, lS]
     refine wpAnyB_takeY (i := 15) (v := ?vJ15) rfl (by kernel_rfl) (by kernel_rfl) (by kernel_rfl) (by kernel_rfl) (fun _ _ _ h => h) (Or.inl ⟨by kernel_rfl, ?runJ15⟩) ?_
     case runJ15 => (intro w9 _; go_simp; try exact rfl)
     try simp only [Act.put, lA, lZ, lS]
     refine wpAnyB_takeY (i := 16) (v := ?vJ16) rfl (by kernel_rfl) (by kernel_rfl) (by kernel_rfl) (by kernel_rfl) (fun _ _ _ h => h) (Or.inl ⟨by kernel_rfl, ?runJ16⟩) ?_
     case runJ16 => (intro w9 _; go_simp; try exact rfl)
     try simp only [Act.put, lA, lZ, lS]
     refine wpAnyB_take [] (i := 17) (v := ?vJ17) rfl (by kernel_rfl) (by kernel_rfl) (by kernel_rfl) (by kernel_rfl) (by kernel_rfl) (fun _ _ _ h => h) (Or.inl ⟨by kernel_rfl, ?runJ17⟩) (HKF.o) ?_
     case runJ17 => (intro w9 hS9; obtain ⟨q0, q1, q2, q3, q4⟩ := And.intro (hS9.cellOf HCB.o.1 (by simp)) (And.intro (hS9.cellOf HCB.o.2.1 (by simp)) (And.intro (hS9.cellOf HCB.o.2.2.1 (by simp)) (And.intro (hS9.cellOf HCB.o.2.2.2.1 (by simp)) (hS9.cellOf HCB.o.2.2.2.2 (by simp))))); go_simp; try exact rfl)
     try simp only [Act.put, lA, lZ, lS]
     refine wpAnyB_takeY (i := 18) (v := ?vJ18) rfl (by kernel_rfl) (by kernel_rfl) (by kernel_rfl) (by kernel_rfl) (fun _ _ _ h => h) (Or.inl ⟨by kernel_rfl, ?runJ18⟩) ?_
     case runJ18 => (intro w9 _; go_simp; try exact rfl)
     try simp only [Act.put, lA, lZ, lS]
     refine wpAnyB_takeY (i := 19) (v := ?vJ19) rfl (by kernel_rfl) (by kernel_rfl) (by kernel_rfl) (by kernel_rfl) (fun _ _ _ h => h) (Or.inl ⟨by kernel_rfl, ?runJ19⟩) ?_
     case runJ19 => (intro w9 _; go_simp; try exact rfl)
     try simp only [Act.put, lA, lZ, lS]
     refine wpAnyB_takeY (i := 20) (v := ?vJ20) rfl (by kernel_rfl) (by kernel_rfl) (by kernel_rfl) (by kernel_rfl) (fun _ _ _ h => h) (Or.inl ⟨by kernel_rfl, ?runJ20⟩) ?_
     case runJ20 => (intro w9 _; go_simp; try exact rfl)
     try simp only [Act.put, lA, lZ, lS]
     refine wpAnyB_takeY (i := 21) (v := ?vJ21) rfl (by kernel_rfl) (by kernel_rfl) (by kernel_rfl) (by kernel_rfl) (fun _ _ _ h => h) (Or.inl ⟨by kernel_rfl, ?runJ21⟩) ?_
     case runJ21 => (intro w9 _; go_simp; try exact rfl)
     try simp only [Act.put, lA, lZ, lS]
     refine wpAnyB_takeY (i := 22) (v := ?vJ22) rfl (by kernel_rfl) (by kernel_rfl) (by kernel_rfl) (by kernel_rfl) (fun _ _ _ h => h) (Or.inl ⟨by kernel_rfl, ?runJ22⟩) ?_
     case runJ22 => (intro w9 _; go_simp; try exact rfl)
     try simp only [Act.put, lA, lZ, lS]
     refine wpAnyB_takeY (i := 24) (v := ?vJ24) rfl (by kernel_rfl) (by kernel_rfl) (by kernel_rfl) (by kernel_rfl) (fun _ _ _ h => h) (Or.inl ⟨by kernel_rfl, ?runJ24⟩) ?_
     case runJ24 => (intro w9 _; go_simp; try exact rfl)
     try simp only [Act.put, lA, lZ, lS]
     refine rdB 23 rfl (fun K hK => ?_)
     go_simp
     refine (HF8.o _ HKF.o).mono ?_
     rintro e wg ⟨fv, out8, fo, rfl, hfr, -, hfi, hkg⟩
     obtain ⟨fa8, fc8, rfl⟩ := hfr.form
     have HFR := hyd hfr
     have HFI := hyd hfi
     have HKG := hyd (HKF.o.trans hkg (by simp))
     clear hfr hfi hkg
     go_wp2_with fail
     refine hK.out _ _ (fun h => (nomatch h)) ?_
     clear hK K
     try simp only [Act.put, lA, lZ, lS]
     refine rdB 25 rfl (fun K hK => ?_)
     go_simp
     refine (HFX.o _ HKG.o).mono ?_
     rintro e wh ⟨fv2, out9, fo2, rfl, hfr2, -, hfi2, hkh⟩
     have hoo : out9 = out8 := hfi2.uniq (by have := HFI.o; rw [HUE.o] at this; exact this)
     subst hoo
     obtain ⟨fa9, fc9, rfl⟩ := hfr2.form
     have hrA := HFR.o.keep hkh (by simp)
     obtain ⟨oA, hA, hA2⟩ := hrA.rd
     obtain ⟨oB, hB, hB2⟩ := hfr2.rd
     have hlo : out9.length ≤ 1000000 := by
      have h1 := disj_len (n := d.n) hfi2.1.disj (fun e he => by
        have h1 := hfi2.1.pos e he
        have h2 := (hfi2.2.2 e.1).1 ⟨e, he, by unfold covers; omega⟩
        have h3 := (hfi2.2.2 (e.1 + e.2 - 1)).1 ⟨e, he, by unfold covers; omega⟩
        omega)
      have h2 := HLC.o.n
      omega
     have hex := extents_t (w := wh) (xs := out9) (ys := out9) ⟨oA, hA, fun b hb => Row.lt hrA b (hA2 b hb)⟩ ⟨oB, hB, fun b hb => Row.lt hfr2 b (hB2 b hb)⟩ hlo rfl
     have HEX := hyd hex
     have HKH := hyd (HKG.o.trans hkh (by simp))
     clear hex hlo hA hA2 hB hB2 hrA hfr2 hfi2 hkh
     go_wp2_with fail
     refine hK.out _ _ (fun h => (nomatch h)) ?_
     clear hK K
     try simp only [Act.put, lA, lZ, lS]
     refine rdB 26 rfl (fun K hK => ?_)
     go_simp
     refine HEX.o.mono ?_
     rintro e wi ⟨rfl, hki⟩
     have HKI := hyd (HKH.o.trans hki (by simp))
     clear hki
     go_wp2_with fail
     refine hK.out _ _ (fun h => (nomatch h)) ?_
     clear hK K
     try simp only [Act.put, lA, lZ, lS]
     refine wpAnyB_takeY (i := 27) (v := ?vJ27) rfl (by kernel_rfl) (by kernel_rfl) (by kernel_rfl) (by kernel_rfl) (fun _ _ _ h => h) (Or.inl ⟨by kernel_rfl, ?runJ27⟩) ?_
     case runJ27 => (intro w9 _; go_simp; try exact rfl)
     try simp only [Act.put, lA, lZ, lS]
     refine wpAnyB_takeY (i := 28) (v := ?vJ28) rfl (by kernel_rfl) (by kernel_rfl) (by kernel_rfl) (by kernel_rfl) (fun _ _ _ h => h) (Or.inl ⟨by kernel_rfl, ?runJ28⟩) ?_
     case runJ28 => (intro w9 _; go_simp; try exact rfl)
     try simp only [Act.put, lA, lZ, lS]
     refine rdB 29 rfl (fun K hK => ?_)
     go_simp
     refine live_any.mono ?_
     rintro e wj ⟨rfl, hkj⟩
     have HKE := hyd (HKI.o.trans hkj (by simp))
     clear hkj
     go_wp2_with fail
     refine hK.out _ _ (fun h => (nomatch h)) ?_
     clear hK K
     try simp only [Act.put, lA, lZ, lS]
     refine wpAnyB_takeY (i := 30) (v := ?vJ30) rfl (by kernel_rfl) (by kernel_rfl) (by kernel_rfl) (by kernel_rfl) (fun _ _ _ h => h) (Or.inl ⟨by kernel_rfl, ?runJ30⟩) ?_
     case runJ30 => (intro w9 _; go_simp; try exact rfl)
     try simp only [Act.put, lA, lZ, lS]
     refine wpAnyB_takeY (i := 31) (v := ?vJ31) rfl (by kernel_rfl) (by kernel_rfl) (by kernel_rfl) (by kernel_rfl) (fun _ _ _ h => h) (Or.inl ⟨by kernel_rfl, ?runJ31⟩) ?_
     case runJ31 => (intro w9 _; go_simp; try exact rfl)
     try simp only [Act.put, lA, lZ, lS]
     refine wpAnyB_done (by kernel_rfl) ?_ _
     go_wp2_with fail
     go_ret
     exact ⟨rfl, HLC.o.kp.trans HKE.o (by simp)⟩
end Go.Proofs.YtimpadpeibgmoaaGreat
