/- A part of the proof (StWhole), joined by squeeze2.py. -/
import Derived.Test.YtimpadpeibgmoaaGreatYd47
import Derived.BigQuiet
import Derived.Deep.CutRange
set_option maxHeartbeats 8000000
set_option maxRecDepth 100000
namespace Go.Proofs.YtimpadpeibgmoaaGreat
open Go.RowKit Go.Emb Go.Lib Go.Emb.Ext Go.Shelf
attribute [local go_sem] Oper.semAt_some
theorem whole_walk {w : World} {v cv : Value} {l : List AcV} {cuts : List Int} (h : RdAs w.heap.size w v l) (hcu : RdN w.heap.size w cv cuts) : Calls Tryz.prog 4 #[v, cv] w fun e w' => e = .returned (.bool true) ∧ Keep [] w w' := by
 have hhg := huge_any h
 obtain ⟨va, vc, rfl⟩ := h.form
 obtain ⟨ca, cc, rfl⟩ := hcu.form
 have H := hyd h
 have HCU := hyd hcu
 obtain ⟨n, hn⟩ : ∃ n, n = l.length := ⟨_, rfl⟩
 obtain ⟨nc, hnc⟩ : ∃ n, n = cuts.length := ⟨_, rfl⟩
 have HN := hyd (And.intro hn hnc)
 rw [← hn] at hhg ⊢
 rw [← hnc]
 have HH := hyd hhg
 clear h hn hhg hcu hnc
 go_enter Tryz.func4, Tryz.ntmps4
 go_wp2_with fail
 refine HH.o.mono ?_
 rintro e w1 ⟨b, rfl, hb, hk1⟩
 have HK1 := hyd hk1
 clear hk1 HH
 by_cases hbad : b = true ∨ nc < n
 ·have hlive : Calls Tryz.prog 8 #[] w1 fun e w' => e = .returned (.bool true) ∧ Keep [] w w' := live_any.mono (fun e w' hh => ⟨hh.1, HK1.o.trans hh.2 (by simp)⟩)
  have HLV := hyd hlive
  clear hlive hb
  cases b with
  | true =>
   clear hbad
   go_wp2_with fail
   refine HLV.o.mono ?_
   rintro e w2 ⟨rfl, hk2⟩
   have HK2 := hyd hk2
   clear hk2
   go_wp2_with fail
   go_ret
   exact ⟨rfl, HK2.o⟩
  | false =>
   have hb0 : nc < n := by rcases hbad with h | h; cases h; exact h
   have hb1 : (nc : Int) < (n : Int) := by omega
   have hb1' : decide ((nc : Int) < (n : Int)) = true := decide_eq_true hb1
   clear hbad
   go_wp2_with fail
   refine HLV.o.mono ?_
   rintro e w2 ⟨rfl, hk2⟩
   have HK2 := hyd hk2
   clear hk2
   go_wp2_with fail
   go_ret
   exact ⟨rfl, HK2.o⟩
 ·obtain rfl : b = false := by cases b with | true => exact absurd (.inl rfl) hbad | false => rfl
  have hb0 : ¬ nc < n := fun h => hbad (.inr h)
  have hb1 : ¬ (nc : Int) < (n : Int) := by omega
  have hb1' : decide ((nc : Int) < (n : Int)) = false := decide_eq_false hb1
  have HNO := hyd (hb rfl)
  have hn40 : n ≤ 40 := by have := HN.o.1; have := HNO.o.1; omega
  clear hb hbad
  have hnew := p_new (w := w1) (n := 60) (sz := 64) (by omega) (by omega) (by omega) (by omega)
  go_wp2_with fail
  refine hnew.mono ?_
  rintro e w2 ⟨q, D0, rfl, hd1, hD1, hk2⟩
  have hf := st_format (A := 3) hd1 rfl (by show (-1 : Int) < 0; omega) (by show 0 ≤ _; omega) (by omega) (by show 3 + 3 ≤ 60; omega)
  have HF := hyd hf
  have HK2 := hyd (And.intro (HK1.o.trans hk2 (by simp)) (show ∀ b ∈ D0, w.heap.size ≤ b from fun b hb => Nat.le_trans HK1.o.size (hD1 b hb)))
  clear hnew hd1 hD1 hk2 hf
  go_wp2_with fail
  refine HF.o.mono ?_
  rintro e w3 ⟨s0, D1, rfl, hs, hst, hD, hk3⟩
  obtain ⟨lm0, d0, hlw⟩ := lw_new (w0 := w) (A := 3) (N := 60) (by omega) (by omega) (by omega) HK2.o.1 HK2.o.2 hs hst hD hk3 (fun _ => [])
  have hbs := beg_save hlw (src := ⟨#[98, 101, 103, 105, 110]⟩) rfl
  have HBS := hyd hbs
  clear hs hst hD hk3 hlw HF HK2 hbs
  go_wp2_with (go_at_call 11; refine (pl_num _).mono ?_; rintro e w2 ⟨rfl, rfl⟩)
  refine HBS.o.mono ?_
  rintro e w4 ⟨rfl, lm1, D2, d1, x1, im1, hlw1, hg1, hm1, -, -⟩
  have HLW0 := hyd hlw1
  have HG1 := hyd (And.intro hg1 hm1)
  clear hlw1 hg1 hm1 HBS
  go_wp2_with (go_at_call 11; refine (pl_num _).mono ?_; rintro e w2 ⟨rfl, rfl⟩)
  have hb0' : n ≤ nc := by omega
  clear hb0 hb1 hb1'
  go_loopw [7, 9, 10, 11] (fun sv wv so i wr => ∃ (k s : Nat) (lm : List Int) (D : List Nat) (d : DS) (x : SV) (im : Int → List UInt8) (was : List ImV) (sb : ByteArray), k ≤ n ∧ i = .int .i64 k ∧ sv = .pointer (some ⟨s, 0, none⟩) ∧ so = .string sb ∧ sb.data.toList = x.nm.man.source ∧ LW w wr s q lm D d x im 60 (k + 1) ∧ x.ns.gen ≠ 0 ∧ IRd (fun c => c ∉ s :: D) wr wv was ∧ imL was = x.nm.man.places.map (fun p => (p.pid, im p.pid)) ∧ was.length ≤ 10000) (fun _ _ _ i _ => n - (intOf i).toNat)
  case atStart => exact ⟨0, s0, lm1, D2, d1, x1, im1, [], _, Nat.zero_le _, rfl, rfl, rfl, by rw [HG1.o.2]; rfl, HLW0.o, HG1.o.1, IRd.nil _ _, by rw [HG1.o.2]; rfl, by simp⟩
  case round =>
   obtain ⟨k, s, lm, D, d, x, im, was, sb, hk, rfl, rfl, rfl, hsb, hlw, hg0, hwr, hwi, hwl⟩ := hrel
   have HLW := hyd hlw
   have HWR := hyd hwr
   have HWI := hyd (And.intro hsb (And.intro hg0 (And.intro hwi hwl)))
   have HK42 := hyd (show k + 1 ≤ 42 by omega)
   obtain ⟨wa', wc', hwf⟩ := hwr.form
   subst hwf
   clear hsb hlw hg0 hwr hwi hwl HLW0 HG1
   by_cases hlt : k < n
   ·skip
    have hl : k < l.length := by have := HN.o.1; omega
    have hlcu : k < cuts.length := by have := HN.o.2; omega
    have hls := H.o.keep HLW.o.kp
    rw [← HN.o.1] at hls
    obtain ⟨lb, loff, rfl, -, g0, g1, g2, g3, g4, g5⟩ := hls.at hl
    have hatp : AtP wr ca k cuts[k] := (HCU.o.keep HLW.o.kp).atp hlcu
    have hcv := HCU.o.2.1 _ (List.getElem_mem hlcu)
    obtain ⟨cutv, hcutv⟩ : ∃ z, z = cuts[k] := ⟨_, rfl⟩
    rw [← hcutv] at hatp hcv
    have HAT := hyd (And.intro hatp hcv)
    have hra := hls.2.1 _ (List.getElem_mem hl)
    have hrw := H.o.2.1 _ (List.getElem_mem hl)
    have hsm := HNO.o.2 _ (List.getElem_mem hl)
    obtain ⟨y, hy⟩ : ∃ y, y = l[k] := ⟨_, rfl⟩
    rw [← hy] at g0 g1 g2 g3 g4 g5 hra hsm hrw
    obtain ⟨pa, pc, aa, ac, da, dc, e1, e2, e3⟩ := hra.forms
    obtain ⟨ys, hys⟩ : ∃ z, z = y.src := ⟨_, rfl⟩
    rw [e1] at g2
    rw [← hys] at g3
    rw [e2] at g4
    rw [e3] at g5
    have HRW := hyd hrw
    have HYS := hyd hys
    have HSM := hyd hsm
    have HFM := hyd (And.intro e1 (And.intro e2 e3))
    have j0 : (0 : Int) ≤ (k : Int) := by omega
    have j1 : (k : Int) < (n : Int) := by omega
    have j2 : (k : Int) < (nc : Int) := by omega
    clear hls hra hsm hrw hy e1 e2 e3 hys hl hlcu hatp hcv hcutv
    go_upto_region 13 with fail
    have HKB := hyd (show Keep [] wr (wr.alloc (.cells #[.int .i64 y.kind, .int .i64 y.n, .slice pa y.p.length pc, .string ys, .slice aa y.alive.length ac, .slice da y.dirty.length dc] 44)) from (Keep.refl [] wr).alloc _)
    have HB := hyd (heap_new wr (.cells #[.int .i64 y.kind, .int .i64 y.n, .slice pa y.p.length pc, .string ys, .slice aa y.alive.length ac, .slice da y.dirty.length dc] 44))
    have HE := hyd (And.intro (Nat.le_refl wr.heap.size) (show wr.heap.size < (wr.alloc (.cells #[.int .i64 y.kind, .int .i64 y.n, .slice pa y.p.length pc, .string ys, .slice aa y.alive.length ac, .slice da y.dirty.length dc] 44)).heap.size by simp))
    generalize wr.alloc (.cells #[.int .i64 y.kind, .int .i64 y.n, .slice pa y.p.length pc, .string ys, .slice aa y.alive.length ac, .slice da y.dirty.length dc] 44) = wb at *
    obtain ⟨B12, hB12⟩ : ∃ z, z = wr.heap.size := ⟨_, rfl⟩
    have HEQ := hyd hB12
    rw [← hB12] at HB ⊢
    clear hB12 g0 g1 g2 g3 g4 g5 HE
    have HRB := hyd (HRW.o.keep (HLW.o.kp.trans HKB.o (by simp)))
    obtain ⟨a0, a1, a2, a3, a4, a5⟩ := cells6 HB.o
    have hmg := w_merge (w := wb) (HWR.o.keep HKB.o (by simp)).imb.1 HRB.o.2.2.2.2.2.imr HRB.o.2.2.2.2.1 HWI.o.2.2.2 (by have := HSM.o.2.2.2.1; omega) (by have := HSM.o.2.2.1; omega)
    rw [HFM.o.2.1, HFM.o.2.2] at hmg
    have HMG := hyd hmg
    clear hmg
    go_wp2_with fail
    refine HMG.o.mono ?_
    rintro e wc ⟨nv, rfl, hmg⟩
    have hlt12 : ∀ b ∈ s :: D, b < B12 := fun b hb => by rw [HEQ.o]; exact HLW.o.lt b hb
    have hszb : B12 < wb.heap.size := lt_of_some HB.o
    have hnr : IRd (fun c => c ∉ s :: D) wc nv (nextL was y.dirty y.alive) := by
     refine hmg.ird (B := w.heap.size) ⟨_, HWR.o.keep HKB.o (by simp)⟩ HRB.o.2.2.2.2.2 (fun b hb => ⟨HLW.o.no hb, Nat.lt_of_lt_of_le hb (HLW.o.kp.trans HKB.o (by simp)).size⟩) (fun b hb hm => by have := hlt12 b hm; omega) (fun z hz => by have := HSM.o.2.2.2.2 z hz; omega) (by have := HSM.o.2.2.1; omega)
    have hnl : (nextL was y.dirty y.alive).length ≤ 8000 := by have := nextL_len was y.dirty y.alive; have := HSM.o.2.2.1; omega
    obtain ⟨NX, hNX⟩ : ∃ z, z = nextL was y.dirty y.alive := ⟨_, rfl⟩
    rw [← hNX] at hnr hnl
    obtain ⟨na', nc', hnf⟩ := hnr.form
    subst hnf
    have HNX := hyd (And.intro hNX hnl)
    have HNR := hyd hnr
    have HKC := hyd hmg.kp
    have HLT := hyd (And.intro hlt12 hszb)
    clear hmg hlt12 hszb hnr hnl hNX HMG a0 a1 a2 a3 a4 a5
    have hlgb : lm.length ≤ 10000000 := by have := HLW.o.lg; omega
    have HLG := hyd (fun (W : World) (hW : Keep [] wr W) => d_log (HLW.o.st.dk.keep0 hW) hlgb)
    obtain ⟨NL, hNL⟩ : ∃ z, z = lm.length := ⟨_, rfl⟩
    have HNL := hyd hNL
    clear hlgb hNL
    go_wp2_with fail
    refine (HLG.o _ (HKB.o.trans HKC.o (by simp))).mono ?_
    rintro e wd ⟨lv, lo, rfl, hlr, -, hkd⟩
    obtain ⟨o5, ⟨-, la, lc, hlv, -⟩, -⟩ := hlr.rd
    rw [← HNL.o] at hlv
    subst hlv
    have HKD0 := hyd hkd
    clear hlr hkd HLG
    obtain ⟨-, eb, eoff, ee, ge⟩ := HAT.o.1.at ((HKB.o.trans HKC.o (by simp)).trans HKD0.o (by simp))
    subst ee
    have hct := d_cut (w := wd) (HLW.o.st.dk.keep0 ((HKB.o.trans HKC.o (by simp)).trans HKD0.o (by simp))) cutv HAT.o.2.2
    have HCT := hyd hct
    clear hct
    go_wp2_with fail
    refine HCT.o.mono ?_
    rintro e we ⟨rfl, hdk, hke⟩
    have hlc := ((HLW.o.keep ((HKB.o.trans HKC.o (by simp)).trans HKD0.o (by simp))).lc HWI.o.2.1).cut HAT.o.2.2 hdk hke
    have hDlt : ∀ b ∈ D, b < B12 := fun b hb => HLT.o.1 b (by simp [hb])
    have hkbe : Keep (s :: D) wb we := ((HKC.o.trans HKD0.o (by simp)).mono (G := s :: D) (by simp)).trans hke (fun b hb => .inl (by simp [hb]))
    have hkce : Keep (s :: D) wc we := (HKD0.o.mono (G := s :: D) (by simp)).trans hke (fun b hb => .inl (by simp [hb]))
    have hbe := blkk HB.o hkbe (fun hm => by have := HLT.o.1 _ hm; omega)
    have HLC := hyd hlc
    have HKBE := hyd (And.intro hkbe hkce)
    have HAC := hyd (cells6 hbe)
    have HRA := hyd (HRW.o.keep hlc.kp)
    clear hdk hke hlc hDlt hkbe hkce hbe HCT ge
    go_upto_region 16 with fail
    refine wp_regionB [4, 6, 8, 9] (fun W => Keep [] we W) (by kernel_rfl) ?_
    have HKD := hyd (show Keep [] we we.drew from (Keep.refl [] we).drew)
    generalize we.drew = wdr at *
    refine tkY 0 ?vS0 rfl ?runS0 ?_
    case runS0 => (intro w9 _; go_simp; try exact rfl)
    try simp only [Act.put, lA, lZ, lS]
    refine tkY 1 ?vS1 rfl ?runS1 ?_
    case runS1 => (intro w9 _; go_simp; try exact rfl)
    try simp only [Act.put, lA, lZ, lS]
    refine tkY 3 ?vS3 rfl ?runS3 ?_
    case runS3 => (intro w9 _; go_simp; try exact rfl)
    try simp only [Act.put, lA, lZ, lS]
    refine tkY 5 ?vS5 rfl ?runS5 ?_
    case runS5 => (intro w9 _; go_simp; try exact rfl)
    try simp only [Act.put, lA, lZ, lS]
    refine tkY 7 ?vS7 rfl ?runS7 ?_
    case runS7 => (intro w9 _; go_simp; try exact rfl)
    try simp only [Act.put, lA, lZ, lS]
    refine tkB [4, 6, 8, 9] 2 ?vS2 rfl ?runS2 (HKD.o) ?_
    case runS2 => (intro w9 hS9; obtain ⟨q2, q3, q4, q5⟩ := And.intro (hS9.cellOf HAC.o.2.2.1 (by simp)) (And.intro (hS9.cellOf HAC.o.2.2.2.1 (by simp)) (And.intro (hS9.cellOf HAC.o.2.2.2.2.1 (by simp)) (hS9.cellOf HAC.o.2.2.2.2.2 (by simp)))); go_simp; try exact rfl)
    try simp only [Act.put, lA, lZ, lS]
    refine tkB [6, 8, 9] 4 ?vS4 rfl ?runS4 (HKD.o) ?_
    case runS4 => (intro w9 hS9; obtain ⟨q2, q3, q4, q5⟩ := And.intro (hS9.cellOf HAC.o.2.2.1 (by simp)) (And.intro (hS9.cellOf HAC.o.2.2.2.1 (by simp)) (And.intro (hS9.cellOf HAC.o.2.2.2.2.1 (by simp)) (hS9.cellOf HAC.o.2.2.2.2.2 (by simp)))); go_simp; try exact rfl)
    try simp only [Act.put, lA, lZ, lS]
    refine tkB [8, 9] 6 ?vS6 rfl ?runS6 (HKD.o) ?_
    case runS6 => (intro w9 hS9; obtain ⟨q2, q3, q4, q5⟩ := And.intro (hS9.cellOf HAC.o.2.2.1 (by simp)) (And.intro (hS9.cellOf HAC.o.2.2.2.1 (by simp)) (And.intro (hS9.cellOf HAC.o.2.2.2.2.1 (by simp)) (hS9.cellOf HAC.o.2.2.2.2.2 (by simp)))); go_simp; try exact rfl)
    try simp only [Act.put, lA, lZ, lS]
    refine tkB [] 8 ?vS8 rfl ?runS8 (HKD.o) ?_
    case runS8 => (intro w9 hS9; obtain ⟨q2, q3, q4, q5⟩ := And.intro (hS9.cellOf HAC.o.2.2.1 (by simp)) (And.intro (hS9.cellOf HAC.o.2.2.2.1 (by simp)) (And.intro (hS9.cellOf HAC.o.2.2.2.2.1 (by simp)) (hS9.cellOf HAC.o.2.2.2.2.2 (by simp)))); go_simp; try exact rfl)
    try simp only [Act.put, lA, lZ, lS]
    refine rdB 9 rfl (fun K hK => ?_)
    go_simp
    have him := images_any (w := wdr) (HRA.o.2.2.2.2.2.keep HKD.o) (by have := HSM.o.2.2.2.1; omega) (fun z hz => by have := HSM.o.2.2.2.2 z hz; omega)
    rw [HFM.o.2.2] at him
    refine him.mono ?_
    rintro e wim ⟨iv, ims, rfl, hir, hil, hke⟩
    obtain ⟨ia, ic, hiv⟩ := hir.form
    have hlen := imL_len hil
    rw [hlen] at hiv
    subst hiv
    have HKE := hyd (HKD.o.trans hke (by simp))
    have HIR := hyd hir
    have HIL := hyd (And.intro hil hlen)
    clear hir hil hke hlen him
    go_wp2_with fail
    refine hK.out _ _ (fun h => HKE.o) ?_
    clear hK K
    try simp only [Act.put, lA, lZ, lS]
    refine rdB 10 rfl (fun K hK => ?_)
    go_simp
    have hlw := HLC.o.keep HKE.o
    have hsv := lc_save hlw HK42.o (HRA.o.2.2.2.2.1.keep HKE.o) (by have := HSM.o.2.2.1; omega) (HIR.o.mono (T := fun c => c ∉ s :: D) (fun c _ hc hm => by have := HLC.o.lt c hm; have := HKD.o.size; omega)) (by have := HIL.o.2; have := HSM.o.2.2.2.1; omega) (imL_len' HIL.o.1 (fun z hz => by have := HSM.o.2.2.2.2 z hz; omega)) ((HRA.o.keep HKE.o).2.2.1) (by have := HSM.o.1; omega) (src := ys) (by have := HSM.o.2.1; rw [HYS.o]; omega)
    rw [HFM.o.1, HFM.o.2.1] at hsv
    refine hsv.mono ?_
    rintro e wf ⟨c, rfl, lm', D', d', x', hst, hD, hkf, hok, hn', hsz', hps, hpost⟩
    have HPO := hyd hpost
    have HST := hyd (And.intro hst (And.intro hD (And.intro hkf (And.intro hok (And.intro hn' (And.intro hsz' hps))))))
    clear hsv hlw hpost hst hD hkf hok hn' hsz' hps
    go_wp2_with fail
    refine hK.out _ _ (fun h => (nomatch h)) ?_
    clear hK K
    try simp only [Act.put, lA, lZ, lS]
    refine tkY 11 ?vS11 rfl ?runS11 ?_
    case runS11 => (intro w9 _; go_simp; try exact rfl)
    try simp only [Act.put, lA, lZ, lS]
    refine wpAnyB_done (by kernel_rfl) ?_ _
    go_wp2_with fail
    refine (d_rest HST.o.1.dk).mono ?_
    rintro e wg ⟨D2, rfl, hdk2, hD2, hkg⟩
    have hst2 := HST.o.1.turn hdk2 hkg hD2
    have hszw : wb.heap.size ≤ wim.heap.size := Nat.le_trans HKBE.o.1.size HKE.o.size
    have hszc : wc.heap.size ≤ wim.heap.size := Nat.le_trans HKBE.o.2.size HKE.o.size
    have hszf : wim.heap.size ≤ wf.heap.size := HST.o.2.2.1.size
    have hD2s : ∀ b ∈ D2, b ∈ D ∨ wim.heap.size ≤ b := fun b hb => by
     rcases hD2 b hb with h1 | h1
     ·exact HST.o.2.1 b h1
     ·exact .inr (by omega)
    have hkbg : Keep (s :: D) wb wg := ((HKBE.o.1.trans HKE.o (by simp)).trans HST.o.2.2.1 (fun b hb => .inl hb)).trans hkg (fun b hb => by rcases HST.o.2.1 b hb with h1 | h1; exact .inl (by simp [h1]); exact .inr (by omega))
    have hkcg : Keep (s :: D) wc wg := ((HKBE.o.2.trans HKE.o (by simp)).trans HST.o.2.2.1 (fun b hb => .inl hb)).trans hkg (fun b hb => by rcases HST.o.2.1 b hb with h1 | h1; exact .inl (by simp [h1]); exact .inr (by omega))
    have hkwg : Keep [] w wg := ((HLW.o.kp.trans HKB.o (by simp)).trans hkbg (fun b hb => .inr (HLW.o.ds b hb)))
    have hds2 : ∀ b ∈ D2, w.heap.size ≤ b := fun b hb => by
     rcases hD2s b hb with h1 | h1
     ·exact HLW.o.ds b (by simp [h1])
     ·have := (HLW.o.kp.trans HKB.o (by simp)).size; omega
    have hro := restD_ok HST.o.2.2.2.1
    have hlml : lm.length ≤ 100 + (k + 1) * 4000 := HLW.o.lg
    have hge : x.ns.gen ≤ k + 1 := HLW.o.gen
    have hu : ∃ ns nm os om im2, SInv (restD d') x.area ns nm os om im2 ∧ ns.gen ≠ 0 ∧ ns.gen ≤ k + 2 ∧ lm'.length ≤ 100 + (k + 2) * 4000 ∧
      ((c ≠ 0 ∧ nm = x.nm.man ∧ im2 = im) ∨ (c = 0 ∧ (lm'.length : Int) = lm.length + (1 + needE x'.ns.len 49 + needS y.dirty) ∧ 0 ≤ x'.ns.len ∧ x'.ns.len ≤ 1048576 ∧ nm.source = ys.data.toList ∧ nm.rest = y.p ∧ imL NX = nm.places.map (fun p => (p.pid, im2 p.pid)))) := by
     rcases HPO.o with ⟨h1, h2, h3⟩ | ⟨h1, h2, h3, h4, h5, h6, h7, h8, h9, h10⟩
     ·exact ⟨_, _, _, _, _, h3 _ hro (fun j => rfl) rfl rfl, HWI.o.2.1, by omega, by omega, .inl ⟨h1, rfl, rfl⟩⟩
     ·refine ⟨_, _, _, _, _, h10 _ hro (fun j => rfl) rfl rfl, by omega, by omega, by omega, .inr ⟨h1, by rw [← needS_eq HIL.o.1]; exact h3, h4, h5, ?_, h8, ?_⟩⟩
      ·rw [← h7]; rfl
      ·rw [HNX.o.1]; exact h9 was HWI.o.2.2.1 y.dirty HIL.o.1
    obtain ⟨ns2, nm2, os2, om2, im2, hsi, hsg, hsg2, hsl, hcase⟩ := hu
    have hop := reopen (w0 := w) (k := k + 2) hdk2 hsi HST.o.2.2.2.2.1 HST.o.2.2.2.2.2.1 rfl (by show (-1 : Int) < 0; omega) hsg hsg2 (by omega) hsl hds2 hkwg
    have HOP := hyd hop
    have HCASE := hyd hcase
    have HST2 := hyd (And.intro hst2 HST.o.2.2.2.2.2.2)
    have HD2 := hyd (And.intro hD2s (And.intro hszw (And.intro hszc (show wim.heap.size ≤ wg.heap.size from Nat.le_trans hszf hkg.size))))
    have HKBG := hyd (And.intro hkbg (And.intro hkcg hkwg))
    clear hdk2 hD2 hkg hst2 hszw hszc hszf hD2s hkbg hkcg hkwg hds2 hro hlml hge hsi hsg hsg2 hsl hcase hop HPO
    go_wp2_with fail
    refine HOP.o.mono ?_
    rintro e wh ⟨t, m, iv8, imgs, x2, rfl, ht, hlw2, hg2, hxm, hmm, hmr, hir, himl, hil2, hkh⟩
    obtain ⟨⟨ra, rc, hrv⟩, va8, vc8, hpv⟩ := hmr.forms
    obtain ⟨n8, hn8⟩ : ∃ z, z = m.places.length := ⟨_, rfl⟩
    rw [← hn8] at hpv
    obtain ⟨ms, hms⟩ : ∃ z, z = m.s := ⟨_, rfl⟩
    have hag : aggM m = .agg #[.string ms, .int .i64 m.area.1, .int .i64 m.area.2, .slice ra m.rest.length rc, .slice va8 n8 vc8] := by unfold aggM; rw [hrv, hpv, ← hms]
    rw [hag]
    obtain ⟨ia8, ic8, hif⟩ := hir.form
    subst hif
    have hkm : Keep [] wh (wh.alloc (.cells #[.string ms, .int .i64 m.area.1, .int .i64 m.area.2, .slice ra m.rest.length rc, .slice va8 n8 vc8] 38)) := (Keep.refl [] wh).alloc _
    have HB17 := hyd (heap_new wh (.cells #[.string ms, .int .i64 m.area.1, .int .i64 m.area.2, .slice ra m.rest.length rc, .slice va8 n8 vc8] 38))
    have HKM := hyd (And.intro hkm hkh)
    have hms2 : ms.data.toList = nm2.source := by rw [hms, ← hmm]; rfl
    have hmr2 : m.rest = nm2.rest := by rw [← hmm]; rfl
    have HM8 := hyd (And.intro hms2 (And.intro hmr2 (And.intro hrv (And.intro (hmr.2.2.1.keep hkm (by simp)) (And.intro (hir.keep hkm (by simp)) (And.intro himl hil2))))))
    have HL2 := hyd (And.intro (hlw2.keep hkm) (And.intro hg2 (And.intro hxm ht)))
    clear hlw2 hg2 hxm hmm hmr hir himl hil2 hkh hrv hpv hn8 hms hag hkm hms2 hmr2 HOP ht
    go_upto_region 19 with fail
    generalize wh.alloc (.cells #[.string ms, .int .i64 m.area.1, .int .i64 m.area.2, .slice ra m.rest.length rc, .slice va8 n8 vc8] 38) = wi at *
    obtain ⟨B17, hB17⟩ : ∃ z, z = wh.heap.size := ⟨_, rfl⟩
    rw [← hB17] at HB17 ⊢
    have HB17L := hyd hB17
    clear hB17
    have hkgi : Keep [] wg wi := HKM.o.2.trans HKM.o.1 (by simp)
    have hkbi : Keep (s :: D) wb wi := HKBG.o.1.trans hkgi (by simp)
    have hkci : Keep (s :: D) wc wi := HKBG.o.2.1.trans hkgi (by simp)
    have hkwi : Keep [] w wi := HKBG.o.2.2.trans hkgi (by simp)
    have hbi := blkk HB.o hkbi (fun hm => by have := HLT.o.1 _ hm; omega)
    have HBI := hyd hbi
    have hno : ∀ b, b < wc.heap.size → b ∉ s :: D → b ∉ t :: D2 ∧ b ∉ s :: D := fun b hb hb2 => ⟨fun hm => by
      rcases List.mem_cons.1 hm with h1 | h1
      · have := HL2.o.2.2.2; have := HD2.o.2.2.1; have := HD2.o.2.2.2; omega
      · rcases HD2.o.1 b h1 with h2 | h2
        · exact hb2 (by simp [h2])
        · have := HD2.o.2.2.1; omega, hb2⟩
    have hnxi : IRd (fun b => b ∉ t :: D2 ∧ b ∉ s :: D) wi (.slice na' NX.length nc') NX := (HNR.o.mono hno).keep hkci (fun b hb _ hS => hS.2 hb)
    have hwsi : IRd (fun b => b ∉ t :: D2 ∧ b ∉ s :: D) wi (.slice wa' was.length wc') was := (((HWR.o.keep HKB.o (by simp)).keep HKC.o (by simp)).mono hno).keep hkci (fun b hb _ hS => hS.2 hb)
    have HNXI := hyd (hnxi.mono (T := fun b => b ∉ t :: D2) (fun b _ h => h.1))
    have HWSI := hyd (hwsi.mono (T := fun b => b ∉ t :: D2) (fun b _ h => h.1))
    have HSTI := hyd (HST2.o.1.keep0 hkgi)
    have hrai := HRW.o.keep hkwi
    have hia := r_images HM8.o.2.2.2.2.1.imb HNXI.o.imb (by have := HM8.o.2.2.2.2.2.2; omega) (by have := HNX.o.2; omega)
    have hio := r_images HM8.o.2.2.2.2.1.imb HWSI.o.imb (by have := HM8.o.2.2.2.2.2.2; omega) (by have := HWI.o.2.2.2; omega)
    have hcm : ∃ S1 : ByteArray, S1.data.toList = m.rest ∧ ∀ W, Keep [] wi W → (convert 35 9 (.slice ra m.rest.length rc)).run Tryz.prog W = .ok (.string S1) W := by
     refine ⟨⟨m.rest.toArray⟩, by simp, fun W hW => ?_⟩
     obtain ⟨⟨o, h1, -⟩, -⟩ := HM8.o.2.2.2.1.keep hW (by simp)
     rw [HM8.o.2.2.1] at h1
     exact rd_text (P := Tryz.prog) h1 Tryz.underlying35 Tryz.underlying5 Tryz.underlying9
    have hcp : ∃ S2 : ByteArray, S2.data.toList = y.p ∧ ∀ W, Keep [] wi W → (convert 35 9 (.slice pa y.p.length pc)).run Tryz.prog W = .ok (.string S2) W := by
     refine ⟨⟨y.p.toArray⟩, by simp, fun W hW => ?_⟩
     obtain ⟨⟨o, h1, -⟩, -⟩ := (hrai.keep hW).2.2.1
     rw [HFM.o.1] at h1
     exact rd_text (P := Tryz.prog) h1 Tryz.underlying35 Tryz.underlying5 Tryz.underlying9
    obtain ⟨S1, hS1, hcm⟩ := hcm
    obtain ⟨S2, hS2, hcp⟩ := hcp
    obtain ⟨IA, hIA⟩ : ∃ z, z = decide (imL imgs = imL NX) := ⟨_, rfl⟩
    obtain ⟨IO', hIO⟩ : ∃ z, z = decide (imL imgs = imL was) := ⟨_, rfl⟩
    rw [← hIA] at hia
    rw [← hIO] at hio
    have hIs : c = 0 → ms = ys ∧ S1 = S2 ∧ IA = true := fun h0 => by
     rcases HCASE.o with ⟨h1, -⟩ | ⟨-, h2, h3, h4, h5, h6, h7⟩
     ·exact absurd h0 h1
     ·exact ⟨bytes_eq (HM8.o.1.trans h5), bytes_eq (by rw [hS1, hS2, HM8.o.2.1, h6]), by rw [hIA]; exact decide_eq_true (HM8.o.2.2.2.2.2.1.trans h7.symm)⟩
    have hOld : c ≠ 0 → ms = sb ∧ IO' = true := fun h0 => by
     rcases HCASE.o with ⟨-, h2, h3⟩ | ⟨h1, -⟩
     ·exact ⟨bytes_eq (by rw [HM8.o.1, HWI.o.1, h2]), by rw [hIO]; exact decide_eq_true (by rw [HM8.o.2.2.2.2.2.1, HWI.o.2.2.1, h2, h3])⟩
     ·exact absurd h1 h0
    have hNew : ms = ys → IA = true → ys.data.toList = x2.nm.man.source ∧ imL NX = x2.nm.man.places.map (fun p => (p.pid, im2 p.pid)) := fun h1 h2 => by
     rw [HL2.o.2.2.1, ← h1]
     exact ⟨HM8.o.1, by rw [← HM8.o.2.2.2.2.2.1]; exact (of_decide_eq_true (hIA.symm.trans h2)).symm⟩
    have hSame : c ≠ 0 → sb.data.toList = x2.nm.man.source ∧ imL was = x2.nm.man.places.map (fun p => (p.pid, im2 p.pid)) := fun h0 => by
     rw [HL2.o.2.2.1]
     rcases HCASE.o with ⟨-, h2, h3⟩ | ⟨h1, -⟩
     ·rw [h2, h3]; exact ⟨HWI.o.1, HWI.o.2.2.1⟩
     ·exact absurd h1 h0
    have HIA := hyd (fun (W : World) (hW : Keep [] wi W) => (r_images (HM8.o.2.2.2.2.1.keep hW (by simp)).imb (HNXI.o.keep hW (by simp)).imb (by have := HM8.o.2.2.2.2.2.2; omega) (by have := HNX.o.2; omega)))
    have HIO := hyd (fun (W : World) (hW : Keep [] wi W) => (r_images (HM8.o.2.2.2.2.1.keep hW (by simp)).imb (HWSI.o.keep hW (by simp)).imb (by have := HM8.o.2.2.2.2.2.2; omega) (by have := HWI.o.2.2.2; omega)))
    rw [← hIA] at HIA
    rw [← hIO] at HIO
    obtain ⟨IS, hISd⟩ : ∃ z, z = (decide (ms = ys) && decide (S1 = S2) && IA) := ⟨_, rfl⟩
    obtain ⟨OLD, hOLDd⟩ : ∃ z, z = (decide (ms = sb) && IO') := ⟨_, rfl⟩
    have HIS := hyd hISd
    have HOLD := hyd hOLDd
    have HISZ := hyd (show c = 0 → IS = true from fun h0 => by obtain ⟨h1, h2, h3⟩ := hIs h0; rw [hISd, h1, h2, h3]; simp)
    have HOLZ := hyd (show c ≠ 0 → OLD = true from fun h0 => by obtain ⟨h1, h2⟩ := hOld h0; rw [hOLDd, h1, h2]; simp)
    have HNEW := hyd (show IS = true → ys.data.toList = x2.nm.man.source ∧ imL NX = x2.nm.man.places.map (fun p => (p.pid, im2 p.pid)) from fun h0 => by
      rw [hISd] at h0
      simp only [Bool.and_eq_true, decide_eq_true_eq] at h0
      exact hNew h0.1.1 h0.2)
    have HSAM := hyd hSame
    have HCV := hyd (And.intro hcm hcp)
    have HKGI := hyd (And.intro hkgi (And.intro hkwi hkbi))
    clear hkgi hkbi hkci hkwi hbi hno hnxi hwsi hrai hia hio hIs hOld hNew hSame hcm hcp hIA hIO hS1 hS2 hISd hOLDd
    go_upto_region 21 with (go_at_call 11; refine (pl_num _).mono ?_; rintro e w2 ⟨rfl, rfl⟩)
    go_cut [20] from 111 to 129 (fun sv wx => sv = .bool IS ∧ Keep [] wi wx)
    case first =>
     obtain ⟨a0, a1, a2, a3, a4, a5⟩ := cells6 HBI.o
     obtain ⟨m0, m1, m2, m3, m4⟩ := cells5 HB17.o
     have hcm := HCV.o.1 wi (Keep.refl [] wi)
     have hcp := HCV.o.2 wi (Keep.refl [] wi)
     by_cases e1 : ms = ys
     ·subst e1
      by_cases e2 : S1 = S2
      ·subst e2
       obtain rfl : IA = IS := by rw [HIS.o]; simp
       clear HIS HOLD HISZ HOLZ HNEW HSAM
       go_wp2_with fail
       refine (HIA.o _ (Keep.refl [] wi)).mono ?_
       rintro e wj ⟨rfl, hkj⟩
       have HKJ := hyd hkj
       clear hkj a0 a1 a2 a3 a4 a5 m0 m1 m2 m3 m4 hcm hcp
       cases IA <;> (go_wp2_with fail; go_meet; case rel => exact ⟨rfl, HKJ.o⟩)
      ·obtain rfl : IS = false := by rw [HIS.o, decide_eq_false e2]; simp
       have e2' := tl_ne e2
       clear HIS HOLD HISZ HOLZ HNEW HSAM
       go_wp2_with fail
       go_meet
       case rel => exact ⟨rfl, Keep.refl _ _⟩
     ·obtain rfl : IS = false := by rw [HIS.o, decide_eq_false e1]; simp
      have e1' := tl_ne e1
      clear HIS HOLD HISZ HOLZ HNEW HSAM
      go_wp2_with fail
      go_meet
      case rel => exact ⟨rfl, Keep.refl _ _⟩
    case rest =>
     obtain ⟨rfl, hkj⟩ := hcut
     have HKJ := hyd hkj
     clear hkj HIS
     obtain ⟨m0, m1, m2, m3, m4⟩ := cells5 (blkk HB17.o HKJ.o (by simp))
     go_upto_region 22 with fail
     rename_i wj
     go_cut [21] from 130 to 138 (fun sv wx => sv = .bool OLD ∧ Keep [] wi wx)
     case first =>
      by_cases e1 : ms = sb
      ·subst e1
       obtain rfl : IO' = OLD := by rw [HOLD.o]; simp
       clear HOLD HISZ HOLZ HNEW HSAM
       go_wp2_with fail
       refine (HIO.o _ HKJ.o).mono ?_
       rintro e wk ⟨rfl, hkk⟩
       have HKK := hyd (HKJ.o.trans hkk (by simp))
       clear hkk m0 m1 m2 m3 m4
       cases IO' <;> (go_wp2_with fail; go_meet; case rel => exact ⟨rfl, HKK.o⟩)
      ·obtain rfl : OLD = false := by rw [HOLD.o, decide_eq_false e1]; simp
       have e1' := tl_ne e1
       clear HOLD HISZ HOLZ HNEW HSAM
       go_wp2_with fail
       go_meet
       case rel => exact ⟨rfl, HKJ.o⟩
     case rest =>
      obtain ⟨rfl, hkk⟩ := hcut
      have HKK := hyd hkk
      clear hkk HOLD m0 m1 m2 m3 m4
      obtain ⟨a0, a1, a2, a3, a4, a5⟩ := cells6 (blkk HBI.o HKK.o (by simp))
      have HLN := hyd (HL2.o.1.keep HKK.o)
      have HAN := hyd (And.intro (HNXI.o.keep HKK.o (by simp)) (HWSI.o.keep HKK.o (by simp)))
      by_cases hc0 : c = 0
      ·subst hc0
       obtain rfl : IS = true := HISZ.o rfl
       have hnew := HNEW.o rfl
       have hcs : (lm'.length : Int) = NL + (1 + needE x'.ns.len 49 + needS y.dirty) ∧ 0 ≤ x'.ns.len ∧ x'.ns.len ≤ 1048576 := by
        rcases HCASE.o with ⟨h1, -⟩ | ⟨-, h2, h3, h4, -⟩
        ·exact absurd rfl h1
        ·rw [HNL.o]; exact ⟨h2, h3, h4⟩
       have hnb := needE_bd x'.ns.len hcs.2.1
       have hsb := needS_bd (l := y.dirty) (fun z hz => by have := HSM.o.2.2.2.2 z hz; omega)
       have hnlb : NL ≤ 1000000 := by have := HLW.o.lg; have := HNL.o; omega
       have hdl : y.dirty.length ≤ 40 := HSM.o.2.2.2.1
       obtain ⟨NE, hNE⟩ : ∃ z, z = needE x'.ns.len 49 := ⟨_, rfl⟩
       obtain ⟨XL, hXL⟩ : ∃ z, z = x'.ns.len := ⟨_, rfl⟩
       rw [← hNE] at hcs hnb
       rw [← hXL] at hcs hnb
       have HNE := hyd (And.intro hNE hXL)
       have HCS := hyd hcs
       have HNW := hyd hnew
       have hsu := st_super (HSTI.o.keep0 HKK.o) (by have := HST2.o.2; omega)
       have HSU := hyd hsu
       have hNE1 : 0 ≤ NE ∧ NE ≤ 1048577 := by have := hcs.2.2; omega
       obtain ⟨nd, hnd⟩ : ∃ z, z = y.dirty.length := ⟨_, rfl⟩
       have HND := hyd hnd
       have hnd40 : nd ≤ 40 := by omega
       rw [← hnd] at a5 
       have hla : lm'.length ≤ 10000000 := by omega
       clear hnew hcs hnb hNE hXL hsu hnd hdl
       have HSB := hyd (And.intro hsb hla)
       clear hsb hla HISZ HOLZ HNEW HSAM HCASE
       go_wp2_with (go_at_call 11; refine (pl_num _).mono ?_; rintro e w2 ⟨rfl, rfl⟩)
       refine HSU.o.mono ?_
       rintro e wl ⟨vS, oS, rfl, -, -, hkl⟩
       have HKL := hyd (HKK.o.trans hkl (by simp))
       have hfl : ∀ W, (Instr.field 56 (.agg #[.int .u64 (x'.ns.gen : Nat), vS, .int .i64 XL, .int .i64 x'.ns.ep]) 2).run Tryz.prog W = .ok (.int .i64 XL) W := fun W => fld_len W _ _ _ _
       have hagS : aggS x'.ns vS = .agg #[.int .u64 (x'.ns.gen : Nat), vS, .int .i64 XL, .int .i64 x'.ns.ep] := by unfold aggS; rw [← HNE.o.2]
       rw [hagS]
       clear hkl hagS a0 a1 a2 a3 a4 a5
       go_wp2_with fail
       refine (r_need XL 49 _ (by have := HCS.o.2.2; omega) (by omega)).mono ?_
       rintro e w5 ⟨rfl, rfl⟩
       rw [show needE XL 49 = NE by rw [HNE.o.1, HNE.o.2]]
       clear hfl
       go_wp2_with fail
       go_loopw [22, 23] (fun nv i wz => ∃ (j : Nat), j ≤ nd ∧ i = .int .i64 j ∧ nv = .int .i64 (1 + NE + needS (y.dirty.take j)) ∧ Keep [] wi wz) (fun _ i _ => nd - (intOf i).toNat)
       case atStart => exact ⟨0, Nat.zero_le _, rfl, by have h0 : needS (y.dirty.take 0) = 0 := rfl; rw [h0]; go_num, HKL.o⟩
       case round =>
        obtain ⟨j, hj, rfl, rfl, hkz⟩ := hrel
        have HKZ := hyd hkz
        clear hkz
        obtain ⟨a0, a1, a2, a3, a4, a5⟩ := cells6 (blkk HBI.o HKZ.o (by simp))
        rw [← HND.o] at a5
        by_cases hjl : j < nd
        ·have hjd : j < y.dirty.length := by have := HND.o; omega
         have hrd := (HRW.o.keep (HKGI.o.2.1.trans HKZ.o (by simp))).2.2.2.2.2
         rw [HFM.o.2.2] at hrd
         have hrdy := hrd.2.1 _ (List.getElem_mem hjd)
         rw [← HND.o] at hrd
         obtain ⟨db, doff, rfl, -, f0, f1⟩ := hrd.at hjd
         obtain ⟨za, zc, hzv⟩ := rdB_form hrdy.2
         have hzl := HSM.o.2.2.2.2 _ (List.getElem_mem hjd)
         have hsn : needS (y.dirty.take (j + 1)) = needS (y.dirty.take j) + needE (y.dirty[j].b.length : Int) 49 := by rw [List.take_succ_eq_append_getElem hjd, needS_snoc]
         have hsb1 := needS_bd (l := y.dirty.take j) (fun z hz => by have := HSM.o.2.2.2.2 z (List.mem_of_mem_take hz); omega)
         rw [List.length_take] at hsb1
         obtain ⟨z, hz⟩ : ∃ z, z = y.dirty[j] := ⟨_, rfl⟩
         rw [← hz] at f0 f1 hzv hzl hsn
         rw [hzv] at f1
         obtain ⟨zn, hzn⟩ : ∃ u, u = z.b.length := ⟨_, rfl⟩
         rw [← hzn] at f1 hzl hsn
         obtain ⟨SJ, hSJ⟩ : ∃ u, u = needS (y.dirty.take j) := ⟨_, rfl⟩
         rw [← hSJ] at hsn hsb1 ⊢
         have hneb := needE_bd (zn : Int) (by omega)
         obtain ⟨ZE, hZE⟩ : ∃ u, u = needE (zn : Int) 49 := ⟨_, rfl⟩
         rw [← hZE] at hsn hneb
         have HSN := hyd hsn
         have HZE := hyd hZE
         have hSJ1 : 0 ≤ SJ ∧ SJ ≤ 400000 := by have := hsb1.2; omega
         have hZE1 : 0 ≤ ZE ∧ ZE ≤ 8001 := by omega
         have j3 : (0 : Int) ≤ (j : Int) := by omega
         have j4 : (j : Int) < (nd : Int) := by omega
         clear hjd hrd hrdy hzv hsn hsb1 hz hzn hSJ hneb hZE
         go_wp2_with fail
         refine (r_need (zn : Int) 49 _ (by omega) (by omega)).mono ?_
         rintro e w5 ⟨rfl, rfl⟩
         rw [← HZE.o]
         go_wp2_with fail
         go_roundw
         case rel => exact ⟨j + 1, by omega, by go_num, by rw [HSN.o]; go_num, HKZ.o⟩
         case measure => show nd - (j + 1) < nd - j; omega
        ·obtain rfl : j = nd := by omega
         have hsn : needS (y.dirty.take j) = needS y.dirty := by rw [List.take_of_length_le (by have := HND.o; omega)]
         rw [hsn]
         obtain ⟨SJ, hSJ⟩ : ∃ u, u = needS y.dirty := ⟨_, rfl⟩
         have hcs := HCS.o.1
         have hsb := HSB.o.1
         have hla := HSB.o.2
         rw [← hSJ] at hcs hsb ⊢
         have hlg := d_log (HSTI.o.keep0 HKZ.o).dk hla
         have HLG2 := hyd hlg
         obtain ⟨N9, hN9⟩ : ∃ u, u = lm'.length := ⟨_, rfl⟩
         rw [← hN9] at hcs hla
         have hSJ1 : 0 ≤ SJ ∧ SJ ≤ 400000 := by have := hsb.2; have := HND.o; omega
         have hneq : ((N9 : Int) != (NL : Int) + (1 + NE + SJ)) = false := by simp; omega
         have hneq' : decide ((N9 : Int) = (NL : Int) + (1 + NE + SJ)) = true := by simp; omega
         have HN9 := hyd hN9
         clear hsn hSJ hcs hsb hlg hN9 hla
         have hjj : ¬ ((j : Int) < (j : Int)) := by omega
         go_wp2_with fail
         refine HLG2.o.mono ?_
         rintro e wo ⟨lv2, lo2, rfl, hlr2, -, hko⟩
         obtain ⟨o6, ⟨-, la2, lc2, hlv2, -⟩, -⟩ := hlr2.rd
         rw [← HN9.o] at hlv2
         subst hlv2
         have HKO := hyd (HKZ.o.trans hko (by simp))
         clear hlr2 hko a0 a1 a2 a3 a4 a5
         obtain ⟨a0, a1, a2, a3, a4, a5⟩ := cells6 (blkk HBI.o HKO.o (by simp))
         go_wp2_with fail
         go_roundw
         case rel => exact ⟨k + 1, t, lm', D2, restD d', x2, im2, NX, ys, by omega, by go_num, rfl, rfl, HNW.o.1, HL2.o.1.keep HKO.o, HL2.o.2.1, HNXI.o.keep HKO.o (by simp), HNW.o.2, by have := HNX.o.2; omega⟩
         case measure => show n - (k + 1) < n - k; omega
      ·obtain rfl : OLD = true := HOLZ.o hc0
       cases IS with
       | true =>
        have hnew := HNEW.o rfl
        have HNW := hyd hnew
        clear hnew HISZ HOLZ HNEW HSAM HCASE
        go_wp2_with (go_at_call 11; refine (pl_num _).mono ?_; rintro e w2 ⟨rfl, rfl⟩)
        go_roundw
        case rel => exact ⟨k + 1, t, lm', D2, restD d', x2, im2, NX, ys, by omega, by go_num, rfl, rfl, HNW.o.1, HLN.o, HL2.o.2.1, HAN.o.1, HNW.o.2, by have := HNX.o.2; omega⟩
        case measure => show n - (k + 1) < n - k; omega
       | false =>
        have hsame := HSAM.o hc0
        have HSM2 := hyd hsame
        clear hsame HISZ HOLZ HNEW HSAM HCASE
        go_wp2_with (go_at_call 11; refine (pl_num _).mono ?_; rintro e w2 ⟨rfl, rfl⟩)
        go_roundw
        case rel => exact ⟨k + 1, t, lm', D2, restD d', x2, im2, was, sb, by omega, by go_num, rfl, rfl, HSM2.o.1, HLN.o, HL2.o.2.1, HAN.o.2, HSM2.o.2, HWI.o.2.2.2⟩
        case measure => show n - (k + 1) < n - k; omega
   ·obtain rfl : k = n := by omega
    have hjj : ¬ ((k : Int) < (k : Int)) := by omega
    have hlive : Calls Tryz.prog 8 #[] wr fun e w' => e = .returned (.bool true) ∧ Keep [] w w' := live_any.mono (fun e w' hh => ⟨hh.1, HLW.o.kp.trans hh.2 (by simp)⟩)
    have HLV := hyd hlive
    clear hlive
    go_wp2_with fail
    refine HLV.o.mono ?_
    rintro e w2 ⟨rfl, hk2⟩
    have HK2 := hyd hk2
    clear hk2
    go_wp2_with fail
    go_ret
    exact ⟨rfl, HK2.o⟩
end Go.Proofs.YtimpadpeibgmoaaGreat
