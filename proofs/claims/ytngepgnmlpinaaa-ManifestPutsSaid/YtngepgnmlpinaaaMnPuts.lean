/- ManifestPuts: the walk. Printed by gen-mnputs.py. -/
import Derived.Test.YtngepgnmlpinaaaMnOwn
import Derived.Test.YtngepgnmlpinaaaMnShort
namespace Go.Proofs.Ytngepgnmlpinaaa
open Go.RowKit Go.Emb Go.Emb.Ext

/-- what both Gets answer -/
def getM (bs : List UInt8) : Man := if (oMan bs).2 = some [] then (oMan bs).1 else ⟨[], (0, 0), [], []⟩
def getC (bs : List UInt8) : Int := if (oMan bs).2 = some [] then 0 else 230
theorem getC_range (bs : List UInt8) : 0 ≤ getC bs ∧ getC bs ≤ 230 := by unfold getC; split <;> omega
theorem GetP.all {w w' : World} {bs : List UInt8} {e : Ending} (h : GetP w bs e w') (hl : bs.length ≤ 1000000) :
    Keep [] w w' ∧ ∃ x : MnV, e = .returned (.tuple #[aggM x, .int .i64 (getC bs)]) ∧ x.man = getM bs ∧ RdM w'.heap.size w' x ∧ SmallV x := by
  obtain ⟨hk, hif⟩ := h
  refine ⟨hk, ?_⟩
  unfold getM getC
  by_cases hok : (oMan bs).2 = some []
  · rw [if_pos hok] at hif
    rw [if_pos hok, if_pos hok]
    obtain ⟨x, he, hx, hr⟩ := hif
    refine ⟨x, he, hx, hr, fun z hz => ?_⟩
    have hpm := pMan_oMan bs
    rw [if_pos hok] at hpm
    obtain ⟨h1, -⟩ := pMan_inv hpm
    obtain ⟨-, -, -, b4⟩ := man_bounds (oMan bs).1
    have h2 := b4 z.p (by rw [← hx]; exact List.mem_map.2 ⟨z, hz, rfl⟩)
    rw [h1] at hl
    omega
  · rw [if_neg hok] at hif
    rw [if_neg hok, if_neg hok]
    exact ⟨⟨⟨#[]⟩, (0, 0), .slice none 0 0, [], .slice none 0 0, []⟩, hif, rfl, zero_rdm w', fun z hz => by cases hz⟩
theorem r_getB {w : World} {v : Value} {bs : List UInt8} (h : RdB w.heap.size w v bs) (hsz : bs.length ≤ 100000000) : Calls Try.prog 11 #[v] w (GetP w bs) := by
  obtain ⟨⟨o, h1, h2⟩, -⟩ := h
  exact r_get h1 hsz
theorem r_putB {w : World} {m : MnV} (h : RdM w.heap.size w m) (hsz : (manL m.man).length ≤ 100000000) : Calls Try.prog 14 #[aggM m] w fun e w' => ∃ v, e = .returned v ∧ RdB w'.heap.size w' v (manL m.man) ∧ Keep [] w w' := by
  refine (r_put h (by omega)).mono ?_
  rintro e w' ⟨v, o, rfl, hr, -, hk⟩
  exact ⟨v, rfl, hr.rdb (by omega), hk⟩
set_option maxRecDepth 100000 in
set_option maxHeartbeats 4000000 in
theorem puts_walk {w : World} {m : MnV} {v : Value} {bs : List UInt8} (hm : RdM w.heap.size w m) (hb : RdB w.heap.size w v bs) :
    Calls Try.prog 3 #[aggM m, v] w fun e w' => e = .returned (.bool true) ∧ Keep [] w w' := by
  obtain ⟨i0, hi, hz0, hz1, hz2⟩ := info_parts byte_info
  have HI := Lib.hid hi
  clear hi
  obtain ⟨⟨ra, rc, hrv, -, -⟩, pa, pc, hpv, -, -⟩ := hm.forms
  obtain ⟨ms, me, mrv, ml, mpv, mps⟩ := m
  simp only at hrv hpv
  subst hrv hpv
  obtain ⟨va, vc, rfl, hv1, hv2⟩ := hb.forms
  have hk1 : Keep [] w (w.alloc (.cells #[.string ms, .int .i64 me.1, .int .i64 me.2, .slice ra ml.length rc, .slice pa mps.length pc] 27)) := (Keep.refl [] w).alloc _
  have hb1 := heap_new w (.cells #[.string ms, .int .i64 me.1, .int .i64 me.2, .slice ra ml.length rc, .slice pa mps.length pc] 27)
  have hm1 := hm.next hk1
  have hbb1 := hb.next hk1
  have hsm := q_small hm1
  unfold aggM at hsm ⊢
  simp only at hsm ⊢
  obtain ⟨m0, m1, m2, m3, m4⟩ := cells5 hb1
  have HK1 := Lib.hid hk1
  have HB1 := Lib.hid hb1
  have HM1 := Lib.hid hm1
  have HBB1 := Lib.hid hbb1
  have HSM := Lib.hid hsm
  clear hk1 hb1 hm1 hbb1 hsm hm hb
  go_enter Try.func3, Try.ntmps3
  go_wp2_with fail
  generalize w.alloc (.cells #[.string ms, .int .i64 me.1, .int .i64 me.2, .slice ra ml.length rc, .slice pa mps.length pc] 27) = w1 at *
  refine HSM.out.mono ?_
  rintro e w2 ⟨b, rfl, hb, hk2⟩
  have HK2 := Lib.hid (HK1.out.trans hk2 (by simp))
  have HB2 := Lib.hid (blk_keep HB1.out hk2 (by simp))
  have HM2 := Lib.hid (HM1.out.next hk2)
  have HBB2 := Lib.hid (HBB1.out.next hk2)
  clear hk2 HK1 HB1 HM1 HBB1 HSM m0 m1 m2 m3 m4
  cases b with
  | false =>
    clear hb
    go_wp2_with fail
    refine (q_live w2).mono ?_
    rintro e w3 ⟨rfl, hk3⟩
    go_wp2_with fail
    go_ret
    exact ⟨rfl, HK2.out.trans hk3 (by simp)⟩
  | true =>
    have HSP := Lib.hid (hb rfl)
    clear hb
    by_cases hlen : 20000 < bs.length
    · have hlen' : (20000 : Int) < (bs.length : Int) := by omega
      go_wp2_with fail
      refine (q_live w2).mono ?_
      rintro e w3 ⟨rfl, hk3⟩
      go_wp2_with fail
      go_ret
      exact ⟨rfl, HK2.out.trans hk3 (by simp)⟩
    · have hlen' : ¬ (20000 : Int) < (bs.length : Int) := by omega
      obtain ⟨⟨ol, hrd, hol⟩, -⟩ := HBB2.out
      have HRD := Lib.hid hrd
      clear hrd
      go_wp2_with (at_builtin; refine wpList_append_rd _ rfl _ _ 24 24 rfl 5 5 i0 (.int .u8 0) 1 1 Try.underlying24 Try.underlying24 HI.out hz0 hz1 hz2 rfl w2.heap.size 0 0 0 [] rfl (Row.made0 w2 _ _) _ rfl bs.length (Lib.byteCells bs) ol (HRD.out.keep ((Keep.refl [] w2).alloc _) (by simp)) (byteCells_one _) (by unfold maxLen; omega) (by omega) ?_)
      intro g off cap w3 hr3 hk3 hg3
      try simp only [Nat.zero_add, List.nil_append] at hr3
      try simp only [Nat.zero_add, List.nil_append]
      have hk3' : Keep [] w2 w3 := ((Keep.refl [] w2).alloc _).trans hk3 (by simp)
      have hget := p_getB (RB.rdb (bs := bs) (o := some g) hr3 (by omega)) (by omega)
      have HG := Lib.hid hget
      have HK3 := Lib.hid (HK2.out.trans hk3' (by simp))
      have HB3 := Lib.hid (blk_keep HB2.out hk3' (by simp))
      have HM3 := Lib.hid (HM2.out.next hk3')
      have HBB3 := Lib.hid (HBB2.out.next hk3')
      clear hr3 hk3 hk3' hg3 hget HK2 HB2 HM2 HBB2 HRD
      go_wp2_with fail
      refine HG.out.mono ?_
      rintro e w4 hgp
      obtain ⟨hk4, x, rfl, hx, hxr, hxs⟩ := hgp.all (by omega)
      clear hgp HG
      obtain ⟨⟨ra1, rc1, hrv, -, -⟩, pa1, pc1, hpv, -, -⟩ := hxr.forms
      obtain ⟨xs, xe, xrv, xl, xpv, xps⟩ := x
      simp only at hrv hpv
      subst hrv hpv
      unfold aggM
      simp only
      have hb5 := heap_new w4 (.cells #[.string xs, .int .i64 xe.1, .int .i64 xe.2, .slice ra1 xl.length rc1, .slice pa1 xps.length pc1] 27)
      have hk5 : Keep [] w4 (w4.alloc (.cells #[.string xs, .int .i64 xe.1, .int .i64 xe.2, .slice ra1 xl.length rc1, .slice pa1 xps.length pc1] 27)) := (Keep.refl [] w4).alloc _
      have HX := Lib.hid hx
      have HXS := Lib.hid hxs
      have HXR := Lib.hid (hxr.next hk5)
      have HXB := Lib.hid hb5
      have HB5 := Lib.hid (blk_keep HB3.out (hk4.trans hk5 (by simp)) (by simp))
      have HM5 := Lib.hid (HM3.out.next (hk4.trans hk5 (by simp)))
      have HBB5 := Lib.hid (HBB3.out.next (hk4.trans hk5 (by simp)))
      have HK5 := Lib.hid ((HK3.out.trans hk4 (by simp)).trans hk5 (by simp))
      clear hx hxs hxr hb5 hk4 hk5 HK3 HB3 HM3 HBB3
      go_wp2_with fail
      generalize hw5 : w4.alloc (.cells #[.string xs, .int .i64 xe.1, .int .i64 xe.2, .slice ra1 xl.length rc1, .slice pa1 xps.length pc1] 27) = w5 at *
      clear hw5
      refine (r_getB HBB5.out (by omega)).mono ?_
      rintro e w6 hgp
      obtain ⟨hk6, y, rfl, hy, hyr, hys⟩ := hgp.all (by omega)
      clear hgp
      obtain ⟨⟨ra2, rc2, hrv, -, -⟩, pa2, pc2, hpv, -, -⟩ := hyr.forms
      obtain ⟨ys, ye, yrv, yl, ypv, yps⟩ := y
      simp only at hrv hpv
      subst hrv hpv
      unfold aggM
      simp only
      have hb7 := heap_new w6 (.cells #[.string ys, .int .i64 ye.1, .int .i64 ye.2, .slice ra2 yl.length rc2, .slice pa2 yps.length pc2] 27)
      have hk7 : Keep [] w6 (w6.alloc (.cells #[.string ys, .int .i64 ye.1, .int .i64 ye.2, .slice ra2 yl.length rc2, .slice pa2 yps.length pc2] 27)) := (Keep.refl [] w6).alloc _
      have HY := Lib.hid hy
      have HYS := Lib.hid hys
      have HYR := Lib.hid (hyr.next hk7)
      have HYB := Lib.hid hb7
      have HXR7 := Lib.hid (HXR.out.next (hk6.trans hk7 (by simp)))
      have HXB7 := Lib.hid (blk_keep HXB.out (hk6.trans hk7 (by simp)) (by simp))
      have HB7 := Lib.hid (blk_keep HB5.out (hk6.trans hk7 (by simp)) (by simp))
      have HM7 := Lib.hid (HM5.out.next (hk6.trans hk7 (by simp)))
      have HK7 := Lib.hid ((HK5.out.trans hk6 (by simp)).trans hk7 (by simp))
      clear hy hys hyr hb7 hk6 hk7 HK5 HB5 HM5 HBB5 HXR HXB
      obtain ⟨cc, hcc⟩ : ∃ c, c = getC bs := ⟨_, rfl⟩
      rw [← hcc]
      clear hcc
      go_wp2_with fail
      generalize hw7 : w6.alloc (.cells #[.string ys, .int .i64 ye.1, .int .i64 ye.2, .slice ra2 yl.length rc2, .slice pa2 yps.length pc2] 27) = w7 at *
      clear hw7
      have hsame := fun W (hW : Keep [] w7 W) => r_same (HXR7.out.next hW) (HYR.out.next hW) HXS.out HYS.out
      rw [HX.out, HY.out] at hsame
      simp only [(manB_iff _ _).2 rfl] at hsame
      unfold aggM at hsame
      simp only at hsame
      have HS := Lib.hid hsame
      have hown := fun W (hW : Keep [] w7 W) => q_own (HM7.out.next hW) HSP.out
      have hput := fun W (hW : Keep [] w7 W) => r_putB (HM7.out.next hW) (by have := HSP.out.bytes; omega)
      have hbyt := HSP.out.bytes
      obtain ⟨M, hM⟩ : ∃ M, M = (⟨ms, me, .slice ra ml.length rc, ml, .slice pa mps.length pc, mps⟩ : MnV).man := ⟨_, rfl⟩
      rw [← hM] at hown hput hbyt
      unfold aggM at hown hput
      simp only at hown hput
      have HO := Lib.hid hown
      have HP := Lib.hid hput
      have HBY := Lib.hid hbyt
      clear hsame hown hput hbyt hM
      refine wp_region_held_drew (S := fun w' => Keep [] w7 w') (by kernel_rfl) ((Keep.refl [] w7).drew) (fun hHeld => ?_)
      have HS0 := Lib.hid hHeld
      clear hHeld
      have hHeld := HS0.out
      generalize w7.drew = w8 at *
      refine wpAnyH_takeL (i := 0) (v := ?vR0) rfl (by kernel_rfl) (by kernel_rfl) (by kernel_rfl) (fun _ _ _ h => h) (Or.inl ⟨by kernel_rfl, ?runR0⟩) hHeld ?_
      case runR0 => (intro w9 hS9; obtain ⟨m0, m1, m2, m3, m4⟩ := cells5 (blk_keep HB7.out hS9 (by simp)); obtain ⟨x0, x1, x2, x3, x4⟩ := cells5 (blk_keep HXB7.out hS9 (by simp)); obtain ⟨y0, y1, y2, y3, y4⟩ := cells5 (blk_keep HYB.out hS9 (by simp)); go_simp; try exact rfl)
      try simp only [Act.put, List.setIfInBounds_toArray, List.set_cons_zero, List.set_cons_succ]
      refine wpAnyH_takeL (i := 4) (v := ?vR4) rfl (by kernel_rfl) (by kernel_rfl) (by kernel_rfl) (fun _ _ _ h => h) (Or.inl ⟨by kernel_rfl, ?runR4⟩) hHeld ?_
      case runR4 => (intro w9 hS9; obtain ⟨m0, m1, m2, m3, m4⟩ := cells5 (blk_keep HB7.out hS9 (by simp)); obtain ⟨x0, x1, x2, x3, x4⟩ := cells5 (blk_keep HXB7.out hS9 (by simp)); obtain ⟨y0, y1, y2, y3, y4⟩ := cells5 (blk_keep HYB.out hS9 (by simp)); go_simp; try exact rfl)
      try simp only [Act.put, List.setIfInBounds_toArray, List.set_cons_zero, List.set_cons_succ]
      refine wpAnyH_ready (rs := [1]) (by kernel_rfl) (by simp) ?_
      refine AllReadyH.consL rfl (fun K hK => ?_) AllReadyH.nil
      go_simp
      refine (HO.out _ HS0.out).mono ?_
      rintro e wo ⟨x1, rfl, hx1, hr1, hk⟩
      have Hwo : Hid (Keep [] w7 wo) := Lib.hid (HS0.out.trans hk (by simp))
      have hpo := p_putB hr1 (by rw [hx1]; have := HBY.out; omega)
      rw [hx1] at hpo
      have HPO := Lib.hid hpo
      clear hpo hr1 hk hx1
      clear hHeld
      go_wp2_with fail
      refine hK.out _ _ Hwo.out (fun hHeld => ?_)
      clear hK K
      try simp only [Act.put, List.setIfInBounds_toArray, List.set_cons_zero, List.set_cons_succ]
      refine wpAnyH_ready (rs := [2]) (by kernel_rfl) (by simp) ?_
      refine AllReadyH.consL rfl (fun K hK => ?_) AllReadyH.nil
      go_simp
      refine HPO.out.mono ?_
      rintro e wp ⟨pv, rfl, hrp, hk⟩
      obtain ⟨pva, pvc, rfl, -, -⟩ := hrp.forms
      have Hwp : Hid (Keep [] w7 wp) := Lib.hid (Hwo.out.trans hk (by simp))
      have HRP := Lib.hid hrp
      clear hrp hk HPO
      clear hHeld
      go_wp2_with fail
      refine hK.out _ _ Hwp.out (fun hHeld => ?_)
      clear hK K
      try simp only [Act.put, List.setIfInBounds_toArray, List.set_cons_zero, List.set_cons_succ]
      refine wpAnyH_ready (rs := [3, 5]) (by kernel_rfl) (by simp) ?_
      refine AllReadyH.consL rfl (fun K hK => ?_) (AllReadyH.consL rfl (fun K hK => ?_) AllReadyH.nil)
      · skip
        have hcv := RdB.text (P := Try.prog) (src := 24) (e := 5) (dst := 9) HRP.out Try.underlying24 Try.underlying5 Try.underlying9
        go_simp
        try rw [hcv]
        try go_simp
        refine hK.out _ _ Hwp.out (fun hHeld => ?_)
        clear hK K hcv
        try simp only [Act.put, List.setIfInBounds_toArray, List.set_cons_zero, List.set_cons_succ]
        refine wpAnyH_ready (rs := [5]) (by kernel_rfl) (by simp) ?_
        refine AllReadyH.consL rfl (fun K hK => ?_) AllReadyH.nil
        go_simp
        refine (HP.out _ Hwp.out).mono ?_
        rintro e wq ⟨qv, rfl, hrq, hk⟩
        obtain ⟨qva, qvc, rfl, -, -⟩ := hrq.forms
        have Hwq : Hid (Keep [] w7 wq) := Lib.hid (Hwp.out.trans hk (by simp))
        have HRQ := Lib.hid hrq
        clear hrq hk
        clear hHeld
        go_wp2_with fail
        refine hK.out _ _ Hwq.out (fun hHeld => ?_)
        clear hK K
        try simp only [Act.put, List.setIfInBounds_toArray, List.set_cons_zero, List.set_cons_succ]
        refine wpAnyH_ready (rs := [6]) (by kernel_rfl) (by simp) ?_
        refine AllReadyH.consL rfl (fun K hK => ?_) AllReadyH.nil
        have hcv := RdB.text (P := Try.prog) (src := 24) (e := 5) (dst := 9) HRQ.out Try.underlying24 Try.underlying5 Try.underlying9
        go_simp
        try rw [hcv]
        try go_simp
        refine hK.out _ _ Hwq.out (fun hHeld => ?_)
        clear hK K hcv
        try simp only [Act.put, List.setIfInBounds_toArray, List.set_cons_zero, List.set_cons_succ]
        refine wpAnyH_takeL (i := 7) (v := .bool true) rfl (by kernel_rfl) (by kernel_rfl) (by kernel_rfl) (fun _ _ _ h => h) (Or.inl ⟨by kernel_rfl, ?runRA7⟩) hHeld ?_
        case runRA7 => (intro w9 hS9; obtain ⟨m0, m1, m2, m3, m4⟩ := cells5 (blk_keep HB7.out hS9 (by simp)); obtain ⟨x0, x1, x2, x3, x4⟩ := cells5 (blk_keep HXB7.out hS9 (by simp)); obtain ⟨y0, y1, y2, y3, y4⟩ := cells5 (blk_keep HYB.out hS9 (by simp)); go_simp; first | done | exact rfl | (simp [*]; done) | (simp; omega))
        try simp only [Act.put, List.setIfInBounds_toArray, List.set_cons_zero, List.set_cons_succ]
        refine wpAnyH_takeL (i := 8) (v := .bool true) rfl (by kernel_rfl) (by kernel_rfl) (by kernel_rfl) (fun _ _ _ h => h) (Or.inl ⟨by kernel_rfl, ?runRA8⟩) hHeld ?_
        case runRA8 => (intro w9 hS9; obtain ⟨m0, m1, m2, m3, m4⟩ := cells5 (blk_keep HB7.out hS9 (by simp)); obtain ⟨x0, x1, x2, x3, x4⟩ := cells5 (blk_keep HXB7.out hS9 (by simp)); obtain ⟨y0, y1, y2, y3, y4⟩ := cells5 (blk_keep HYB.out hS9 (by simp)); go_simp; first | done | exact rfl | (simp [*]; done) | (simp; omega))
        try simp only [Act.put, List.setIfInBounds_toArray, List.set_cons_zero, List.set_cons_succ]
        refine wpAnyH_takeL (i := 9) (v := ?vRA9) rfl (by kernel_rfl) (by kernel_rfl) (by kernel_rfl) (fun _ _ _ h => h) (Or.inl ⟨by kernel_rfl, ?runRA9⟩) hHeld ?_
        case runRA9 => (intro w9 hS9; obtain ⟨m0, m1, m2, m3, m4⟩ := cells5 (blk_keep HB7.out hS9 (by simp)); obtain ⟨x0, x1, x2, x3, x4⟩ := cells5 (blk_keep HXB7.out hS9 (by simp)); obtain ⟨y0, y1, y2, y3, y4⟩ := cells5 (blk_keep HYB.out hS9 (by simp)); go_simp; try exact rfl)
        try simp only [Act.put, List.setIfInBounds_toArray, List.set_cons_zero, List.set_cons_succ]
        refine wpAnyH_takeL (i := 10) (v := ?vRA10) rfl (by kernel_rfl) (by kernel_rfl) (by kernel_rfl) (fun _ _ _ h => h) (Or.inl ⟨by kernel_rfl, ?runRA10⟩) hHeld ?_
        case runRA10 => (intro w9 hS9; obtain ⟨m0, m1, m2, m3, m4⟩ := cells5 (blk_keep HB7.out hS9 (by simp)); obtain ⟨x0, x1, x2, x3, x4⟩ := cells5 (blk_keep HXB7.out hS9 (by simp)); obtain ⟨y0, y1, y2, y3, y4⟩ := cells5 (blk_keep HYB.out hS9 (by simp)); go_simp; try exact rfl)
        try simp only [Act.put, List.setIfInBounds_toArray, List.set_cons_zero, List.set_cons_succ]
        refine wpAnyH_ready (rs := [11]) (by kernel_rfl) (by simp) ?_
        refine AllReadyH.consL rfl (fun K hK => ?_) AllReadyH.nil
        go_simp
        refine (HS.out _ Hwq.out).mono ?_
        rintro e ws ⟨rfl, hk⟩
        have Hws : Hid (Keep [] w7 ws) := Lib.hid (Hwq.out.trans hk (by simp))
        clear hk
        clear hHeld
        go_wp2_with fail
        refine hK.out _ _ Hws.out (fun hHeld => ?_)
        clear hK K
        try simp only [Act.put, List.setIfInBounds_toArray, List.set_cons_zero, List.set_cons_succ]
        refine wpAnyH_takeL (i := 12) (v := .bool true) rfl (by kernel_rfl) (by kernel_rfl) (by kernel_rfl) (fun _ _ _ h => h) (Or.inl ⟨by kernel_rfl, ?runRA12⟩) hHeld ?_
        case runRA12 => (intro w9 hS9; obtain ⟨m0, m1, m2, m3, m4⟩ := cells5 (blk_keep HB7.out hS9 (by simp)); obtain ⟨x0, x1, x2, x3, x4⟩ := cells5 (blk_keep HXB7.out hS9 (by simp)); obtain ⟨y0, y1, y2, y3, y4⟩ := cells5 (blk_keep HYB.out hS9 (by simp)); go_simp; first | done | exact rfl | (simp [*]; done) | (simp; omega))
        try simp only [Act.put, List.setIfInBounds_toArray, List.set_cons_zero, List.set_cons_succ]
        refine wpAnyH_takeL (i := 13) (v := ?vRA13) rfl (by kernel_rfl) (by kernel_rfl) (by kernel_rfl) (fun _ _ _ h => h) (Or.inl ⟨by kernel_rfl, ?runRA13⟩) hHeld ?_
        case runRA13 => (intro w9 hS9; obtain ⟨m0, m1, m2, m3, m4⟩ := cells5 (blk_keep HB7.out hS9 (by simp)); obtain ⟨x0, x1, x2, x3, x4⟩ := cells5 (blk_keep HXB7.out hS9 (by simp)); obtain ⟨y0, y1, y2, y3, y4⟩ := cells5 (blk_keep HYB.out hS9 (by simp)); go_simp; try exact rfl)
        try simp only [Act.put, List.setIfInBounds_toArray, List.set_cons_zero, List.set_cons_succ]
        refine wpAnyH_takeL (i := 14) (v := ?vRA14) rfl (by kernel_rfl) (by kernel_rfl) (by kernel_rfl) (fun _ _ _ h => h) (Or.inl ⟨by kernel_rfl, ?runRA14⟩) hHeld ?_
        case runRA14 => (intro w9 hS9; obtain ⟨m0, m1, m2, m3, m4⟩ := cells5 (blk_keep HB7.out hS9 (by simp)); obtain ⟨x0, x1, x2, x3, x4⟩ := cells5 (blk_keep HXB7.out hS9 (by simp)); obtain ⟨y0, y1, y2, y3, y4⟩ := cells5 (blk_keep HYB.out hS9 (by simp)); go_simp; try exact rfl)
        try simp only [Act.put, List.setIfInBounds_toArray, List.set_cons_zero, List.set_cons_succ]
        refine wpAnyH_takeL (i := 16) (v := ?vRA16) rfl (by kernel_rfl) (by kernel_rfl) (by kernel_rfl) (fun _ _ _ h => h) (Or.inl ⟨by kernel_rfl, ?runRA16⟩) hHeld ?_
        case runRA16 => (intro w9 hS9; obtain ⟨m0, m1, m2, m3, m4⟩ := cells5 (blk_keep HB7.out hS9 (by simp)); obtain ⟨x0, x1, x2, x3, x4⟩ := cells5 (blk_keep HXB7.out hS9 (by simp)); obtain ⟨y0, y1, y2, y3, y4⟩ := cells5 (blk_keep HYB.out hS9 (by simp)); go_simp; try exact rfl)
        try simp only [Act.put, List.setIfInBounds_toArray, List.set_cons_zero, List.set_cons_succ]
        refine wpAnyH_ready (rs := [15]) (by kernel_rfl) (by simp) ?_
        refine AllReadyH.consL rfl (fun K hK => ?_) AllReadyH.nil
        go_simp
        refine (q_num _ _).mono ?_
        rintro e wn ⟨rfl, rfl⟩
        clear hHeld
        go_wp2_with fail
        refine hK.out _ _ Hws.out (fun hHeld => ?_)
        clear hK K
        try simp only [Act.put, List.setIfInBounds_toArray, List.set_cons_zero, List.set_cons_succ]
        refine wpAnyH_takeL (i := 17) (v := .bool true) rfl (by kernel_rfl) (by kernel_rfl) (by kernel_rfl) (fun _ _ _ h => h) (Or.inl ⟨by kernel_rfl, ?runRA17⟩) hHeld ?_
        case runRA17 => (intro w9 hS9; obtain ⟨m0, m1, m2, m3, m4⟩ := cells5 (blk_keep HB7.out hS9 (by simp)); obtain ⟨x0, x1, x2, x3, x4⟩ := cells5 (blk_keep HXB7.out hS9 (by simp)); obtain ⟨y0, y1, y2, y3, y4⟩ := cells5 (blk_keep HYB.out hS9 (by simp)); go_simp; first | done | exact rfl | (simp [*]; done) | (simp; omega))
        try simp only [Act.put, List.setIfInBounds_toArray, List.set_cons_zero, List.set_cons_succ]
        refine wpAnyH_takeL (i := 18) (v := .bool true) rfl (by kernel_rfl) (by kernel_rfl) (by kernel_rfl) (fun _ _ _ h => h) (Or.inl ⟨by kernel_rfl, ?runRA18⟩) hHeld ?_
        case runRA18 => (intro w9 hS9; obtain ⟨m0, m1, m2, m3, m4⟩ := cells5 (blk_keep HB7.out hS9 (by simp)); obtain ⟨x0, x1, x2, x3, x4⟩ := cells5 (blk_keep HXB7.out hS9 (by simp)); obtain ⟨y0, y1, y2, y3, y4⟩ := cells5 (blk_keep HYB.out hS9 (by simp)); go_simp; first | done | exact rfl | (simp [*]; done) | (simp; omega))
        try simp only [Act.put, List.setIfInBounds_toArray, List.set_cons_zero, List.set_cons_succ]
        refine wpAnyH_takeL (i := 19) (v := ?vRA19) rfl (by kernel_rfl) (by kernel_rfl) (by kernel_rfl) (fun _ _ _ h => h) (Or.inl ⟨by kernel_rfl, ?runRA19⟩) hHeld ?_
        case runRA19 => (intro w9 hS9; obtain ⟨m0, m1, m2, m3, m4⟩ := cells5 (blk_keep HB7.out hS9 (by simp)); obtain ⟨x0, x1, x2, x3, x4⟩ := cells5 (blk_keep HXB7.out hS9 (by simp)); obtain ⟨y0, y1, y2, y3, y4⟩ := cells5 (blk_keep HYB.out hS9 (by simp)); go_simp; try exact rfl)
        try simp only [Act.put, List.setIfInBounds_toArray, List.set_cons_zero, List.set_cons_succ]
        refine wpAnyH_ready (rs := [20]) (by kernel_rfl) (by simp) ?_
        refine AllReadyH.consL rfl (fun K hK => ?_) AllReadyH.nil
        go_simp
        refine (q_live _).mono ?_
        rintro e wl ⟨rfl, hk⟩
        have Hwl : Hid (Keep [] w7 wl) := Lib.hid (Hws.out.trans hk (by simp))
        clear hk
        clear hHeld
        go_wp2_with fail
        refine hK.out _ _ Hwl.out (fun hHeld => ?_)
        clear hK K
        try simp only [Act.put, List.setIfInBounds_toArray, List.set_cons_zero, List.set_cons_succ]
        refine wpAnyH_takeL (i := 21) (v := .bool true) rfl (by kernel_rfl) (by kernel_rfl) (by kernel_rfl) (fun _ _ _ h => h) (Or.inl ⟨by kernel_rfl, ?runRA21⟩) hHeld ?_
        case runRA21 => (intro w9 hS9; obtain ⟨m0, m1, m2, m3, m4⟩ := cells5 (blk_keep HB7.out hS9 (by simp)); obtain ⟨x0, x1, x2, x3, x4⟩ := cells5 (blk_keep HXB7.out hS9 (by simp)); obtain ⟨y0, y1, y2, y3, y4⟩ := cells5 (blk_keep HYB.out hS9 (by simp)); go_simp; first | done | exact rfl | (simp [*]; done) | (simp; omega))
        try simp only [Act.put, List.setIfInBounds_toArray, List.set_cons_zero, List.set_cons_succ]
        refine wpAnyH_takeL (i := 22) (v := ?vRA22) rfl (by kernel_rfl) (by kernel_rfl) (by kernel_rfl) (fun _ _ _ h => h) (Or.inl ⟨by kernel_rfl, ?runRA22⟩) hHeld ?_
        case runRA22 => (intro w9 hS9; obtain ⟨m0, m1, m2, m3, m4⟩ := cells5 (blk_keep HB7.out hS9 (by simp)); obtain ⟨x0, x1, x2, x3, x4⟩ := cells5 (blk_keep HXB7.out hS9 (by simp)); obtain ⟨y0, y1, y2, y3, y4⟩ := cells5 (blk_keep HYB.out hS9 (by simp)); go_simp; try exact rfl)
        try simp only [Act.put, List.setIfInBounds_toArray, List.set_cons_zero, List.set_cons_succ]
        refine wpAnyH_done (by kernel_rfl) ?_ _
        clear hHeld
        go_wp2_with fail
        go_ret
        exact ⟨rfl, HK7.out.trans Hwl.out (by simp)⟩
      · skip
        go_simp
        refine (HP.out _ Hwp.out).mono ?_
        rintro e wq ⟨qv, rfl, hrq, hk⟩
        obtain ⟨qva, qvc, rfl, -, -⟩ := hrq.forms
        have Hwq : Hid (Keep [] w7 wq) := Lib.hid (Hwp.out.trans hk (by simp))
        have HRQ := Lib.hid hrq
        have HRP2 := Lib.hid (HRP.out.next hk)
        clear hrq hk
        clear hHeld
        go_wp2_with fail
        refine hK.out _ _ Hwq.out (fun hHeld => ?_)
        clear hK K
        try simp only [Act.put, List.setIfInBounds_toArray, List.set_cons_zero, List.set_cons_succ]
        refine wpAnyH_ready (rs := [3, 6]) (by kernel_rfl) (by simp) ?_
        refine AllReadyH.consL rfl (fun K hK => ?_) (AllReadyH.consL rfl (fun K hK => ?_) AllReadyH.nil)
        · skip
          have hcv := RdB.text (P := Try.prog) (src := 24) (e := 5) (dst := 9) HRP2.out Try.underlying24 Try.underlying5 Try.underlying9
          go_simp
          try rw [hcv]
          try go_simp
          refine hK.out _ _ Hwq.out (fun hHeld => ?_)
          clear hK K hcv
          try simp only [Act.put, List.setIfInBounds_toArray, List.set_cons_zero, List.set_cons_succ]
          refine wpAnyH_ready (rs := [6]) (by kernel_rfl) (by simp) ?_
          refine AllReadyH.consL rfl (fun K hK => ?_) AllReadyH.nil
          have hcv := RdB.text (P := Try.prog) (src := 24) (e := 5) (dst := 9) HRQ.out Try.underlying24 Try.underlying5 Try.underlying9
          go_simp
          try rw [hcv]
          try go_simp
          refine hK.out _ _ Hwq.out (fun hHeld => ?_)
          clear hK K hcv
          try simp only [Act.put, List.setIfInBounds_toArray, List.set_cons_zero, List.set_cons_succ]
          refine wpAnyH_takeL (i := 7) (v := .bool true) rfl (by kernel_rfl) (by kernel_rfl) (by kernel_rfl) (fun _ _ _ h => h) (Or.inl ⟨by kernel_rfl, ?runRC7⟩) hHeld ?_
          case runRC7 => (intro w9 hS9; obtain ⟨m0, m1, m2, m3, m4⟩ := cells5 (blk_keep HB7.out hS9 (by simp)); obtain ⟨x0, x1, x2, x3, x4⟩ := cells5 (blk_keep HXB7.out hS9 (by simp)); obtain ⟨y0, y1, y2, y3, y4⟩ := cells5 (blk_keep HYB.out hS9 (by simp)); go_simp; first | done | exact rfl | (simp [*]; done) | (simp; omega))
          try simp only [Act.put, List.setIfInBounds_toArray, List.set_cons_zero, List.set_cons_succ]
          refine wpAnyH_takeL (i := 8) (v := .bool true) rfl (by kernel_rfl) (by kernel_rfl) (by kernel_rfl) (fun _ _ _ h => h) (Or.inl ⟨by kernel_rfl, ?runRC8⟩) hHeld ?_
          case runRC8 => (intro w9 hS9; obtain ⟨m0, m1, m2, m3, m4⟩ := cells5 (blk_keep HB7.out hS9 (by simp)); obtain ⟨x0, x1, x2, x3, x4⟩ := cells5 (blk_keep HXB7.out hS9 (by simp)); obtain ⟨y0, y1, y2, y3, y4⟩ := cells5 (blk_keep HYB.out hS9 (by simp)); go_simp; first | done | exact rfl | (simp [*]; done) | (simp; omega))
          try simp only [Act.put, List.setIfInBounds_toArray, List.set_cons_zero, List.set_cons_succ]
          refine wpAnyH_takeL (i := 9) (v := ?vRC9) rfl (by kernel_rfl) (by kernel_rfl) (by kernel_rfl) (fun _ _ _ h => h) (Or.inl ⟨by kernel_rfl, ?runRC9⟩) hHeld ?_
          case runRC9 => (intro w9 hS9; obtain ⟨m0, m1, m2, m3, m4⟩ := cells5 (blk_keep HB7.out hS9 (by simp)); obtain ⟨x0, x1, x2, x3, x4⟩ := cells5 (blk_keep HXB7.out hS9 (by simp)); obtain ⟨y0, y1, y2, y3, y4⟩ := cells5 (blk_keep HYB.out hS9 (by simp)); go_simp; try exact rfl)
          try simp only [Act.put, List.setIfInBounds_toArray, List.set_cons_zero, List.set_cons_succ]
          refine wpAnyH_takeL (i := 10) (v := ?vRC10) rfl (by kernel_rfl) (by kernel_rfl) (by kernel_rfl) (fun _ _ _ h => h) (Or.inl ⟨by kernel_rfl, ?runRC10⟩) hHeld ?_
          case runRC10 => (intro w9 hS9; obtain ⟨m0, m1, m2, m3, m4⟩ := cells5 (blk_keep HB7.out hS9 (by simp)); obtain ⟨x0, x1, x2, x3, x4⟩ := cells5 (blk_keep HXB7.out hS9 (by simp)); obtain ⟨y0, y1, y2, y3, y4⟩ := cells5 (blk_keep HYB.out hS9 (by simp)); go_simp; try exact rfl)
          try simp only [Act.put, List.setIfInBounds_toArray, List.set_cons_zero, List.set_cons_succ]
          refine wpAnyH_ready (rs := [11]) (by kernel_rfl) (by simp) ?_
          refine AllReadyH.consL rfl (fun K hK => ?_) AllReadyH.nil
          go_simp
          refine (HS.out _ Hwq.out).mono ?_
          rintro e ws ⟨rfl, hk⟩
          have Hws : Hid (Keep [] w7 ws) := Lib.hid (Hwq.out.trans hk (by simp))
          clear hk
          clear hHeld
          go_wp2_with fail
          refine hK.out _ _ Hws.out (fun hHeld => ?_)
          clear hK K
          try simp only [Act.put, List.setIfInBounds_toArray, List.set_cons_zero, List.set_cons_succ]
          refine wpAnyH_takeL (i := 12) (v := .bool true) rfl (by kernel_rfl) (by kernel_rfl) (by kernel_rfl) (fun _ _ _ h => h) (Or.inl ⟨by kernel_rfl, ?runRC12⟩) hHeld ?_
          case runRC12 => (intro w9 hS9; obtain ⟨m0, m1, m2, m3, m4⟩ := cells5 (blk_keep HB7.out hS9 (by simp)); obtain ⟨x0, x1, x2, x3, x4⟩ := cells5 (blk_keep HXB7.out hS9 (by simp)); obtain ⟨y0, y1, y2, y3, y4⟩ := cells5 (blk_keep HYB.out hS9 (by simp)); go_simp; first | done | exact rfl | (simp [*]; done) | (simp; omega))
          try simp only [Act.put, List.setIfInBounds_toArray, List.set_cons_zero, List.set_cons_succ]
          refine wpAnyH_takeL (i := 13) (v := ?vRC13) rfl (by kernel_rfl) (by kernel_rfl) (by kernel_rfl) (fun _ _ _ h => h) (Or.inl ⟨by kernel_rfl, ?runRC13⟩) hHeld ?_
          case runRC13 => (intro w9 hS9; obtain ⟨m0, m1, m2, m3, m4⟩ := cells5 (blk_keep HB7.out hS9 (by simp)); obtain ⟨x0, x1, x2, x3, x4⟩ := cells5 (blk_keep HXB7.out hS9 (by simp)); obtain ⟨y0, y1, y2, y3, y4⟩ := cells5 (blk_keep HYB.out hS9 (by simp)); go_simp; try exact rfl)
          try simp only [Act.put, List.setIfInBounds_toArray, List.set_cons_zero, List.set_cons_succ]
          refine wpAnyH_takeL (i := 14) (v := ?vRC14) rfl (by kernel_rfl) (by kernel_rfl) (by kernel_rfl) (fun _ _ _ h => h) (Or.inl ⟨by kernel_rfl, ?runRC14⟩) hHeld ?_
          case runRC14 => (intro w9 hS9; obtain ⟨m0, m1, m2, m3, m4⟩ := cells5 (blk_keep HB7.out hS9 (by simp)); obtain ⟨x0, x1, x2, x3, x4⟩ := cells5 (blk_keep HXB7.out hS9 (by simp)); obtain ⟨y0, y1, y2, y3, y4⟩ := cells5 (blk_keep HYB.out hS9 (by simp)); go_simp; try exact rfl)
          try simp only [Act.put, List.setIfInBounds_toArray, List.set_cons_zero, List.set_cons_succ]
          refine wpAnyH_takeL (i := 16) (v := ?vRC16) rfl (by kernel_rfl) (by kernel_rfl) (by kernel_rfl) (fun _ _ _ h => h) (Or.inl ⟨by kernel_rfl, ?runRC16⟩) hHeld ?_
          case runRC16 => (intro w9 hS9; obtain ⟨m0, m1, m2, m3, m4⟩ := cells5 (blk_keep HB7.out hS9 (by simp)); obtain ⟨x0, x1, x2, x3, x4⟩ := cells5 (blk_keep HXB7.out hS9 (by simp)); obtain ⟨y0, y1, y2, y3, y4⟩ := cells5 (blk_keep HYB.out hS9 (by simp)); go_simp; try exact rfl)
          try simp only [Act.put, List.setIfInBounds_toArray, List.set_cons_zero, List.set_cons_succ]
          refine wpAnyH_ready (rs := [15]) (by kernel_rfl) (by simp) ?_
          refine AllReadyH.consL rfl (fun K hK => ?_) AllReadyH.nil
          go_simp
          refine (q_num _ _).mono ?_
          rintro e wn ⟨rfl, rfl⟩
          clear hHeld
          go_wp2_with fail
          refine hK.out _ _ Hws.out (fun hHeld => ?_)
          clear hK K
          try simp only [Act.put, List.setIfInBounds_toArray, List.set_cons_zero, List.set_cons_succ]
          refine wpAnyH_takeL (i := 17) (v := .bool true) rfl (by kernel_rfl) (by kernel_rfl) (by kernel_rfl) (fun _ _ _ h => h) (Or.inl ⟨by kernel_rfl, ?runRC17⟩) hHeld ?_
          case runRC17 => (intro w9 hS9; obtain ⟨m0, m1, m2, m3, m4⟩ := cells5 (blk_keep HB7.out hS9 (by simp)); obtain ⟨x0, x1, x2, x3, x4⟩ := cells5 (blk_keep HXB7.out hS9 (by simp)); obtain ⟨y0, y1, y2, y3, y4⟩ := cells5 (blk_keep HYB.out hS9 (by simp)); go_simp; first | done | exact rfl | (simp [*]; done) | (simp; omega))
          try simp only [Act.put, List.setIfInBounds_toArray, List.set_cons_zero, List.set_cons_succ]
          refine wpAnyH_takeL (i := 18) (v := .bool true) rfl (by kernel_rfl) (by kernel_rfl) (by kernel_rfl) (fun _ _ _ h => h) (Or.inl ⟨by kernel_rfl, ?runRC18⟩) hHeld ?_
          case runRC18 => (intro w9 hS9; obtain ⟨m0, m1, m2, m3, m4⟩ := cells5 (blk_keep HB7.out hS9 (by simp)); obtain ⟨x0, x1, x2, x3, x4⟩ := cells5 (blk_keep HXB7.out hS9 (by simp)); obtain ⟨y0, y1, y2, y3, y4⟩ := cells5 (blk_keep HYB.out hS9 (by simp)); go_simp; first | done | exact rfl | (simp [*]; done) | (simp; omega))
          try simp only [Act.put, List.setIfInBounds_toArray, List.set_cons_zero, List.set_cons_succ]
          refine wpAnyH_takeL (i := 19) (v := ?vRC19) rfl (by kernel_rfl) (by kernel_rfl) (by kernel_rfl) (fun _ _ _ h => h) (Or.inl ⟨by kernel_rfl, ?runRC19⟩) hHeld ?_
          case runRC19 => (intro w9 hS9; obtain ⟨m0, m1, m2, m3, m4⟩ := cells5 (blk_keep HB7.out hS9 (by simp)); obtain ⟨x0, x1, x2, x3, x4⟩ := cells5 (blk_keep HXB7.out hS9 (by simp)); obtain ⟨y0, y1, y2, y3, y4⟩ := cells5 (blk_keep HYB.out hS9 (by simp)); go_simp; try exact rfl)
          try simp only [Act.put, List.setIfInBounds_toArray, List.set_cons_zero, List.set_cons_succ]
          refine wpAnyH_ready (rs := [20]) (by kernel_rfl) (by simp) ?_
          refine AllReadyH.consL rfl (fun K hK => ?_) AllReadyH.nil
          go_simp
          refine (q_live _).mono ?_
          rintro e wl ⟨rfl, hk⟩
          have Hwl : Hid (Keep [] w7 wl) := Lib.hid (Hws.out.trans hk (by simp))
          clear hk
          clear hHeld
          go_wp2_with fail
          refine hK.out _ _ Hwl.out (fun hHeld => ?_)
          clear hK K
          try simp only [Act.put, List.setIfInBounds_toArray, List.set_cons_zero, List.set_cons_succ]
          refine wpAnyH_takeL (i := 21) (v := .bool true) rfl (by kernel_rfl) (by kernel_rfl) (by kernel_rfl) (fun _ _ _ h => h) (Or.inl ⟨by kernel_rfl, ?runRC21⟩) hHeld ?_
          case runRC21 => (intro w9 hS9; obtain ⟨m0, m1, m2, m3, m4⟩ := cells5 (blk_keep HB7.out hS9 (by simp)); obtain ⟨x0, x1, x2, x3, x4⟩ := cells5 (blk_keep HXB7.out hS9 (by simp)); obtain ⟨y0, y1, y2, y3, y4⟩ := cells5 (blk_keep HYB.out hS9 (by simp)); go_simp; first | done | exact rfl | (simp [*]; done) | (simp; omega))
          try simp only [Act.put, List.setIfInBounds_toArray, List.set_cons_zero, List.set_cons_succ]
          refine wpAnyH_takeL (i := 22) (v := ?vRC22) rfl (by kernel_rfl) (by kernel_rfl) (by kernel_rfl) (fun _ _ _ h => h) (Or.inl ⟨by kernel_rfl, ?runRC22⟩) hHeld ?_
          case runRC22 => (intro w9 hS9; obtain ⟨m0, m1, m2, m3, m4⟩ := cells5 (blk_keep HB7.out hS9 (by simp)); obtain ⟨x0, x1, x2, x3, x4⟩ := cells5 (blk_keep HXB7.out hS9 (by simp)); obtain ⟨y0, y1, y2, y3, y4⟩ := cells5 (blk_keep HYB.out hS9 (by simp)); go_simp; try exact rfl)
          try simp only [Act.put, List.setIfInBounds_toArray, List.set_cons_zero, List.set_cons_succ]
          refine wpAnyH_done (by kernel_rfl) ?_ _
          clear hHeld
          go_wp2_with fail
          go_ret
          exact ⟨rfl, HK7.out.trans Hwl.out (by simp)⟩
        · skip
          have hcv := RdB.text (P := Try.prog) (src := 24) (e := 5) (dst := 9) HRQ.out Try.underlying24 Try.underlying5 Try.underlying9
          go_simp
          try rw [hcv]
          try go_simp
          refine hK.out _ _ Hwq.out (fun hHeld => ?_)
          clear hK K hcv
          try simp only [Act.put, List.setIfInBounds_toArray, List.set_cons_zero, List.set_cons_succ]
          refine wpAnyH_ready (rs := [3]) (by kernel_rfl) (by simp) ?_
          refine AllReadyH.consL rfl (fun K hK => ?_) AllReadyH.nil
          have hcv := RdB.text (P := Try.prog) (src := 24) (e := 5) (dst := 9) HRP2.out Try.underlying24 Try.underlying5 Try.underlying9
          go_simp
          try rw [hcv]
          try go_simp
          refine hK.out _ _ Hwq.out (fun hHeld => ?_)
          clear hK K hcv
          try simp only [Act.put, List.setIfInBounds_toArray, List.set_cons_zero, List.set_cons_succ]
          refine wpAnyH_takeL (i := 7) (v := .bool true) rfl (by kernel_rfl) (by kernel_rfl) (by kernel_rfl) (fun _ _ _ h => h) (Or.inl ⟨by kernel_rfl, ?runRD7⟩) hHeld ?_
          case runRD7 => (intro w9 hS9; obtain ⟨m0, m1, m2, m3, m4⟩ := cells5 (blk_keep HB7.out hS9 (by simp)); obtain ⟨x0, x1, x2, x3, x4⟩ := cells5 (blk_keep HXB7.out hS9 (by simp)); obtain ⟨y0, y1, y2, y3, y4⟩ := cells5 (blk_keep HYB.out hS9 (by simp)); go_simp; first | done | exact rfl | (simp [*]; done) | (simp; omega))
          try simp only [Act.put, List.setIfInBounds_toArray, List.set_cons_zero, List.set_cons_succ]
          refine wpAnyH_takeL (i := 8) (v := .bool true) rfl (by kernel_rfl) (by kernel_rfl) (by kernel_rfl) (fun _ _ _ h => h) (Or.inl ⟨by kernel_rfl, ?runRD8⟩) hHeld ?_
          case runRD8 => (intro w9 hS9; obtain ⟨m0, m1, m2, m3, m4⟩ := cells5 (blk_keep HB7.out hS9 (by simp)); obtain ⟨x0, x1, x2, x3, x4⟩ := cells5 (blk_keep HXB7.out hS9 (by simp)); obtain ⟨y0, y1, y2, y3, y4⟩ := cells5 (blk_keep HYB.out hS9 (by simp)); go_simp; first | done | exact rfl | (simp [*]; done) | (simp; omega))
          try simp only [Act.put, List.setIfInBounds_toArray, List.set_cons_zero, List.set_cons_succ]
          refine wpAnyH_takeL (i := 9) (v := ?vRD9) rfl (by kernel_rfl) (by kernel_rfl) (by kernel_rfl) (fun _ _ _ h => h) (Or.inl ⟨by kernel_rfl, ?runRD9⟩) hHeld ?_
          case runRD9 => (intro w9 hS9; obtain ⟨m0, m1, m2, m3, m4⟩ := cells5 (blk_keep HB7.out hS9 (by simp)); obtain ⟨x0, x1, x2, x3, x4⟩ := cells5 (blk_keep HXB7.out hS9 (by simp)); obtain ⟨y0, y1, y2, y3, y4⟩ := cells5 (blk_keep HYB.out hS9 (by simp)); go_simp; try exact rfl)
          try simp only [Act.put, List.setIfInBounds_toArray, List.set_cons_zero, List.set_cons_succ]
          refine wpAnyH_takeL (i := 10) (v := ?vRD10) rfl (by kernel_rfl) (by kernel_rfl) (by kernel_rfl) (fun _ _ _ h => h) (Or.inl ⟨by kernel_rfl, ?runRD10⟩) hHeld ?_
          case runRD10 => (intro w9 hS9; obtain ⟨m0, m1, m2, m3, m4⟩ := cells5 (blk_keep HB7.out hS9 (by simp)); obtain ⟨x0, x1, x2, x3, x4⟩ := cells5 (blk_keep HXB7.out hS9 (by simp)); obtain ⟨y0, y1, y2, y3, y4⟩ := cells5 (blk_keep HYB.out hS9 (by simp)); go_simp; try exact rfl)
          try simp only [Act.put, List.setIfInBounds_toArray, List.set_cons_zero, List.set_cons_succ]
          refine wpAnyH_ready (rs := [11]) (by kernel_rfl) (by simp) ?_
          refine AllReadyH.consL rfl (fun K hK => ?_) AllReadyH.nil
          go_simp
          refine (HS.out _ Hwq.out).mono ?_
          rintro e ws ⟨rfl, hk⟩
          have Hws : Hid (Keep [] w7 ws) := Lib.hid (Hwq.out.trans hk (by simp))
          clear hk
          clear hHeld
          go_wp2_with fail
          refine hK.out _ _ Hws.out (fun hHeld => ?_)
          clear hK K
          try simp only [Act.put, List.setIfInBounds_toArray, List.set_cons_zero, List.set_cons_succ]
          refine wpAnyH_takeL (i := 12) (v := .bool true) rfl (by kernel_rfl) (by kernel_rfl) (by kernel_rfl) (fun _ _ _ h => h) (Or.inl ⟨by kernel_rfl, ?runRD12⟩) hHeld ?_
          case runRD12 => (intro w9 hS9; obtain ⟨m0, m1, m2, m3, m4⟩ := cells5 (blk_keep HB7.out hS9 (by simp)); obtain ⟨x0, x1, x2, x3, x4⟩ := cells5 (blk_keep HXB7.out hS9 (by simp)); obtain ⟨y0, y1, y2, y3, y4⟩ := cells5 (blk_keep HYB.out hS9 (by simp)); go_simp; first | done | exact rfl | (simp [*]; done) | (simp; omega))
          try simp only [Act.put, List.setIfInBounds_toArray, List.set_cons_zero, List.set_cons_succ]
          refine wpAnyH_takeL (i := 13) (v := ?vRD13) rfl (by kernel_rfl) (by kernel_rfl) (by kernel_rfl) (fun _ _ _ h => h) (Or.inl ⟨by kernel_rfl, ?runRD13⟩) hHeld ?_
          case runRD13 => (intro w9 hS9; obtain ⟨m0, m1, m2, m3, m4⟩ := cells5 (blk_keep HB7.out hS9 (by simp)); obtain ⟨x0, x1, x2, x3, x4⟩ := cells5 (blk_keep HXB7.out hS9 (by simp)); obtain ⟨y0, y1, y2, y3, y4⟩ := cells5 (blk_keep HYB.out hS9 (by simp)); go_simp; try exact rfl)
          try simp only [Act.put, List.setIfInBounds_toArray, List.set_cons_zero, List.set_cons_succ]
          refine wpAnyH_takeL (i := 14) (v := ?vRD14) rfl (by kernel_rfl) (by kernel_rfl) (by kernel_rfl) (fun _ _ _ h => h) (Or.inl ⟨by kernel_rfl, ?runRD14⟩) hHeld ?_
          case runRD14 => (intro w9 hS9; obtain ⟨m0, m1, m2, m3, m4⟩ := cells5 (blk_keep HB7.out hS9 (by simp)); obtain ⟨x0, x1, x2, x3, x4⟩ := cells5 (blk_keep HXB7.out hS9 (by simp)); obtain ⟨y0, y1, y2, y3, y4⟩ := cells5 (blk_keep HYB.out hS9 (by simp)); go_simp; try exact rfl)
          try simp only [Act.put, List.setIfInBounds_toArray, List.set_cons_zero, List.set_cons_succ]
          refine wpAnyH_takeL (i := 16) (v := ?vRD16) rfl (by kernel_rfl) (by kernel_rfl) (by kernel_rfl) (fun _ _ _ h => h) (Or.inl ⟨by kernel_rfl, ?runRD16⟩) hHeld ?_
          case runRD16 => (intro w9 hS9; obtain ⟨m0, m1, m2, m3, m4⟩ := cells5 (blk_keep HB7.out hS9 (by simp)); obtain ⟨x0, x1, x2, x3, x4⟩ := cells5 (blk_keep HXB7.out hS9 (by simp)); obtain ⟨y0, y1, y2, y3, y4⟩ := cells5 (blk_keep HYB.out hS9 (by simp)); go_simp; try exact rfl)
          try simp only [Act.put, List.setIfInBounds_toArray, List.set_cons_zero, List.set_cons_succ]
          refine wpAnyH_ready (rs := [15]) (by kernel_rfl) (by simp) ?_
          refine AllReadyH.consL rfl (fun K hK => ?_) AllReadyH.nil
          go_simp
          refine (q_num _ _).mono ?_
          rintro e wn ⟨rfl, rfl⟩
          clear hHeld
          go_wp2_with fail
          refine hK.out _ _ Hws.out (fun hHeld => ?_)
          clear hK K
          try simp only [Act.put, List.setIfInBounds_toArray, List.set_cons_zero, List.set_cons_succ]
          refine wpAnyH_takeL (i := 17) (v := .bool true) rfl (by kernel_rfl) (by kernel_rfl) (by kernel_rfl) (fun _ _ _ h => h) (Or.inl ⟨by kernel_rfl, ?runRD17⟩) hHeld ?_
          case runRD17 => (intro w9 hS9; obtain ⟨m0, m1, m2, m3, m4⟩ := cells5 (blk_keep HB7.out hS9 (by simp)); obtain ⟨x0, x1, x2, x3, x4⟩ := cells5 (blk_keep HXB7.out hS9 (by simp)); obtain ⟨y0, y1, y2, y3, y4⟩ := cells5 (blk_keep HYB.out hS9 (by simp)); go_simp; first | done | exact rfl | (simp [*]; done) | (simp; omega))
          try simp only [Act.put, List.setIfInBounds_toArray, List.set_cons_zero, List.set_cons_succ]
          refine wpAnyH_takeL (i := 18) (v := .bool true) rfl (by kernel_rfl) (by kernel_rfl) (by kernel_rfl) (fun _ _ _ h => h) (Or.inl ⟨by kernel_rfl, ?runRD18⟩) hHeld ?_
          case runRD18 => (intro w9 hS9; obtain ⟨m0, m1, m2, m3, m4⟩ := cells5 (blk_keep HB7.out hS9 (by simp)); obtain ⟨x0, x1, x2, x3, x4⟩ := cells5 (blk_keep HXB7.out hS9 (by simp)); obtain ⟨y0, y1, y2, y3, y4⟩ := cells5 (blk_keep HYB.out hS9 (by simp)); go_simp; first | done | exact rfl | (simp [*]; done) | (simp; omega))
          try simp only [Act.put, List.setIfInBounds_toArray, List.set_cons_zero, List.set_cons_succ]
          refine wpAnyH_takeL (i := 19) (v := ?vRD19) rfl (by kernel_rfl) (by kernel_rfl) (by kernel_rfl) (fun _ _ _ h => h) (Or.inl ⟨by kernel_rfl, ?runRD19⟩) hHeld ?_
          case runRD19 => (intro w9 hS9; obtain ⟨m0, m1, m2, m3, m4⟩ := cells5 (blk_keep HB7.out hS9 (by simp)); obtain ⟨x0, x1, x2, x3, x4⟩ := cells5 (blk_keep HXB7.out hS9 (by simp)); obtain ⟨y0, y1, y2, y3, y4⟩ := cells5 (blk_keep HYB.out hS9 (by simp)); go_simp; try exact rfl)
          try simp only [Act.put, List.setIfInBounds_toArray, List.set_cons_zero, List.set_cons_succ]
          refine wpAnyH_ready (rs := [20]) (by kernel_rfl) (by simp) ?_
          refine AllReadyH.consL rfl (fun K hK => ?_) AllReadyH.nil
          go_simp
          refine (q_live _).mono ?_
          rintro e wl ⟨rfl, hk⟩
          have Hwl : Hid (Keep [] w7 wl) := Lib.hid (Hws.out.trans hk (by simp))
          clear hk
          clear hHeld
          go_wp2_with fail
          refine hK.out _ _ Hwl.out (fun hHeld => ?_)
          clear hK K
          try simp only [Act.put, List.setIfInBounds_toArray, List.set_cons_zero, List.set_cons_succ]
          refine wpAnyH_takeL (i := 21) (v := .bool true) rfl (by kernel_rfl) (by kernel_rfl) (by kernel_rfl) (fun _ _ _ h => h) (Or.inl ⟨by kernel_rfl, ?runRD21⟩) hHeld ?_
          case runRD21 => (intro w9 hS9; obtain ⟨m0, m1, m2, m3, m4⟩ := cells5 (blk_keep HB7.out hS9 (by simp)); obtain ⟨x0, x1, x2, x3, x4⟩ := cells5 (blk_keep HXB7.out hS9 (by simp)); obtain ⟨y0, y1, y2, y3, y4⟩ := cells5 (blk_keep HYB.out hS9 (by simp)); go_simp; first | done | exact rfl | (simp [*]; done) | (simp; omega))
          try simp only [Act.put, List.setIfInBounds_toArray, List.set_cons_zero, List.set_cons_succ]
          refine wpAnyH_takeL (i := 22) (v := ?vRD22) rfl (by kernel_rfl) (by kernel_rfl) (by kernel_rfl) (fun _ _ _ h => h) (Or.inl ⟨by kernel_rfl, ?runRD22⟩) hHeld ?_
          case runRD22 => (intro w9 hS9; obtain ⟨m0, m1, m2, m3, m4⟩ := cells5 (blk_keep HB7.out hS9 (by simp)); obtain ⟨x0, x1, x2, x3, x4⟩ := cells5 (blk_keep HXB7.out hS9 (by simp)); obtain ⟨y0, y1, y2, y3, y4⟩ := cells5 (blk_keep HYB.out hS9 (by simp)); go_simp; try exact rfl)
          try simp only [Act.put, List.setIfInBounds_toArray, List.set_cons_zero, List.set_cons_succ]
          refine wpAnyH_done (by kernel_rfl) ?_ _
          clear hHeld
          go_wp2_with fail
          go_ret
          exact ⟨rfl, HK7.out.trans Hwl.out (by simp)⟩
end Go.Proofs.Ytngepgnmlpinaaa
