/- ManifestChecks: the walk. Printed by gen-mnchecks.py. -/
import Derived.Test.YtngepgnmlpinaaaMnG
namespace Go.Proofs.Ytngepgnmlpinaaa
open Go.RowKit Go.Emb Go.Emb.Ext

theorem fndP_small {m : MnV} {pid : Int} (h : SmallV m) : (fndP m.man pid).pieces.length ≤ 1000000 := by
  unfold fndP
  rw [fnd_eq]
  cases hf : findL m pid with
  | none => simp
  | some y => exact h y (List.mem_of_find?_eq_some hf)
set_option maxRecDepth 100000 in
set_option maxHeartbeats 4000000 in
theorem checks_walk {w : World} {m : MnV} {blocks size pid : Int} (hbl : -9223372036854775808 ≤ blocks ∧ blocks ≤ 9223372036854775807) (hsi : -9223372036854775808 ≤ size ∧ size ≤ 9223372036854775807) (hm : RdM w.heap.size w m) (hpi : -9223372036854775808 ≤ pid ∧ pid ≤ 9223372036854775807) :
    Calls Try.prog 6 #[.int .i64 blocks, .int .i64 size, aggM m, .int .i64 pid] w fun e w' => e = .returned (.bool true) ∧ Keep [] w w' := by
  have hpid : I64 pid := hpi
  have HPID := Lib.hid hpid
  have HSI := Lib.hid hsi
  clear hpid hpi hsi hbl
  obtain ⟨⟨ra, rc, hrv, -, -⟩, pa, pc, hpv, -, -⟩ := hm.forms
  obtain ⟨ms, me, mrv, ml, mpv, mps⟩ := m
  simp only at hrv hpv
  subst hrv hpv
  have hk1 : Keep [] w (w.alloc (.cells #[.string ms, .int .i64 me.1, .int .i64 me.2, .slice ra ml.length rc, .slice pa mps.length pc] 27)) := (Keep.refl [] w).alloc _
  have hb1 := heap_new w (.cells #[.string ms, .int .i64 me.1, .int .i64 me.2, .slice ra ml.length rc, .slice pa mps.length pc] 27)
  have hm1 := hm.next hk1
  have hsm := q_small hm1
  unfold aggM at hsm ⊢
  simp only at hsm ⊢
  obtain ⟨m0, m1, m2, m3, m4⟩ := cells5 hb1
  have HK1 := Lib.hid hk1
  have HB1 := Lib.hid hb1
  have HM1 := Lib.hid hm1
  have HSM := Lib.hid hsm
  clear hk1 hb1 hm1 hsm hm
  go_enter Try.func6, Try.ntmps6
  go_wp2_with fail
  generalize w.alloc (.cells #[.string ms, .int .i64 me.1, .int .i64 me.2, .slice ra ml.length rc, .slice pa mps.length pc] 27) = w1 at *
  refine HSM.out.mono ?_
  rintro e w2 ⟨b, rfl, hb, hk2⟩
  have HK2 := Lib.hid (HK1.out.trans hk2 (by simp))
  have hb2 := blk_keep HB1.out hk2 (by simp)
  have HB2 := Lib.hid hb2
  have HM2 := Lib.hid (HM1.out.next hk2)
  clear hk2 HK1 HB1 HM1 HSM m0 m1 m2 m3 m4
  obtain ⟨m0, m1, m2, m3, m4⟩ := cells5 hb2
  clear hb2
  cases b with
  | false =>
    clear hb
    go_wp2_with fail
    refine (q_live w2).mono ?_
    rintro e w3 ⟨rfl, hk3⟩
    go_wp2_with fail
    go_ret
    exact ⟨rfl, HK2.out.trans hk3 (by simp)⟩
  | true =>
    have HSP := Lib.hid (hb rfl)
    clear hb
    by_cases hlen : 20 < mps.length
    · have hlen' : (20 : Int) < (mps.length : Int) := by omega
      go_wp2_with fail
      refine (q_live w2).mono ?_
      rintro e w3 ⟨rfl, hk3⟩
      go_wp2_with fail
      go_ret
      exact ⟨rfl, HK2.out.trans hk3 (by simp)⟩
    · have hlen' : ¬ (20 : Int) < (mps.length : Int) := by omega
      have hown := q_own HM2.out HSP.out
      unfold aggM at hown
      simp only at hown
      have HO := Lib.hid hown
      clear hown
      go_wp2_with fail
      refine HO.out.mono ?_
      rintro e w3 ⟨x, rfl, hxm, hxr, hk3⟩
      have hxl : x.places.length ≤ 100 := by
        have := congrArg (fun q : Man => q.places.length) hxm
        simp [MnV.man] at this
        omega
      have hfi := p_find hxr hxl HPID.out
      have HFI := Lib.hid hfi
      have HXR := Lib.hid hxr
      have HXM := Lib.hid hxm
      have HK3 := Lib.hid (HK2.out.trans hk3 (by simp))
      have HB3 := Lib.hid (blk_keep HB2.out hk3 (by simp))
      have HM3 := Lib.hid (HM2.out.next hk3)
      clear hfi hxr hxm hk3 HO HK2 HB2 HM2 m0 m1 m2 m3 m4 hxl
      go_wp2_with fail
      refine HFI.out.mono ?_
      rintro e w4 hfp
      obtain ⟨hk4, z, rfl, hz, hzr⟩ := hfp.all HXR.out
      rw [HXM.out] at hz ⊢
      clear hfp HFI HXR HXM
      obtain ⟨za, zc, hzv, -, -⟩ := hzr.2.2.slice
      unfold aggP
      rw [hzv]
      have HZV := Lib.hid hzv
      have hk5 : Keep [] w4 (w4.alloc (.cells #[.int .i64 z.p.pid, .int .i64 z.p.len, .slice za z.p.pieces.length zc] 43)) := (Keep.refl [] w4).alloc _
      have HZ := Lib.hid hz
      have HZR := Lib.hid (show RdP1 (w4.alloc (.cells #[.int .i64 z.p.pid, .int .i64 z.p.len, .slice za z.p.pieces.length zc] 43)).heap.size (w4.alloc (.cells #[.int .i64 z.p.pid, .int .i64 z.p.len, .slice za z.p.pieces.length zc] 43)) z from ⟨hzr.1, hzr.2.1, (hzr.2.2.keep hk5 (by simp)).up hk5.size⟩)
      have HZB := Lib.hid (heap_new w4 (.cells #[.int .i64 z.p.pid, .int .i64 z.p.len, .slice za z.p.pieces.length zc] 43))
      have hb5 := blk_keep HB3.out (hk4.trans hk5 (by simp)) (by simp)
      have HB5 := Lib.hid hb5
      have HM5 := Lib.hid (HM3.out.next (hk4.trans hk5 (by simp)))
      have HK5 := Lib.hid ((HK3.out.trans hk4 (by simp)).trans hk5 (by simp))
      obtain ⟨m0, m1, m2, m3, m4⟩ := cells5 hb5
      clear hz hzr hzv hk4 hk5 hb5 HK3 HB3 HM3
      obtain ⟨fo, hfo⟩ : ∃ q : Man → Option Plc, q = fun a => fndO a pid := ⟨_, rfl⟩
      have hrf := r_find HM5.out (by simp only; omega) HPID.out
      unfold aggM at hrf
      simp only at hrf
      have HRF := Lib.hid hrf
      clear hrf hfo
      go_wp2_with fail
      generalize hw5 : w4.alloc (.cells #[.int .i64 z.p.pid, .int .i64 z.p.len, .slice za z.p.pieces.length zc] 43) = w5 at *
      clear hw5
      refine HRF.out.mono ?_
      rintro e w6 hfp
      obtain ⟨hk6, y, rfl, hy, hyr⟩ := hfp.all HM5.out
      clear hfp HRF m0 m1 m2 m3 m4
      obtain ⟨ya, yc, hyv, -, -⟩ := hyr.2.2.slice
      unfold aggP
      rw [hyv]
      have HYV := Lib.hid hyv
      have hk7 : Keep [] w6 (w6.alloc (.cells #[.int .i64 y.p.pid, .int .i64 y.p.len, .slice ya y.p.pieces.length yc] 43)) := (Keep.refl [] w6).alloc _
      have HY := Lib.hid hy
      have HYR := Lib.hid (show RdP1 (w6.alloc (.cells #[.int .i64 y.p.pid, .int .i64 y.p.len, .slice ya y.p.pieces.length yc] 43)).heap.size (w6.alloc (.cells #[.int .i64 y.p.pid, .int .i64 y.p.len, .slice ya y.p.pieces.length yc] 43)) y from ⟨hyr.1, hyr.2.1, (hyr.2.2.keep hk7 (by simp)).up hk7.size⟩)
      have HYB := Lib.hid (heap_new w6 (.cells #[.int .i64 y.p.pid, .int .i64 y.p.len, .slice ya y.p.pieces.length yc] 43))
      have hk67 := hk6.trans hk7 (by simp)
      have HZR7 := Lib.hid (show RdP1 (w6.alloc (.cells #[.int .i64 y.p.pid, .int .i64 y.p.len, .slice ya y.p.pieces.length yc] 43)).heap.size (w6.alloc (.cells #[.int .i64 y.p.pid, .int .i64 y.p.len, .slice ya y.p.pieces.length yc] 43)) z from ⟨HZR.out.1, HZR.out.2.1, (HZR.out.2.2.keep hk67 (by simp)).up hk67.size⟩)
      have HZB7 := Lib.hid (blk_keep HZB.out hk67 (by simp))
      have HB7 := Lib.hid (blk_keep HB5.out hk67 (by simp))
      have HM7 := Lib.hid (HM5.out.next hk67)
      have HK7 := Lib.hid (HK5.out.trans hk67 (by simp))
      clear hy hyr hyv hk6 hk7 hk67 HZR HZB HB5 HM5 HK5
      obtain ⟨fb, hfb⟩ : ∃ q : Bool, q = (fndO (MnV.man ⟨ms, me, .slice ra ml.length rc, ml, .slice pa mps.length pc, mps⟩) pid).isSome := ⟨_, rfl⟩
      rw [← hfb]
      clear hfb
      go_wp2_with fail
      generalize hw7 : w6.alloc (.cells #[.int .i64 y.p.pid, .int .i64 y.p.len, .slice ya y.p.pieces.length yc] 43) = w7 at *
      clear hw7
      have hpp : z.p = y.p := HZ.out.trans HY.out.symm
      have hzl : z.p.pieces.length ≤ 1000000 := by rw [HZ.out]; exact fndP_small HSP.out.v
      have hsm := fun W (hW : Keep [] w7 W) => r_sameplace (x := z) (y := y) (B := w7.heap.size) (w := W) ⟨HZR7.out.1, HZR7.out.2.1, HZR7.out.2.2.keep hW (by simp)⟩ ⟨HYR.out.1, HYR.out.2.1, HYR.out.2.2.keep hW (by simp)⟩ hzl (by rw [← hpp]; exact hzl)
      rw [hpp] at hsm
      simp only [show plcB y.p y.p = true from by simp [plcB]] at hsm
      unfold aggP at hsm
      rw [HYV.out, HZV.out] at hsm
      skip
      have HSM := Lib.hid hsm
      have hown := fun W (hW : Keep [] w7 W) => q_own (HM7.out.next hW) HSP.out
      have hchk := fun W (hW : Keep [] w7 W) => (r_check (blocks := blocks) (HM7.out.next hW) HSP.out.all HSI.out.1 HSI.out.2).mono (fun e w' h => h.one)
      have husd := fun W (hW : Keep [] w7 W) => r_used (HM7.out.next hW) HSP.out.all
      obtain ⟨R, hR⟩ : ∃ R : Int, R = chkR blocks size me mps := ⟨_, rfl⟩
      obtain ⟨M, hM⟩ : ∃ M : MnV, M = ⟨ms, me, .slice ra ml.length rc, ml, .slice pa mps.length pc, mps⟩ := ⟨_, rfl⟩
      have HSPA := Lib.hid HSP.out.all
      have hck1 : ∀ (W : World) (x1 : MnV), RdM W.heap.size W x1 → x1.man = M.man → Calls Try.prog 19 #[.int .i64 blocks, .int .i64 size, aggM x1] W fun e w' => e = .returned (.int .i64 R) ∧ Keep [] W w' := fun W x1 hr1 hx1 => by
        rw [hM] at hx1
        have h1 := p_check (blocks := blocks) hr1 (by rw [allL_man hx1]; exact HSPA.out) HSI.out.1 HSI.out.2
        refine h1.mono (fun e w' h => ?_)
        have h2 := h.one
        rw [chkR_man hx1] at h2
        rw [hR]
        exact h2
      have hus1 : ∀ (W : World) (x1 : MnV), RdM W.heap.size W x1 → x1.man = M.man → Calls Try.prog 22 #[aggM x1] W (UsedP W (allL me mps)) := fun W x1 hr1 hx1 => by
        rw [hM] at hx1
        have h1 := p_used hr1 (by rw [allL_man hx1]; exact HSPA.out)
        rw [allL_man hx1] at h1
        exact h1
      unfold aggM at hown hchk husd
      simp only at hown hchk husd
      simp only [← hR] at hchk
      rw [← hM] at hown
      have HOWN := Lib.hid hown
      have HCHK := Lib.hid hchk
      have HUSD := Lib.hid husd
      have HCK1 := Lib.hid hck1
      have HUS1 := Lib.hid hus1
      clear hown hchk husd hck1 hus1 hsm hR hM hpp hzl
      refine wp_region_held_drew (S := fun w' => Keep [] w7 w') (by kernel_rfl) ((Keep.refl [] w7).drew) (fun hHeld => ?_)
      have HS0 := Lib.hid hHeld
      clear hHeld
      have hHeld := HS0.out
      generalize w7.drew = w8 at *
      refine wpAnyH_takeL (i := 0) (v := ?vR0) rfl (by kernel_rfl) (by kernel_rfl) (by kernel_rfl) (fun _ _ _ h => h) (Or.inl ⟨by kernel_rfl, ?runR0⟩) hHeld ?_
      case runR0 => (intro w9 hS9; obtain ⟨m0, m1, m2, m3, m4⟩ := cells5 (blk_keep HB7.out hS9 (by simp)); obtain ⟨x0, x1, x2, -⟩ := cells3 (blk_keep HZB7.out hS9 (by simp)); obtain ⟨y0, y1, y2, -⟩ := cells3 (blk_keep HYB.out hS9 (by simp)); go_simp; try exact rfl)
      try simp only [Act.put, List.setIfInBounds_toArray, List.set_cons_zero, List.set_cons_succ]
      refine wpAnyH_takeL (i := 1) (v := ?vR1) rfl (by kernel_rfl) (by kernel_rfl) (by kernel_rfl) (fun _ _ _ h => h) (Or.inl ⟨by kernel_rfl, ?runR1⟩) hHeld ?_
      case runR1 => (intro w9 hS9; obtain ⟨m0, m1, m2, m3, m4⟩ := cells5 (blk_keep HB7.out hS9 (by simp)); obtain ⟨x0, x1, x2, -⟩ := cells3 (blk_keep HZB7.out hS9 (by simp)); obtain ⟨y0, y1, y2, -⟩ := cells3 (blk_keep HYB.out hS9 (by simp)); go_simp; try exact rfl)
      try simp only [Act.put, List.setIfInBounds_toArray, List.set_cons_zero, List.set_cons_succ]
      refine wpAnyH_takeL (i := 2) (v := ?vR2) rfl (by kernel_rfl) (by kernel_rfl) (by kernel_rfl) (fun _ _ _ h => h) (Or.inl ⟨by kernel_rfl, ?runR2⟩) hHeld ?_
      case runR2 => (intro w9 hS9; obtain ⟨m0, m1, m2, m3, m4⟩ := cells5 (blk_keep HB7.out hS9 (by simp)); obtain ⟨x0, x1, x2, -⟩ := cells3 (blk_keep HZB7.out hS9 (by simp)); obtain ⟨y0, y1, y2, -⟩ := cells3 (blk_keep HYB.out hS9 (by simp)); go_simp; try exact rfl)
      try simp only [Act.put, List.setIfInBounds_toArray, List.set_cons_zero, List.set_cons_succ]
      refine wpAnyH_takeL (i := 6) (v := ?vR6) rfl (by kernel_rfl) (by kernel_rfl) (by kernel_rfl) (fun _ _ _ h => h) (Or.inl ⟨by kernel_rfl, ?runR6⟩) hHeld ?_
      case runR6 => (intro w9 hS9; obtain ⟨m0, m1, m2, m3, m4⟩ := cells5 (blk_keep HB7.out hS9 (by simp)); obtain ⟨x0, x1, x2, -⟩ := cells3 (blk_keep HZB7.out hS9 (by simp)); obtain ⟨y0, y1, y2, -⟩ := cells3 (blk_keep HYB.out hS9 (by simp)); go_simp; try exact rfl)
      try simp only [Act.put, List.setIfInBounds_toArray, List.set_cons_zero, List.set_cons_succ]
      refine wpAnyH_takeL (i := 7) (v := ?vR7) rfl (by kernel_rfl) (by kernel_rfl) (by kernel_rfl) (fun _ _ _ h => h) (Or.inl ⟨by kernel_rfl, ?runR7⟩) hHeld ?_
      case runR7 => (intro w9 hS9; obtain ⟨m0, m1, m2, m3, m4⟩ := cells5 (blk_keep HB7.out hS9 (by simp)); obtain ⟨x0, x1, x2, -⟩ := cells3 (blk_keep HZB7.out hS9 (by simp)); obtain ⟨y0, y1, y2, -⟩ := cells3 (blk_keep HYB.out hS9 (by simp)); go_simp; try exact rfl)
      try simp only [Act.put, List.setIfInBounds_toArray, List.set_cons_zero, List.set_cons_succ]
      refine wpAnyH_takeL (i := 8) (v := ?vR8) rfl (by kernel_rfl) (by kernel_rfl) (by kernel_rfl) (fun _ _ _ h => h) (Or.inl ⟨by kernel_rfl, ?runR8⟩) hHeld ?_
      case runR8 => (intro w9 hS9; obtain ⟨m0, m1, m2, m3, m4⟩ := cells5 (blk_keep HB7.out hS9 (by simp)); obtain ⟨x0, x1, x2, -⟩ := cells3 (blk_keep HZB7.out hS9 (by simp)); obtain ⟨y0, y1, y2, -⟩ := cells3 (blk_keep HYB.out hS9 (by simp)); go_simp; try exact rfl)
      try simp only [Act.put, List.setIfInBounds_toArray, List.set_cons_zero, List.set_cons_succ]
      refine wpAnyH_ready (rs := [3]) (by kernel_rfl) (by simp) ?_
      refine AllReadyH.consL rfl (fun K hK => ?_) AllReadyH.nil
      go_simp
      refine (HOWN.out _ HS0.out).mono ?_
      rintro e wo ⟨x1, rfl, hx1, hr1, hk⟩
      have Hwo : Hid (Keep [] w7 wo) := Lib.hid (HS0.out.trans hk (by simp))
      have hc := HCK1.out _ _ hr1 hx1
      have HC := Lib.hid hc
      clear hc hr1 hx1 hk
      clear hHeld
      go_wp2_with fail
      refine hK.out _ _ Hwo.out (fun hHeld => ?_)
      clear hK K
      try simp only [Act.put, List.setIfInBounds_toArray, List.set_cons_zero, List.set_cons_succ]
      refine wpAnyH_ready (rs := [4]) (by kernel_rfl) (by simp) ?_
      refine AllReadyH.consL rfl (fun K hK => ?_) AllReadyH.nil
      go_simp
      refine (HC.out).mono ?_
      rintro e wc ⟨rfl, hk⟩
      have Hwc : Hid (Keep [] w7 wc) := Lib.hid (Hwo.out.trans hk (by simp))
      clear hk HC
      clear hHeld
      go_wp2_with fail
      refine hK.out _ _ Hwc.out (fun hHeld => ?_)
      clear hK K
      try simp only [Act.put, List.setIfInBounds_toArray, List.set_cons_zero, List.set_cons_succ]
      have Hwn := Hwc
      refine wpAnyH_ready (rs := [5]) (by kernel_rfl) (by simp) ?_
      refine AllReadyH.consL rfl (fun K hK => ?_) AllReadyH.nil
      go_simp
      refine (q_num _ _).mono ?_
      rintro e wn ⟨rfl, rfl⟩
      clear hHeld
      go_wp2_with fail
      refine hK.out _ _ Hwc.out (fun hHeld => ?_)
      clear hK K
      try simp only [Act.put, List.setIfInBounds_toArray, List.set_cons_zero, List.set_cons_succ]
      refine wpAnyH_ready (rs := [9]) (by kernel_rfl) (by simp) ?_
      refine AllReadyH.consL rfl (fun K hK => ?_) AllReadyH.nil
      go_simp
      refine (HCHK.out _ Hwc.out).mono ?_
      rintro e wd ⟨rfl, hk⟩
      have Hwd : Hid (Keep [] w7 wd) := Lib.hid (Hwc.out.trans hk (by simp))
      clear hk
      clear hHeld
      go_wp2_with fail
      refine hK.out _ _ Hwd.out (fun hHeld => ?_)
      clear hK K
      try simp only [Act.put, List.setIfInBounds_toArray, List.set_cons_zero, List.set_cons_succ]
      refine wpAnyH_takeL (i := 10) (v := .bool true) rfl (by kernel_rfl) (by kernel_rfl) (by kernel_rfl) (fun _ _ _ h => h) (Or.inl ⟨by kernel_rfl, ?runR10⟩) hHeld ?_
      case runR10 => (intro w9 hS9; obtain ⟨m0, m1, m2, m3, m4⟩ := cells5 (blk_keep HB7.out hS9 (by simp)); obtain ⟨x0, x1, x2, -⟩ := cells3 (blk_keep HZB7.out hS9 (by simp)); obtain ⟨y0, y1, y2, -⟩ := cells3 (blk_keep HYB.out hS9 (by simp)); go_simp; first | done | exact rfl | (simp [*]; done) | (simp; omega))
      try simp only [Act.put, List.setIfInBounds_toArray, List.set_cons_zero, List.set_cons_succ]
      refine wpAnyH_takeL (i := 11) (v := ?vR11) rfl (by kernel_rfl) (by kernel_rfl) (by kernel_rfl) (fun _ _ _ h => h) (Or.inl ⟨by kernel_rfl, ?runR11⟩) hHeld ?_
      case runR11 => (intro w9 hS9; obtain ⟨m0, m1, m2, m3, m4⟩ := cells5 (blk_keep HB7.out hS9 (by simp)); obtain ⟨x0, x1, x2, -⟩ := cells3 (blk_keep HZB7.out hS9 (by simp)); obtain ⟨y0, y1, y2, -⟩ := cells3 (blk_keep HYB.out hS9 (by simp)); go_simp; try exact rfl)
      try simp only [Act.put, List.setIfInBounds_toArray, List.set_cons_zero, List.set_cons_succ]
      refine wpAnyH_takeL (i := 12) (v := ?vR12) rfl (by kernel_rfl) (by kernel_rfl) (by kernel_rfl) (fun _ _ _ h => h) (Or.inl ⟨by kernel_rfl, ?runR12⟩) hHeld ?_
      case runR12 => (intro w9 hS9; obtain ⟨m0, m1, m2, m3, m4⟩ := cells5 (blk_keep HB7.out hS9 (by simp)); obtain ⟨x0, x1, x2, -⟩ := cells3 (blk_keep HZB7.out hS9 (by simp)); obtain ⟨y0, y1, y2, -⟩ := cells3 (blk_keep HYB.out hS9 (by simp)); go_simp; try exact rfl)
      try simp only [Act.put, List.setIfInBounds_toArray, List.set_cons_zero, List.set_cons_succ]
      refine wpAnyH_takeL (i := 15) (v := ?vR15) rfl (by kernel_rfl) (by kernel_rfl) (by kernel_rfl) (fun _ _ _ h => h) (Or.inl ⟨by kernel_rfl, ?runR15⟩) hHeld ?_
      case runR15 => (intro w9 hS9; obtain ⟨m0, m1, m2, m3, m4⟩ := cells5 (blk_keep HB7.out hS9 (by simp)); obtain ⟨x0, x1, x2, -⟩ := cells3 (blk_keep HZB7.out hS9 (by simp)); obtain ⟨y0, y1, y2, -⟩ := cells3 (blk_keep HYB.out hS9 (by simp)); go_simp; try exact rfl)
      try simp only [Act.put, List.setIfInBounds_toArray, List.set_cons_zero, List.set_cons_succ]
      refine wpAnyH_ready (rs := [13]) (by kernel_rfl) (by simp) ?_
      refine AllReadyH.consL rfl (fun K hK => ?_) AllReadyH.nil
      go_simp
      refine (HOWN.out _ Hwd.out).mono ?_
      rintro e wq ⟨x2, rfl, hx2, hr2, hk⟩
      have Hwq : Hid (Keep [] w7 wq) := Lib.hid (Hwd.out.trans hk (by simp))
      have hc := HUS1.out _ _ hr2 hx2
      have HC := Lib.hid hc
      clear hc hr2 hx2 hk
      clear hHeld
      go_wp2_with fail
      refine hK.out _ _ Hwq.out (fun hHeld => ?_)
      clear hK K
      try simp only [Act.put, List.setIfInBounds_toArray, List.set_cons_zero, List.set_cons_succ]
      refine wpAnyH_ready (rs := [14]) (by kernel_rfl) (by simp) ?_
      refine AllReadyH.consL rfl (fun K hK => ?_) AllReadyH.nil
      go_simp
      refine (HC.out).mono ?_
      rintro e wu ⟨u1, o1, out1, err1, rfl, hj1, hro1, -, hk⟩
      have Hwu : Hid (Keep [] w7 wu) := Lib.hid (Hwq.out.trans hk (by simp))
      have HJ1 := Lib.hid hj1
      have HU1 := Lib.hid hro1.has
      clear hk HC hj1 hro1
      clear hHeld
      go_wp2_with fail
      refine hK.out _ _ Hwu.out (fun hHeld => ?_)
      clear hK K
      try simp only [Act.put, List.setIfInBounds_toArray, List.set_cons_zero, List.set_cons_succ]
      refine wpAnyH_ready (rs := [16]) (by kernel_rfl) (by simp) ?_
      refine AllReadyH.consL rfl (fun K hK => ?_) AllReadyH.nil
      go_simp
      refine (HUSD.out _ Hwu.out).mono ?_
      rintro e wv ⟨u2, out2, err2, rfl, hj2, hh2, hk⟩
      have Hwv : Hid (Keep [] w7 wv) := Lib.hid (Hwu.out.trans hk (by simp))
      have HJ2 := Lib.hid hj2
      have HU1' := Lib.hid (HU1.out.keep hk)
      have HU2 := Lib.hid hh2
      clear hk hj2 hh2 HU1
      clear hHeld
      go_wp2_with fail
      refine hK.out _ _ Hwv.out (fun hHeld => ?_)
      clear hK K
      try simp only [Act.put, List.setIfInBounds_toArray, List.set_cons_zero, List.set_cons_succ]
      obtain ⟨ox1, hr1, -⟩ := HU1'.out
      obtain ⟨ox2, hr2, -⟩ := HU2.out
      have hex := extents_any hr1 hr2 (by have := JoinRes.len HJ1.out; have := HSPA.out; omega) (by have := JoinRes.len HJ2.out; have := HSPA.out; omega)
      rw [decide_eq_true (JoinRes.uniq HJ1.out HJ2.out).1] at hex
      have HEX := Lib.hid hex
      clear hex hr1 hr2
      refine wpAnyH_ready (rs := [17]) (by kernel_rfl) (by simp) ?_
      refine AllReadyH.consL rfl (fun K hK => ?_) AllReadyH.nil
      go_simp
      refine (HEX.out).mono ?_
      rintro e wx ⟨rfl, n, hn⟩
      have Hwx : Hid (Keep [] w7 wx) := Lib.hid (hn ▸ Hwv.out.drewN n)
      clear hn HEX
      clear hHeld
      go_wp2_with fail
      refine hK.out _ _ Hwx.out (fun hHeld => ?_)
      clear hK K
      try simp only [Act.put, List.setIfInBounds_toArray, List.set_cons_zero, List.set_cons_succ]
      refine wpAnyH_takeL (i := 18) (v := .bool true) rfl (by kernel_rfl) (by kernel_rfl) (by kernel_rfl) (fun _ _ _ h => h) (Or.inl ⟨by kernel_rfl, ?runR18⟩) hHeld ?_
      case runR18 => (intro w9 hS9; obtain ⟨m0, m1, m2, m3, m4⟩ := cells5 (blk_keep HB7.out hS9 (by simp)); obtain ⟨x0, x1, x2, -⟩ := cells3 (blk_keep HZB7.out hS9 (by simp)); obtain ⟨y0, y1, y2, -⟩ := cells3 (blk_keep HYB.out hS9 (by simp)); go_simp; first | done | exact rfl | (simp [*]; done) | (simp; omega))
      try simp only [Act.put, List.setIfInBounds_toArray, List.set_cons_zero, List.set_cons_succ]
      refine wpAnyH_takeL (i := 19) (v := ?vR19) rfl (by kernel_rfl) (by kernel_rfl) (by kernel_rfl) (fun _ _ _ h => h) (Or.inl ⟨by kernel_rfl, ?runR19⟩) hHeld ?_
      case runR19 => (intro w9 hS9; obtain ⟨m0, m1, m2, m3, m4⟩ := cells5 (blk_keep HB7.out hS9 (by simp)); obtain ⟨x0, x1, x2, -⟩ := cells3 (blk_keep HZB7.out hS9 (by simp)); obtain ⟨y0, y1, y2, -⟩ := cells3 (blk_keep HYB.out hS9 (by simp)); go_simp; try exact rfl)
      try simp only [Act.put, List.setIfInBounds_toArray, List.set_cons_zero, List.set_cons_succ]
      refine wpAnyH_takeL (i := 20) (v := ?vR20) rfl (by kernel_rfl) (by kernel_rfl) (by kernel_rfl) (fun _ _ _ h => h) (Or.inl ⟨by kernel_rfl, ?runR20⟩) hHeld ?_
      case runR20 => (intro w9 hS9; obtain ⟨m0, m1, m2, m3, m4⟩ := cells5 (blk_keep HB7.out hS9 (by simp)); obtain ⟨x0, x1, x2, -⟩ := cells3 (blk_keep HZB7.out hS9 (by simp)); obtain ⟨y0, y1, y2, -⟩ := cells3 (blk_keep HYB.out hS9 (by simp)); go_simp; try exact rfl)
      try simp only [Act.put, List.setIfInBounds_toArray, List.set_cons_zero, List.set_cons_succ]
      refine wpAnyH_takeL (i := 21) (v := ?vR21) rfl (by kernel_rfl) (by kernel_rfl) (by kernel_rfl) (fun _ _ _ h => h) (Or.inl ⟨by kernel_rfl, ?runR21⟩) hHeld ?_
      case runR21 => (intro w9 hS9; obtain ⟨m0, m1, m2, m3, m4⟩ := cells5 (blk_keep HB7.out hS9 (by simp)); obtain ⟨x0, x1, x2, -⟩ := cells3 (blk_keep HZB7.out hS9 (by simp)); obtain ⟨y0, y1, y2, -⟩ := cells3 (blk_keep HYB.out hS9 (by simp)); go_simp; try exact rfl)
      try simp only [Act.put, List.setIfInBounds_toArray, List.set_cons_zero, List.set_cons_succ]
      refine wpAnyH_ready (rs := [22]) (by kernel_rfl) (by simp) ?_
      refine AllReadyH.consL rfl (fun K hK => ?_) AllReadyH.nil
      go_simp
      refine (HSM.out _ Hwx.out).mono ?_
      rintro e wy ⟨rfl, hk⟩
      have Hwy : Hid (Keep [] w7 wy) := Lib.hid (Hwx.out.trans hk (by simp))
      clear hk
      clear hHeld
      go_wp2_with fail
      refine hK.out _ _ Hwy.out (fun hHeld => ?_)
      clear hK K
      try simp only [Act.put, List.setIfInBounds_toArray, List.set_cons_zero, List.set_cons_succ]
      refine wpAnyH_takeL (i := 23) (v := .bool true) rfl (by kernel_rfl) (by kernel_rfl) (by kernel_rfl) (fun _ _ _ h => h) (Or.inl ⟨by kernel_rfl, ?runR23⟩) hHeld ?_
      case runR23 => (intro w9 hS9; obtain ⟨m0, m1, m2, m3, m4⟩ := cells5 (blk_keep HB7.out hS9 (by simp)); obtain ⟨x0, x1, x2, -⟩ := cells3 (blk_keep HZB7.out hS9 (by simp)); obtain ⟨y0, y1, y2, -⟩ := cells3 (blk_keep HYB.out hS9 (by simp)); go_simp; first | done | exact rfl | (simp [*]; done) | (simp; omega))
      try simp only [Act.put, List.setIfInBounds_toArray, List.set_cons_zero, List.set_cons_succ]
      refine wpAnyH_takeL (i := 24) (v := ?vR24) rfl (by kernel_rfl) (by kernel_rfl) (by kernel_rfl) (fun _ _ _ h => h) (Or.inl ⟨by kernel_rfl, ?runR24⟩) hHeld ?_
      case runR24 => (intro w9 hS9; obtain ⟨m0, m1, m2, m3, m4⟩ := cells5 (blk_keep HB7.out hS9 (by simp)); obtain ⟨x0, x1, x2, -⟩ := cells3 (blk_keep HZB7.out hS9 (by simp)); obtain ⟨y0, y1, y2, -⟩ := cells3 (blk_keep HYB.out hS9 (by simp)); go_simp; try exact rfl)
      try simp only [Act.put, List.setIfInBounds_toArray, List.set_cons_zero, List.set_cons_succ]
      refine wpAnyH_takeL (i := 25) (v := ?vR25) rfl (by kernel_rfl) (by kernel_rfl) (by kernel_rfl) (fun _ _ _ h => h) (Or.inl ⟨by kernel_rfl, ?runR25⟩) hHeld ?_
      case runR25 => (intro w9 hS9; obtain ⟨m0, m1, m2, m3, m4⟩ := cells5 (blk_keep HB7.out hS9 (by simp)); obtain ⟨x0, x1, x2, -⟩ := cells3 (blk_keep HZB7.out hS9 (by simp)); obtain ⟨y0, y1, y2, -⟩ := cells3 (blk_keep HYB.out hS9 (by simp)); go_simp; try exact rfl)
      try simp only [Act.put, List.setIfInBounds_toArray, List.set_cons_zero, List.set_cons_succ]
      refine wpAnyH_takeL (i := 26) (v := ?vR26) rfl (by kernel_rfl) (by kernel_rfl) (by kernel_rfl) (fun _ _ _ h => h) (Or.inl ⟨by kernel_rfl, ?runR26⟩) hHeld ?_
      case runR26 => (intro w9 hS9; obtain ⟨m0, m1, m2, m3, m4⟩ := cells5 (blk_keep HB7.out hS9 (by simp)); obtain ⟨x0, x1, x2, -⟩ := cells3 (blk_keep HZB7.out hS9 (by simp)); obtain ⟨y0, y1, y2, -⟩ := cells3 (blk_keep HYB.out hS9 (by simp)); go_simp; try exact rfl)
      try simp only [Act.put, List.setIfInBounds_toArray, List.set_cons_zero, List.set_cons_succ]
      refine wpAnyH_takeL (i := 27) (v := .bool true) rfl (by kernel_rfl) (by kernel_rfl) (by kernel_rfl) (fun _ _ _ h => h) (Or.inl ⟨by kernel_rfl, ?runR27⟩) hHeld ?_
      case runR27 => (intro w9 hS9; obtain ⟨m0, m1, m2, m3, m4⟩ := cells5 (blk_keep HB7.out hS9 (by simp)); obtain ⟨x0, x1, x2, -⟩ := cells3 (blk_keep HZB7.out hS9 (by simp)); obtain ⟨y0, y1, y2, -⟩ := cells3 (blk_keep HYB.out hS9 (by simp)); go_simp; first | done | exact rfl | (simp [*]; done) | (simp; omega))
      try simp only [Act.put, List.setIfInBounds_toArray, List.set_cons_zero, List.set_cons_succ]
      refine wpAnyH_takeL (i := 28) (v := .bool true) rfl (by kernel_rfl) (by kernel_rfl) (by kernel_rfl) (fun _ _ _ h => h) (Or.inl ⟨by kernel_rfl, ?runR28⟩) hHeld ?_
      case runR28 => (intro w9 hS9; obtain ⟨m0, m1, m2, m3, m4⟩ := cells5 (blk_keep HB7.out hS9 (by simp)); obtain ⟨x0, x1, x2, -⟩ := cells3 (blk_keep HZB7.out hS9 (by simp)); obtain ⟨y0, y1, y2, -⟩ := cells3 (blk_keep HYB.out hS9 (by simp)); go_simp; first | done | exact rfl | (simp [*]; done) | (simp; omega))
      try simp only [Act.put, List.setIfInBounds_toArray, List.set_cons_zero, List.set_cons_succ]
      refine wpAnyH_takeL (i := 29) (v := ?vR29) rfl (by kernel_rfl) (by kernel_rfl) (by kernel_rfl) (fun _ _ _ h => h) (Or.inl ⟨by kernel_rfl, ?runR29⟩) hHeld ?_
      case runR29 => (intro w9 hS9; obtain ⟨m0, m1, m2, m3, m4⟩ := cells5 (blk_keep HB7.out hS9 (by simp)); obtain ⟨x0, x1, x2, -⟩ := cells3 (blk_keep HZB7.out hS9 (by simp)); obtain ⟨y0, y1, y2, -⟩ := cells3 (blk_keep HYB.out hS9 (by simp)); go_simp; try exact rfl)
      try simp only [Act.put, List.setIfInBounds_toArray, List.set_cons_zero, List.set_cons_succ]
      refine wpAnyH_ready (rs := [30]) (by kernel_rfl) (by simp) ?_
      refine AllReadyH.consL rfl (fun K hK => ?_) AllReadyH.nil
      go_simp
      refine (q_live _).mono ?_
      rintro e wl ⟨rfl, hk⟩
      have Hwl : Hid (Keep [] w7 wl) := Lib.hid (Hwy.out.trans hk (by simp))
      clear hk
      clear hHeld
      go_wp2_with fail
      refine hK.out _ _ Hwl.out (fun hHeld => ?_)
      clear hK K
      try simp only [Act.put, List.setIfInBounds_toArray, List.set_cons_zero, List.set_cons_succ]
      refine wpAnyH_takeL (i := 31) (v := .bool true) rfl (by kernel_rfl) (by kernel_rfl) (by kernel_rfl) (fun _ _ _ h => h) (Or.inl ⟨by kernel_rfl, ?runR31⟩) hHeld ?_
      case runR31 => (intro w9 hS9; obtain ⟨m0, m1, m2, m3, m4⟩ := cells5 (blk_keep HB7.out hS9 (by simp)); obtain ⟨x0, x1, x2, -⟩ := cells3 (blk_keep HZB7.out hS9 (by simp)); obtain ⟨y0, y1, y2, -⟩ := cells3 (blk_keep HYB.out hS9 (by simp)); go_simp; first | done | exact rfl | (simp [*]; done) | (simp; omega))
      try simp only [Act.put, List.setIfInBounds_toArray, List.set_cons_zero, List.set_cons_succ]
      refine wpAnyH_takeL (i := 32) (v := ?vR32) rfl (by kernel_rfl) (by kernel_rfl) (by kernel_rfl) (fun _ _ _ h => h) (Or.inl ⟨by kernel_rfl, ?runR32⟩) hHeld ?_
      case runR32 => (intro w9 hS9; obtain ⟨m0, m1, m2, m3, m4⟩ := cells5 (blk_keep HB7.out hS9 (by simp)); obtain ⟨x0, x1, x2, -⟩ := cells3 (blk_keep HZB7.out hS9 (by simp)); obtain ⟨y0, y1, y2, -⟩ := cells3 (blk_keep HYB.out hS9 (by simp)); go_simp; try exact rfl)
      try simp only [Act.put, List.setIfInBounds_toArray, List.set_cons_zero, List.set_cons_succ]
      refine wpAnyH_done (by kernel_rfl) ?_ _
      clear hHeld
      go_wp2_with fail
      go_ret
      exact ⟨rfl, HK7.out.trans Hwl.out (by simp)⟩
end Go.Proofs.Ytngepgnmlpinaaa
