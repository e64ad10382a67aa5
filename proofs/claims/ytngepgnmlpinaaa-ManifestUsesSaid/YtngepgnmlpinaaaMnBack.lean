/- ManifestBack: the walk. Printed by gen-mnback.py. -/
import Derived.Test.YtngepgnmlpinaaaMnOpen
namespace Go.Proofs.Ytngepgnmlpinaaa
open Go.RowKit Go.Emb Go.Emb.Ext

theorem RdM.ok {B : Nat} {w : World} {m : MnV} (h : RdM B w m) : ManOk m.man := by
  obtain ⟨h1, h2, ⟨-, h3⟩, -, h4, h5⟩ := h
  have e1 : m.man.source.length = m.s.size := by simp [MnV.man]
  have e2 : m.man.places.length = m.places.length := by simp [MnV.man]
  refine ⟨by omega, h2, by show m.rest.length < _; omega, by omega, fun p hp => ?_⟩
  obtain ⟨y, hy, rfl⟩ := List.mem_map.1 hp
  obtain ⟨q1, q2, q3, q4, q5⟩ := h4 y hy
  exact ⟨q1, q2, by omega, q4⟩
theorem SmallP.v {m : MnV} (h : SmallP m) : SmallV m := fun x hx => by have := sumP_mem hx; have := h.2; omega
theorem intL_length9 (n : Int) : (intL n).length ≤ 9 := by
  unfold intL
  split
  · exact (numL_length _ _).1
  · exact (numL_length _ _).1
theorem flat_bound {α : Type} {f : α → List UInt8} {c : Nat} : ∀ l : List α, (∀ x ∈ l, (f x).length ≤ c) → (l.flatMap f).length ≤ c * l.length
  | [], _ => by simp
  | x :: l, h => by
    have h1 := flat_bound l (fun y hy => h y (by simp [hy]))
    have h2 := h x (by simp)
    simp only [List.flatMap_cons, List.length_append, List.length_cons, Nat.mul_add, Nat.mul_one]
    omega
theorem plcs_bound (ps : List PlV) : ((ps.map (·.p)).flatMap plcL).length ≤ 27 * ps.length + 18 * sumP ps := by
  induction ps with
  | nil => simp [sumP]
  | cons y ps ih =>
    have e : sumP (y :: ps) = y.p.pieces.length + sumP ps := by simp [sumP]
    have h1 := flat_bound (f := extL) (c := 18) y.p.pieces (fun x _ => by have h1 := intL_length9 x.1; have h2 := intL_length9 x.2; unfold extL; simp only [List.length_append]; omega)
    have h2 := intL_length9 y.p.pid
    have h3 := intL_length9 y.p.len
    have h4 := (numL_length y.p.pieces.length 0).1
    have h5 : (plcL y.p).length ≤ 27 + 18 * y.p.pieces.length := by unfold plcL; simp only [List.length_append]; omega
    simp only [List.map_cons, List.flatMap_cons, List.length_append, List.length_cons]
    omega
theorem SmallP.bytes {m : MnV} (h : SmallP m) : (manL m.man).length ≤ 1000000 := by
  obtain ⟨h1, h2⟩ := h
  have h3 := plcs_bound m.places
  have h4 := intL_length9 m.area.1
  have h5 := intL_length9 m.area.2
  have h6 := (numL_length m.s.data.toList.length 0).1
  have h7 := (numL_length m.rest.length 0).1
  have h8 := (numL_length m.places.length 0).1
  have e1 : m.s.data.toList.length = m.s.size := by simp
  have hL : manL m.man = strL m.s.data.toList ++ extL m.area ++ strL m.rest ++ numL m.places.length 0 ++ (m.places.map (·.p)).flatMap plcL := by unfold manL MnV.man; simp
  rw [hL]
  unfold strL extL
  simp only [List.length_append]
  omega
theorem back_man {m : Man} (h : ManOk m) : (oMan (manL m)).2 = some [] ∧ (oMan (manL m)).1 = m := by
  have h1 := pMan_man m h
  rw [pMan_oMan] at h1
  split at h1
  · rename_i h2
    exact ⟨h2, by simpa using h1⟩
  · cases h1
theorem RdB.forms {B : Nat} {w : World} {v : Value} {bs : List UInt8} (h : RdB B w v bs) : ∃ a c, v = .slice a bs.length c ∧ bs.length ≤ c ∧ c ≤ 9223372036854775807 := by
  obtain ⟨⟨o, ⟨-, a, c, h1, h2, h3, -⟩, -⟩, -⟩ := h
  unfold maxLen at h3
  exact ⟨a, c, h1, h2, by omega⟩
theorem RdB.up {B B' : Nat} {w : World} {v : Value} {bs : List UInt8} (h : RdB B w v bs) (hB : B ≤ B') : RdB B' w v bs := by
  obtain ⟨⟨o, h3, h4⟩, h5⟩ := h
  exact ⟨⟨o, h3, fun b hb => Nat.lt_of_lt_of_le (h4 b hb) hB⟩, h5⟩
theorem RdB.next {w w' : World} {v : Value} {bs : List UInt8} (h : RdB w.heap.size w v bs) (hk : Keep [] w w') : RdB w'.heap.size w' v bs := (h.keep hk (by simp)).up hk.size
theorem RdB.text {P : Program} {B : Nat} {w : World} {v : Value} {bs : List UInt8} {src e dst : TypeId} (h : RdB B w v bs) (hs : P.underlying src = some (.slice e)) (he : P.underlying e = some (.int .u8)) (hd : P.underlying dst = some .string) : (convert src dst v).run P w = .ok (.string ⟨bs.toArray⟩) w := by
  obtain ⟨⟨o, h1, -⟩, -⟩ := h
  exact rd_text h1 hs he hd
theorem RB.rdb {w : World} {v : Value} {bs : List UInt8} {o : Option Nat} (h : RB w v bs o) (hl : bs.length ≤ 1000000000) : RdB w.heap.size w v bs := by
  obtain ⟨o', hrd, ho'⟩ := h.rd
  refine ⟨⟨o', hrd, fun b hb => ?_⟩, by omega⟩
  rcases ho' with h1 | h1
  · rw [h1] at hb; cases hb
  · exact h.lt b (h1 ▸ hb)
theorem p_getB {w : World} {v : Value} {bs : List UInt8} (h : RdB w.heap.size w v bs) (hsz : bs.length ≤ 100000000) : Calls Try.prog 10 #[v] w (GetP w bs) := by
  obtain ⟨⟨o, h1, h2⟩, -⟩ := h
  exact p_get h1 h2 hsz
theorem p_putB {w : World} {m : MnV} (h : RdM w.heap.size w m) (hsz : (manL m.man).length ≤ 100000000) : Calls Try.prog 12 #[aggM m] w fun e w' => ∃ v, e = .returned v ∧ RdB w'.heap.size w' v (manL m.man) ∧ Keep [] w w' := by
  refine (p_put h (by omega)).mono ?_
  rintro e w' ⟨v, o, rfl, hr, -, hk⟩
  exact ⟨v, rfl, hr.rdb (by omega), hk⟩
set_option maxRecDepth 100000 in
set_option maxHeartbeats 4000000 in
theorem back_walk {w : World} {m : MnV} {v : Value} {bs : List UInt8} (hm : RdM w.heap.size w m) (hb : RdB w.heap.size w v bs) :
    Calls Try.prog 4 #[aggM m, v] w fun e w' => e = .returned (.bool true) ∧ Keep [] w w' := by
  obtain ⟨⟨ra, rc, hrv, -, -⟩, pa, pc, hpv, -, -⟩ := hm.forms
  obtain ⟨ms, me, mrv, ml, mpv, mps⟩ := m
  simp only at hrv hpv
  subst hrv hpv
  obtain ⟨va, vc, rfl, hv1, hv2⟩ := hb.forms
  have hk1 : Keep [] w (w.alloc (.cells #[.string ms, .int .i64 me.1, .int .i64 me.2, .slice ra ml.length rc, .slice pa mps.length pc] 27)) := (Keep.refl [] w).alloc _
  have hb1 := heap_new w (.cells #[.string ms, .int .i64 me.1, .int .i64 me.2, .slice ra ml.length rc, .slice pa mps.length pc] 27)
  have hm1 := hm.next hk1
  have hbb1 := hb.next hk1
  have hsm := q_small hm1
  unfold aggM at hsm ⊢
  simp only at hsm ⊢
  obtain ⟨m0, m1, m2, m3, m4⟩ := cells5 hb1
  have HK1 := Lib.hid hk1
  have HB1 := Lib.hid hb1
  have HM1 := Lib.hid hm1
  have HBB1 := Lib.hid hbb1
  have HSM := Lib.hid hsm
  clear hk1 hb1 hm1 hbb1 hsm hm hb
  go_enter Try.func4, Try.ntmps4
  go_wp2_with fail
  generalize w.alloc (.cells #[.string ms, .int .i64 me.1, .int .i64 me.2, .slice ra ml.length rc, .slice pa mps.length pc] 27) = w1 at *
  refine HSM.out.mono ?_
  rintro e w2 ⟨b, rfl, hb, hk2⟩
  have HK2 := Lib.hid (HK1.out.trans hk2 (by simp))
  have HB2 := Lib.hid (blk_keep HB1.out hk2 (by simp))
  have HM2 := Lib.hid (HM1.out.next hk2)
  have HBB2 := Lib.hid (HBB1.out.next hk2)
  clear hk2 HK1 HB1 HM1 HBB1 HSM m0 m1 m2 m3 m4
  cases b with
  | false =>
    clear hb
    go_wp2_with fail
    refine (q_live w2).mono ?_
    rintro e w3 ⟨rfl, hk3⟩
    go_wp2_with fail
    go_ret
    exact ⟨rfl, HK2.out.trans hk3 (by simp)⟩
  | true =>
    have HSP := Lib.hid (hb rfl)
    clear hb
    by_cases hlen : 20000 < bs.length
    · have hlen' : (20000 : Int) < (bs.length : Int) := by omega
      go_wp2_with fail
      refine (q_live w2).mono ?_
      rintro e w3 ⟨rfl, hk3⟩
      go_wp2_with fail
      go_ret
      exact ⟨rfl, HK2.out.trans hk3 (by simp)⟩
    · have hlen' : ¬ (20000 : Int) < (bs.length : Int) := by omega
      have hput := p_putB HM2.out (by have := HSP.out.bytes; omega)
      unfold aggM at hput
      simp only at hput
      obtain ⟨m0, m1, m2, m3, m4⟩ := cells5 HB2.out
      have HP := Lib.hid hput
      clear hput
      go_wp2_with fail
      refine HP.out.mono ?_
      rintro e w3 ⟨pv, rfl, hr3, hk3⟩
      obtain ⟨pva, pvc, rfl, -, -⟩ := hr3.forms
      have hget := p_getB hr3 (by have := HSP.out.bytes; omega)
      have HG := Lib.hid hget
      have HK3 := Lib.hid (HK2.out.trans hk3 (by simp))
      have HB3 := Lib.hid (blk_keep HB2.out hk3 (by simp))
      have HM3 := Lib.hid (HM2.out.next hk3)
      have HBB3 := Lib.hid (HBB2.out.next hk3)
      clear hr3 hk3 hget HK2 HB2 HM2 HBB2 HP m0 m1 m2 m3 m4
      go_wp2_with fail
      refine HG.out.mono ?_
      rintro e w4 ⟨hk4, hif⟩
      have hbk := back_man HM3.out.ok
      rw [if_pos hbk.1, hbk.2] at hif
      obtain ⟨x, rfl, hx, hxr⟩ := hif
      clear hbk HG
      obtain ⟨⟨ra1, rc1, hrv, -, -⟩, pa1, pc1, hpv, -, -⟩ := hxr.forms
      obtain ⟨xs, xe, xrv, xl, xpv, xps⟩ := x
      simp only at hrv hpv
      subst hrv hpv
      unfold aggM
      simp only
      have hb5 := heap_new w4 (.cells #[.string xs, .int .i64 xe.1, .int .i64 xe.2, .slice ra1 xl.length rc1, .slice pa1 xps.length pc1] 27)
      have hk5 : Keep [] w4 (w4.alloc (.cells #[.string xs, .int .i64 xe.1, .int .i64 xe.2, .slice ra1 xl.length rc1, .slice pa1 xps.length pc1] 27)) := (Keep.refl [] w4).alloc _
      have HX := Lib.hid hx
      have HXR := Lib.hid (hxr.next hk5)
      have HXB := Lib.hid hb5
      have HB5 := Lib.hid (blk_keep HB3.out (hk4.trans hk5 (by simp)) (by simp))
      have HM5 := Lib.hid (HM3.out.next (hk4.trans hk5 (by simp)))
      have HBB5 := Lib.hid (HBB3.out.next (hk4.trans hk5 (by simp)))
      have HK5 := Lib.hid ((HK3.out.trans hk4 (by simp)).trans hk5 (by simp))
      clear hx hxr hb5 hk4 hk5 HK3 HB3 HM3 HBB3
      go_wp2_with fail
      generalize hw5 : w4.alloc (.cells #[.string xs, .int .i64 xe.1, .int .i64 xe.2, .slice ra1 xl.length rc1, .slice pa1 xps.length pc1] 27) = w5 at *
      clear hw5
      have hget := p_getB HBB5.out (by omega)
      refine hget.mono ?_
      rintro e w6 ⟨hk6, hif⟩
      clear hget
      by_cases hok : (oMan bs).2 = some []
      · rw [if_pos hok] at hif
        obtain ⟨y, rfl, hy, hyr⟩ := hif
        have hpm := pMan_oMan bs
        rw [if_pos hok] at hpm
        obtain ⟨hb1, -⟩ := pMan_inv hpm
        rw [← hy] at hb1
        obtain ⟨⟨ra2, rc2, hrv, -, -⟩, pa2, pc2, hpv, -, -⟩ := hyr.forms
        obtain ⟨ys, ye, yrv, yl, ypv, yps⟩ := y
        simp only at hrv hpv
        subst hrv hpv
        unfold aggM
        simp only
        have hb7 := heap_new w6 (.cells #[.string ys, .int .i64 ye.1, .int .i64 ye.2, .slice ra2 yl.length rc2, .slice pa2 yps.length pc2] 27)
        have hk7 : Keep [] w6 (w6.alloc (.cells #[.string ys, .int .i64 ye.1, .int .i64 ye.2, .slice ra2 yl.length rc2, .slice pa2 yps.length pc2] 27)) := (Keep.refl [] w6).alloc _
        have HY := Lib.hid hb1
        have HYR := Lib.hid (hyr.next hk7)
        have HYB := Lib.hid hb7
        have HXR7 := Lib.hid (HXR.out.next (hk6.trans hk7 (by simp)))
        have HXB7 := Lib.hid (blk_keep HXB.out (hk6.trans hk7 (by simp)) (by simp))
        have HB7 := Lib.hid (blk_keep HB5.out (hk6.trans hk7 (by simp)) (by simp))
        have HM7 := Lib.hid (HM5.out.next (hk6.trans hk7 (by simp)))
        have HBB7 := Lib.hid (HBB5.out.next (hk6.trans hk7 (by simp)))
        have HK7 := Lib.hid ((HK5.out.trans hk6 (by simp)).trans hk7 (by simp))
        clear hy hyr hb7 hk6 hk7 hpm hok hb1 HK5 HB5 HM5 HBB5 HXR HXB
        go_wp2_with fail
        generalize hw7 : w6.alloc (.cells #[.string ys, .int .i64 ye.1, .int .i64 ye.2, .slice ra2 yl.length rc2, .slice pa2 yps.length pc2] 27) = w7 at *
        clear hw7
        have hsame := fun W (hW : Keep [] w7 W) => r_same (HXR7.out.next hW) (HM7.out.next hW) (fun z hz => by
          have h1 := congrArg (fun q : Man => q.places.map (fun p => p.pieces.length)) HX.out
          have h2 : z.p.pieces.length ∈ (MnV.man ⟨xs, xe, .slice ra1 xl.length rc1, xl, .slice pa1 xps.length pc1, xps⟩).places.map (fun p => p.pieces.length) := List.mem_map.2 ⟨z.p, List.mem_map.2 ⟨z, hz, rfl⟩, rfl⟩
          try simp only at h1
          rw [h1] at h2
          obtain ⟨p, hp, h3⟩ := List.mem_map.1 h2
          obtain ⟨z2, hz2, rfl⟩ := List.mem_map.1 hp
          rw [← h3]
          exact HSP.out.v z2 hz2) HSP.out.v
        rw [HX.out] at hsame
        simp only [(manB_iff _ _).2 rfl] at hsame
        unfold aggM at hsame
        simp only at hsame
        have HS := Lib.hid hsame
        clear hsame
        have hput := fun W (hW : Keep [] w7 W) => p_putB (HYR.out.next hW) (by rw [← HY.out]; omega)
        rw [← HY.out] at hput
        unfold aggM at hput
        simp only at hput
        have HP := Lib.hid hput
        have hcv := fun W (hW : Keep [] w7 W) => RdB.text (P := Try.prog) (src := 24) (e := 5) (dst := 9) (HBB7.out.next hW) Try.underlying24 Try.underlying5 Try.underlying9
        have HCV := Lib.hid hcv
        clear hput hcv
        refine wp_region_held_drew (S := fun w' => Keep [] w7 w') (by kernel_rfl) ((Keep.refl [] w7).drew) (fun hHeld => ?_)
        have HS0 := Lib.hid hHeld
        clear hHeld
        have hHeld := HS0.out
        generalize w7.drew = w8 at *
        refine wpAnyH_takeL (i := 0) (v := ?vRA0) rfl (by kernel_rfl) (by kernel_rfl) (by kernel_rfl) (fun _ _ _ h => h) (Or.inl ⟨by kernel_rfl, ?runRA0⟩) hHeld ?_
        case runRA0 => (intro w9 hS9; obtain ⟨m0, m1, m2, m3, m4⟩ := cells5 (blk_keep HB7.out hS9 (by simp)); obtain ⟨x0, x1, x2, x3, x4⟩ := cells5 (blk_keep HXB7.out hS9 (by simp)); obtain ⟨y0, y1, y2, y3, y4⟩ := cells5 (blk_keep HYB.out hS9 (by simp)); go_simp; try exact rfl)
        try simp only [Act.put, List.setIfInBounds_toArray, List.set_cons_zero, List.set_cons_succ]
        refine wpAnyH_ready (rs := [1]) (by kernel_rfl) (by simp) ?_
        refine AllReadyH.consL rfl (fun K hK => ?_) AllReadyH.nil
        go_simp
        refine (q_num _ _).mono ?_
        rintro e w9 ⟨rfl, rfl⟩
        go_wp2_with fail
        refine hK.out _ _ HS0.out (fun hHeld => ?_)
        clear hK K
        try simp only [Act.put, List.setIfInBounds_toArray, List.set_cons_zero, List.set_cons_succ]
        refine wpAnyH_takeL (i := 2) (v := .bool false) rfl (by kernel_rfl) (by kernel_rfl) (by kernel_rfl) (fun _ _ _ h => h) (Or.inl ⟨by kernel_rfl, ?runRA2⟩) hHeld ?_
        case runRA2 => (intro w9 hS9; obtain ⟨m0, m1, m2, m3, m4⟩ := cells5 (blk_keep HB7.out hS9 (by simp)); obtain ⟨x0, x1, x2, x3, x4⟩ := cells5 (blk_keep HXB7.out hS9 (by simp)); obtain ⟨y0, y1, y2, y3, y4⟩ := cells5 (blk_keep HYB.out hS9 (by simp)); go_simp; first | done | exact rfl | (simp [*]; done) | (simp; omega))
        try simp only [Act.put, List.setIfInBounds_toArray, List.set_cons_zero, List.set_cons_succ]
        refine wpAnyH_takeL (i := 3) (v := ?vRA3) rfl (by kernel_rfl) (by kernel_rfl) (by kernel_rfl) (fun _ _ _ h => h) (Or.inl ⟨by kernel_rfl, ?runRA3⟩) hHeld ?_
        case runRA3 => (intro w9 hS9; obtain ⟨m0, m1, m2, m3, m4⟩ := cells5 (blk_keep HB7.out hS9 (by simp)); obtain ⟨x0, x1, x2, x3, x4⟩ := cells5 (blk_keep HXB7.out hS9 (by simp)); obtain ⟨y0, y1, y2, y3, y4⟩ := cells5 (blk_keep HYB.out hS9 (by simp)); go_simp; try exact rfl)
        try simp only [Act.put, List.setIfInBounds_toArray, List.set_cons_zero, List.set_cons_succ]
        refine wpAnyH_takeL (i := 4) (v := ?vRA4) rfl (by kernel_rfl) (by kernel_rfl) (by kernel_rfl) (fun _ _ _ h => h) (Or.inl ⟨by kernel_rfl, ?runRA4⟩) hHeld ?_
        case runRA4 => (intro w9 hS9; obtain ⟨m0, m1, m2, m3, m4⟩ := cells5 (blk_keep HB7.out hS9 (by simp)); obtain ⟨x0, x1, x2, x3, x4⟩ := cells5 (blk_keep HXB7.out hS9 (by simp)); obtain ⟨y0, y1, y2, y3, y4⟩ := cells5 (blk_keep HYB.out hS9 (by simp)); go_simp; try exact rfl)
        try simp only [Act.put, List.setIfInBounds_toArray, List.set_cons_zero, List.set_cons_succ]
        refine wpAnyH_takeL (i := 5) (v := ?vRA5) rfl (by kernel_rfl) (by kernel_rfl) (by kernel_rfl) (fun _ _ _ h => h) (Or.inl ⟨by kernel_rfl, ?runRA5⟩) hHeld ?_
        case runRA5 => (intro w9 hS9; obtain ⟨m0, m1, m2, m3, m4⟩ := cells5 (blk_keep HB7.out hS9 (by simp)); obtain ⟨x0, x1, x2, x3, x4⟩ := cells5 (blk_keep HXB7.out hS9 (by simp)); obtain ⟨y0, y1, y2, y3, y4⟩ := cells5 (blk_keep HYB.out hS9 (by simp)); go_simp; try exact rfl)
        try simp only [Act.put, List.setIfInBounds_toArray, List.set_cons_zero, List.set_cons_succ]
        refine wpAnyH_ready (rs := [6]) (by kernel_rfl) (by simp) ?_
        refine AllReadyH.consL rfl (fun K hK => ?_) AllReadyH.nil
        go_simp
        refine (HS.out _ HS0.out).mono ?_
        rintro e w10 ⟨rfl, hk⟩
        have Hw10 : Hid (Keep [] w7 w10) := Lib.hid (HS0.out.trans hk (by simp))
        clear hHeld
        go_wp2_with fail
        refine hK.out _ _ Hw10.out (fun hHeld => ?_)
        clear hK K
        try simp only [Act.put, List.setIfInBounds_toArray, List.set_cons_zero, List.set_cons_succ]
        refine wpAnyH_takeL (i := 7) (v := .bool false) rfl (by kernel_rfl) (by kernel_rfl) (by kernel_rfl) (fun _ _ _ h => h) (Or.inl ⟨by kernel_rfl, ?runRA7⟩) hHeld ?_
        case runRA7 => (intro w9 hS9; obtain ⟨m0, m1, m2, m3, m4⟩ := cells5 (blk_keep HB7.out hS9 (by simp)); obtain ⟨x0, x1, x2, x3, x4⟩ := cells5 (blk_keep HXB7.out hS9 (by simp)); obtain ⟨y0, y1, y2, y3, y4⟩ := cells5 (blk_keep HYB.out hS9 (by simp)); go_simp; first | done | exact rfl | (simp [*]; done) | (simp; omega))
        try simp only [Act.put, List.setIfInBounds_toArray, List.set_cons_zero, List.set_cons_succ]
        refine wpAnyH_takeL (i := 8) (v := .bool false) rfl (by kernel_rfl) (by kernel_rfl) (by kernel_rfl) (fun _ _ _ h => h) (Or.inl ⟨by kernel_rfl, ?runRA8⟩) hHeld ?_
        case runRA8 => (intro w9 hS9; obtain ⟨m0, m1, m2, m3, m4⟩ := cells5 (blk_keep HB7.out hS9 (by simp)); obtain ⟨x0, x1, x2, x3, x4⟩ := cells5 (blk_keep HXB7.out hS9 (by simp)); obtain ⟨y0, y1, y2, y3, y4⟩ := cells5 (blk_keep HYB.out hS9 (by simp)); go_simp; first | done | exact rfl | (simp [*]; done) | (simp; omega))
        try simp only [Act.put, List.setIfInBounds_toArray, List.set_cons_zero, List.set_cons_succ]
        refine wpAnyH_takeL (i := 9) (v := ?vRA9) rfl (by kernel_rfl) (by kernel_rfl) (by kernel_rfl) (fun _ _ _ h => h) (Or.inl ⟨by kernel_rfl, ?runRA9⟩) hHeld ?_
        case runRA9 => (intro w9 hS9; obtain ⟨m0, m1, m2, m3, m4⟩ := cells5 (blk_keep HB7.out hS9 (by simp)); obtain ⟨x0, x1, x2, x3, x4⟩ := cells5 (blk_keep HXB7.out hS9 (by simp)); obtain ⟨y0, y1, y2, y3, y4⟩ := cells5 (blk_keep HYB.out hS9 (by simp)); go_simp; try exact rfl)
        try simp only [Act.put, List.setIfInBounds_toArray, List.set_cons_zero, List.set_cons_succ]
        refine wpAnyH_takeL (i := 10) (v := ?vRA10) rfl (by kernel_rfl) (by kernel_rfl) (by kernel_rfl) (fun _ _ _ h => h) (Or.inl ⟨by kernel_rfl, ?runRA10⟩) hHeld ?_
        case runRA10 => (intro w9 hS9; obtain ⟨m0, m1, m2, m3, m4⟩ := cells5 (blk_keep HB7.out hS9 (by simp)); obtain ⟨x0, x1, x2, x3, x4⟩ := cells5 (blk_keep HXB7.out hS9 (by simp)); obtain ⟨y0, y1, y2, y3, y4⟩ := cells5 (blk_keep HYB.out hS9 (by simp)); go_simp; try exact rfl)
        try simp only [Act.put, List.setIfInBounds_toArray, List.set_cons_zero, List.set_cons_succ]
        refine wpAnyH_ready (rs := [11]) (by kernel_rfl) (by simp) ?_
        refine AllReadyH.consL rfl (fun K hK => ?_) AllReadyH.nil
        go_simp
        refine (q_num _ _).mono ?_
        rintro e w11 ⟨rfl, rfl⟩
        go_wp2_with fail
        refine hK.out _ _ Hw10.out (fun hHeld => ?_)
        clear hK K
        try simp only [Act.put, List.setIfInBounds_toArray, List.set_cons_zero, List.set_cons_succ]
        refine wpAnyH_takeL (i := 12) (v := .bool true) rfl (by kernel_rfl) (by kernel_rfl) (by kernel_rfl) (fun _ _ _ h => h) (Or.inl ⟨by kernel_rfl, ?runRA12⟩) hHeld ?_
        case runRA12 => (intro w9 hS9; obtain ⟨m0, m1, m2, m3, m4⟩ := cells5 (blk_keep HB7.out hS9 (by simp)); obtain ⟨x0, x1, x2, x3, x4⟩ := cells5 (blk_keep HXB7.out hS9 (by simp)); obtain ⟨y0, y1, y2, y3, y4⟩ := cells5 (blk_keep HYB.out hS9 (by simp)); go_simp; first | done | exact rfl | (simp [*]; done) | (simp; omega))
        try simp only [Act.put, List.setIfInBounds_toArray, List.set_cons_zero, List.set_cons_succ]
        refine wpAnyH_takeL (i := 13) (v := ?vRA13) rfl (by kernel_rfl) (by kernel_rfl) (by kernel_rfl) (fun _ _ _ h => h) (Or.inl ⟨by kernel_rfl, ?runRA13⟩) hHeld ?_
        case runRA13 => (intro w9 hS9; obtain ⟨m0, m1, m2, m3, m4⟩ := cells5 (blk_keep HB7.out hS9 (by simp)); obtain ⟨x0, x1, x2, x3, x4⟩ := cells5 (blk_keep HXB7.out hS9 (by simp)); obtain ⟨y0, y1, y2, y3, y4⟩ := cells5 (blk_keep HYB.out hS9 (by simp)); go_simp; try exact rfl)
        try simp only [Act.put, List.setIfInBounds_toArray, List.set_cons_zero, List.set_cons_succ]
        refine wpAnyH_takeL (i := 14) (v := ?vRA14) rfl (by kernel_rfl) (by kernel_rfl) (by kernel_rfl) (fun _ _ _ h => h) (Or.inl ⟨by kernel_rfl, ?runRA14⟩) hHeld ?_
        case runRA14 => (intro w9 hS9; obtain ⟨m0, m1, m2, m3, m4⟩ := cells5 (blk_keep HB7.out hS9 (by simp)); obtain ⟨x0, x1, x2, x3, x4⟩ := cells5 (blk_keep HXB7.out hS9 (by simp)); obtain ⟨y0, y1, y2, y3, y4⟩ := cells5 (blk_keep HYB.out hS9 (by simp)); go_simp; try exact rfl)
        try simp only [Act.put, List.setIfInBounds_toArray, List.set_cons_zero, List.set_cons_succ]
        refine wpAnyH_takeL (i := 17) (v := ?vRA17) rfl (by kernel_rfl) (by kernel_rfl) (by kernel_rfl) (fun _ _ _ h => h) (Or.inl ⟨by kernel_rfl, ?runRA17⟩) hHeld ?_
        case runRA17 => (intro w9 hS9; obtain ⟨m0, m1, m2, m3, m4⟩ := cells5 (blk_keep HB7.out hS9 (by simp)); obtain ⟨x0, x1, x2, x3, x4⟩ := cells5 (blk_keep HXB7.out hS9 (by simp)); obtain ⟨y0, y1, y2, y3, y4⟩ := cells5 (blk_keep HYB.out hS9 (by simp)); go_simp; try exact rfl)
        try simp only [Act.put, List.setIfInBounds_toArray, List.set_cons_zero, List.set_cons_succ]
        refine wpAnyH_takeL (i := 18) (v := .string ⟨bs.toArray⟩) rfl (by kernel_rfl) (by kernel_rfl) (by kernel_rfl) (fun _ _ _ h => h) (Or.inl ⟨by kernel_rfl, ?runRA18⟩) hHeld ?_
        case runRA18 => (intro w9 hS9; obtain ⟨m0, m1, m2, m3, m4⟩ := cells5 (blk_keep HB7.out hS9 (by simp)); obtain ⟨x0, x1, x2, x3, x4⟩ := cells5 (blk_keep HXB7.out hS9 (by simp)); obtain ⟨y0, y1, y2, y3, y4⟩ := cells5 (blk_keep HYB.out hS9 (by simp)); go_simp; first | done | (rw [HCV.out w9 hS9]; rfl) | (simp [HCV.out w9 hS9]; done))
        try simp only [Act.put, List.setIfInBounds_toArray, List.set_cons_zero, List.set_cons_succ]
        refine wpAnyH_ready (rs := [15]) (by kernel_rfl) (by simp) ?_
        refine AllReadyH.consL rfl (fun K hK => ?_) AllReadyH.nil
        go_simp
        refine (HP.out _ Hw10.out).mono ?_
        rintro e w12 ⟨v12, rfl, hr12, hk⟩
        have Hw12 : Hid (Keep [] w7 w12) := Lib.hid (Hw10.out.trans hk (by simp))
        clear hHeld
        go_wp2_with fail
        refine hK.out _ _ Hw12.out (fun hHeld => ?_)
        clear hK K
        try simp only [Act.put, List.setIfInBounds_toArray, List.set_cons_zero, List.set_cons_succ]
        obtain ⟨v12a, v12c, rfl, -, -⟩ := hr12.forms
        have hcv12 := RdB.text (P := Try.prog) (src := 24) (e := 5) (dst := 9) hr12 Try.underlying24 Try.underlying5 Try.underlying9
        refine wpAnyH_ready (rs := [16]) (by kernel_rfl) (by simp) ?_
        refine AllReadyH.consL rfl (fun K hK => ?_) AllReadyH.nil
        go_simp
        try rw [hcv12]
        try go_simp
        refine hK.out _ _ Hw12.out (fun hHeld => ?_)
        clear hK K
        try simp only [Act.put, List.setIfInBounds_toArray, List.set_cons_zero, List.set_cons_succ]
        refine wpAnyH_takeL (i := 19) (v := .bool false) rfl (by kernel_rfl) (by kernel_rfl) (by kernel_rfl) (fun _ _ _ h => h) (Or.inl ⟨by kernel_rfl, ?runRA19⟩) hHeld ?_
        case runRA19 => (intro w9 hS9; obtain ⟨m0, m1, m2, m3, m4⟩ := cells5 (blk_keep HB7.out hS9 (by simp)); obtain ⟨x0, x1, x2, x3, x4⟩ := cells5 (blk_keep HXB7.out hS9 (by simp)); obtain ⟨y0, y1, y2, y3, y4⟩ := cells5 (blk_keep HYB.out hS9 (by simp)); go_simp; first | done | exact rfl | (simp [*]; done) | (simp; omega))
        try simp only [Act.put, List.setIfInBounds_toArray, List.set_cons_zero, List.set_cons_succ]
        refine wpAnyH_takeL (i := 20) (v := .bool false) rfl (by kernel_rfl) (by kernel_rfl) (by kernel_rfl) (fun _ _ _ h => h) (Or.inl ⟨by kernel_rfl, ?runRA20⟩) hHeld ?_
        case runRA20 => (intro w9 hS9; obtain ⟨m0, m1, m2, m3, m4⟩ := cells5 (blk_keep HB7.out hS9 (by simp)); obtain ⟨x0, x1, x2, x3, x4⟩ := cells5 (blk_keep HXB7.out hS9 (by simp)); obtain ⟨y0, y1, y2, y3, y4⟩ := cells5 (blk_keep HYB.out hS9 (by simp)); go_simp; first | done | exact rfl | (simp [*]; done) | (simp; omega))
        try simp only [Act.put, List.setIfInBounds_toArray, List.set_cons_zero, List.set_cons_succ]
        refine wpAnyH_takeL (i := 21) (v := .bool false) rfl (by kernel_rfl) (by kernel_rfl) (by kernel_rfl) (fun _ _ _ h => h) (Or.inl ⟨by kernel_rfl, ?runRA21⟩) hHeld ?_
        case runRA21 => (intro w9 hS9; obtain ⟨m0, m1, m2, m3, m4⟩ := cells5 (blk_keep HB7.out hS9 (by simp)); obtain ⟨x0, x1, x2, x3, x4⟩ := cells5 (blk_keep HXB7.out hS9 (by simp)); obtain ⟨y0, y1, y2, y3, y4⟩ := cells5 (blk_keep HYB.out hS9 (by simp)); go_simp; first | done | exact rfl | (simp [*]; done) | (simp; omega))
        try simp only [Act.put, List.setIfInBounds_toArray, List.set_cons_zero, List.set_cons_succ]
        refine wpAnyH_done (by kernel_rfl) ?_ _
        clear hHeld
        go_wp2_with fail
        refine (q_live _).mono ?_
        rintro e w13 ⟨rfl, hk13⟩
        go_wp2_with fail
        go_ret
        exact ⟨rfl, (HK7.out.trans Hw12.out (by simp)).trans hk13 (by simp)⟩
      · rw [if_neg hok] at hif
        subst hif
        have hk7 : Keep [] w6 (w6.alloc (.cells #[.string ⟨#[]⟩, .int .i64 0, .int .i64 0, .slice none 0 0, .slice none 0 0] 27)) := (Keep.refl [] w6).alloc _
        have HXR7 := Lib.hid (HXR.out.next (hk6.trans hk7 (by simp)))
        have HXB7 := Lib.hid (blk_keep HXB.out (hk6.trans hk7 (by simp)) (by simp))
        have HB7 := Lib.hid (blk_keep HB5.out (hk6.trans hk7 (by simp)) (by simp))
        have HM7 := Lib.hid (HM5.out.next (hk6.trans hk7 (by simp)))
        have HK7 := Lib.hid ((HK5.out.trans hk6 (by simp)).trans hk7 (by simp))
        clear hk6 hk7 hok HK5 HB5 HM5 HBB5 HXR HXB
        go_wp2_with fail
        generalize hw7 : w6.alloc (.cells #[.string ⟨#[]⟩, .int .i64 0, .int .i64 0, .slice none 0 0, .slice none 0 0] 27) = w7 at *
        clear hw7
        have hsame := fun W (hW : Keep [] w7 W) => r_same (HXR7.out.next hW) (HM7.out.next hW) (fun z hz => by
          have h1 := congrArg (fun q : Man => q.places.map (fun p => p.pieces.length)) HX.out
          have h2 : z.p.pieces.length ∈ (MnV.man ⟨xs, xe, .slice ra1 xl.length rc1, xl, .slice pa1 xps.length pc1, xps⟩).places.map (fun p => p.pieces.length) := List.mem_map.2 ⟨z.p, List.mem_map.2 ⟨z, hz, rfl⟩, rfl⟩
          try simp only at h1
          rw [h1] at h2
          obtain ⟨p, hp, h3⟩ := List.mem_map.1 h2
          obtain ⟨z2, hz2, rfl⟩ := List.mem_map.1 hp
          rw [← h3]
          exact HSP.out.v z2 hz2) HSP.out.v
        rw [HX.out] at hsame
        simp only [(manB_iff _ _).2 rfl] at hsame
        unfold aggM at hsame
        simp only at hsame
        have HS := Lib.hid hsame
        clear hsame
        refine wp_region_held_drew (S := fun w' => Keep [] w7 w') (by kernel_rfl) ((Keep.refl [] w7).drew) (fun hHeld => ?_)
        have HS0 := Lib.hid hHeld
        clear hHeld
        have hHeld := HS0.out
        generalize w7.drew = w8 at *
        refine wpAnyH_takeL (i := 0) (v := ?vRB0) rfl (by kernel_rfl) (by kernel_rfl) (by kernel_rfl) (fun _ _ _ h => h) (Or.inl ⟨by kernel_rfl, ?runRB0⟩) hHeld ?_
        case runRB0 => (intro w9 hS9; obtain ⟨m0, m1, m2, m3, m4⟩ := cells5 (blk_keep HB7.out hS9 (by simp)); obtain ⟨x0, x1, x2, x3, x4⟩ := cells5 (blk_keep HXB7.out hS9 (by simp)); go_simp; try exact rfl)
        try simp only [Act.put, List.setIfInBounds_toArray, List.set_cons_zero, List.set_cons_succ]
        refine wpAnyH_ready (rs := [1]) (by kernel_rfl) (by simp) ?_
        refine AllReadyH.consL rfl (fun K hK => ?_) AllReadyH.nil
        go_simp
        refine (q_num _ _).mono ?_
        rintro e w9 ⟨rfl, rfl⟩
        go_wp2_with fail
        refine hK.out _ _ HS0.out (fun hHeld => ?_)
        clear hK K
        try simp only [Act.put, List.setIfInBounds_toArray, List.set_cons_zero, List.set_cons_succ]
        refine wpAnyH_takeL (i := 2) (v := .bool false) rfl (by kernel_rfl) (by kernel_rfl) (by kernel_rfl) (fun _ _ _ h => h) (Or.inl ⟨by kernel_rfl, ?runRB2⟩) hHeld ?_
        case runRB2 => (intro w9 hS9; obtain ⟨m0, m1, m2, m3, m4⟩ := cells5 (blk_keep HB7.out hS9 (by simp)); obtain ⟨x0, x1, x2, x3, x4⟩ := cells5 (blk_keep HXB7.out hS9 (by simp)); go_simp; first | done | exact rfl | (simp [*]; done) | (simp; omega))
        try simp only [Act.put, List.setIfInBounds_toArray, List.set_cons_zero, List.set_cons_succ]
        refine wpAnyH_takeL (i := 3) (v := ?vRB3) rfl (by kernel_rfl) (by kernel_rfl) (by kernel_rfl) (fun _ _ _ h => h) (Or.inl ⟨by kernel_rfl, ?runRB3⟩) hHeld ?_
        case runRB3 => (intro w9 hS9; obtain ⟨m0, m1, m2, m3, m4⟩ := cells5 (blk_keep HB7.out hS9 (by simp)); obtain ⟨x0, x1, x2, x3, x4⟩ := cells5 (blk_keep HXB7.out hS9 (by simp)); go_simp; try exact rfl)
        try simp only [Act.put, List.setIfInBounds_toArray, List.set_cons_zero, List.set_cons_succ]
        refine wpAnyH_takeL (i := 4) (v := ?vRB4) rfl (by kernel_rfl) (by kernel_rfl) (by kernel_rfl) (fun _ _ _ h => h) (Or.inl ⟨by kernel_rfl, ?runRB4⟩) hHeld ?_
        case runRB4 => (intro w9 hS9; obtain ⟨m0, m1, m2, m3, m4⟩ := cells5 (blk_keep HB7.out hS9 (by simp)); obtain ⟨x0, x1, x2, x3, x4⟩ := cells5 (blk_keep HXB7.out hS9 (by simp)); go_simp; try exact rfl)
        try simp only [Act.put, List.setIfInBounds_toArray, List.set_cons_zero, List.set_cons_succ]
        refine wpAnyH_takeL (i := 5) (v := ?vRB5) rfl (by kernel_rfl) (by kernel_rfl) (by kernel_rfl) (fun _ _ _ h => h) (Or.inl ⟨by kernel_rfl, ?runRB5⟩) hHeld ?_
        case runRB5 => (intro w9 hS9; obtain ⟨m0, m1, m2, m3, m4⟩ := cells5 (blk_keep HB7.out hS9 (by simp)); obtain ⟨x0, x1, x2, x3, x4⟩ := cells5 (blk_keep HXB7.out hS9 (by simp)); go_simp; try exact rfl)
        try simp only [Act.put, List.setIfInBounds_toArray, List.set_cons_zero, List.set_cons_succ]
        refine wpAnyH_ready (rs := [6]) (by kernel_rfl) (by simp) ?_
        refine AllReadyH.consL rfl (fun K hK => ?_) AllReadyH.nil
        go_simp
        refine (HS.out _ HS0.out).mono ?_
        rintro e w10 ⟨rfl, hk⟩
        have Hw10 : Hid (Keep [] w7 w10) := Lib.hid (HS0.out.trans hk (by simp))
        clear hHeld
        go_wp2_with fail
        refine hK.out _ _ Hw10.out (fun hHeld => ?_)
        clear hK K
        try simp only [Act.put, List.setIfInBounds_toArray, List.set_cons_zero, List.set_cons_succ]
        refine wpAnyH_takeL (i := 7) (v := .bool false) rfl (by kernel_rfl) (by kernel_rfl) (by kernel_rfl) (fun _ _ _ h => h) (Or.inl ⟨by kernel_rfl, ?runRB7⟩) hHeld ?_
        case runRB7 => (intro w9 hS9; obtain ⟨m0, m1, m2, m3, m4⟩ := cells5 (blk_keep HB7.out hS9 (by simp)); obtain ⟨x0, x1, x2, x3, x4⟩ := cells5 (blk_keep HXB7.out hS9 (by simp)); go_simp; first | done | exact rfl | (simp [*]; done) | (simp; omega))
        try simp only [Act.put, List.setIfInBounds_toArray, List.set_cons_zero, List.set_cons_succ]
        refine wpAnyH_takeL (i := 8) (v := .bool false) rfl (by kernel_rfl) (by kernel_rfl) (by kernel_rfl) (fun _ _ _ h => h) (Or.inl ⟨by kernel_rfl, ?runRB8⟩) hHeld ?_
        case runRB8 => (intro w9 hS9; obtain ⟨m0, m1, m2, m3, m4⟩ := cells5 (blk_keep HB7.out hS9 (by simp)); obtain ⟨x0, x1, x2, x3, x4⟩ := cells5 (blk_keep HXB7.out hS9 (by simp)); go_simp; first | done | exact rfl | (simp [*]; done) | (simp; omega))
        try simp only [Act.put, List.setIfInBounds_toArray, List.set_cons_zero, List.set_cons_succ]
        refine wpAnyH_takeL (i := 9) (v := ?vRB9) rfl (by kernel_rfl) (by kernel_rfl) (by kernel_rfl) (fun _ _ _ h => h) (Or.inl ⟨by kernel_rfl, ?runRB9⟩) hHeld ?_
        case runRB9 => (intro w9 hS9; obtain ⟨m0, m1, m2, m3, m4⟩ := cells5 (blk_keep HB7.out hS9 (by simp)); obtain ⟨x0, x1, x2, x3, x4⟩ := cells5 (blk_keep HXB7.out hS9 (by simp)); go_simp; try exact rfl)
        try simp only [Act.put, List.setIfInBounds_toArray, List.set_cons_zero, List.set_cons_succ]
        refine wpAnyH_takeL (i := 10) (v := ?vRB10) rfl (by kernel_rfl) (by kernel_rfl) (by kernel_rfl) (fun _ _ _ h => h) (Or.inl ⟨by kernel_rfl, ?runRB10⟩) hHeld ?_
        case runRB10 => (intro w9 hS9; obtain ⟨m0, m1, m2, m3, m4⟩ := cells5 (blk_keep HB7.out hS9 (by simp)); obtain ⟨x0, x1, x2, x3, x4⟩ := cells5 (blk_keep HXB7.out hS9 (by simp)); go_simp; try exact rfl)
        try simp only [Act.put, List.setIfInBounds_toArray, List.set_cons_zero, List.set_cons_succ]
        refine wpAnyH_ready (rs := [11]) (by kernel_rfl) (by simp) ?_
        refine AllReadyH.consL rfl (fun K hK => ?_) AllReadyH.nil
        go_simp
        refine (q_num _ _).mono ?_
        rintro e w11 ⟨rfl, rfl⟩
        go_wp2_with fail
        refine hK.out _ _ Hw10.out (fun hHeld => ?_)
        clear hK K
        try simp only [Act.put, List.setIfInBounds_toArray, List.set_cons_zero, List.set_cons_succ]
        refine wpAnyH_takeL (i := 12) (v := .bool false) rfl (by kernel_rfl) (by kernel_rfl) (by kernel_rfl) (fun _ _ _ h => h) (Or.inl ⟨by kernel_rfl, ?runRB12⟩) hHeld ?_
        case runRB12 => (intro w9 hS9; obtain ⟨m0, m1, m2, m3, m4⟩ := cells5 (blk_keep HB7.out hS9 (by simp)); obtain ⟨x0, x1, x2, x3, x4⟩ := cells5 (blk_keep HXB7.out hS9 (by simp)); go_simp; first | done | exact rfl | (simp [*]; done) | (simp; omega))
        try simp only [Act.put, List.setIfInBounds_toArray, List.set_cons_zero, List.set_cons_succ]
        refine wpAnyH_takeL (i := 13) (v := ?vRB13) rfl (by kernel_rfl) (by kernel_rfl) (by kernel_rfl) (fun _ _ _ h => h) (Or.inl ⟨by kernel_rfl, ?runRB13⟩) hHeld ?_
        case runRB13 => (intro w9 hS9; obtain ⟨m0, m1, m2, m3, m4⟩ := cells5 (blk_keep HB7.out hS9 (by simp)); obtain ⟨x0, x1, x2, x3, x4⟩ := cells5 (blk_keep HXB7.out hS9 (by simp)); go_simp; try exact rfl)
        try simp only [Act.put, List.setIfInBounds_toArray, List.set_cons_zero, List.set_cons_succ]
        refine wpAnyH_takeL (i := 14) (v := undef) rfl (by kernel_rfl) (by kernel_rfl) (by kernel_rfl) (fun _ _ _ h => h) (Or.inr ⟨by kernel_rfl, rfl⟩) hHeld ?_
        try simp only [Act.put, List.setIfInBounds_toArray, List.set_cons_zero, List.set_cons_succ]
        refine wpAnyH_takeL (i := 15) (v := undef) rfl (by kernel_rfl) (by kernel_rfl) (by kernel_rfl) (fun _ _ _ h => h) (Or.inr ⟨by kernel_rfl, rfl⟩) hHeld ?_
        try simp only [Act.put, List.setIfInBounds_toArray, List.set_cons_zero, List.set_cons_succ]
        refine wpAnyH_takeL (i := 16) (v := undef) rfl (by kernel_rfl) (by kernel_rfl) (by kernel_rfl) (fun _ _ _ h => h) (Or.inr ⟨by kernel_rfl, rfl⟩) hHeld ?_
        try simp only [Act.put, List.setIfInBounds_toArray, List.set_cons_zero, List.set_cons_succ]
        refine wpAnyH_takeL (i := 17) (v := undef) rfl (by kernel_rfl) (by kernel_rfl) (by kernel_rfl) (fun _ _ _ h => h) (Or.inr ⟨by kernel_rfl, rfl⟩) hHeld ?_
        try simp only [Act.put, List.setIfInBounds_toArray, List.set_cons_zero, List.set_cons_succ]
        refine wpAnyH_takeL (i := 18) (v := undef) rfl (by kernel_rfl) (by kernel_rfl) (by kernel_rfl) (fun _ _ _ h => h) (Or.inr ⟨by kernel_rfl, rfl⟩) hHeld ?_
        try simp only [Act.put, List.setIfInBounds_toArray, List.set_cons_zero, List.set_cons_succ]
        refine wpAnyH_takeL (i := 19) (v := undef) rfl (by kernel_rfl) (by kernel_rfl) (by kernel_rfl) (fun _ _ _ h => h) (Or.inr ⟨by kernel_rfl, rfl⟩) hHeld ?_
        try simp only [Act.put, List.setIfInBounds_toArray, List.set_cons_zero, List.set_cons_succ]
        refine wpAnyH_takeL (i := 20) (v := .bool false) rfl (by kernel_rfl) (by kernel_rfl) (by kernel_rfl) (fun _ _ _ h => h) (Or.inl ⟨by kernel_rfl, ?runRB20⟩) hHeld ?_
        case runRB20 => (intro w9 hS9; obtain ⟨m0, m1, m2, m3, m4⟩ := cells5 (blk_keep HB7.out hS9 (by simp)); obtain ⟨x0, x1, x2, x3, x4⟩ := cells5 (blk_keep HXB7.out hS9 (by simp)); go_simp; first | done | exact rfl | (simp [*]; done) | (simp; omega))
        try simp only [Act.put, List.setIfInBounds_toArray, List.set_cons_zero, List.set_cons_succ]
        refine wpAnyH_takeL (i := 21) (v := .bool false) rfl (by kernel_rfl) (by kernel_rfl) (by kernel_rfl) (fun _ _ _ h => h) (Or.inl ⟨by kernel_rfl, ?runRB21⟩) hHeld ?_
        case runRB21 => (intro w9 hS9; obtain ⟨m0, m1, m2, m3, m4⟩ := cells5 (blk_keep HB7.out hS9 (by simp)); obtain ⟨x0, x1, x2, x3, x4⟩ := cells5 (blk_keep HXB7.out hS9 (by simp)); go_simp; first | done | exact rfl | (simp [*]; done) | (simp; omega))
        try simp only [Act.put, List.setIfInBounds_toArray, List.set_cons_zero, List.set_cons_succ]
        refine wpAnyH_done (by kernel_rfl) ?_ _
        clear hHeld
        go_wp2_with fail
        refine (q_live _).mono ?_
        rintro e w13 ⟨rfl, hk13⟩
        go_wp2_with fail
        go_ret
        exact ⟨rfl, (HK7.out.trans Hw10.out (by simp)).trans hk13 (by simp)⟩
end Go.Proofs.Ytngepgnmlpinaaa
