/- Same. Printed by gen-mn25b.py. -/
import Derived.Test.YtngepgnmlpinaaaMn25
namespace Go.Proofs.Ytngepgnmlpinaaa
open Go.RowKit Go.Emb Go.Emb.Ext

set_option maxRecDepth 100000 in
set_option maxHeartbeats 4000000 in
theorem r_same {w : World} {a b : MnV} (ha : RdM w.heap.size w a) (hb : RdM w.heap.size w b) (hsa : SmallV a) (hsb : SmallV b) :
    Calls Try.prog 15 #[aggM a, aggM b] w fun e w' => e = .returned (.bool (manB a.man b.man)) ∧ Keep [] w w' := by
  obtain ⟨⟨ra, rc, hrv, hr1, hr2⟩, pa, pc, hpv, hp1, hp2⟩ := ha.forms
  obtain ⟨⟨rb, rd, hrv', hr1', hr2'⟩, pb, pd, hpv', hp1', hp2'⟩ := hb.forms
  obtain ⟨s1, x1, rv1, l1, pv1, ps1⟩ := a
  obtain ⟨s2, x2, rv2, l2, pv2, ps2⟩ := b
  simp only at hrv hr1 hr2 hpv hp1 hp2 hrv' hr1' hr2' hpv' hp1' hp2'
  subst hrv hpv hrv' hpv'
  have hk : Keep [] w ((w.alloc (.cells #[.string s1, .int .i64 x1.1, .int .i64 x1.2, .slice ra l1.length rc, .slice pa ps1.length pc] 27)).alloc (.cells #[.string s2, .int .i64 x2.1, .int .i64 x2.2, .slice rb l2.length rd, .slice pb ps2.length pd] 27)) := ((Keep.refl [] w).alloc _).alloc _
  have hb0 := lit_alloc (heap_new w (.cells #[.string s1, .int .i64 x1.1, .int .i64 x1.2, .slice ra l1.length rc, .slice pa ps1.length pc] 27)) (.cells #[.string s2, .int .i64 x2.1, .int .i64 x2.2, .slice rb l2.length rd, .slice pb ps2.length pd] 27)
  have hb1 := heap_new (w.alloc (.cells #[.string s1, .int .i64 x1.1, .int .i64 x1.2, .slice ra l1.length rc, .slice pa ps1.length pc] 27)) (.cells #[.string s2, .int .i64 x2.1, .int .i64 x2.2, .slice rb l2.length rd, .slice pb ps2.length pd] 27)
  rw [size_alloc] at hb1
  have ha1 := ha.next hk
  have hb2 := hb.next hk
  unfold aggM
  simp only
  obtain ⟨oa, hra, -⟩ := ha1.2.2.1.1
  obtain ⟨ob, hrb, -⟩ := hb2.2.2.1.1
  have hcva := rd_text (P := Try.prog) (src := 24) (e := 5) (dst := 9) hra Try.underlying24 Try.underlying5 Try.underlying9
  have hcvb := rd_text (P := Try.prog) (src := 24) (e := 5) (dst := 9) hrb Try.underlying24 Try.underlying5 Try.underlying9
  have HK := Lib.hid hk
  have HA := Lib.hid ha1.2.2.2
  have HB := Lib.hid hb2.2.2.2
  have HM : Hid (manB _ _ = _) := Lib.hid (show manB (MnV.man ⟨s1, x1, .slice ra l1.length rc, l1, .slice pa ps1.length pc, ps1⟩) (MnV.man ⟨s2, x2, .slice rb l2.length rd, l2, .slice pb ps2.length pd, ps2⟩) = (decide (s1.data.toList = s2.data.toList) && decide (x1 = x2) && decide (l1 = l2) && decide ((ps1.map (·.p)).length = (ps2.map (·.p)).length) && (List.range (ps1.map (·.p)).length).all fun i => match (ps1.map (·.p))[i]?, (ps2.map (·.p))[i]? with
    | some x, some y => plcB x y
    | _, _ => false) from rfl)
  have HSA := Lib.hid hsa
  have HSB := Lib.hid hsb
  have hcells : ∀ W, Keep [] ((w.alloc (.cells #[.string s1, .int .i64 x1.1, .int .i64 x1.2, .slice ra l1.length rc, .slice pa ps1.length pc] 27)).alloc (.cells #[.string s2, .int .i64 x2.1, .int .i64 x2.2, .slice rb l2.length rd, .slice pb ps2.length pd] 27)) W → W.heap[w.heap.size]? = some (.cells #[.string s1, .int .i64 x1.1, .int .i64 x1.2, .slice ra l1.length rc, .slice pa ps1.length pc] 27) ∧ W.heap[w.heap.size + 1]? = some (.cells #[.string s2, .int .i64 x2.1, .int .i64 x2.2, .slice rb l2.length rd, .slice pb ps2.length pd] 27) := fun W hW => ⟨blk_keep hb0 hW (by simp), blk_keep hb1 hW (by simp)⟩
  have HCE := Lib.hid hcells
  obtain ⟨m0, m1, m2, m3, m4⟩ := cells5 hb0
  obtain ⟨n0, n1, n2, n3, n4⟩ := cells5 hb1
  clear hk hb0 hb1 ha1 hb2 ha hb hra hrb hsa hsb hcells
  generalize (manB (MnV.man ⟨s1, x1, .slice ra l1.length rc, l1, .slice pa ps1.length pc, ps1⟩) (MnV.man ⟨s2, x2, .slice rb l2.length rd, l2, .slice pb ps2.length pd, ps2⟩)) = RB at *
  obtain ⟨x11, x12⟩ := x1
  obtain ⟨x21, x22⟩ := x2
  simp only at *
  have hneq := fun W => neqE x11 x12 x21 x22 W
  have hge := fun (op : BinOp) (x y : Operand) W => guardE op x y x11 x12 x21 x22 W
  by_cases h1 : s1 = s2
  · subst h1
    by_cases h2 : x11 = x21 ∧ x12 = x22
    · have hb2 : (x11 == x21 && x12 == x22) = true := by simp [h2]
      have hneq' : ∀ W, (binOp .neq 23 (.agg #[.int .i64 x11, .int .i64 x12]) (.agg #[.int .i64 x21, .int .i64 x22])).run Try.prog W = .ok (.bool false) W := fun W => by rw [hneq, hb2]; rfl
      have H2 := Lib.hid h2
      clear h2 hb2 hneq
      by_cases h3 : l1 = l2
      · subst h3
        by_cases h4 : ps1.length = ps2.length
        · have h4' : ((ps1.length : Int) != (ps2.length : Int)) = false := by simp [h4]
          have hrb : RB = (List.range ps1.length).all fun i => match (ps1.map (·.p))[i]?, (ps2.map (·.p))[i]? with
            | some x, some y => plcB x y
            | _, _ => false := by
            rw [HM.out, H2.out.1, H2.out.2]
            simp [h4]
          have HRB := Lib.hid hrb
          have H4 := Lib.hid h4
          clear hrb h4 HM
          go_enter Try.func15, Try.ntmps15
          go_wp2_with fail
          generalize (w.alloc (.cells #[.string s1, .int .i64 x11, .int .i64 x12, .slice ra l1.length rc, .slice pa ps1.length pc] 27)).alloc (.cells #[.string s1, .int .i64 x21, .int .i64 x22, .slice rb l1.length rd, .slice pb ps2.length pd] 27) = w1 at *
          clear m0 m1 m2 m3 m4 n0 n1 n2 n3 n4 hcva hcvb hneq' hge h4'
          go_loopw [5] (fun i wr => ∃ k : Nat, k ≤ ps1.length ∧ i = .int .i64 (k : Int) ∧ Keep [] w1 wr ∧ ((List.range k).all fun i => match (ps1.map (·.p))[i]?, (ps2.map (·.p))[i]? with
            | some x, some y => plcB x y
            | _, _ => false) = true) (fun i _ => ps1.length - (intOf i).toNat)
          case atStart => exact ⟨0, Nat.zero_le _, rfl, Keep.refl _ _, rfl⟩
          case round =>
            obtain ⟨k, hk, rfl, hkw, hall⟩ := hrel
            have HKW := Lib.hid hkw
            have HALL := Lib.hid hall
            clear hall hkw
            obtain ⟨m0, m1, m2, m3, m4⟩ := cells5 (HCE.out wr HKW.out).1
            by_cases hlt : k < ps1.length
            · have hlt2 : k < ps2.length := by have := H4.out; omega
              obtain ⟨pb1, pf1, rfl, hpb1, -, -, -⟩ := HA.out.at hlt
              obtain ⟨pb2, pf2, rfl, hpb2, -, -, -⟩ := HB.out.at hlt2
              obtain ⟨x, hx⟩ : ∃ x, x = ps1[k] := ⟨_, rfl⟩
              obtain ⟨y, hy⟩ : ∃ y, y = ps2[k] := ⟨_, rfl⟩
              have hca : ∀ W, Keep [] w1 W → W.cell? ⟨pb1, pf1 + k * 3, none⟩ = some (.int .i64 x.p.pid) ∧ W.cell? ⟨pb1, pf1 + k * 3 + 1, none⟩ = some (.int .i64 x.p.len) ∧ W.cell? ⟨pb1, pf1 + k * 3 + 2, none⟩ = some x.v := fun W hW => by
                obtain ⟨_, _, e1, -, h⟩ := (HA.out.keep hW (by simp)).at hlt
                cases e1
                rw [hx]; exact h
              have hcb : ∀ W, Keep [] w1 W → W.cell? ⟨pb2, pf2 + k * 3, none⟩ = some (.int .i64 y.p.pid) ∧ W.cell? ⟨pb2, pf2 + k * 3 + 1, none⟩ = some (.int .i64 y.p.len) ∧ W.cell? ⟨pb2, pf2 + k * 3 + 2, none⟩ = some y.v := fun W hW => by
                obtain ⟨_, _, e1, -, h⟩ := (HB.out.keep hW (by simp)).at hlt2
                cases e1
                rw [hy]; exact h
              have hcall := fun W (hW : Keep [] w1 W) => r_sameplace ((HA.out.2.1 x (hx ▸ List.getElem_mem hlt)).keep hW (by simp)) (((HB.out.2.1 y (hy ▸ List.getElem_mem hlt2)).keep hW (by simp))) (HSA.out x (hx ▸ List.getElem_mem hlt)) (HSB.out y (hy ▸ List.getElem_mem hlt2))
              have hnext : ((List.range (k + 1)).all fun i => match (ps1.map (·.p))[i]?, (ps2.map (·.p))[i]? with
                | some x, some y => plcB x y
                | _, _ => false) = plcB x.p y.p := by
                rw [List.range_succ, List.all_append, HALL.out]
                simp [hlt, hlt2, hx, hy]
              have hfalse : plcB x.p y.p = false → RB = false := fun h => by
                rw [HRB.out, List.all_eq_false]
                refine ⟨k, List.mem_range.2 hlt, ?_⟩
                simp [hlt, hlt2, ← hx, ← hy, h]
              have HCA := Lib.hid hca
              have HCB := Lib.hid hcb
              have HCL := Lib.hid hcall
              have HNX := Lib.hid hnext
              have HFA := Lib.hid hfalse
              have i0' : (0 : Int) ≤ (k : Int) := by omega
              have i1' : (k : Int) < (ps1.length : Int) := by omega
              have i2' : (k : Int) < (ps2.length : Int) := by omega
              obtain ⟨xa, xc, hxv, -, -⟩ := (HA.out.2.1 x (hx ▸ List.getElem_mem hlt)).2.2.slice
              obtain ⟨ya, yc, hyv, -, -⟩ := (HB.out.2.1 y (hy ▸ List.getElem_mem hlt2)).2.2.slice
              unfold aggP at HCL
              rw [hxv, hyv] at HCL
              clear hca hcb hcall hnext hfalse hx hy HRB HALL
              go_wp2_with fail
              refine wp_region_held_drew (S := fun w' => Keep [] w1 w') (by kernel_rfl) (HKW.out.drew) (fun hHeld => ?_)
              refine wpAnyH_takeL (i := 0) (v := ?vS0) rfl (by kernel_rfl) (by kernel_rfl) (by kernel_rfl) (fun _ _ _ h => h) (Or.inl ⟨by kernel_rfl, ?runS0⟩) hHeld ?_
              case runS0 => (intro w9 hS9; obtain ⟨q0, q1, q2, q3, q4⟩ := cells5 (HCE.out w9 hS9).1; obtain ⟨u0, u1, u2, u3, u4⟩ := cells5 (HCE.out w9 hS9).2; obtain ⟨c0, c1, c2⟩ := HCA.out w9 hS9; obtain ⟨d0, d1, d2⟩ := HCB.out w9 hS9; go_simp; try exact rfl)
              try simp only [Act.put, List.setIfInBounds_toArray, List.set_cons_zero, List.set_cons_succ]
              refine wpAnyH_takeL (i := 1) (v := ?vS1) rfl (by kernel_rfl) (by kernel_rfl) (by kernel_rfl) (fun _ _ _ h => h) (Or.inl ⟨by kernel_rfl, ?runS1⟩) hHeld ?_
              case runS1 => (intro w9 hS9; obtain ⟨q0, q1, q2, q3, q4⟩ := cells5 (HCE.out w9 hS9).1; obtain ⟨u0, u1, u2, u3, u4⟩ := cells5 (HCE.out w9 hS9).2; obtain ⟨c0, c1, c2⟩ := HCA.out w9 hS9; obtain ⟨d0, d1, d2⟩ := HCB.out w9 hS9; go_simp; try exact rfl)
              try simp only [Act.put, List.setIfInBounds_toArray, List.set_cons_zero, List.set_cons_succ]
              refine wpAnyH_takeL (i := 2) (v := ?vS2) rfl (by kernel_rfl) (by kernel_rfl) (by kernel_rfl) (fun _ _ _ h => h) (Or.inl ⟨by kernel_rfl, ?runS2⟩) hHeld ?_
              case runS2 => (intro w9 hS9; obtain ⟨q0, q1, q2, q3, q4⟩ := cells5 (HCE.out w9 hS9).1; obtain ⟨u0, u1, u2, u3, u4⟩ := cells5 (HCE.out w9 hS9).2; obtain ⟨c0, c1, c2⟩ := HCA.out w9 hS9; obtain ⟨d0, d1, d2⟩ := HCB.out w9 hS9; go_simp; try exact rfl)
              try simp only [Act.put, List.setIfInBounds_toArray, List.set_cons_zero, List.set_cons_succ]
              refine wpAnyH_takeL (i := 3) (v := ?vS3) rfl (by kernel_rfl) (by kernel_rfl) (by kernel_rfl) (fun _ _ _ h => h) (Or.inl ⟨by kernel_rfl, ?runS3⟩) hHeld ?_
              case runS3 => (intro w9 hS9; obtain ⟨q0, q1, q2, q3, q4⟩ := cells5 (HCE.out w9 hS9).1; obtain ⟨u0, u1, u2, u3, u4⟩ := cells5 (HCE.out w9 hS9).2; obtain ⟨c0, c1, c2⟩ := HCA.out w9 hS9; obtain ⟨d0, d1, d2⟩ := HCB.out w9 hS9; go_simp; try exact rfl)
              try simp only [Act.put, List.setIfInBounds_toArray, List.set_cons_zero, List.set_cons_succ]
              refine wpAnyH_takeL (i := 4) (v := ?vS4) rfl (by kernel_rfl) (by kernel_rfl) (by kernel_rfl) (fun _ _ _ h => h) (Or.inl ⟨by kernel_rfl, ?runS4⟩) hHeld ?_
              case runS4 => (intro w9 hS9; obtain ⟨q0, q1, q2, q3, q4⟩ := cells5 (HCE.out w9 hS9).1; obtain ⟨u0, u1, u2, u3, u4⟩ := cells5 (HCE.out w9 hS9).2; obtain ⟨c0, c1, c2⟩ := HCA.out w9 hS9; obtain ⟨d0, d1, d2⟩ := HCB.out w9 hS9; go_simp; try exact rfl)
              try simp only [Act.put, List.setIfInBounds_toArray, List.set_cons_zero, List.set_cons_succ]
              refine wpAnyH_takeL (i := 5) (v := ?vS5) rfl (by kernel_rfl) (by kernel_rfl) (by kernel_rfl) (fun _ _ _ h => h) (Or.inl ⟨by kernel_rfl, ?runS5⟩) hHeld ?_
              case runS5 => (intro w9 hS9; obtain ⟨q0, q1, q2, q3, q4⟩ := cells5 (HCE.out w9 hS9).1; obtain ⟨u0, u1, u2, u3, u4⟩ := cells5 (HCE.out w9 hS9).2; obtain ⟨c0, c1, c2⟩ := HCA.out w9 hS9; obtain ⟨d0, d1, d2⟩ := HCB.out w9 hS9; go_simp; try exact rfl)
              try simp only [Act.put, List.setIfInBounds_toArray, List.set_cons_zero, List.set_cons_succ]
              refine wpAnyH_takeL (i := 6) (v := ?vS6) rfl (by kernel_rfl) (by kernel_rfl) (by kernel_rfl) (fun _ _ _ h => h) (Or.inl ⟨by kernel_rfl, ?runS6⟩) hHeld ?_
              case runS6 => (intro w9 hS9; obtain ⟨q0, q1, q2, q3, q4⟩ := cells5 (HCE.out w9 hS9).1; obtain ⟨u0, u1, u2, u3, u4⟩ := cells5 (HCE.out w9 hS9).2; obtain ⟨c0, c1, c2⟩ := HCA.out w9 hS9; obtain ⟨d0, d1, d2⟩ := HCB.out w9 hS9; go_simp; try exact rfl)
              try simp only [Act.put, List.setIfInBounds_toArray, List.set_cons_zero, List.set_cons_succ]
              refine wpAnyH_takeL (i := 7) (v := ?vS7) rfl (by kernel_rfl) (by kernel_rfl) (by kernel_rfl) (fun _ _ _ h => h) (Or.inl ⟨by kernel_rfl, ?runS7⟩) hHeld ?_
              case runS7 => (intro w9 hS9; obtain ⟨q0, q1, q2, q3, q4⟩ := cells5 (HCE.out w9 hS9).1; obtain ⟨u0, u1, u2, u3, u4⟩ := cells5 (HCE.out w9 hS9).2; obtain ⟨c0, c1, c2⟩ := HCA.out w9 hS9; obtain ⟨d0, d1, d2⟩ := HCB.out w9 hS9; go_simp; try exact rfl)
              try simp only [Act.put, List.setIfInBounds_toArray, List.set_cons_zero, List.set_cons_succ]
              refine wpAnyH_takeL (i := 8) (v := ?vS8) rfl (by kernel_rfl) (by kernel_rfl) (by kernel_rfl) (fun _ _ _ h => h) (Or.inl ⟨by kernel_rfl, ?runS8⟩) hHeld ?_
              case runS8 => (intro w9 hS9; obtain ⟨q0, q1, q2, q3, q4⟩ := cells5 (HCE.out w9 hS9).1; obtain ⟨u0, u1, u2, u3, u4⟩ := cells5 (HCE.out w9 hS9).2; obtain ⟨c0, c1, c2⟩ := HCA.out w9 hS9; obtain ⟨d0, d1, d2⟩ := HCB.out w9 hS9; go_simp; try exact rfl)
              try simp only [Act.put, List.setIfInBounds_toArray, List.set_cons_zero, List.set_cons_succ]
              refine wpAnyH_takeL (i := 9) (v := ?vS9) rfl (by kernel_rfl) (by kernel_rfl) (by kernel_rfl) (fun _ _ _ h => h) (Or.inl ⟨by kernel_rfl, ?runS9⟩) hHeld ?_
              case runS9 => (intro w9 hS9; obtain ⟨q0, q1, q2, q3, q4⟩ := cells5 (HCE.out w9 hS9).1; obtain ⟨u0, u1, u2, u3, u4⟩ := cells5 (HCE.out w9 hS9).2; obtain ⟨c0, c1, c2⟩ := HCA.out w9 hS9; obtain ⟨d0, d1, d2⟩ := HCB.out w9 hS9; go_simp; try exact rfl)
              try simp only [Act.put, List.setIfInBounds_toArray, List.set_cons_zero, List.set_cons_succ]
              have HS0 := Lib.hid hHeld
              clear hHeld
              generalize wr.drew = w6 at *
              refine wpAnyH_ready (rs := [10]) (by kernel_rfl) (by simp) ?_
              refine AllReadyH.consL rfl (fun K hK => ?_) AllReadyH.nil
              go_simp
              refine (HCL.out _ HS0.out).mono ?_
              rintro e w7 ⟨rfl, hk7⟩
              have HS7 := Lib.hid (HS0.out.trans hk7 (by simp))
              clear hk7 HS0
              go_wp2_with fail
              refine hK.out _ _ HS7.out (fun hHeld => ?_)
              clear hK K
              try simp only [Act.put, List.setIfInBounds_toArray, List.set_cons_zero, List.set_cons_succ]
              refine wpAnyH_takeL (i := 11) (v := ?vS11) rfl (by kernel_rfl) (by kernel_rfl) (by kernel_rfl) (fun _ _ _ h => h) (Or.inl ⟨by kernel_rfl, ?runS11⟩) hHeld ?_
              case runS11 => (intro w9 hS9; obtain ⟨q0, q1, q2, q3, q4⟩ := cells5 (HCE.out w9 hS9).1; obtain ⟨u0, u1, u2, u3, u4⟩ := cells5 (HCE.out w9 hS9).2; obtain ⟨c0, c1, c2⟩ := HCA.out w9 hS9; obtain ⟨d0, d1, d2⟩ := HCB.out w9 hS9; go_simp; try exact rfl)
              try simp only [Act.put, List.setIfInBounds_toArray, List.set_cons_zero, List.set_cons_succ]
              refine wpAnyH_done (by kernel_rfl) ?_ _
              clear hHeld
              cases hq : plcB x.p y.p with
              | true =>
                have hn2 := HNX.out.trans hq
                have HN2 := Lib.hid hn2
                clear hn2 hq
                go_wp2_with fail
                go_roundw
                case rel => exact ⟨k + 1, by omega, by go_num, HS7.out, HN2.out⟩
                case measure => simp [intOf]; omega
              | false =>
                have hr := HFA.out hq
                have HR := Lib.hid hr
                clear hr hq
                go_wp2_with fail
                go_ret
                exact ⟨by rw [HR.out]; rfl, HK.out.trans HS7.out (by simp)⟩
            · obtain rfl : k = ps1.length := by omega
              have hr := HRB.out.trans HALL.out
              have HR := Lib.hid hr
              clear hr
              go_wp2_with fail
              go_ret
              exact ⟨by rw [HR.out]; rfl, HK.out.trans HKW.out (by simp)⟩
        · have h4' : ((ps1.length : Int) != (ps2.length : Int)) = true := by simp; omega
          have hr : RB = false := by rw [HM.out]; simp [h4]
          have HR := Lib.hid hr
          clear hr h4 HM
          go_enter Try.func15, Try.ntmps15
          go_wp2_with fail
          go_ret
          exact ⟨by rw [HR.out]; rfl, HK.out⟩
      · have hr : RB = false := by rw [HM.out]; simp [h3]
        have HR := Lib.hid hr
        clear hr HM
        go_enter Try.func15, Try.ntmps15
        go_wp2_with fail
        go_ret
        exact ⟨by rw [HR.out]; rfl, HK.out⟩
    · have hb2 : (x11 == x21 && x12 == x22) = false := by simpa using h2
      have hneq' : ∀ W, (binOp .neq 23 (.agg #[.int .i64 x11, .int .i64 x12]) (.agg #[.int .i64 x21, .int .i64 x22])).run Try.prog W = .ok (.bool true) W := fun W => by rw [hneq, hb2]; rfl
      have hr : RB = false := by
        have h9 : ¬ ((x11, x12) : Int × Int) = (x21, x22) := fun h => h2 (by simpa using h)
        rw [HM.out]; simp only [h9, decide_false, Bool.and_false, Bool.false_and]
      have HR := Lib.hid hr
      clear hr h2 HM hb2 hneq
      go_enter Try.func15, Try.ntmps15
      go_wp2_with fail
      go_ret
      exact ⟨by rw [HR.out]; rfl, HK.out⟩
  · have hr : RB = false := by
      rw [HM.out]
      have : ¬ s1.data.toList = s2.data.toList := fun h => h1 (by
        apply ByteArray.ext; exact Array.ext' h)
      simp [this]
    have h1t : ¬ s1.toList = s2.toList := by
      rw [Go.ByteArray.toList_eq, Go.ByteArray.toList_eq]
      exact fun h => h1 (by apply ByteArray.ext; exact Array.ext' h)
    have HR := Lib.hid hr
    clear hr HM
    go_enter Try.func15, Try.ntmps15
    go_wp2_with fail
    go_ret
    exact ⟨by rw [HR.out]; rfl, HK.out⟩
end Go.Proofs.Ytngepgnmlpinaaa
