/- A part of the proof (Mn26, Mn27, Mn28, MnOwn, Mn29, Mn30, Mn31, Mx7), joined by squeeze2.py. -/
import Derived.Test.YtimpadpeibgmoaaGreatYb23
import Derived.Deep.Slices
import Derived.Deep.Fields
import Derived.ChangeSame
import Derived.SizedLaws
import Derived.KernelRfl
import Derived.Laws.MakeOwn
set_option maxHeartbeats 8000000
set_option maxRecDepth 100000
namespace Go.Proofs.YtimpadpeibgmoaaGreat
open Go.RowKit Go.Emb Go.Emb.Ext
theorem r_same {w : World} {a b : MnV} (ha : RdM w.heap.size w a) (hb : RdM w.heap.size w b) (hsa : SmallV a) (hsb : SmallV b) :
  Calls Tryz.prog 19 #[aggM a, aggM b] w fun e w' => e = .returned (.bool (manB a.man b.man)) ∧ Keep [] w w' := by
 obtain ⟨⟨ra, rc, hrv, hr1, hr2⟩, pa, pc, hpv, hp1, hp2⟩ := ha.forms
 obtain ⟨⟨rb, rd, hrv', hr1', hr2'⟩, pb, pd, hpv', hp1', hp2'⟩ := hb.forms
 obtain ⟨s1, x1, rv1, l1, pv1, ps1⟩ := a
 obtain ⟨s2, x2, rv2, l2, pv2, ps2⟩ := b
 simp only at hrv hr1 hr2 hpv hp1 hp2 hrv' hr1' hr2' hpv' hp1' hp2'
 subst hrv hpv hrv' hpv'
 have hk : Keep [] w ((w.alloc (.cells #[.string s1, .int .i64 x1.1, .int .i64 x1.2, .slice ra l1.length rc, .slice pa ps1.length pc] 38)).alloc (.cells #[.string s2, .int .i64 x2.1, .int .i64 x2.2, .slice rb l2.length rd, .slice pb ps2.length pd] 38)) := ((Keep.refl [] w).alloc _).alloc _
 have hb0 := lit_alloc (heap_new w (.cells #[.string s1, .int .i64 x1.1, .int .i64 x1.2, .slice ra l1.length rc, .slice pa ps1.length pc] 38)) (.cells #[.string s2, .int .i64 x2.1, .int .i64 x2.2, .slice rb l2.length rd, .slice pb ps2.length pd] 38)
 have hb1 := heap_new (w.alloc (.cells #[.string s1, .int .i64 x1.1, .int .i64 x1.2, .slice ra l1.length rc, .slice pa ps1.length pc] 38)) (.cells #[.string s2, .int .i64 x2.1, .int .i64 x2.2, .slice rb l2.length rd, .slice pb ps2.length pd] 38)
 rw [size_alloc] at hb1
 have ha1 := ha.next hk
 have hb2 := hb.next hk
 unfold aggM
 simp only
 obtain ⟨oa, hra, -⟩ := ha1.2.2.1.1
 obtain ⟨ob, hrb, -⟩ := hb2.2.2.1.1
 have hcva := rd_text (P := Tryz.prog) (src := 35) (e := 5) (dst := 9) hra Tryz.underlying35 Tryz.underlying5 Tryz.underlying9
 have hcvb := rd_text (P := Tryz.prog) (src := 35) (e := 5) (dst := 9) hrb Tryz.underlying35 Tryz.underlying5 Tryz.underlying9
 have HK := hyd hk
 have HA := hyd ha1.2.2.2
 have HB := hyd hb2.2.2.2
 have HM : Hid (manB _ _ = _) := hyd (show manB (MnV.man ⟨s1, x1, .slice ra l1.length rc, l1, .slice pa ps1.length pc, ps1⟩) (MnV.man ⟨s2, x2, .slice rb l2.length rd, l2, .slice pb ps2.length pd, ps2⟩) = (decide (s1.data.toList = s2.data.toList) && decide (x1 = x2) && decide (l1 = l2) && decide ((ps1.map (·.p)).length = (ps2.map (·.p)).length) && (List.range (ps1.map (·.p)).length).all fun i => match (ps1.map (·.p))[i]?, (ps2.map (·.p))[i]? with
   | some x, some y => plcB x y
   | _, _ => false) from rfl)
 have HSA := hyd hsa
 have HSB := hyd hsb
 have hcells : ∀ W, Keep [] ((w.alloc (.cells #[.string s1, .int .i64 x1.1, .int .i64 x1.2, .slice ra l1.length rc, .slice pa ps1.length pc] 38)).alloc (.cells #[.string s2, .int .i64 x2.1, .int .i64 x2.2, .slice rb l2.length rd, .slice pb ps2.length pd] 38)) W → W.heap[w.heap.size]? = some (.cells #[.string s1, .int .i64 x1.1, .int .i64 x1.2, .slice ra l1.length rc, .slice pa ps1.length pc] 38) ∧ W.heap[w.heap.size + 1]? = some (.cells #[.string s2, .int .i64 x2.1, .int .i64 x2.2, .slice rb l2.length rd, .slice pb ps2.length pd] 38) := fun W hW => ⟨blk_keep hb0 hW (by simp), blk_keep hb1 hW (by simp)⟩
 have HCE := hyd hcells
 obtain ⟨m0, m1, m2, m3, m4⟩ := cells5 hb0
 obtain ⟨n0, n1, n2, n3, n4⟩ := cells5 hb1
 clear hk hb0 hb1 ha1 hb2 ha hb hra hrb hsa hsb hcells
 generalize (manB (MnV.man ⟨s1, x1, .slice ra l1.length rc, l1, .slice pa ps1.length pc, ps1⟩) (MnV.man ⟨s2, x2, .slice rb l2.length rd, l2, .slice pb ps2.length pd, ps2⟩)) = RB at *
 obtain ⟨x11, x12⟩ := x1
 obtain ⟨x21, x22⟩ := x2
 simp only at *
 have hneq := fun W => neqE x11 x12 x21 x22 W
 have hge := fun (op : BinOp) (x y : Operand) W => guardE op x y x11 x12 x21 x22 W
 by_cases h1 : s1 = s2
 ·subst h1
  by_cases h2 : x11 = x21 ∧ x12 = x22
  ·have hb2 : (x11 == x21 && x12 == x22) = true := by simp [h2]
   have hneq' : ∀ W, (binOp .neq 34 (.agg #[.int .i64 x11, .int .i64 x12]) (.agg #[.int .i64 x21, .int .i64 x22])).run Tryz.prog W = .ok (.bool false) W := fun W => by rw [hneq, hb2]; rfl
   have H2 := hyd h2
   clear h2 hb2 hneq
   by_cases h3 : l1 = l2
   ·subst h3
    by_cases h4 : ps1.length = ps2.length
    ·have h4' : ((ps1.length : Int) != (ps2.length : Int)) = false := by simp [h4]
     have hrb : RB = (List.range ps1.length).all fun i => match (ps1.map (·.p))[i]?, (ps2.map (·.p))[i]? with
      | some x, some y => plcB x y
      | _, _ => false := by
      rw [HM.o, H2.o.1, H2.o.2]
      simp [h4]
     have HRB := hyd hrb
     have H4 := hyd h4
     clear hrb h4 HM
     go_enter Tryz.func19, Tryz.ntmps19
     go_wp2_with fail
     generalize (w.alloc (.cells #[.string s1, .int .i64 x11, .int .i64 x12, .slice ra l1.length rc, .slice pa ps1.length pc] 38)).alloc (.cells #[.string s1, .int .i64 x21, .int .i64 x22, .slice rb l1.length rd, .slice pb ps2.length pd] 38) = w1 at *
     clear m0 m1 m2 m3 m4 n0 n1 n2 n3 n4 hcva hcvb hneq' hge h4'
     go_loopw [5] (fun i wr => ∃ k : Nat, k ≤ ps1.length ∧ i = .int .i64 (k : Int) ∧ Keep [] w1 wr ∧ ((List.range k).all fun i => match (ps1.map (·.p))[i]?, (ps2.map (·.p))[i]? with
       | some x, some y => plcB x y
       | _, _ => false) = true) (fun i _ => ps1.length - (intOf i).toNat)
     case atStart => exact ⟨0, Nat.zero_le _, rfl, Keep.refl _ _, rfl⟩
     case round =>
      obtain ⟨k, hk, rfl, hkw, hall⟩ := hrel
      have HKW := hyd hkw
      have HALL := hyd hall
      clear hall hkw
      obtain ⟨m0, m1, m2, m3, m4⟩ := cells5 (HCE.o wr HKW.o).1
      by_cases hlt : k < ps1.length
      ·have hlt2 : k < ps2.length := by have := H4.o; omega
       obtain ⟨pb1, pf1, rfl, hpb1, -, -, -⟩ := HA.o.at hlt
       obtain ⟨pb2, pf2, rfl, hpb2, -, -, -⟩ := HB.o.at hlt2
       obtain ⟨x, hx⟩ : ∃ x, x = ps1[k] := ⟨_, rfl⟩
       obtain ⟨y, hy⟩ : ∃ y, y = ps2[k] := ⟨_, rfl⟩
       have hca : ∀ W, Keep [] w1 W → W.cell? ⟨pb1, pf1 + k * 3, none⟩ = some (.int .i64 x.p.pid) ∧ W.cell? ⟨pb1, pf1 + k * 3 + 1, none⟩ = some (.int .i64 x.p.len) ∧ W.cell? ⟨pb1, pf1 + k * 3 + 2, none⟩ = some x.v := fun W hW => by
        obtain ⟨_, _, e1, -, h⟩ := (HA.o.keep hW (by simp)).at hlt
        cases e1
        rw [hx]; exact h
       have hcb : ∀ W, Keep [] w1 W → W.cell? ⟨pb2, pf2 + k * 3, none⟩ = some (.int .i64 y.p.pid) ∧ W.cell? ⟨pb2, pf2 + k * 3 + 1, none⟩ = some (.int .i64 y.p.len) ∧ W.cell? ⟨pb2, pf2 + k * 3 + 2, none⟩ = some y.v := fun W hW => by
        obtain ⟨_, _, e1, -, h⟩ := (HB.o.keep hW (by simp)).at hlt2
        cases e1
        rw [hy]; exact h
       have hcall := fun W (hW : Keep [] w1 W) => r_sameplace ((HA.o.2.1 x (hx ▸ List.getElem_mem hlt)).keep hW (by simp)) (((HB.o.2.1 y (hy ▸ List.getElem_mem hlt2)).keep hW (by simp))) (HSA.o x (hx ▸ List.getElem_mem hlt)) (HSB.o y (hy ▸ List.getElem_mem hlt2))
       have hnext : ((List.range (k + 1)).all fun i => match (ps1.map (·.p))[i]?, (ps2.map (·.p))[i]? with
         | some x, some y => plcB x y
         | _, _ => false) = plcB x.p y.p := by
        rw [List.range_succ, List.all_append, HALL.o]
        simp [hlt, hlt2, hx, hy]
       have hfalse : plcB x.p y.p = false → RB = false := fun h => by
        rw [HRB.o, List.all_eq_false]
        refine ⟨k, List.mem_range.2 hlt, ?_⟩
        simp [hlt, hlt2, ← hx, ← hy, h]
       have HCA := hyd hca
       have HCB := hyd hcb
       have HCL := hyd hcall
       have HNX := hyd hnext
       have HFA := hyd hfalse
       have i0' : (0 : Int) ≤ (k : Int) := by omega
       have i1' : (k : Int) < (ps1.length : Int) := by omega
       have i2' : (k : Int) < (ps2.length : Int) := by omega
       obtain ⟨xa, xc, hxv, -, -⟩ := (HA.o.2.1 x (hx ▸ List.getElem_mem hlt)).2.2.slice
       obtain ⟨ya, yc, hyv, -, -⟩ := (HB.o.2.1 y (hy ▸ List.getElem_mem hlt2)).2.2.slice
       unfold aggP at HCL
       rw [hxv, hyv] at HCL
       clear hca hcb hcall hnext hfalse hx hy HRB HALL
       go_wp2_with fail
       refine wp_region_held_drew (S := fun w' => Keep [] w1 w') (by kernel_rfl) (HKW.o.drew) (fun hHeld => ?_)
       refine wpAnyH_takeL (i := 0) (v := ?vS0) rfl (by kernel_rfl) (by kernel_rfl) (by kernel_rfl) (fun _ _ _ h => h) (Or.inl ⟨by kernel_rfl, ?runS0⟩) hHeld ?_
       case runS0 => (intro w9 hS9; obtain ⟨q0, q1, q2, q3, q4⟩ := cells5 (HCE.o w9 hS9).1; obtain ⟨u0, u1, u2, u3, u4⟩ := cells5 (HCE.o w9 hS9).2; obtain ⟨c0, c1, c2⟩ := HCA.o w9 hS9; obtain ⟨d0, d1, d2⟩ := HCB.o w9 hS9; go_simp; try exact rfl)
       try simp only [Act.put, lA, lZ, lS]
       refine wpAnyH_takeL (i := 1) (v := ?vS1) rfl (by kernel_rfl) (by kernel_rfl) (by kernel_rfl) (fun _ _ _ h => h) (Or.inl ⟨by kernel_rfl, ?runS1⟩) hHeld ?_
       case runS1 => (intro w9 hS9; obtain ⟨q0, q1, q2, q3, q4⟩ := cells5 (HCE.o w9 hS9).1; obtain ⟨u0, u1, u2, u3, u4⟩ := cells5 (HCE.o w9 hS9).2; obtain ⟨c0, c1, c2⟩ := HCA.o w9 hS9; obtain ⟨d0, d1, d2⟩ := HCB.o w9 hS9; go_simp; try exact rfl)
       try simp only [Act.put, lA, lZ, lS]
       refine wpAnyH_takeL (i := 2) (v := ?vS2) rfl (by kernel_rfl) (by kernel_rfl) (by kernel_rfl) (fun _ _ _ h => h) (Or.inl ⟨by kernel_rfl, ?runS2⟩) hHeld ?_
       case runS2 => (intro w9 hS9; obtain ⟨q0, q1, q2, q3, q4⟩ := cells5 (HCE.o w9 hS9).1; obtain ⟨u0, u1, u2, u3, u4⟩ := cells5 (HCE.o w9 hS9).2; obtain ⟨c0, c1, c2⟩ := HCA.o w9 hS9; obtain ⟨d0, d1, d2⟩ := HCB.o w9 hS9; go_simp; try exact rfl)
       try simp only [Act.put, lA, lZ, lS]
       refine wpAnyH_takeL (i := 3) (v := ?vS3) rfl (by kernel_rfl) (by kernel_rfl) (by kernel_rfl) (fun _ _ _ h => h) (Or.inl ⟨by kernel_rfl, ?runS3⟩) hHeld ?_
       case runS3 => (intro w9 hS9; obtain ⟨q0, q1, q2, q3, q4⟩ := cells5 (HCE.o w9 hS9).1; obtain ⟨u0, u1, u2, u3, u4⟩ := cells5 (HCE.o w9 hS9).2; obtain ⟨c0, c1, c2⟩ := HCA.o w9 hS9; obtain ⟨d0, d1, d2⟩ := HCB.o w9 hS9; go_simp; try exact rfl)
       try simp only [Act.put, lA, lZ, lS]
       refine wpAnyH_takeL (i := 4) (v := ?vS4) rfl (by kernel_rfl) (by kernel_rfl) (by kernel_rfl) (fun _ _ _ h => h) (Or.inl ⟨by kernel_rfl, ?runS4⟩) hHeld ?_
       case runS4 => (intro w9 hS9; obtain ⟨q0, q1, q2, q3, q4⟩ := cells5 (HCE.o w9 hS9).1; obtain ⟨u0, u1, u2, u3, u4⟩ := cells5 (HCE.o w9 hS9).2; obtain ⟨c0, c1, c2⟩ := HCA.o w9 hS9; obtain ⟨d0, d1, d2⟩ := HCB.o w9 hS9; go_simp; try exact rfl)
       try simp only [Act.put, lA, lZ, lS]
       refine wpAnyH_takeL (i := 5) (v := ?vS5) rfl (by kernel_rfl) (by kernel_rfl) (by kernel_rfl) (fun _ _ _ h => h) (Or.inl ⟨by kernel_rfl, ?runS5⟩) hHeld ?_
       case runS5 => (intro w9 hS9; obtain ⟨q0, q1, q2, q3, q4⟩ := cells5 (HCE.o w9 hS9).1; obtain ⟨u0, u1, u2, u3, u4⟩ := cells5 (HCE.o w9 hS9).2; obtain ⟨c0, c1, c2⟩ := HCA.o w9 hS9; obtain ⟨d0, d1, d2⟩ := HCB.o w9 hS9; go_simp; try exact rfl)
       try simp only [Act.put, lA, lZ, lS]
       refine wpAnyH_takeL (i := 6) (v := ?vS6) rfl (by kernel_rfl) (by kernel_rfl) (by kernel_rfl) (fun _ _ _ h => h) (Or.inl ⟨by kernel_rfl, ?runS6⟩) hHeld ?_
       case runS6 => (intro w9 hS9; obtain ⟨q0, q1, q2, q3, q4⟩ := cells5 (HCE.o w9 hS9).1; obtain ⟨u0, u1, u2, u3, u4⟩ := cells5 (HCE.o w9 hS9).2; obtain ⟨c0, c1, c2⟩ := HCA.o w9 hS9; obtain ⟨d0, d1, d2⟩ := HCB.o w9 hS9; go_simp; try exact rfl)
       try simp only [Act.put, lA, lZ, lS]
       refine wpAnyH_takeL (i := 7) (v := ?vS7) rfl (by kernel_rfl) (by kernel_rfl) (by kernel_rfl) (fun _ _ _ h => h) (Or.inl ⟨by kernel_rfl, ?runS7⟩) hHeld ?_
       case runS7 => (intro w9 hS9; obtain ⟨q0, q1, q2, q3, q4⟩ := cells5 (HCE.o w9 hS9).1; obtain ⟨u0, u1, u2, u3, u4⟩ := cells5 (HCE.o w9 hS9).2; obtain ⟨c0, c1, c2⟩ := HCA.o w9 hS9; obtain ⟨d0, d1, d2⟩ := HCB.o w9 hS9; go_simp; try exact rfl)
       try simp only [Act.put, lA, lZ, lS]
       refine wpAnyH_takeL (i := 8) (v := ?vS8) rfl (by kernel_rfl) (by kernel_rfl) (by kernel_rfl) (fun _ _ _ h => h) (Or.inl ⟨by kernel_rfl, ?runS8⟩) hHeld ?_
       case runS8 => (intro w9 hS9; obtain ⟨q0, q1, q2, q3, q4⟩ := cells5 (HCE.o w9 hS9).1; obtain ⟨u0, u1, u2, u3, u4⟩ := cells5 (HCE.o w9 hS9).2; obtain ⟨c0, c1, c2⟩ := HCA.o w9 hS9; obtain ⟨d0, d1, d2⟩ := HCB.o w9 hS9; go_simp; try exact rfl)
       try simp only [Act.put, lA, lZ, lS]
       refine wpAnyH_takeL (i := 9) (v := ?vS9) rfl (by kernel_rfl) (by kernel_rfl) (by kernel_rfl) (fun _ _ _ h => h) (Or.inl ⟨by kernel_rfl, ?runS9⟩) hHeld ?_
       case runS9 => (intro w9 hS9; obtain ⟨q0, q1, q2, q3, q4⟩ := cells5 (HCE.o w9 hS9).1; obtain ⟨u0, u1, u2, u3, u4⟩ := cells5 (HCE.o w9 hS9).2; obtain ⟨c0, c1, c2⟩ := HCA.o w9 hS9; obtain ⟨d0, d1, d2⟩ := HCB.o w9 hS9; go_simp; try exact rfl)
       try simp only [Act.put, lA, lZ, lS]
       have HS0 := hyd hHeld
       clear hHeld
       generalize wr.drew = w6 at *
       refine wpAnyH_ready (rs := [10]) (by kernel_rfl) (by simp) ?_
       refine AllReadyH.consL rfl (fun K hK => ?_) AllReadyH.nil
       go_simp
       refine (HCL.o _ HS0.o).mono ?_
       rintro e w7 ⟨rfl, hk7⟩
       have HS7 := hyd (HS0.o.trans hk7 (by simp))
       clear hk7 HS0
       go_wp2_with fail
       refine hK.out _ _ HS7.o (fun hHeld => ?_)
       clear hK K
       try simp only [Act.put, lA, lZ, lS]
       refine wpAnyH_takeL (i := 11) (v := ?vS11) rfl (by kernel_rfl) (by kernel_rfl) (by kernel_rfl) (fun _ _ _ h => h) (Or.inl ⟨by kernel_rfl, ?runS11⟩) hHeld ?_
       case runS11 => (intro w9 hS9; obtain ⟨q0, q1, q2, q3, q4⟩ := cells5 (HCE.o w9 hS9).1; obtain ⟨u0, u1, u2, u3, u4⟩ := cells5 (HCE.o w9 hS9).2; obtain ⟨c0, c1, c2⟩ := HCA.o w9 hS9; obtain ⟨d0, d1, d2⟩ := HCB.o w9 hS9; go_simp; try exact rfl)
       try simp only [Act.put, lA, lZ, lS]
       refine wpAnyH_done (by kernel_rfl) ?_ _
       clear hHeld
       cases hq : plcB x.p y.p with
       | true =>
        have hn2 := HNX.o.trans hq
        have HN2 := hyd hn2
        clear hn2 hq
        go_wp2_with fail
        go_roundw
        case rel => exact ⟨k + 1, by omega, by go_num, HS7.o, HN2.o⟩
        case measure => simp [intOf]; omega
       | false =>
        have hr := HFA.o hq
        have HR := hyd hr
        clear hr hq
        go_wp2_with fail
        go_ret
        exact ⟨by rw [HR.o]; rfl, HK.o.trans HS7.o (by simp)⟩
      ·obtain rfl : k = ps1.length := by omega
       have hr := HRB.o.trans HALL.o
       have HR := hyd hr
       clear hr
       go_wp2_with fail
       go_ret
       exact ⟨by rw [HR.o]; rfl, HK.o.trans HKW.o (by simp)⟩
    ·have h4' : ((ps1.length : Int) != (ps2.length : Int)) = true := by simp; omega
     have hr : RB = false := by rw [HM.o]; simp [h4]
     have HR := hyd hr
     clear hr h4 HM
     go_enter Tryz.func19, Tryz.ntmps19
     go_wp2_with fail
     go_ret
     exact ⟨by rw [HR.o]; rfl, HK.o⟩
   ·have hr : RB = false := by rw [HM.o]; simp [h3]
    have HR := hyd hr
    clear hr HM
    go_enter Tryz.func19, Tryz.ntmps19
    go_wp2_with fail
    go_ret
    exact ⟨by rw [HR.o]; rfl, HK.o⟩
  ·have hb2 : (x11 == x21 && x12 == x22) = false := by simpa using h2
   have hneq' : ∀ W, (binOp .neq 34 (.agg #[.int .i64 x11, .int .i64 x12]) (.agg #[.int .i64 x21, .int .i64 x22])).run Tryz.prog W = .ok (.bool true) W := fun W => by rw [hneq, hb2]; rfl
   have hr : RB = false := by
    have h9 : ¬ ((x11, x12) : Int × Int) = (x21, x22) := fun h => h2 (by simpa using h)
    rw [HM.o]; simp only [h9, decide_false, Bool.and_false, Bool.false_and]
   have HR := hyd hr
   clear hr h2 HM hb2 hneq
   go_enter Tryz.func19, Tryz.ntmps19
   go_wp2_with fail
   go_ret
   exact ⟨by rw [HR.o]; rfl, HK.o⟩
 ·have hr : RB = false := by
   rw [HM.o]
   have : ¬ s1.data.toList = s2.data.toList := fun h => h1 (by
     apply ByteArray.ext; exact Array.ext' h)
   simp [this]
  have h1t : ¬ s1.toList = s2.toList := by
   rw [Go.ByteArray.toList_eq, Go.ByteArray.toList_eq]
   exact fun h => h1 (by apply ByteArray.ext; exact Array.ext' h)
  have HR := hyd hr
  clear hr HM
  go_enter Tryz.func19, Tryz.ntmps19
  go_wp2_with fail
  go_ret
  exact ⟨by rw [HR.o]; rfl, HK.o⟩
theorem plc_size3 : (Tryz.prog.info? 48).map (·.size) = some 3 := by kernel_rfl
def findL (m : MnV) (pid : Int) : Option PlV := m.places.find? (fun y => decide (y.p.pid = pid))
def FindP (w : World) (m : MnV) (pid : Int) (e : Ending) (w' : World) : Prop := Keep [] w w' ∧ e = .returned (.tuple #[((findL m pid).map aggP).getD (.agg #[.int .i64 0, .int .i64 0, .slice none 0 0]), .bool (findL m pid).isSome])
theorem findL_at {m : MnV} {pid : Int} {k : Nat} (hk : k < m.places.length) (h0 : ∀ y ∈ m.places.take k, y.p.pid ≠ pid) (h1 : m.places[k].p.pid = pid) : findL m pid = some m.places[k] := by
 unfold findL
 have : m.places = m.places.take k ++ m.places[k] :: m.places.drop (k + 1) := by
  rw [← List.drop_eq_getElem_cons hk, List.take_append_drop]
 conv => lhs; rw [this]
 rw [List.find?_append, List.find?_eq_none.2 (fun y hy => by simpa using h0 y hy), List.find?_cons_of_pos (by simpa using h1)]
 rfl
theorem findL_none {m : MnV} {pid : Int} (h0 : ∀ y ∈ m.places, y.p.pid ≠ pid) : findL m pid = none := by
 unfold findL
 exact List.find?_eq_none.2 (fun y hy => by simpa using h0 y hy)
theorem r_find {w : World} {m : MnV} (hm : RdM w.heap.size w m) (hpl : m.places.length ≤ 1000000) {pid : Int} (hpid : I64 pid) : Calls Tryz.prog 15 #[aggM m, .int .i64 pid] w (FindP w m pid) := by
 obtain ⟨⟨ra, rc, hrv, hrc1, hrc2⟩, pa, pc, hpv, hpc1, hpc2⟩ := hm.forms
 have hk0 : Keep [] w ((w.alloc (.cells #[.string m.s, .int .i64 m.area.1, .int .i64 m.area.2, .slice ra m.rest.length rc, .slice pa m.places.length pc] 38)).alloc (.cells #[.int .i64 0, .int .i64 0, .slice none 0 0] 48)) := ((Keep.refl [] w).alloc _).alloc _
 have hb1 := lit_alloc (heap_new w (.cells #[.string m.s, .int .i64 m.area.1, .int .i64 m.area.2, .slice ra m.rest.length rc, .slice pa m.places.length pc] 38)) (.cells #[.int .i64 0, .int .i64 0, .slice none 0 0] 48)
 have hb2 := heap_new (w.alloc (.cells #[.string m.s, .int .i64 m.area.1, .int .i64 m.area.2, .slice ra m.rest.length rc, .slice pa m.places.length pc] 38)) (.cells #[.int .i64 0, .int .i64 0, .slice none 0 0] 48)
 simp only [size_alloc] at hb2
 have hps := hm.2.2.2.keep hk0 (by simp)
 rw [hpv] at hps
 have HB1 := hyd hb1
 have HB2 := hyd hb2
 have HK0 := hyd hk0
 have HPS := hyd hps
 clear hk0 hb1 hb2 hm hps
 unfold aggM
 rw [hrv, hpv]
 go_enter Tryz.func15, Tryz.ntmps15
 go_wp2_with fail
 generalize (w.alloc (.cells #[.string m.s, .int .i64 m.area.1, .int .i64 m.area.2, .slice ra m.rest.length rc, .slice pa m.places.length pc] 38)).alloc (.cells #[.int .i64 0, .int .i64 0, .slice none 0 0] 48) = w2 at *
 generalize hB2 : w.heap.size + 1 = b2 at *
 have HE2 := hyd hB2
 clear hB2
 go_loopw [6] (fun i wr => ∃ k : Nat, k ≤ m.places.length ∧ i = .int .i64 (k : Int) ∧ (∀ y ∈ m.places.take k, y.p.pid ≠ pid) ∧ wr = w2) (fun i _ => m.places.length - (intOf i).toNat)
 case atStart => exact ⟨0, Nat.zero_le _, rfl, (fun y hy => by simp at hy), rfl⟩
 case round =>
  obtain ⟨k, hk, rfl, h0, rfl⟩ := hrel
  have H0 := hyd h0
  clear h0
  obtain ⟨m0, m1, m2, m3, m4⟩ := cells5 HB1.o
  obtain ⟨d0, d1, d2, f0⟩ := cells3 HB2.o
  have f1 : wr.frozen? ⟨b2, 1, none⟩ = false := by simp [World.frozen?, HB2.o]
  have f2 : wr.frozen? ⟨b2, 2, none⟩ = false := by simp [World.frozen?, HB2.o]
  by_cases hlt : k < m.places.length
  ·obtain ⟨pb, poff, rfl, hpb, g0, g1, g2⟩ := HPS.o.at hlt
   obtain ⟨y0, hy0⟩ : ∃ y, y = m.places[k] := ⟨_, rfl⟩
   have hpx := HPS.o.2.1 _ (List.getElem_mem hlt)
   rw [← hy0] at g0 g1 g2 hpx
   have HY0 := hyd hy0
   obtain ⟨hx1', hx2', hx3⟩ := hpx
   obtain ⟨xa, xc, hxv, hxc1, hxc2⟩ := hx3.slice
   rw [hxv] at g2
   have HXV := hyd hxv
   clear hx1' hx2' hx3 hy0 hxv
   have i0' : (0 : Int) ≤ (k : Int) := by omega
   have i1' : (k : Int) < (m.places.length : Int) := by omega
   have k0 := g0
   by_cases hq : y0.p.pid = pid
   ·go_wp2_with fail
    have hkz : Keep [b2] wr (((wr.setCell ⟨b2, 0, none⟩ (.int .i64 pid)).setCell ⟨b2, 1, none⟩ (.int .i64 y0.p.len)).setCell ⟨b2, 2, none⟩ (.slice xa y0.p.pieces.length xc)) := (((Keep.refl _ wr).setCell (.inl (by simp)) _).setCell (.inl (by simp)) _).setCell (.inl (by simp)) _
    have hbz : ((((wr.setCell ⟨b2, 0, none⟩ (.int .i64 pid)).setCell ⟨b2, 1, none⟩ (.int .i64 y0.p.len)).setCell ⟨b2, 2, none⟩ (.slice xa y0.p.pieces.length xc))).heap[b2]? = some (.cells #[(.int .i64 pid), (.int .i64 y0.p.len), (.slice xa y0.p.pieces.length xc)] 48) := by simpa using heap_setCell_at (i := 2) (heap_setCell_at (i := 1) (heap_setCell_at (i := 0) HB2.o (.int .i64 pid)) (.int .i64 y0.p.len)) (.slice xa y0.p.pieces.length xc)
    generalize (((wr.setCell ⟨b2, 0, none⟩ (.int .i64 pid)).setCell ⟨b2, 1, none⟩ (.int .i64 y0.p.len)).setCell ⟨b2, 2, none⟩ (.slice xa y0.p.pieces.length xc)) = wz at *
    refine bodyPost_ret (results_cell_tmp (ty := 48) rfl _ wz b2 _ _ _ _ rfl hbz Tryz.underlying48 rfl plc_size3) rfl ?_
    refine ⟨HK0.o.trans hkz (fun b hb => .inr (by simp at hb; have := HE2.o; omega)), ?_⟩
    rw [findL_at hlt H0.o (by rw [← HY0.o]; exact hq), ← HY0.o]
    simp [aggP, HXV.o, hq]
   ·go_wp2_with fail
    go_roundw
    case rel => exact ⟨k + 1, by omega, by go_num, (fun y hy => by
      rw [List.take_succ_eq_append_getElem hlt, List.mem_append] at hy
      rcases hy with hy | hy
      · exact H0.o y hy
      · simp at hy; rw [hy, ← HY0.o]; exact hq), trivial⟩
    case measure => simp [intOf]; omega
  ·obtain rfl : k = m.places.length := by omega
   have i1' : ¬ (m.places.length : Int) < (m.places.length : Int) := by omega
   go_wp2_with fail
   have hkz : Keep [b2] wr (((wr.setCell ⟨b2, 0, none⟩ (.int .i64 0)).setCell ⟨b2, 1, none⟩ (.int .i64 0)).setCell ⟨b2, 2, none⟩ (.slice none 0 0)) := (((Keep.refl _ wr).setCell (.inl (by simp)) _).setCell (.inl (by simp)) _).setCell (.inl (by simp)) _
   have hbz : ((((wr.setCell ⟨b2, 0, none⟩ (.int .i64 0)).setCell ⟨b2, 1, none⟩ (.int .i64 0)).setCell ⟨b2, 2, none⟩ (.slice none 0 0))).heap[b2]? = some (.cells #[(.int .i64 0), (.int .i64 0), (.slice none 0 0)] 48) := by simpa using heap_setCell_at (i := 2) (heap_setCell_at (i := 1) (heap_setCell_at (i := 0) HB2.o (.int .i64 0)) (.int .i64 0)) (.slice none 0 0)
   generalize (((wr.setCell ⟨b2, 0, none⟩ (.int .i64 0)).setCell ⟨b2, 1, none⟩ (.int .i64 0)).setCell ⟨b2, 2, none⟩ (.slice none 0 0)) = wz at *
   refine bodyPost_ret (results_cell_tmp (ty := 48) rfl _ wz b2 _ _ _ _ rfl hbz Tryz.underlying48 rfl plc_size3) rfl ?_
   refine ⟨HK0.o.trans hkz (fun b hb => .inr (by simp at hb; have := HE2.o; omega)), ?_⟩
   rw [findL_none (by have := H0.o; rwa [List.take_length] at this)]
   rfl
theorem p_find1 {W : World} {q : Nat} {pid : Int} (hq : W.heap[q]? = some (.cells #[.int .i64 pid] 2)) (a b : Int) (va : Option Addr) (vn vc : Nat) : Calls Tryz.prog 82 #[.agg #[.int .i64 a, .int .i64 b, .slice va vn vc], .pointer (some ⟨q, 0, none⟩)] W fun e w' => e = .returned (.bool (decide (a = pid))) ∧ Keep [] W w' := by
 have hk : Keep [] W (W.alloc (.cells #[.int .i64 a, .int .i64 b, .slice va vn vc] 48)) := (Keep.refl [] W).alloc _
 have hb := heap_new W (.cells #[.int .i64 a, .int .i64 b, .slice va vn vc] 48)
 have hq2 := lit_alloc hq (.cells #[.int .i64 a, .int .i64 b, .slice va vn vc] 48)
 obtain ⟨c0, c1, c2, -⟩ := cells3 hb
 have d0 : (W.alloc (.cells #[.int .i64 a, .int .i64 b, .slice va vn vc] 48)).cell? ⟨q, 0, none⟩ = some (.int .i64 pid) := by simp [World.cell?, hq2]
 have HK := hyd hk
 clear hk hb hq2 hq
 by_cases h : a = pid
 ·rw [decide_eq_true h]
  subst h
  go_enter Tryz.func82, Tryz.ntmps82
  go_wp2_with fail
  go_ret
  exact ⟨by simp, HK.o⟩
 ·rw [decide_eq_false h]
  go_enter Tryz.func82, Tryz.ntmps82
  go_wp2_with fail
  go_ret
  exact ⟨by simp [h], HK.o⟩
def IdxP (ps : List PlV) (pid : Int) (i : Int) : Prop := (i = -1 ∧ ∀ y ∈ ps, y.p.pid ≠ pid) ∨ ∃ (k : Nat) (h : k < ps.length), i = (k : Int) ∧ ps[k].p.pid = pid ∧ ∀ y ∈ ps.take k, y.p.pid ≠ pid
theorem p_index {B q : Nat} {w : World} {v : Value} {ps : List PlV} {pid : Int} (hps : RdPs B w v ps) (hl : ps.length ≤ 1000000) (hq : w.heap[q]? = some (.cells #[.int .i64 pid] 2)) :
  Calls Tryz.prog 81 #[v, .func (.func 82) #[] #[.pointer (some ⟨q, 0, none⟩)]] w fun e w' => ∃ i : Int, e = .returned (.int .i64 i) ∧ IdxP ps pid i ∧ Keep [] w w' := by
 have eg : ∀ args w, (callFunc 82 args).run Tryz.prog w = .ok (.enter 82 args) w := enters_of Tryz.func82 (by kernel_rfl) rfl
 obtain ⟨a, c, rfl⟩ : ∃ a c, v = .slice a ps.length c := by obtain ⟨⟨_, ⟨_, a, c, h, _⟩, _⟩, _⟩ := hps; exact ⟨a, c, h⟩
 have HPS := hyd hps
 have HQ := hyd hq
 clear hps hq
 go_enter Tryz.func81, Tryz.ntmps81
 go_wp2_with fail
 go_loopw [5, 8] (fun _ i wr => ∃ k : Nat, k ≤ ps.length ∧ i = .int .i64 (k : Int) ∧ Keep [] w wr ∧ ∀ y ∈ ps.take k, y.p.pid ≠ pid) (fun _ i _ => ps.length - (intOf i).toNat)
 case atStart => exact ⟨0, Nat.zero_le _, rfl, Keep.refl _ _, fun y hy => by simp at hy⟩
 case round =>
  obtain ⟨k, hk, rfl, hK, hno⟩ := hrel
  have HK := hyd hK
  have HNO := hyd hno
  clear hK hno
  by_cases hlt : k < ps.length
  ·obtain ⟨pb, poff, rfl, hpb, g0, g1, g2⟩ := (HPS.o.keep HK.o (by simp)).at hlt
   obtain ⟨y0, hy0⟩ : ∃ y, y = ps[k] := ⟨_, rfl⟩
   have hpx := HPS.o.2.1 _ (List.getElem_mem hlt)
   rw [← hy0] at g0 g1 g2 hpx
   have HY0 := hyd hy0
   obtain ⟨hx1', hx2', hx3⟩ := hpx
   obtain ⟨xa, xc, hxv, hxc1, hxc2⟩ := hx3.slice
   rw [hxv] at g2
   have hcall := p_find1 (blk_keep HQ.o HK.o (by simp)) y0.p.pid y0.p.len xa y0.p.pieces.length xc
   clear hx1' hx2' hx3 hy0 hxv
   have i0' : (0 : Int) ≤ (k : Int) := by omega
   have i1' : (k : Int) < (ps.length : Int) := by omega
   have k0 := g0
   by_cases hq : y0.p.pid = pid
   ·rw [decide_eq_true hq] at hcall
    have HQQ := hyd hq
    clear hq
    go_wp2_with (go_at_fn 82; refine hcall.mono ?_; rintro e w' ⟨rfl, hk'⟩)
    go_ret
    exact ⟨(k : Int), rfl, .inr ⟨k, hlt, rfl, by rw [← HY0.o]; exact HQQ.o, HNO.o⟩, HK.o.trans hk' (by simp)⟩
   ·rw [decide_eq_false hq] at hcall
    have HQQ := hyd hq
    clear hq
    go_wp2_with (go_at_fn 82; refine hcall.mono ?_; rintro e w' ⟨rfl, hk'⟩)
    go_roundw
    case rel => exact ⟨k + 1, by omega, by go_num, HK.o.trans hk' (by simp), fun y hy => by
      rw [List.take_succ_eq_append_getElem hlt, List.mem_append] at hy
      rcases hy with hy | hy
      · exact HNO.o y hy
      · simp at hy; rw [hy, ← HY0.o]; exact HQQ.o⟩
    case measure => simp [intOf]; omega
  ·obtain rfl : k = ps.length := by omega
   have i1' : ¬ (ps.length : Int) < (ps.length : Int) := by omega
   go_wp2_with fail
   go_ret
   exact ⟨-1, rfl, .inl ⟨rfl, by have := HNO.o; rwa [List.take_length] at this⟩, HK.o⟩
theorem p_find {w : World} {m : MnV} (hm : RdM w.heap.size w m) (hpl : m.places.length ≤ 1000000) {pid : Int} (hpid : I64 pid) : Calls Tryz.prog 54 #[aggM m, .int .i64 pid] w (FindP w m pid) := by
 obtain ⟨⟨ra, rc, hrv, hrc1, hrc2⟩, pa, pc, hpv, hpc1, hpc2⟩ := hm.forms
 have hk0 : Keep [] w (((w.alloc (.cells #[.string m.s, .int .i64 m.area.1, .int .i64 m.area.2, .slice ra m.rest.length rc, .slice pa m.places.length pc] 38)).alloc (.cells #[.int .i64 pid] 2)).alloc (.cells #[.int .i64 0, .int .i64 0, .slice none 0 0] 48)) := (((Keep.refl [] w).alloc _).alloc _).alloc _
 have hb1 := lit_alloc (lit_alloc (heap_new w (.cells #[.string m.s, .int .i64 m.area.1, .int .i64 m.area.2, .slice ra m.rest.length rc, .slice pa m.places.length pc] 38)) (.cells #[.int .i64 pid] 2)) (.cells #[.int .i64 0, .int .i64 0, .slice none 0 0] 48)
 have hb2 := lit_alloc (heap_new (w.alloc (.cells #[.string m.s, .int .i64 m.area.1, .int .i64 m.area.2, .slice ra m.rest.length rc, .slice pa m.places.length pc] 38)) (.cells #[.int .i64 pid] 2)) (.cells #[.int .i64 0, .int .i64 0, .slice none 0 0] 48)
 have hb3 := heap_new ((w.alloc (.cells #[.string m.s, .int .i64 m.area.1, .int .i64 m.area.2, .slice ra m.rest.length rc, .slice pa m.places.length pc] 38)).alloc (.cells #[.int .i64 pid] 2)) (.cells #[.int .i64 0, .int .i64 0, .slice none 0 0] 48)
 simp only [size_alloc] at hb2 hb3
 have hps := hm.2.2.2.keep hk0 (by simp)
 rw [hpv] at hps
 obtain ⟨m0, m1, m2, m3, m4⟩ := cells5 hb1
 have hix := p_index hps hpl hb2
 have HIX := hyd hix
 have HB1 := hyd hb1
 have HB3 := hyd hb3
 have HK0 := hyd hk0
 have HPS := hyd hps
 have eg : ∀ args w, (callFunc 81 args).run Tryz.prog w = .ok (.enter 81 args) w := enters_of Tryz.func81 (by kernel_rfl) rfl
 clear hk0 hb1 hb2 hb3 hm hps hix
 unfold aggM
 rw [hrv, hpv]
 go_enter Tryz.func54, Tryz.ntmps54
 go_wp2_with fail
 generalize (((w.alloc (.cells #[.string m.s, .int .i64 m.area.1, .int .i64 m.area.2, .slice ra m.rest.length rc, .slice pa m.places.length pc] 38)).alloc (.cells #[.int .i64 pid] 2)).alloc (.cells #[.int .i64 0, .int .i64 0, .slice none 0 0] 48)) = w3 at *
 generalize hB3 : w.heap.size + 1 + 1 = b3 at *
 have HE3 := hyd hB3
 clear hB3 m0 m1 m2 m3 m4
 refine HIX.o.mono ?_
 rintro e w4 ⟨i, rfl, hi, hk4⟩
 have HB14 := hyd (blk_keep HB1.o hk4 (by simp))
 have hb34 := blk_keep HB3.o hk4 (by simp)
 have HPS4 := hyd (HPS.o.keep hk4 (by simp))
 have HK4 := hyd (HK0.o.trans hk4 (by simp))
 clear hk4 HB1 HB3 HPS HK0 HIX
 have HB3 := hyd hb34
 obtain ⟨m0, m1, m2, m3, m4⟩ := cells5 HB14.o
 obtain ⟨d0, d1, d2, f0⟩ := cells3 hb34
 have f1 : w4.frozen? ⟨b3, 1, none⟩ = false := by simp [World.frozen?, hb34]
 have f2 : w4.frozen? ⟨b3, 2, none⟩ = false := by simp [World.frozen?, hb34]
 clear hb34
 rcases hi with ⟨rfl, hno⟩ | ⟨k, hlt, rfl, hq, hno⟩
 ·have HNO := hyd hno
  clear hno
  go_wp2_with fail
  have hkz : Keep [b3] w4 (((w4.setCell ⟨b3, 0, none⟩ (.int .i64 0)).setCell ⟨b3, 1, none⟩ (.int .i64 0)).setCell ⟨b3, 2, none⟩ (.slice none 0 0)) := (((Keep.refl _ w4).setCell (.inl (by simp)) _).setCell (.inl (by simp)) _).setCell (.inl (by simp)) _
  have hbz : ((((w4.setCell ⟨b3, 0, none⟩ (.int .i64 0)).setCell ⟨b3, 1, none⟩ (.int .i64 0)).setCell ⟨b3, 2, none⟩ (.slice none 0 0))).heap[b3]? = some (.cells #[(.int .i64 0), (.int .i64 0), (.slice none 0 0)] 48) := by simpa using heap_setCell_at (i := 2) (heap_setCell_at (i := 1) (heap_setCell_at (i := 0) HB3.o (.int .i64 0)) (.int .i64 0)) (.slice none 0 0)
  generalize (((w4.setCell ⟨b3, 0, none⟩ (.int .i64 0)).setCell ⟨b3, 1, none⟩ (.int .i64 0)).setCell ⟨b3, 2, none⟩ (.slice none 0 0)) = wz at *
  refine bodyPost_ret (results_cell_tmp (ty := 48) rfl _ wz b3 _ _ _ _ rfl hbz Tryz.underlying48 rfl plc_size3) rfl ?_
  refine ⟨HK4.o.trans hkz (fun b hb => .inr (by simp at hb; have := HE3.o; omega)), ?_⟩
  rw [findL_none HNO.o]
  rfl
 ·obtain ⟨pb, poff, rfl, hpb, g0, g1, g2⟩ := HPS4.o.at hlt
  obtain ⟨y0, hy0⟩ : ∃ y, y = m.places[k] := ⟨_, rfl⟩
  have hpx := HPS4.o.2.1 _ (List.getElem_mem hlt)
  rw [← hy0] at g0 g1 g2 hpx
  have HY0 := hyd hy0
  have HQ := hyd hq
  have HNO := hyd hno
  obtain ⟨hx1', hx2', hx3⟩ := hpx
  obtain ⟨xa, xc, hxv, hxc1, hxc2⟩ := hx3.slice
  rw [hxv] at g2
  have HXV := hyd hxv
  clear hx1' hx2' hx3 hy0 hxv hq hno
  have i0' : (0 : Int) ≤ (k : Int) := by omega
  have i2' : ¬ (k : Int) < (0 : Int) := by omega
  have i1' : (k : Int) < (m.places.length : Int) := by omega
  have k0 := g0
  go_wp2_with fail
  have hkz : Keep [b3] w4 (((w4.setCell ⟨b3, 0, none⟩ (.int .i64 y0.p.pid)).setCell ⟨b3, 1, none⟩ (.int .i64 y0.p.len)).setCell ⟨b3, 2, none⟩ (.slice xa y0.p.pieces.length xc)) := (((Keep.refl _ w4).setCell (.inl (by simp)) _).setCell (.inl (by simp)) _).setCell (.inl (by simp)) _
  have hbz : ((((w4.setCell ⟨b3, 0, none⟩ (.int .i64 y0.p.pid)).setCell ⟨b3, 1, none⟩ (.int .i64 y0.p.len)).setCell ⟨b3, 2, none⟩ (.slice xa y0.p.pieces.length xc))).heap[b3]? = some (.cells #[(.int .i64 y0.p.pid), (.int .i64 y0.p.len), (.slice xa y0.p.pieces.length xc)] 48) := by simpa using heap_setCell_at (i := 2) (heap_setCell_at (i := 1) (heap_setCell_at (i := 0) HB3.o (.int .i64 y0.p.pid)) (.int .i64 y0.p.len)) (.slice xa y0.p.pieces.length xc)
  generalize (((w4.setCell ⟨b3, 0, none⟩ (.int .i64 y0.p.pid)).setCell ⟨b3, 1, none⟩ (.int .i64 y0.p.len)).setCell ⟨b3, 2, none⟩ (.slice xa y0.p.pieces.length xc)) = wz at *
  refine bodyPost_ret (results_cell_tmp (ty := 48) rfl _ wz b3 _ _ _ _ rfl hbz Tryz.underlying48 rfl plc_size3) rfl ?_
  refine ⟨HK4.o.trans hkz (fun b hb => .inr (by simp at hb; have := HE3.o; omega)), ?_⟩
  rw [findL_at hlt HNO.o HQ.o, ← HY0.o]
  simp [aggP, HXV.o]
open Go.RowKit Go.Emb Go.Lib Go.Emb.Ext Go.Shelf Go.Sort
open Go.RowKit Go.Emb Go.Emb.Ext
def HasE (w : World) (v : Value) (l : List E) : Prop := ∃ o, RdE w v l o ∧ ∀ b, o = some b → b < w.heap.size
theorem JoinRes.to {l a out : List E} {e : Int} (hr : ∀ x ∈ l, right x = true) (hd : Disj l) (hp : Plain out) (hc : ∀ i, cov out i ↔ cov l i) (h : JoinRes l a e) : e = 0 ∧ a = out := by
 rcases h with ⟨_, _, x, hx, hn⟩ | ⟨_, _, _, hn⟩ | ⟨h0, _, hok, _⟩
 ·rw [hr x hx] at hn; cases hn
 ·exact absurd hd hn
 ·exact ⟨h0, Plain.eq hok.plain hp fun i => by rw [hok.same, hc]⟩
theorem JoinRes.plain {l a : List E} {e : Int} (hp : Plain l) (hr : ∀ x ∈ l, right x = true) (h : JoinRes l a e) : e = 0 ∧ a = l := JoinRes.to hr hp.disj hp (fun _ => Iff.rfl) h
theorem JoinRes.nil {l a : List E} {e : Int} (h : JoinRes l a e) (he : e ≠ 0) : a = [] := by
 rcases h with ⟨_, h, _⟩ | ⟨_, h, _⟩ | ⟨h0, _⟩
 ·exact h
 ·exact h
 ·exact absurd h0 he
theorem len_le_sum {l : List E} (h : ∀ x ∈ l, 1 ≤ x.2) : (l.length : Int) ≤ sumL l := by
 induction l with
 | nil => simp [sumL]
 | cons x l ih =>
  have h1 := ih (fun y hy => h y (by simp [hy]))
  have h2 := h x (by simp)
  rw [sumL_cons, List.length_cons]
  omega
theorem disj_append {a b : List E} (ha : Disj a) (hb : Disj b) (h : ∀ i, cov a i → ¬ cov b i) : Disj (a ++ b) :=
 List.pairwise_append.2 ⟨ha, hb, fun x hx y hy i h1 h2 => h i ⟨x, hx, h1⟩ ⟨y, hy, h2⟩⟩
theorem disj_cov {a b : List E} (h : Disj (a ++ b)) (i : Int) : cov a i → ¬ cov b i := by
 rintro ⟨x, hx, h1⟩ ⟨y, hy, h2⟩
 exact (List.pairwise_append.1 h).2.2 x hx y hy i h1 h2
end Go.Proofs.YtimpadpeibgmoaaGreat
