import Derived.Test.YtdmmhfbafinkpaaDoorPa24
/- Parse: ParseBrackets. Printed by gen-pa25.py. -/
namespace Go.Proofs.YtdmmhfbafinkpaaDoor
open Go.RowKit Go.Emb Go.Shelf

/-- what Expr answers, slot by slot -/
theorem ExpP.form {w : World} {bs : List UInt8} {e : Ending} {w' : World} (h : ExpP w bs e w') : ∃ n s', ExR bs n s' ∧ Keep [] w w' ∧ ∃ (kindA numA atA : Int) (nameA : List UInt8) (p1A : Option Addr) (n1A c1A : Nat) (p2A : Option Addr) (n2A c2A : Nat) (p3A : Option Addr) (n3A c3A : Nat) (at_ : Int), e = .returned (.tuple #[.agg #[.int .i64 kindA, .int .i64 numA, .string ⟨nameA.toArray⟩, .int .i64 atA, .slice p1A n1A c1A, .slice p2A n2A c2A, .slice p3A n3A c3A], .int .i64 s'.err, .int .i64 at_]) ∧ (s'.err = 0 → NdR (Frs w.heap.size w') w' false [.int .i64 kindA, .int .i64 numA, .string ⟨nameA.toArray⟩, .int .i64 atA, .slice p1A n1A c1A, .slice p2A n2A c2A, .slice p3A n3A c3A] n) := by
  obtain ⟨n, s', h1, h2, h3⟩ := h
  refine ⟨n, s', h1, h2, ?_⟩
  rcases h3 with ⟨he, cs, rfl, hnd⟩ | ⟨he, rfl⟩
  · obtain ⟨kindA, numA, atA, nameA, p1A, n1A, c1A, p2A, n2A, c2A, p3A, n3A, c3A, rfl, -⟩ := id hnd.un7s
    exact ⟨_, _, _, _, _, _, _, _, _, _, _, _, _, _, by rw [he], fun _ => hnd⟩
  · exact ⟨0, 0, 0, [], none, 0, 0, none, 0, 0, none, 0, 0, _, rfl, fun h => absurd h he⟩
theorem NdR.lit7 {S : Nat → Prop} {w : World} {k i at_ k' i' : Int} {nm : ByteArray} {nm' : List UInt8} {va vb vc : Value} {a b c : List Nd} (h : NdR S w false [.int .i64 k, .int .i64 i, .string nm, .int .i64 at_, va, vb, vc] (.mk k' i' nm' a b c)) : k = k' ∧ NsR S w false va a := by
  obtain ⟨kind, num, at1, name, a', b', c', va', vb', vc', e, e', h1, h2, h3⟩ := h.un7
  injection e' with e1 e2 e3 e4 e5 e6
  simp only [List.cons.injEq, Value.int.injEq, true_and, and_true] at e
  obtain ⟨g1, -, -, -, g5, -, -⟩ := e
  subst e4
  exact ⟨by rw [g1, ← e1], by rw [g5]; exact h1⟩
theorem cat_list (a b : ByteArray) : (a ++ b).data.toList = a.data.toList ++ b.data.toList := by simp
set_option maxRecDepth 100000 in
set_option maxHeartbeats 1000000 in
theorem brackets_walk {w : World} (hv : VarOk w) (s : ByteArray) (hs : s.size ≤ 140737488355328) : Calls Tryd.prog 3 #[.string s] w (YesP w) := by
  have HV := Lib.hid hv
  clear hv
  by_cases hbig : 4000 < s.size
  · have hb' : (4000 : Int) < (s.size : Int) := by omega
    go_enter Tryd.func3, Tryd.ntmps3
    go_wp2_with fail
    refine (p_live HV.out).mono ?_
    rintro e w1 ⟨rfl, hk⟩
    have HK := Lib.hid hk
    clear hk
    go_wp2_with fail
    go_ret
    exact ⟨rfl, HK.out⟩
  · have hb' : ¬ (4000 : Int) < (s.size : Int) := by omega
    go_enter Tryd.func3, Tryd.ntmps3
    go_wp2_with fail
    refine (p_expression s w HV.out.err (by omega) HV.out.lv).mono ?_
    rintro e w1 ⟨n, s', hex, hk1, hres⟩
    have HV1 := Lib.hid (HV.out.keep hk1)
    rcases hres with ⟨he, cs, rfl, hnd⟩ | ⟨he, rfl⟩
    · obtain ⟨kindA, numA, atA, nameA, p1A, n1A, c1A, p2A, n2A, c2A, p3A, n3A, c3A, rfl, -⟩ := id hnd.un7s
      have hok := hex.ok he
      have hkA := (Keep.refl [] w1).alloc (.cells #[.int .i64 kindA, .int .i64 numA, .string ⟨nameA.toArray⟩, .int .i64 atA, .slice p1A n1A c1A, .slice p2A n2A c2A, .slice p3A n3A c3A] 26)
      have hA := heap_alloc_new w1 (.cells #[.int .i64 kindA, .int .i64 numA, .string ⟨nameA.toArray⟩, .int .i64 atA, .slice p1A n1A c1A, .slice p2A n2A c2A, .slice p3A n3A c3A] 26)
      have HKA := Lib.hid (hk1.trans hkA (by simp))
      have HA := Lib.hid hA
      have HNA := Lib.hid (hnd.keep hkA (by simp))
      have HOK := Lib.hid hok
      obtain ⟨ba, hba⟩ : ∃ ba, ba = w1.heap.size := ⟨_, rfl⟩
      clear hk1 hex hnd hkA hA hok
      go_wp2_with (go_at_call 8; refine (num_any _ _).mono ?_; rintro e w' ⟨rfl, rfl⟩)
      have HNA := Lib.hid (fun (_ : (0 : Int) = 0) => HNA.out)
      have HK1 := HKA
      have HBA := HA
      have HV1 := Lib.hid (HV.out.keep HKA.out)
      generalize w1.alloc (.cells #[.int .i64 kindA, .int .i64 numA, .string ⟨nameA.toArray⟩, .int .i64 atA, .slice p1A n1A c1A, .slice p2A n2A c2A, .slice p3A n3A c3A] 26) = w1a at HK1 HBA HNA HV1
      refine (p_expression _ w1a HV1.out.err (by rw [ByteArray.size_append, ByteArray.size_append]; show 1 + s.size + 2 ≤ 16384; omega) HV1.out.lv).mono ?_
      intro e w2 hres
      obtain ⟨nB, sB, hexB, hk2, kindB, numB, atB, nameB, p1B, n1B, c1B, p2B, n2B, c2B, p3B, n3B, c3B, posB, rfl, hndB⟩ := hres.form
      clear hres
      rw [show ((⟨#[40]⟩ : ByteArray) ++ s ++ ⟨#[10, 41]⟩ : ByteArray).data.toList = [40] ++ s.data.toList ++ [10, 41] from by simp] at hexB
      have hlB := (show sB.err = 111 ∨ (sB.err = 0 ∧ nB = n) by obtain ⟨ts, s1, hts, _⟩ := HOK.out; obtain ⟨ys, h2, hys⟩ := scan_brack hts; exact law_brack HOK.out h2 (by decide) (c := tSign 41) (by decide) (fun ts' h' => by rw [hts] at h'; cases h'; exact hys) hexB)
      have HLB := Lib.hid hlB
      have hkB := (Keep.refl [] w2).alloc (.cells #[.int .i64 kindB, .int .i64 numB, .string ⟨nameB.toArray⟩, .int .i64 atB, .slice p1B n1B c1B, .slice p2B n2B c2B, .slice p3B n3B c3B] 26)
      have hbB := heap_alloc_new w2 (.cells #[.int .i64 kindB, .int .i64 numB, .string ⟨nameB.toArray⟩, .int .i64 atB, .slice p1B n1B c1B, .slice p2B n2B c2B, .slice p3B n3B c3B] 26)
      have HK2 := Lib.hid ((HK1.out.trans hk2 (by simp)).trans hkB (by simp))
      have HBB := Lib.hid hbB
      have HNB := Lib.hid (fun h => (hndB h).keep hkB (by simp))
      obtain ⟨erB, herB⟩ : ∃ er, er = sB.err := ⟨_, rfl⟩
      rw [← herB]
      have HERB := Lib.hid herB
      have HBA := Lib.hid (blkK (blkK HBA.out hk2 (by simp)) hkB (by simp))
      have HNA := Lib.hid (fun h => ((HNA.out h).keep hk2 (by simp)).keep hkB (by simp))
      have HV2 := Lib.hid (HV1.out.keep (hk2.trans hkB (by simp)))
      clear hexB hk2 hlB hkB hbB hndB herB
      go_wp2_with fail
      generalize w2.alloc (.cells #[.int .i64 kindB, .int .i64 numB, .string ⟨nameB.toArray⟩, .int .i64 atB, .slice p1B n1B c1B, .slice p2B n2B c2B, .slice p3B n3B c3B] 26) = w2a at HK2 HBB HNB HV2 HBA HNA
      refine (p_expression _ w2a HV2.out.err (by rw [ByteArray.size_append, ByteArray.size_append]; show 4 + s.size + 5 ≤ 16384; omega) HV2.out.lv).mono ?_
      intro e w3 hres
      obtain ⟨nC, sC, hexC, hk3, kindC, numC, atC, nameC, p1C, n1C, c1C, p2C, n2C, c2C, p3C, n3C, c3C, posC, rfl, hndC⟩ := hres.form
      clear hres
      rw [show ((⟨#[123, 120, 44, 32]⟩ : ByteArray) ++ s ++ ⟨#[10, 44, 32, 121, 125]⟩ : ByteArray).data.toList = [123, 120, 44, 32] ++ s.data.toList ++ [10, 44, 32, 121, 125] from by simp] at hexC
      have hlC := (show sC.err = 111 ∨ (sC.err = 0 ∧ ∃ a b, nC = .mk 4 0 [] [a, n, b] [] []) by obtain ⟨ts, s1, hts, _⟩ := HOK.out; obtain ⟨ys, h2, hys⟩ := scan_tuple hts; exact law_tuple HOK.out h2 (by decide) (by decide) (by decide) (c1 := tSign 44) (c2 := tAtom 121) (c3 := tSign 125) (by decide) (by decide) (by decide) (fun ts' h' => by rw [hts] at h'; cases h'; exact hys) hexC)
      have HLC := Lib.hid hlC
      have hkC := (Keep.refl [] w3).alloc (.cells #[.int .i64 kindC, .int .i64 numC, .string ⟨nameC.toArray⟩, .int .i64 atC, .slice p1C n1C c1C, .slice p2C n2C c2C, .slice p3C n3C c3C] 26)
      have hbC := heap_alloc_new w3 (.cells #[.int .i64 kindC, .int .i64 numC, .string ⟨nameC.toArray⟩, .int .i64 atC, .slice p1C n1C c1C, .slice p2C n2C c2C, .slice p3C n3C c3C] 26)
      have HK3 := Lib.hid ((HK2.out.trans hk3 (by simp)).trans hkC (by simp))
      have HBC := Lib.hid hbC
      have HNC := Lib.hid (fun h => (hndC h).keep hkC (by simp))
      obtain ⟨erC, herC⟩ : ∃ er, er = sC.err := ⟨_, rfl⟩
      rw [← herC]
      have HERC := Lib.hid herC
      have HBA := Lib.hid (blkK (blkK HBA.out hk3 (by simp)) hkC (by simp))
      have HNA := Lib.hid (fun h => ((HNA.out h).keep hk3 (by simp)).keep hkC (by simp))
      have HBB := Lib.hid (blkK (blkK HBB.out hk3 (by simp)) hkC (by simp))
      have HNB := Lib.hid (fun h => ((HNB.out h).keep hk3 (by simp)).keep hkC (by simp))
      have HV3 := Lib.hid (HV2.out.keep (hk3.trans hkC (by simp)))
      clear hexC hk3 hlC hkC hbC hndC herC
      go_wp2_with fail
      generalize w3.alloc (.cells #[.int .i64 kindC, .int .i64 numC, .string ⟨nameC.toArray⟩, .int .i64 atC, .slice p1C n1C c1C, .slice p2C n2C c2C, .slice p3C n3C c3C] 26) = w3a at HK3 HBC HNC HV3 HBA HNA HBB HNB
      refine (p_expression _ w3a HV3.out.err (by rw [ByteArray.size_append]; show 4 + s.size ≤ 16384; omega) HV3.out.lv).mono ?_
      intro e w4 hres
      obtain ⟨nD, sD, hexD, hk4, kindD, numD, atD, nameD, p1D, n1D, c1D, p2D, n2D, c2D, p3D, n3D, c3D, posD, rfl, hndD⟩ := hres.form
      clear hres
      rw [show ((⟨#[90, 32, 61, 32]⟩ : ByteArray) ++ s : ByteArray).data.toList = [90, 32, 61, 32] ++ s.data.toList from by simp] at hexD
      have hlD := (show sD.err = 111 ∨ (sD.err = 0 ∧ ∃ a, nD = .mk 11 0 [] [a, n] [] []) by obtain ⟨ts, s1, hts, _⟩ := HOK.out; obtain ⟨ys, h2, hys⟩ := scan_match hts; exact law_match HOK.out h2 (by decide) (by decide) (fun ts' h' => by rw [hts] at h'; cases h'; exact hys) hexD)
      have HLD := Lib.hid hlD
      have hkD := (Keep.refl [] w4).alloc (.cells #[.int .i64 kindD, .int .i64 numD, .string ⟨nameD.toArray⟩, .int .i64 atD, .slice p1D n1D c1D, .slice p2D n2D c2D, .slice p3D n3D c3D] 26)
      have hbD := heap_alloc_new w4 (.cells #[.int .i64 kindD, .int .i64 numD, .string ⟨nameD.toArray⟩, .int .i64 atD, .slice p1D n1D c1D, .slice p2D n2D c2D, .slice p3D n3D c3D] 26)
      have HK4 := Lib.hid ((HK3.out.trans hk4 (by simp)).trans hkD (by simp))
      have HBD := Lib.hid hbD
      have HND := Lib.hid (fun h => (hndD h).keep hkD (by simp))
      obtain ⟨erD, herD⟩ : ∃ er, er = sD.err := ⟨_, rfl⟩
      rw [← herD]
      have HERD := Lib.hid herD
      have HBA := Lib.hid (blkK (blkK HBA.out hk4 (by simp)) hkD (by simp))
      have HNA := Lib.hid (fun h => ((HNA.out h).keep hk4 (by simp)).keep hkD (by simp))
      have HBB := Lib.hid (blkK (blkK HBB.out hk4 (by simp)) hkD (by simp))
      have HNB := Lib.hid (fun h => ((HNB.out h).keep hk4 (by simp)).keep hkD (by simp))
      have HBC := Lib.hid (blkK (blkK HBC.out hk4 (by simp)) hkD (by simp))
      have HNC := Lib.hid (fun h => ((HNC.out h).keep hk4 (by simp)).keep hkD (by simp))
      have HV4 := Lib.hid (HV3.out.keep (hk4.trans hkD (by simp)))
      clear hexD hk4 hlD hkD hbD hndD herD
      go_wp2_with fail
      generalize w4.alloc (.cells #[.int .i64 kindD, .int .i64 numD, .string ⟨nameD.toArray⟩, .int .i64 atD, .slice p1D n1D c1D, .slice p2D n2D c2D, .slice p3D n3D c3D] 26) = w4a at HK4 HBD HND HV4 HBA HNA HBB HNB HBC HNC
      by_cases hb : erB = 111
      · subst hb
        go_wp2_with (go_at_call 8; refine (num_any _ _).mono ?_; rintro e w' ⟨rfl, rfl⟩)
        refine (p_live HV4.out).mono ?_
        rintro e w5 ⟨rfl, hk5⟩
        have HK5 := Lib.hid (HK4.out.trans hk5 (by simp))
        clear hk5
        go_wp2_with fail
        go_ret
        exact ⟨rfl, HK5.out⟩
      · have hB0 : erB = 0 := by have := HLB.out; have := HERB.out; omega
        by_cases hc : erC = 111
        · subst hc
          have hbf : (erB == 111) = false := beq_eq_false_iff_ne.2 hb
          go_wp2_with (go_at_call 8; refine (num_any _ _).mono ?_; rintro e w' ⟨rfl, rfl⟩)
          refine (p_live HV4.out).mono ?_
          rintro e w5 ⟨rfl, hk5⟩
          have HK5 := Lib.hid (HK4.out.trans hk5 (by simp))
          clear hk5
          go_wp2_with fail
          go_ret
          exact ⟨rfl, HK5.out⟩
        · have hC0 : erC = 0 := by have := HLC.out; have := HERC.out; omega
          by_cases hd : erD = 111
          · subst hd
            have hbf : (erB == 111) = false := beq_eq_false_iff_ne.2 hb
            have hcf : (erC == 111) = false := beq_eq_false_iff_ne.2 hc
            go_wp2_with (go_at_call 8; refine (num_any _ _).mono ?_; rintro e w' ⟨rfl, rfl⟩)
            refine (p_live HV4.out).mono ?_
            rintro e w5 ⟨rfl, hk5⟩
            have HK5 := Lib.hid (HK4.out.trans hk5 (by simp))
            clear hk5
            go_wp2_with fail
            go_ret
            exact ⟨rfl, HK5.out⟩
          · have hD0 : erD = 0 := by have := HLD.out; have := HERD.out; omega
            subst hB0 hC0 hD0
            clear hb hc hd
            go_wp2_with (go_at_call 8; refine (num_any _ _).mono ?_; rintro e w' ⟨rfl, rfl⟩)
            have HLBn := HLB.out.resolve_left (by rw [← HERB.out]; decide)
            obtain ⟨-, c1n, c2n, hcn⟩ := HLC.out.resolve_left (by rw [← HERC.out]; decide)
            obtain ⟨-, d1n, hdn⟩ := HLD.out.resolve_left (by rw [← HERD.out]; decide)
            have hnA := HNA.out (by trivial)
            have hnB := HNB.out HERB.out.symm
            have hnC := HNC.out HERC.out.symm
            have hnD := HND.out HERD.out.symm
            rw [HLBn.2] at hnB
            rw [hcn] at hnC
            rw [hdn] at hnD
            obtain ⟨rfl, hsC⟩ := hnC.lit7
            obtain ⟨rfl, hsD⟩ := hnD.lit7
            obtain ⟨_, _, hfC⟩ := hsC.form
            obtain ⟨_, _, hfD⟩ := hsD.form
            injection hfC with hfC1 hfC2 hfC3
            injection hfD with hfD1 hfD2 hfD3
            simp only [List.length_cons, List.length_nil] at hfC2 hfD2
            subst hfC2 hfD2
            clear hfC1 hfC3 hfD1 hfD3
            obtain ⟨cb, coff, csE, rfl, -, hnE, hcE⟩ := hsC.at7 (i := 1) (by simp)
            obtain ⟨db, doff, csF, rfl, -, hnF, hcF⟩ := hsD.at7 (i := 1) (by simp)
            obtain ⟨kindE, numE, atE, nameE, p1E, n1E, c1E, p2E, n2E, c2E, p3E, n3E, c3E, rfl, -⟩ := id hnE.un7s
            obtain ⟨kindF, numF, atF, nameF, p1F, n1F, c1F, p2F, n2F, c2F, p3F, n3F, c3F, rfl, -⟩ := id hnF.un7s
            have hE0 := hcE 0 (by decide)
            have hE1 := hcE 1 (by decide)
            have hE2 := hcE 2 (by decide)
            have hE3 := hcE 3 (by decide)
            have hE4 := hcE 4 (by decide)
            have hE5 := hcE 5 (by decide)
            have hE6 := hcE 6 (by decide)
            simp only [Nat.one_mul, Nat.add_zero, List.getElem?_cons_zero, List.getElem?_cons_succ] at hE0 hE1 hE2 hE3 hE4 hE5 hE6
            have HEC := Lib.hid (And.intro (hE0) (And.intro (hE1) (And.intro (hE2) (And.intro (hE3) (And.intro (hE4) (And.intro (hE5) (hE6)))))))
            have HEL := Lib.hid (World.block_lt_of_cell? _ _ hE0)
            clear hE0 hE1 hE2 hE3 hE4 hE5 hE6 hcE
            have hF0 := hcF 0 (by decide)
            have hF1 := hcF 1 (by decide)
            have hF2 := hcF 2 (by decide)
            have hF3 := hcF 3 (by decide)
            have hF4 := hcF 4 (by decide)
            have hF5 := hcF 5 (by decide)
            have hF6 := hcF 6 (by decide)
            simp only [Nat.one_mul, Nat.add_zero, List.getElem?_cons_zero, List.getElem?_cons_succ] at hF0 hF1 hF2 hF3 hF4 hF5 hF6
            have HFC := Lib.hid (And.intro (hF0) (And.intro (hF1) (And.intro (hF2) (And.intro (hF3) (And.intro (hF4) (And.intro (hF5) (hF6)))))))
            have HFL := Lib.hid (World.block_lt_of_cell? _ _ hF0)
            clear hF0 hF1 hF2 hF3 hF4 hF5 hF6 hcF
            have HSAB := Lib.hid (fun (W : World) (hk : Keep [] w4a W) => p_same (hnA.keep hk (by simp)) (hnB.keep hk (by simp)))
            have HSAC := Lib.hid (fun (W : World) (hk : Keep [] w4a W) => p_same (hnA.keep hk (by simp)) (hnE.keep hk (by simp)))
            have HSAD := Lib.hid (fun (W : World) (hk : Keep [] w4a W) => p_same (hnA.keep hk (by simp)) (hnF.keep hk (by simp)))
            clear hnA hnB hnC hnD hsC hsD hnE hnF HNA HNB HNC HND HLB HLC HLD HLBn hcn hdn
            refine wp_regionB [11, 26, 45] (fun w' => Keep [] w4a w') (by kernel_rfl) ?_
            refine wpAnyB_takeY (i := 0) (v := ?vA0) rfl (by kernel_rfl) (by kernel_rfl) (by kernel_rfl) (by kernel_rfl) (fun _ _ _ h => h) (Or.inl ⟨by kernel_rfl, ?runA0⟩) ?_
            case runA0 => (intro w9 _; go_simp; try exact rfl)
            try simp only [Act.put, List.setIfInBounds_toArray, List.set_cons_zero, List.set_cons_succ]
            refine wpAnyB_takeY (i := 2) (v := ?vA2) rfl (by kernel_rfl) (by kernel_rfl) (by kernel_rfl) (by kernel_rfl) (fun _ _ _ h => h) (Or.inl ⟨by kernel_rfl, ?runA2⟩) ?_
            case runA2 => (intro w9 _; go_simp; try exact rfl)
            try simp only [Act.put, List.setIfInBounds_toArray, List.set_cons_zero, List.set_cons_succ]
            refine wpAnyB_takeY (i := 5) (v := ?vA5) rfl (by kernel_rfl) (by kernel_rfl) (by kernel_rfl) (by kernel_rfl) (fun _ _ _ h => h) (Or.inl ⟨by kernel_rfl, ?runA5⟩) ?_
            case runA5 => (intro w9 _; go_simp; try exact rfl)
            try simp only [Act.put, List.setIfInBounds_toArray, List.set_cons_zero, List.set_cons_succ]
            refine wpAnyB_ready (rs := [1]) (by kernel_rfl) (by simp) ?_
            refine AllReadyB.cons rfl (fun K hK => ?_) AllReadyB.nil
            go_simp
            refine (num_any _ _).mono ?_
            rintro e w' ⟨rfl, rfl⟩
            go_simp
            refine hK.out _ _ (fun h => (nomatch h)) ?_
            clear hK K
            try simp only [Act.put, List.setIfInBounds_toArray, List.set_cons_zero, List.set_cons_succ]
            refine wpAnyB_ready (rs := [3]) (by kernel_rfl) (by simp) ?_
            refine AllReadyB.cons rfl (fun K hK => ?_) AllReadyB.nil
            go_simp
            refine (num_any _ _).mono ?_
            rintro e w' ⟨rfl, rfl⟩
            go_simp
            refine hK.out _ _ (fun h => (nomatch h)) ?_
            clear hK K
            try simp only [Act.put, List.setIfInBounds_toArray, List.set_cons_zero, List.set_cons_succ]
            refine wpAnyB_takeY (i := 4) (v := ?vA4) rfl (by kernel_rfl) (by kernel_rfl) (by kernel_rfl) (by kernel_rfl) (fun _ _ _ h => h) (Or.inl ⟨by kernel_rfl, ?runA4⟩) ?_
            case runA4 => (intro w9 _; go_simp; try exact rfl)
            try simp only [Act.put, List.setIfInBounds_toArray, List.set_cons_zero, List.set_cons_succ]
            refine wpAnyB_ready (rs := [6]) (by kernel_rfl) (by simp) ?_
            refine AllReadyB.cons rfl (fun K hK => ?_) AllReadyB.nil
            go_simp
            refine (num_any _ _).mono ?_
            rintro e w' ⟨rfl, rfl⟩
            go_simp
            refine hK.out _ _ (fun h => (nomatch h)) ?_
            clear hK K
            try simp only [Act.put, List.setIfInBounds_toArray, List.set_cons_zero, List.set_cons_succ]
            refine wpAnyB_takeY (i := 7) (v := ?vA7) rfl (by kernel_rfl) (by kernel_rfl) (by kernel_rfl) (by kernel_rfl) (fun _ _ _ h => h) (Or.inl ⟨by kernel_rfl, ?runA7⟩) ?_
            case runA7 => (intro w9 _; go_simp; try exact rfl)
            try simp only [Act.put, List.setIfInBounds_toArray, List.set_cons_zero, List.set_cons_succ]
            refine wpAnyB_takeY (i := 8) (v := ?vA8) rfl (by kernel_rfl) (by kernel_rfl) (by kernel_rfl) (by kernel_rfl) (fun _ _ _ h => h) (Or.inl ⟨by kernel_rfl, ?runA8⟩) ?_
            case runA8 => (intro w9 _; go_simp; try exact rfl)
            try simp only [Act.put, List.setIfInBounds_toArray, List.set_cons_zero, List.set_cons_succ]
            refine wpAnyB_takeY (i := 9) (v := ?vA9) rfl (by kernel_rfl) (by kernel_rfl) (by kernel_rfl) (by kernel_rfl) (fun _ _ _ h => h) (Or.inl ⟨by kernel_rfl, ?runA9⟩) ?_
            case runA9 => (intro w9 _; go_simp; try exact rfl)
            try simp only [Act.put, List.setIfInBounds_toArray, List.set_cons_zero, List.set_cons_succ]
            refine wpAnyB_take [11] (i := 10) (v := ?vA10) rfl (by kernel_rfl) (by kernel_rfl) (by kernel_rfl) (by kernel_rfl) (by kernel_rfl) (fun _ _ _ h => h) (Or.inl ⟨by kernel_rfl, ?runA10⟩) ((Keep.refl [] w4a).drew) ?_
            case runA10 => (intro w9 hS9; obtain ⟨c0, c1, c2, c3, c4, c5, c6⟩ := cells7 (blkK HBA.out hS9 (by simp)); go_simp; try exact rfl)
            try simp only [Act.put, List.setIfInBounds_toArray, List.set_cons_zero, List.set_cons_succ]
            refine wpAnyB_take [] (i := 11) (v := ?vA11) rfl (by kernel_rfl) (by kernel_rfl) (by kernel_rfl) (by kernel_rfl) (by kernel_rfl) (fun _ _ _ h => h) (Or.inl ⟨by kernel_rfl, ?runA11⟩) ((Keep.refl [] w4a).drew) ?_
            case runA11 => (intro w9 hS9; obtain ⟨c0, c1, c2, c3, c4, c5, c6⟩ := cells7 (blkK HBB.out hS9 (by simp)); go_simp; try exact rfl)
            try simp only [Act.put, List.setIfInBounds_toArray, List.set_cons_zero, List.set_cons_succ]
            refine wpAnyB_ready (rs := [12]) (by kernel_rfl) (by simp) ?_
            refine AllReadyB.cons rfl (fun K hK => ?_) AllReadyB.nil
            go_simp
            refine (HSAB.out _ ((Keep.refl [] w4a).drew)).mono ?_
            rintro e w5 ⟨rfl, hw5⟩
            have HKw5 := Lib.hid (((Keep.refl [] w4a).drew).trans hw5 (by simp))
            clear hw5
            go_simp
            refine hK.out _ _ (fun h => (nomatch h)) ?_
            clear hK K
            try simp only [Act.put, List.setIfInBounds_toArray, List.set_cons_zero, List.set_cons_succ]
            refine wpAnyB_takeY (i := 13) (v := ?vA13) rfl (by kernel_rfl) (by kernel_rfl) (by kernel_rfl) (by kernel_rfl) (fun _ _ _ h => h) (Or.inl ⟨by kernel_rfl, ?runA13⟩) ?_
            case runA13 => (intro w9 _; go_simp; try exact rfl)
            try simp only [Act.put, List.setIfInBounds_toArray, List.set_cons_zero, List.set_cons_succ]
            refine wpAnyB_takeY (i := 14) (v := ?vA14) rfl (by kernel_rfl) (by kernel_rfl) (by kernel_rfl) (by kernel_rfl) (fun _ _ _ h => h) (Or.inl ⟨by kernel_rfl, ?runA14⟩) ?_
            case runA14 => (intro w9 _; go_simp; try exact rfl)
            try simp only [Act.put, List.setIfInBounds_toArray, List.set_cons_zero, List.set_cons_succ]
            refine wpAnyB_takeY (i := 15) (v := ?vA15) rfl (by kernel_rfl) (by kernel_rfl) (by kernel_rfl) (by kernel_rfl) (fun _ _ _ h => h) (Or.inl ⟨by kernel_rfl, ?runA15⟩) ?_
            case runA15 => (intro w9 _; go_simp; try exact rfl)
            try simp only [Act.put, List.setIfInBounds_toArray, List.set_cons_zero, List.set_cons_succ]
            refine wpAnyB_take [] (i := 16) (v := ?vA16) rfl (by kernel_rfl) (by kernel_rfl) (by kernel_rfl) (by kernel_rfl) (by kernel_rfl) (fun _ _ _ h => h) (Or.inl ⟨by kernel_rfl, ?runA16⟩) (HKw5.out) ?_
            case runA16 => (intro w9 hS9; obtain ⟨c0, c1, c2, c3, c4, c5, c6⟩ := cells7 (blkK HBC.out hS9 (by simp)); go_simp; try exact rfl)
            try simp only [Act.put, List.setIfInBounds_toArray, List.set_cons_zero, List.set_cons_succ]
            refine wpAnyB_takeY (i := 17) (v := ?vA17) rfl (by kernel_rfl) (by kernel_rfl) (by kernel_rfl) (by kernel_rfl) (fun _ _ _ h => h) (Or.inl ⟨by kernel_rfl, ?runA17⟩) ?_
            case runA17 => (intro w9 _; go_simp; try exact rfl)
            try simp only [Act.put, List.setIfInBounds_toArray, List.set_cons_zero, List.set_cons_succ]
            refine wpAnyB_takeY (i := 18) (v := ?vA18) rfl (by kernel_rfl) (by kernel_rfl) (by kernel_rfl) (by kernel_rfl) (fun _ _ _ h => h) (Or.inl ⟨by kernel_rfl, ?runA18⟩) ?_
            case runA18 => (intro w9 _; go_simp; try exact rfl)
            try simp only [Act.put, List.setIfInBounds_toArray, List.set_cons_zero, List.set_cons_succ]
            refine wpAnyB_takeY (i := 19) (v := ?vA19) rfl (by kernel_rfl) (by kernel_rfl) (by kernel_rfl) (by kernel_rfl) (fun _ _ _ h => h) (Or.inl ⟨by kernel_rfl, ?runA19⟩) ?_
            case runA19 => (intro w9 _; go_simp; try exact rfl)
            try simp only [Act.put, List.setIfInBounds_toArray, List.set_cons_zero, List.set_cons_succ]
            refine wpAnyB_takeY (i := 20) (v := ?vA20) rfl (by kernel_rfl) (by kernel_rfl) (by kernel_rfl) (by kernel_rfl) (fun _ _ _ h => h) (Or.inl ⟨by kernel_rfl, ?runA20⟩) ?_
            case runA20 => (intro w9 _; go_simp; try exact rfl)
            try simp only [Act.put, List.setIfInBounds_toArray, List.set_cons_zero, List.set_cons_succ]
            refine wpAnyB_take [] (i := 21) (v := ?vA21) rfl (by kernel_rfl) (by kernel_rfl) (by kernel_rfl) (by kernel_rfl) (by kernel_rfl) (fun _ _ _ h => h) (Or.inl ⟨by kernel_rfl, ?runA21⟩) (HKw5.out) ?_
            case runA21 => (intro w9 hS9; obtain ⟨c0, c1, c2, c3, c4, c5, c6⟩ := cells7 (blkK HBC.out hS9 (by simp)); go_simp; try exact rfl)
            try simp only [Act.put, List.setIfInBounds_toArray, List.set_cons_zero, List.set_cons_succ]
            refine wpAnyB_takeY (i := 22) (v := ?vA22) rfl (by kernel_rfl) (by kernel_rfl) (by kernel_rfl) (by kernel_rfl) (fun _ _ _ h => h) (Or.inl ⟨by kernel_rfl, ?runA22⟩) ?_
            case runA22 => (intro w9 _; go_simp; try exact rfl)
            try simp only [Act.put, List.setIfInBounds_toArray, List.set_cons_zero, List.set_cons_succ]
            refine wpAnyB_takeY (i := 23) (v := ?vA23) rfl (by kernel_rfl) (by kernel_rfl) (by kernel_rfl) (by kernel_rfl) (fun _ _ _ h => h) (Or.inl ⟨by kernel_rfl, ?runA23⟩) ?_
            case runA23 => (intro w9 _; go_simp; try exact rfl)
            try simp only [Act.put, List.setIfInBounds_toArray, List.set_cons_zero, List.set_cons_succ]
            refine wpAnyB_takeY (i := 24) (v := ?vA24) rfl (by kernel_rfl) (by kernel_rfl) (by kernel_rfl) (by kernel_rfl) (fun _ _ _ h => h) (Or.inl ⟨by kernel_rfl, ?runA24⟩) ?_
            case runA24 => (intro w9 _; go_simp; try exact rfl)
            try simp only [Act.put, List.setIfInBounds_toArray, List.set_cons_zero, List.set_cons_succ]
            refine wpAnyB_takeY (i := 25) (v := ?vA25) rfl (by kernel_rfl) (by kernel_rfl) (by kernel_rfl) (by kernel_rfl) (fun _ _ _ h => h) (Or.inl ⟨by kernel_rfl, ?runA25⟩) ?_
            case runA25 => (intro w9 _; go_simp; try exact rfl)
            try simp only [Act.put, List.setIfInBounds_toArray, List.set_cons_zero, List.set_cons_succ]
            refine wpAnyB_takeY (i := 27) (v := ?vA27) rfl (by kernel_rfl) (by kernel_rfl) (by kernel_rfl) (by kernel_rfl) (fun _ _ _ h => h) (Or.inl ⟨by kernel_rfl, ?runA27⟩) ?_
            case runA27 => (intro w9 _; go_simp; try exact rfl)
            try simp only [Act.put, List.setIfInBounds_toArray, List.set_cons_zero, List.set_cons_succ]
            refine wpAnyB_take [26] (i := 28) (v := ?vA28) rfl (by kernel_rfl) (by kernel_rfl) (by kernel_rfl) (by kernel_rfl) (by kernel_rfl) (fun _ _ _ h => h) (Or.inl ⟨by kernel_rfl, ?runA28⟩) (HKw5.out) ?_
            case runA28 => (intro w9 hS9; obtain ⟨c0, c1, c2, c3, c4, c5, c6⟩ := cells7 (blkK HBC.out hS9 (by simp)); go_simp; try exact rfl)
            try simp only [Act.put, List.setIfInBounds_toArray, List.set_cons_zero, List.set_cons_succ]
            refine wpAnyB_takeY (i := 29) (v := ?vA29) rfl (by kernel_rfl) (by kernel_rfl) (by kernel_rfl) (by kernel_rfl) (fun _ _ _ h => h) (Or.inl ⟨by kernel_rfl, ?runA29⟩) ?_
            case runA29 => (intro w9 _; go_simp; try exact rfl)
            try simp only [Act.put, List.setIfInBounds_toArray, List.set_cons_zero, List.set_cons_succ]
            refine wpAnyB_take [26] (i := 30) (v := ?vA30) rfl (by kernel_rfl) (by kernel_rfl) (by kernel_rfl) (by kernel_rfl) (by kernel_rfl) (fun _ _ _ h => h) (Or.inl ⟨by kernel_rfl, ?runA30⟩) (HKw5.out) ?_
            case runA30 => (intro w9 hS9; obtain ⟨x0, x1, x2, x3, x4, x5, x6⟩ := And.intro (hS9.cell (p := ⟨cb, coff + 7, none⟩) HEL.out (by simp) |>.trans HEC.out.1) (And.intro (hS9.cell (p := ⟨cb, coff + 7 + 1, none⟩) HEL.out (by simp) |>.trans HEC.out.2.1) (And.intro (hS9.cell (p := ⟨cb, coff + 7 + 2, none⟩) HEL.out (by simp) |>.trans HEC.out.2.2.1) (And.intro (hS9.cell (p := ⟨cb, coff + 7 + 3, none⟩) HEL.out (by simp) |>.trans HEC.out.2.2.2.1) (And.intro (hS9.cell (p := ⟨cb, coff + 7 + 4, none⟩) HEL.out (by simp) |>.trans HEC.out.2.2.2.2.1) (And.intro (hS9.cell (p := ⟨cb, coff + 7 + 5, none⟩) HEL.out (by simp) |>.trans HEC.out.2.2.2.2.2.1) (hS9.cell (p := ⟨cb, coff + 7 + 6, none⟩) HEL.out (by simp) |>.trans HEC.out.2.2.2.2.2.2)))))); go_simp; try exact rfl)
            try simp only [Act.put, List.setIfInBounds_toArray, List.set_cons_zero, List.set_cons_succ]
            refine wpAnyB_take [] (i := 26) (v := ?vA26) rfl (by kernel_rfl) (by kernel_rfl) (by kernel_rfl) (by kernel_rfl) (by kernel_rfl) (fun _ _ _ h => h) (Or.inl ⟨by kernel_rfl, ?runA26⟩) (HKw5.out) ?_
            case runA26 => (intro w9 hS9; obtain ⟨c0, c1, c2, c3, c4, c5, c6⟩ := cells7 (blkK HBA.out hS9 (by simp)); go_simp; try exact rfl)
            try simp only [Act.put, List.setIfInBounds_toArray, List.set_cons_zero, List.set_cons_succ]
            refine wpAnyB_ready (rs := [31]) (by kernel_rfl) (by simp) ?_
            refine AllReadyB.cons rfl (fun K hK => ?_) AllReadyB.nil
            go_simp
            refine (HSAC.out _ (HKw5.out)).mono ?_
            rintro e w6 ⟨rfl, hw6⟩
            have HKw6 := Lib.hid ((HKw5.out).trans hw6 (by simp))
            clear hw6
            go_simp
            refine hK.out _ _ (fun h => (nomatch h)) ?_
            clear hK K
            try simp only [Act.put, List.setIfInBounds_toArray, List.set_cons_zero, List.set_cons_succ]
            refine wpAnyB_takeY (i := 32) (v := ?vA32) rfl (by kernel_rfl) (by kernel_rfl) (by kernel_rfl) (by kernel_rfl) (fun _ _ _ h => h) (Or.inl ⟨by kernel_rfl, ?runA32⟩) ?_
            case runA32 => (intro w9 _; go_simp; try exact rfl)
            try simp only [Act.put, List.setIfInBounds_toArray, List.set_cons_zero, List.set_cons_succ]
            refine wpAnyB_takeY (i := 33) (v := ?vA33) rfl (by kernel_rfl) (by kernel_rfl) (by kernel_rfl) (by kernel_rfl) (fun _ _ _ h => h) (Or.inl ⟨by kernel_rfl, ?runA33⟩) ?_
            case runA33 => (intro w9 _; go_simp; try exact rfl)
            try simp only [Act.put, List.setIfInBounds_toArray, List.set_cons_zero, List.set_cons_succ]
            refine wpAnyB_takeY (i := 34) (v := ?vA34) rfl (by kernel_rfl) (by kernel_rfl) (by kernel_rfl) (by kernel_rfl) (fun _ _ _ h => h) (Or.inl ⟨by kernel_rfl, ?runA34⟩) ?_
            case runA34 => (intro w9 _; go_simp; try exact rfl)
            try simp only [Act.put, List.setIfInBounds_toArray, List.set_cons_zero, List.set_cons_succ]
            refine wpAnyB_take [] (i := 35) (v := ?vA35) rfl (by kernel_rfl) (by kernel_rfl) (by kernel_rfl) (by kernel_rfl) (by kernel_rfl) (fun _ _ _ h => h) (Or.inl ⟨by kernel_rfl, ?runA35⟩) (HKw6.out) ?_
            case runA35 => (intro w9 hS9; obtain ⟨c0, c1, c2, c3, c4, c5, c6⟩ := cells7 (blkK HBD.out hS9 (by simp)); go_simp; try exact rfl)
            try simp only [Act.put, List.setIfInBounds_toArray, List.set_cons_zero, List.set_cons_succ]
            refine wpAnyB_takeY (i := 36) (v := ?vA36) rfl (by kernel_rfl) (by kernel_rfl) (by kernel_rfl) (by kernel_rfl) (fun _ _ _ h => h) (Or.inl ⟨by kernel_rfl, ?runA36⟩) ?_
            case runA36 => (intro w9 _; go_simp; try exact rfl)
            try simp only [Act.put, List.setIfInBounds_toArray, List.set_cons_zero, List.set_cons_succ]
            refine wpAnyB_takeY (i := 37) (v := ?vA37) rfl (by kernel_rfl) (by kernel_rfl) (by kernel_rfl) (by kernel_rfl) (fun _ _ _ h => h) (Or.inl ⟨by kernel_rfl, ?runA37⟩) ?_
            case runA37 => (intro w9 _; go_simp; try exact rfl)
            try simp only [Act.put, List.setIfInBounds_toArray, List.set_cons_zero, List.set_cons_succ]
            refine wpAnyB_takeY (i := 38) (v := ?vA38) rfl (by kernel_rfl) (by kernel_rfl) (by kernel_rfl) (by kernel_rfl) (fun _ _ _ h => h) (Or.inl ⟨by kernel_rfl, ?runA38⟩) ?_
            case runA38 => (intro w9 _; go_simp; try exact rfl)
            try simp only [Act.put, List.setIfInBounds_toArray, List.set_cons_zero, List.set_cons_succ]
            refine wpAnyB_takeY (i := 39) (v := ?vA39) rfl (by kernel_rfl) (by kernel_rfl) (by kernel_rfl) (by kernel_rfl) (fun _ _ _ h => h) (Or.inl ⟨by kernel_rfl, ?runA39⟩) ?_
            case runA39 => (intro w9 _; go_simp; try exact rfl)
            try simp only [Act.put, List.setIfInBounds_toArray, List.set_cons_zero, List.set_cons_succ]
            refine wpAnyB_take [] (i := 40) (v := ?vA40) rfl (by kernel_rfl) (by kernel_rfl) (by kernel_rfl) (by kernel_rfl) (by kernel_rfl) (fun _ _ _ h => h) (Or.inl ⟨by kernel_rfl, ?runA40⟩) (HKw6.out) ?_
            case runA40 => (intro w9 hS9; obtain ⟨c0, c1, c2, c3, c4, c5, c6⟩ := cells7 (blkK HBD.out hS9 (by simp)); go_simp; try exact rfl)
            try simp only [Act.put, List.setIfInBounds_toArray, List.set_cons_zero, List.set_cons_succ]
            refine wpAnyB_takeY (i := 41) (v := ?vA41) rfl (by kernel_rfl) (by kernel_rfl) (by kernel_rfl) (by kernel_rfl) (fun _ _ _ h => h) (Or.inl ⟨by kernel_rfl, ?runA41⟩) ?_
            case runA41 => (intro w9 _; go_simp; try exact rfl)
            try simp only [Act.put, List.setIfInBounds_toArray, List.set_cons_zero, List.set_cons_succ]
            refine wpAnyB_takeY (i := 42) (v := ?vA42) rfl (by kernel_rfl) (by kernel_rfl) (by kernel_rfl) (by kernel_rfl) (fun _ _ _ h => h) (Or.inl ⟨by kernel_rfl, ?runA42⟩) ?_
            case runA42 => (intro w9 _; go_simp; try exact rfl)
            try simp only [Act.put, List.setIfInBounds_toArray, List.set_cons_zero, List.set_cons_succ]
            refine wpAnyB_takeY (i := 43) (v := ?vA43) rfl (by kernel_rfl) (by kernel_rfl) (by kernel_rfl) (by kernel_rfl) (fun _ _ _ h => h) (Or.inl ⟨by kernel_rfl, ?runA43⟩) ?_
            case runA43 => (intro w9 _; go_simp; try exact rfl)
            try simp only [Act.put, List.setIfInBounds_toArray, List.set_cons_zero, List.set_cons_succ]
            refine wpAnyB_takeY (i := 44) (v := ?vA44) rfl (by kernel_rfl) (by kernel_rfl) (by kernel_rfl) (by kernel_rfl) (fun _ _ _ h => h) (Or.inl ⟨by kernel_rfl, ?runA44⟩) ?_
            case runA44 => (intro w9 _; go_simp; try exact rfl)
            try simp only [Act.put, List.setIfInBounds_toArray, List.set_cons_zero, List.set_cons_succ]
            refine wpAnyB_takeY (i := 46) (v := ?vA46) rfl (by kernel_rfl) (by kernel_rfl) (by kernel_rfl) (by kernel_rfl) (fun _ _ _ h => h) (Or.inl ⟨by kernel_rfl, ?runA46⟩) ?_
            case runA46 => (intro w9 _; go_simp; try exact rfl)
            try simp only [Act.put, List.setIfInBounds_toArray, List.set_cons_zero, List.set_cons_succ]
            refine wpAnyB_take [45] (i := 47) (v := ?vA47) rfl (by kernel_rfl) (by kernel_rfl) (by kernel_rfl) (by kernel_rfl) (by kernel_rfl) (fun _ _ _ h => h) (Or.inl ⟨by kernel_rfl, ?runA47⟩) (HKw6.out) ?_
            case runA47 => (intro w9 hS9; obtain ⟨c0, c1, c2, c3, c4, c5, c6⟩ := cells7 (blkK HBD.out hS9 (by simp)); go_simp; try exact rfl)
            try simp only [Act.put, List.setIfInBounds_toArray, List.set_cons_zero, List.set_cons_succ]
            refine wpAnyB_takeY (i := 48) (v := ?vA48) rfl (by kernel_rfl) (by kernel_rfl) (by kernel_rfl) (by kernel_rfl) (fun _ _ _ h => h) (Or.inl ⟨by kernel_rfl, ?runA48⟩) ?_
            case runA48 => (intro w9 _; go_simp; try exact rfl)
            try simp only [Act.put, List.setIfInBounds_toArray, List.set_cons_zero, List.set_cons_succ]
            refine wpAnyB_take [45] (i := 49) (v := ?vA49) rfl (by kernel_rfl) (by kernel_rfl) (by kernel_rfl) (by kernel_rfl) (by kernel_rfl) (fun _ _ _ h => h) (Or.inl ⟨by kernel_rfl, ?runA49⟩) (HKw6.out) ?_
            case runA49 => (intro w9 hS9; obtain ⟨x0, x1, x2, x3, x4, x5, x6⟩ := And.intro (hS9.cell (p := ⟨db, doff + 7, none⟩) HFL.out (by simp) |>.trans HFC.out.1) (And.intro (hS9.cell (p := ⟨db, doff + 7 + 1, none⟩) HFL.out (by simp) |>.trans HFC.out.2.1) (And.intro (hS9.cell (p := ⟨db, doff + 7 + 2, none⟩) HFL.out (by simp) |>.trans HFC.out.2.2.1) (And.intro (hS9.cell (p := ⟨db, doff + 7 + 3, none⟩) HFL.out (by simp) |>.trans HFC.out.2.2.2.1) (And.intro (hS9.cell (p := ⟨db, doff + 7 + 4, none⟩) HFL.out (by simp) |>.trans HFC.out.2.2.2.2.1) (And.intro (hS9.cell (p := ⟨db, doff + 7 + 5, none⟩) HFL.out (by simp) |>.trans HFC.out.2.2.2.2.2.1) (hS9.cell (p := ⟨db, doff + 7 + 6, none⟩) HFL.out (by simp) |>.trans HFC.out.2.2.2.2.2.2)))))); go_simp; try exact rfl)
            try simp only [Act.put, List.setIfInBounds_toArray, List.set_cons_zero, List.set_cons_succ]
            refine wpAnyB_take [] (i := 45) (v := ?vA45) rfl (by kernel_rfl) (by kernel_rfl) (by kernel_rfl) (by kernel_rfl) (by kernel_rfl) (fun _ _ _ h => h) (Or.inl ⟨by kernel_rfl, ?runA45⟩) (HKw6.out) ?_
            case runA45 => (intro w9 hS9; obtain ⟨c0, c1, c2, c3, c4, c5, c6⟩ := cells7 (blkK HBA.out hS9 (by simp)); go_simp; try exact rfl)
            try simp only [Act.put, List.setIfInBounds_toArray, List.set_cons_zero, List.set_cons_succ]
            refine wpAnyB_ready (rs := [50]) (by kernel_rfl) (by simp) ?_
            refine AllReadyB.cons rfl (fun K hK => ?_) AllReadyB.nil
            go_simp
            refine (HSAD.out _ (HKw6.out)).mono ?_
            rintro e w7 ⟨rfl, hw7⟩
            have HKw7 := Lib.hid ((HKw6.out).trans hw7 (by simp))
            clear hw7
            go_simp
            refine hK.out _ _ (fun h => (nomatch h)) ?_
            clear hK K
            try simp only [Act.put, List.setIfInBounds_toArray, List.set_cons_zero, List.set_cons_succ]
            refine wpAnyB_takeY (i := 51) (v := ?vA51) rfl (by kernel_rfl) (by kernel_rfl) (by kernel_rfl) (by kernel_rfl) (fun _ _ _ h => h) (Or.inl ⟨by kernel_rfl, ?runA51⟩) ?_
            case runA51 => (intro w9 _; go_simp; try exact rfl)
            try simp only [Act.put, List.setIfInBounds_toArray, List.set_cons_zero, List.set_cons_succ]
            refine wpAnyB_takeY (i := 52) (v := ?vA52) rfl (by kernel_rfl) (by kernel_rfl) (by kernel_rfl) (by kernel_rfl) (fun _ _ _ h => h) (Or.inl ⟨by kernel_rfl, ?runA52⟩) ?_
            case runA52 => (intro w9 _; go_simp; try exact rfl)
            try simp only [Act.put, List.setIfInBounds_toArray, List.set_cons_zero, List.set_cons_succ]
            refine wpAnyB_ready (rs := [53]) (by kernel_rfl) (by simp) ?_
            refine AllReadyB.cons rfl (fun K hK => ?_) AllReadyB.nil
            go_simp
            refine (p_live (HV4.out.keep HKw7.out)).mono ?_
            rintro e w8 ⟨rfl, hk8⟩
            have HK8 := Lib.hid ((HK4.out.trans HKw7.out (by simp)).trans hk8 (by simp))
            clear hk8
            go_simp
            refine hK.out _ _ (fun h => (nomatch h)) ?_
            clear hK K
            try simp only [Act.put, List.setIfInBounds_toArray, List.set_cons_zero, List.set_cons_succ]
            refine wpAnyB_takeY (i := 54) (v := ?vA54) rfl (by kernel_rfl) (by kernel_rfl) (by kernel_rfl) (by kernel_rfl) (fun _ _ _ h => h) (Or.inl ⟨by kernel_rfl, ?runA54⟩) ?_
            case runA54 => (intro w9 _; go_simp; try exact rfl)
            try simp only [Act.put, List.setIfInBounds_toArray, List.set_cons_zero, List.set_cons_succ]
            refine wpAnyB_takeY (i := 55) (v := ?vA55) rfl (by kernel_rfl) (by kernel_rfl) (by kernel_rfl) (by kernel_rfl) (fun _ _ _ h => h) (Or.inl ⟨by kernel_rfl, ?runA55⟩) ?_
            case runA55 => (intro w9 _; go_simp; try exact rfl)
            try simp only [Act.put, List.setIfInBounds_toArray, List.set_cons_zero, List.set_cons_succ]
            refine wpAnyB_done (by kernel_rfl) ?_ _
            go_wp2_with fail
            go_ret
            exact ⟨rfl, HK8.out⟩
    · have hne : (s'.err != 0) = true := by simpa using he
      go_wp2_with (go_at_call 8; refine (num_any _ _).mono ?_; rintro e w' ⟨rfl, rfl⟩)
      refine (p_live (HV1.out.keep ((Keep.refl [] w1).alloc zN))).mono ?_
      rintro e w5 ⟨rfl, hk5⟩
      have HK5 := Lib.hid ((hk1.alloc zN).trans hk5 (by simp))
      clear hk5
      go_wp2_with fail
      go_ret
      exact ⟨rfl, HK5.out⟩
end Go.Proofs.YtdmmhfbafinkpaaDoor
