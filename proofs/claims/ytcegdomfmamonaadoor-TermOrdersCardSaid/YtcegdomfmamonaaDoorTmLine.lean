/- TermLine: the walk. Printed by gen-tmline.py. -/
import Derived.Test.YtcegdomfmamonaaDoorTmOpen
import Derived.Test.YtcegdomfmamonaaDoorTm2
import Derived.Test.YtcegdomfmamonaaDoorTmLaw
import Derived.Test.YtcegdomfmamonaaDoorBaseReg
namespace Go.Proofs.YtcegdomfmamonaaDoor
open Go.RowKit Go.Emb

theorem hasT_list {w : World} {l : List Tm} {B : Nat} (h : RdTms B w l) (hB : B ≤ w.heap.size) (hl : l.length * 48 ≤ 140737488355328) : HasT (w.heap.size + 1) (w.alloc (.cells (l.flatMap encTm).toArray 31)) (.slice (some ⟨w.heap.size, 0, none⟩) l.length l.length) l :=
  HasT.ofBlock (l := l) (E := 31) (heap_alloc_new w _) ((h.keep0 ((Keep.refl [] w).alloc _)).up (by omega)) hl (by omega)
theorem TabOk.up2 {B : Nat} {w w' : World} (h : TabOk B w) (hk : Keep [] w w') : TabOk w'.heap.size w' := (h.keep0 hk).up (Nat.le_trans h.2.2 hk.size) (Nat.le_refl _)
set_option maxRecDepth 100000 in
theorem three_boxes (w : World) (ak an bk bn ck cn : Int) (am bm cm : ByteArray) (av bv cv : Value) : ∀ wx, Keep [] (((w.alloc (.cells #[.int .i64 ak, .int .i64 an, .string am, av] 31)).alloc (.cells #[.int .i64 bk, .int .i64 bn, .string bm, bv] 31)).alloc (.cells #[.int .i64 ck, .int .i64 cn, .string cm, cv] 31)) wx → (wx.cell? ⟨w.heap.size, 0, none⟩ = some (.int .i64 ak) ∧ wx.cell? ⟨w.heap.size, 1, none⟩ = some (.int .i64 an) ∧ wx.cell? ⟨w.heap.size, 2, none⟩ = some (.string am) ∧ wx.cell? ⟨w.heap.size, 3, none⟩ = some av) ∧ (wx.cell? ⟨w.heap.size + 1, 0, none⟩ = some (.int .i64 bk) ∧ wx.cell? ⟨w.heap.size + 1, 1, none⟩ = some (.int .i64 bn) ∧ wx.cell? ⟨w.heap.size + 1, 2, none⟩ = some (.string bm) ∧ wx.cell? ⟨w.heap.size + 1, 3, none⟩ = some bv) ∧ (wx.cell? ⟨w.heap.size + 1 + 1, 0, none⟩ = some (.int .i64 ck) ∧ wx.cell? ⟨w.heap.size + 1 + 1, 1, none⟩ = some (.int .i64 cn) ∧ wx.cell? ⟨w.heap.size + 1 + 1, 2, none⟩ = some (.string cm) ∧ wx.cell? ⟨w.heap.size + 1 + 1, 3, none⟩ = some cv) := by
  intro wx hx
  obtain ⟨a0, a1, a2, a3⟩ := box4 (((Keep.refl [] (w.alloc (.cells #[.int .i64 ak, .int .i64 an, .string am, av] 31))).alloc (.cells #[.int .i64 bk, .int .i64 bn, .string bm, bv] 31)).alloc (.cells #[.int .i64 ck, .int .i64 cn, .string cm, cv] 31) |>.trans hx (by simp))
  obtain ⟨b0, b1, b2, b3⟩ := box4 ((Keep.refl [] ((w.alloc (.cells #[.int .i64 ak, .int .i64 an, .string am, av] 31)).alloc (.cells #[.int .i64 bk, .int .i64 bn, .string bm, bv] 31))).alloc (.cells #[.int .i64 ck, .int .i64 cn, .string cm, cv] 31) |>.trans hx (by simp))
  obtain ⟨c0, c1, c2, c3⟩ := box4 hx
  simp at b0 b1 b2 b3 c0 c1 c2 c3
  exact ⟨⟨a0, a1, a2, a3⟩, ⟨b0, b1, b2, b3⟩, c0, c1, c2, c3⟩

theorem line_cases {x y z : Int} (h1 : -1 ≤ x ∧ x ≤ 1) (h2 : -1 ≤ y ∧ y ≤ 1) (h3 : -1 ≤ z ∧ z ≤ 1) (h : T3 x y z) : (x = 1 ∧ True) ∨ (x = -1 ∧ y = 1 ∧ True) ∨ (x = -1 ∧ y = -1 ∧ z = -1) ∨ (x = 0 ∧ y = 1 ∧ True) ∨ (x = -1 ∧ y = 0 ∧ z = -1) ∨ (x = 0 ∧ y = -1 ∧ z = -1) ∨ (x = 0 ∧ y = 0 ∧ z = 0) ∨ (x = 0 ∧ y = 0 ∧ z = -1) := by
  unfold T3 at h
  have hx : x = -1 ∨ x = 0 ∨ x = 1 := by omega
  have hy : y = -1 ∨ y = 0 ∨ y = 1 := by omega
  have hz : z = -1 ∨ z = 0 ∨ z = 1 := by omega
  clear h1 h2 h3
  rcases hx with rfl | rfl | rfl <;> rcases hy with rfl | rfl | rfl <;> rcases hz with rfl | rfl | rfl <;> simp at h ⊢

set_option maxRecDepth 100000 in
set_option maxHeartbeats 2000000 in
theorem line_walk {w : World} {a b c : Tm} (ha : RdTm w.heap.size w a) (hb : RdTm w.heap.size w b) (hc : RdTm w.heap.size w c) (ht : TabOk w.heap.size w) : Calls Tryd.prog 4 #[aggTm a, aggTm b, aggTm c] w fun e w' => e = .returned (.bool true) ∧ Keep [] w w' := by
  have hl3 : ∀ wx (n : Nat), Keep [] w wx → wx.heap.size = n → HasT (wx.heap.size + 1) (wx.alloc (.cells ([a, b, c].flatMap encTm).toArray 31)) (.slice (some ⟨n, 0, none⟩) 3 3) [a, b, c] := fun wx n hx hn => hn ▸
    hasT_list (l := [a, b, c]) (B := w.heap.size) (by simp only [RdTms, and_true]; exact ⟨ha.keep0 hx, hb.keep0 hx, hc.keep0 hx⟩) hx.size (by simp)
  have hsm := fun wx n hx hn => l_small (hl3 wx n hx hn) (by simp)
  have hrc := fun wx n hx hn => r_check (hl3 wx n hx hn)
  have hab := fun wx (hx : Keep [] w wx) => p_compare (ha.keep0 hx) (hb.keep0 hx)
  have hbc := fun wx (hx : Keep [] w wx) => p_compare (hb.keep0 hx) (hc.keep0 hx)
  have hac := fun wx (hx : Keep [] w wx) => p_compare (ha.keep0 hx) (hc.keep0 hx)
  have hba := fun wx (hx : Keep [] w wx) => p_compare (hb.keep0 hx) (ha.keep0 hx)
  have haa := fun wx (hx : Keep [] w wx) => p_compare (ha.keep0 hx) (ha.keep0 hx)
  have hsame := fun wx (hx : Keep [] w wx) => r_same (ha.keep0 hx) (hb.keep0 hx)
  have hT := cmpTm_T3 a b c
  have hB1 := cmpTm_bd a b
  have hB2 := cmpTm_bd b c
  have hB3 := cmpTm_bd a c
  have hN := cmpTm_neg a b
  rw [cmpTm_self] at haa
  generalize cmpTm a b = x at *
  generalize cmpTm b c = y at *
  generalize cmpTm a c = z at *
  generalize cmpTm b a = nx at *
  generalize checkTm [a, b, c] = ck0 at *
  unfold aggTm at *
  simp only [List.flatMap_cons, List.flatMap_nil, encTm, List.cons_append, List.nil_append] at hsm hrc
  have HSM := Lib.hid hsm
  have HRC := Lib.hid hrc
  have HAB := Lib.hid hab
  have HBC := Lib.hid hbc
  have HAC := Lib.hid hac
  have HBA := Lib.hid hba
  have HAA := Lib.hid haa
  have HSA := Lib.hid hsame
  have HT := Lib.hid ht
  have HT3 := Lib.hid hT
  clear hsm hrc hab hbc hac hba haa hsame ht hT hl3 ha hb hc
  generalize a.kind = ak at *
  generalize a.num = an at *
  generalize a.name = am at *
  generalize a.iv = av at *
  generalize b.kind = bk at *
  generalize b.num = bn at *
  generalize b.name = bm at *
  generalize b.iv = bv at *
  generalize c.kind = ck at *
  generalize c.num = cn at *
  generalize c.name = cm at *
  generalize c.iv = cv at *
  have HSS := Lib.hid (three_boxes w ak an bk bn ck cn am bm cm av bv cv)
  have HK0 := Lib.hid ((((Keep.refl [] w).alloc (.cells #[.int .i64 ak, .int .i64 an, .string am, av] 31)).alloc (.cells #[.int .i64 bk, .int .i64 bn, .string bm, bv] 31)).alloc (.cells #[.int .i64 ck, .int .i64 cn, .string cm, cv] 31))
  go_enter Tryd.func4, Tryd.ntmps4
  go_wp2_with fail
  refine (HSM.out _ _ HK0.out (by simp)).mono ?_
  rintro e w1 ⟨bb, rfl, -, hk1⟩
  have HL1 := Lib.hid (((Keep.refl [] (((w.alloc (.cells #[.int .i64 ak, .int .i64 an, .string am, av] 31)).alloc (.cells #[.int .i64 bk, .int .i64 bn, .string bm, bv] 31)).alloc (.cells #[.int .i64 ck, .int .i64 cn, .string cm, cv] 31))).alloc _).trans hk1 (by simp))
  have HK1 := Lib.hid (HK0.out.trans HL1.out (by simp))
  clear hk1 HSM
  cases bb with
  | false =>
    go_wp2_with fail
    refine (l_live (HT.out.up2 HK1.out)).mono ?_
    rintro e w2 ⟨rfl, hk2⟩
    go_wp2_with fail
    go_ret
    exact ⟨rfl, HK1.out.trans hk2 (by simp)⟩
  | true =>
    obtain ⟨⟨a0, a1, a2, a3⟩, ⟨b0, b1, b2, b3⟩, c0, c1, c2, c3⟩ := HSS.out w1 HL1.out
    go_wp2_with fail
    refine (HRC.out _ _ HK1.out rfl).mono ?_
    rintro e w2 ⟨rfl, hk2⟩
    have HL2 := Lib.hid (HL1.out.trans (((Keep.refl [] w1).alloc _).trans hk2 (by simp)) (by simp))
    have HK2 := Lib.hid (HK0.out.trans HL2.out (by simp))
    clear hk2 HRC a0 a1 a2 a3 b0 b1 b2 b3 c0 c1 c2 c3
    by_cases hck : ck0 = 0
    · subst hck
      clear HK1 HL1
      go_wp2_with fail
      refine wp_region_held_drew (S := fun w' => Keep [] w2 w') (by kernel_rfl) ((Keep.refl [] w2).drew) (fun hHeld => ?_)
      refine wpAnyH_takeL (i := 0) (v := ?v0) rfl (by kernel_rfl) (by kernel_rfl) (by kernel_rfl) (fun _ _ _ h => h) (Or.inl ⟨by kernel_rfl, ?run0⟩) hHeld ?_
      case run0 => (intro w9 hS9; obtain ⟨⟨a0, a1, a2, a3⟩, ⟨b0, b1, b2, b3⟩, c0, c1, c2, c3⟩ := HSS.out w9 (HL2.out.trans hS9 (by simp)); go_simp; try exact rfl)
      try simp only [Act.put, List.setIfInBounds_toArray, List.set_cons_zero, List.set_cons_succ]
      refine wpAnyH_takeL (i := 1) (v := ?v1) rfl (by kernel_rfl) (by kernel_rfl) (by kernel_rfl) (fun _ _ _ h => h) (Or.inl ⟨by kernel_rfl, ?run1⟩) hHeld ?_
      case run1 => (intro w9 hS9; obtain ⟨⟨a0, a1, a2, a3⟩, ⟨b0, b1, b2, b3⟩, c0, c1, c2, c3⟩ := HSS.out w9 (HL2.out.trans hS9 (by simp)); go_simp; try exact rfl)
      try simp only [Act.put, List.setIfInBounds_toArray, List.set_cons_zero, List.set_cons_succ]
      refine wpAnyH_takeL (i := 3) (v := ?v3) rfl (by kernel_rfl) (by kernel_rfl) (by kernel_rfl) (fun _ _ _ h => h) (Or.inl ⟨by kernel_rfl, ?run3⟩) hHeld ?_
      case run3 => (intro w9 hS9; obtain ⟨⟨a0, a1, a2, a3⟩, ⟨b0, b1, b2, b3⟩, c0, c1, c2, c3⟩ := HSS.out w9 (HL2.out.trans hS9 (by simp)); go_simp; try exact rfl)
      try simp only [Act.put, List.setIfInBounds_toArray, List.set_cons_zero, List.set_cons_succ]
      refine wpAnyH_takeL (i := 4) (v := ?v4) rfl (by kernel_rfl) (by kernel_rfl) (by kernel_rfl) (fun _ _ _ h => h) (Or.inl ⟨by kernel_rfl, ?run4⟩) hHeld ?_
      case run4 => (intro w9 hS9; obtain ⟨⟨a0, a1, a2, a3⟩, ⟨b0, b1, b2, b3⟩, c0, c1, c2, c3⟩ := HSS.out w9 (HL2.out.trans hS9 (by simp)); go_simp; try exact rfl)
      try simp only [Act.put, List.setIfInBounds_toArray, List.set_cons_zero, List.set_cons_succ]
      refine wpAnyH_takeL (i := 6) (v := ?v6) rfl (by kernel_rfl) (by kernel_rfl) (by kernel_rfl) (fun _ _ _ h => h) (Or.inl ⟨by kernel_rfl, ?run6⟩) hHeld ?_
      case run6 => (intro w9 hS9; obtain ⟨⟨a0, a1, a2, a3⟩, ⟨b0, b1, b2, b3⟩, c0, c1, c2, c3⟩ := HSS.out w9 (HL2.out.trans hS9 (by simp)); go_simp; try exact rfl)
      try simp only [Act.put, List.setIfInBounds_toArray, List.set_cons_zero, List.set_cons_succ]
      refine wpAnyH_takeL (i := 7) (v := ?v7) rfl (by kernel_rfl) (by kernel_rfl) (by kernel_rfl) (fun _ _ _ h => h) (Or.inl ⟨by kernel_rfl, ?run7⟩) hHeld ?_
      case run7 => (intro w9 hS9; obtain ⟨⟨a0, a1, a2, a3⟩, ⟨b0, b1, b2, b3⟩, c0, c1, c2, c3⟩ := HSS.out w9 (HL2.out.trans hS9 (by simp)); go_simp; try exact rfl)
      try simp only [Act.put, List.setIfInBounds_toArray, List.set_cons_zero, List.set_cons_succ]
      refine wpAnyH_ready (rs := [2]) (by kernel_rfl) (by simp) ?_
      refine AllReadyH.cons rfl (fun K hK => ?_) AllReadyH.nil
      go_simp
      refine (HAB.out _ (HK2.out.trans ((Keep.refl [] w2).drew) (by simp))).mono ?_
      rintro e wc1 ⟨rfl, hc1⟩
      have HC1 := Lib.hid (((Keep.refl [] w2).drew).trans hc1 (by simp))
      clear hc1
      go_wp2_with fail
      refine hK.out _ _ HC1.out (fun hHeld2 => ?_)
      clear hK K hHeld
      have hHeld := hHeld2
      clear hHeld2
      try simp only [Act.put, List.setIfInBounds_toArray, List.set_cons_zero, List.set_cons_succ]
      refine wpAnyH_ready (rs := [5]) (by kernel_rfl) (by simp) ?_
      refine AllReadyH.cons rfl (fun K hK => ?_) AllReadyH.nil
      go_simp
      refine (HBC.out _ (HK2.out.trans HC1.out (by simp))).mono ?_
      rintro e wc2 ⟨rfl, hc2⟩
      have HC2 := Lib.hid (HC1.out.trans hc2 (by simp))
      clear hc2
      go_wp2_with fail
      refine hK.out _ _ HC2.out (fun hHeld2 => ?_)
      clear hK K hHeld
      have hHeld := hHeld2
      clear hHeld2
      try simp only [Act.put, List.setIfInBounds_toArray, List.set_cons_zero, List.set_cons_succ]
      refine wpAnyH_ready (rs := [8]) (by kernel_rfl) (by simp) ?_
      refine AllReadyH.cons rfl (fun K hK => ?_) AllReadyH.nil
      go_simp
      refine (HAC.out _ (HK2.out.trans HC2.out (by simp))).mono ?_
      rintro e wc3 ⟨rfl, hc3⟩
      have HC3 := Lib.hid (HC2.out.trans hc3 (by simp))
      clear hc3
      go_wp2_with fail
      refine hK.out _ _ HC3.out (fun hHeld2 => ?_)
      clear hK K hHeld
      have hHeld := hHeld2
      clear hHeld2
      try simp only [Act.put, List.setIfInBounds_toArray, List.set_cons_zero, List.set_cons_succ]
      refine wpAnyH_takeL (i := 9) (v := ?v9) rfl (by kernel_rfl) (by kernel_rfl) (by kernel_rfl) (fun _ _ _ h => h) (Or.inl ⟨by kernel_rfl, ?run9⟩) hHeld ?_
      case run9 => (intro w9 hS9; obtain ⟨⟨a0, a1, a2, a3⟩, ⟨b0, b1, b2, b3⟩, c0, c1, c2, c3⟩ := HSS.out w9 (HL2.out.trans hS9 (by simp)); go_simp; try exact rfl)
      try simp only [Act.put, List.setIfInBounds_toArray, List.set_cons_zero, List.set_cons_succ]
      refine wpAnyH_takeL (i := 10) (v := ?v10) rfl (by kernel_rfl) (by kernel_rfl) (by kernel_rfl) (fun _ _ _ h => h) (Or.inl ⟨by kernel_rfl, ?run10⟩) hHeld ?_
      case run10 => (intro w9 hS9; obtain ⟨⟨a0, a1, a2, a3⟩, ⟨b0, b1, b2, b3⟩, c0, c1, c2, c3⟩ := HSS.out w9 (HL2.out.trans hS9 (by simp)); go_simp; try exact rfl)
      try simp only [Act.put, List.setIfInBounds_toArray, List.set_cons_zero, List.set_cons_succ]
      refine wpAnyH_takeL (i := 11) (v := ?v11) rfl (by kernel_rfl) (by kernel_rfl) (by kernel_rfl) (fun _ _ _ h => h) (Or.inl ⟨by kernel_rfl, ?run11⟩) hHeld ?_
      case run11 => (intro w9 hS9; obtain ⟨⟨a0, a1, a2, a3⟩, ⟨b0, b1, b2, b3⟩, c0, c1, c2, c3⟩ := HSS.out w9 (HL2.out.trans hS9 (by simp)); go_simp; try exact rfl)
      try simp only [Act.put, List.setIfInBounds_toArray, List.set_cons_zero, List.set_cons_succ]
      refine wpAnyH_done (by kernel_rfl) ?_ _
      obtain ⟨⟨a0, a1, a2, a3⟩, ⟨b0, b1, b2, b3⟩, c0, c1, c2, c3⟩ := HSS.out wc3 (HL2.out.trans HC3.out (by simp))
      clear hHeld HAB HBC HAC HC1 HC2
      go_wp2_with fail
      refine (HBA.out _ (HK2.out.trans HC3.out (by simp))).mono ?_
      rintro e wd1 ⟨rfl, hd⟩
      have HD1 := Lib.hid (HC3.out.trans hd (by simp))
      clear hd HBA HC3
      clear a0 a1 a2 a3 b0 b1 b2 b3 c0 c1 c2 c3
      obtain ⟨rfl, -⟩ | ⟨rfl, rfl, -⟩ | ⟨rfl, rfl, rfl⟩ | ⟨rfl, rfl, -⟩ | ⟨rfl, rfl, rfl⟩ | ⟨rfl, rfl, rfl⟩ | ⟨rfl, rfl, rfl⟩ | ⟨rfl, rfl, rfl⟩ := line_cases hB1 hB2 hB3 HT3.out
      all_goals
        try simp only [Int.reduceNeg, Int.neg_zero, Int.neg_neg] at hN
        subst hN
        as_aux_lemma =>
        clear hB1 hB2 hB3 HT3
        obtain ⟨⟨a0, a1, a2, a3⟩, ⟨b0, b1, b2, b3⟩, c0, c1, c2, c3⟩ := HSS.out wd1 (HL2.out.trans HD1.out (by simp))
        go_wp2_with fail
        refine (HAA.out _ (HK2.out.trans HD1.out (by simp))).mono ?_
        rintro e wd2 ⟨rfl, hd⟩
        have HD2 := Lib.hid (HD1.out.trans hd (by simp))
        clear hd HAA HD1
        clear a0 a1 a2 a3 b0 b1 b2 b3 c0 c1 c2 c3
        obtain ⟨⟨a0, a1, a2, a3⟩, ⟨b0, b1, b2, b3⟩, c0, c1, c2, c3⟩ := HSS.out wd2 (HL2.out.trans HD2.out (by simp))
        go_wp2_with fail
        refine (HSA.out _ (HK2.out.trans HD2.out (by simp))).mono ?_
        rintro e wd3 ⟨rfl, hd⟩
        have HD3 := Lib.hid (HD2.out.trans hd (by simp))
        clear hd HSA HD2
        clear a0 a1 a2 a3 b0 b1 b2 b3 c0 c1 c2 c3
        go_wp2_with fail
        refine (l_live (HT.out.up2 (HK2.out.trans HD3.out (by simp)))).mono ?_
        rintro e wd4 ⟨rfl, hd⟩
        go_wp2_with fail
        go_ret
        exact ⟨rfl, HK2.out.trans (HD3.out.trans hd (by simp)) (by simp)⟩
    · go_wp2_with fail
      refine (l_live (HT.out.up2 HK2.out)).mono ?_
      rintro e w3 ⟨rfl, hk3⟩
      go_wp2_with fail
      go_ret
      exact ⟨rfl, HK2.out.trans hk3 (by simp)⟩
end Go.Proofs.YtcegdomfmamonaaDoor
