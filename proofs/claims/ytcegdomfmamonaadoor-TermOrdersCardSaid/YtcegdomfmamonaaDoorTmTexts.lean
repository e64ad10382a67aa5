/- TermTexts: the walk. Printed by gen-tmtexts.py. -/
import Derived.Test.YtcegdomfmamonaaDoorTmLine
import Derived.Test.YtcegdomfmamonaaDoorTmInj
namespace Go.Proofs.YtcegdomfmamonaaDoor
open Go.RowKit Go.Emb

set_option maxRecDepth 100000 in
theorem two_boxes (w : World) (ak an bk bn : Int) (am bm : ByteArray) (av bv : Value) : ∀ wx, Keep [] ((w.alloc (.cells #[.int .i64 ak, .int .i64 an, .string am, av] 31)).alloc (.cells #[.int .i64 bk, .int .i64 bn, .string bm, bv] 31)) wx → (wx.cell? ⟨w.heap.size, 0, none⟩ = some (.int .i64 ak) ∧ wx.cell? ⟨w.heap.size, 1, none⟩ = some (.int .i64 an) ∧ wx.cell? ⟨w.heap.size, 2, none⟩ = some (.string am) ∧ wx.cell? ⟨w.heap.size, 3, none⟩ = some av) ∧ (wx.cell? ⟨w.heap.size + 1, 0, none⟩ = some (.int .i64 bk) ∧ wx.cell? ⟨w.heap.size + 1, 1, none⟩ = some (.int .i64 bn) ∧ wx.cell? ⟨w.heap.size + 1, 2, none⟩ = some (.string bm) ∧ wx.cell? ⟨w.heap.size + 1, 3, none⟩ = some bv) := by
  intro wx hx
  obtain ⟨a0, a1, a2, a3⟩ := box4 ((Keep.refl [] (w.alloc (.cells #[.int .i64 ak, .int .i64 an, .string am, av] 31))).alloc (.cells #[.int .i64 bk, .int .i64 bn, .string bm, bv] 31) |>.trans hx (by simp))
  obtain ⟨b0, b1, b2, b3⟩ := box4 hx
  simp at b0 b1 b2 b3
  exact ⟨⟨a0, a1, a2, a3⟩, b0, b1, b2, b3⟩

theorem bytes_inj {a b : ByteArray} (h : a.toList = b.toList) : a = b := by
  rw [_root_.Go.ByteArray.toList_eq, _root_.Go.ByteArray.toList_eq] at h
  exact ByteArray.ext (Array.ext' h)
theorem check_ok {a b : Tm} (h : checkTm [a, b] = 0) : isTm a = true ∧ isTm b = true ∧ a.sz ≤ 4096 ∧ b.sz ≤ 4096 := by
  unfold checkTm at h
  rw [szL_cons, szL_cons, szL_nil] at h
  split at h
  · split at h
    · rename_i h1 h2
      simp only [isTms, Bool.and_eq_true, and_true] at h2
      exact ⟨h2.1, h2.2, by omega, by omega⟩
    · omega
  · omega

set_option maxRecDepth 100000 in
set_option maxHeartbeats 2000000 in
theorem texts_walk {w : World} {a b : Tm} (ha : RdTm w.heap.size w a) (hb : RdTm w.heap.size w b) (ht : TabOk w.heap.size w) : Calls Tryd.prog 5 #[aggTm a, aggTm b] w fun e w' => e = .returned (.bool true) ∧ Keep [] w w' := by
  have hl2 : ∀ wx (n : Nat), Keep [] w wx → wx.heap.size = n → HasT (wx.heap.size + 1) (wx.alloc (.cells ([a, b].flatMap encTm).toArray 31)) (.slice (some ⟨n, 0, none⟩) 2 2) [a, b] := fun wx n hx hn => hn ▸
    hasT_list (l := [a, b]) (B := w.heap.size) (by simp only [RdTms, and_true]; exact ⟨ha.keep0 hx, hb.keep0 hx⟩) hx.size (by simp)
  have hsm := fun wx n hx hn => l_small (hl2 wx n hx hn) (by simp)
  have hrc := fun wx n hx hn => r_check (hl2 wx n hx hn)
  have hpa := fun wx (hx : Keep [] w wx) => l_plain (ha.keep0 hx)
  have hpb := fun wx (hx : Keep [] w wx) => l_plain (hb.keep0 hx)
  have hab := fun wx (hx : Keep [] w wx) => p_compare (ha.keep0 hx) (hb.keep0 hx)
  have hta : isTm a = true → a.sz ≤ 4096 → ∀ wx, Keep [] w wx → Calls Tryd.prog 18 #[aggTm a] wx fun e w' => e = .returned (.string ⟨(printTm a).toArray⟩) ∧ Keep [] wx w' := fun h1 h2 wx hx => p_print (B := w.heap.size) (ha.keep0 hx) h1 (ht.keep0 hx) (by omega)
  have htb : isTm b = true → b.sz ≤ 4096 → ∀ wx, Keep [] w wx → Calls Tryd.prog 18 #[aggTm b] wx fun e w' => e = .returned (.string ⟨(printTm b).toArray⟩) ∧ Keep [] wx w' := fun h1 h2 wx hx => p_print (B := w.heap.size) (hb.keep0 hx) h1 (ht.keep0 hx) (by omega)
  have hck := fun h => check_ok (a := a) (b := b) h
  have hiff : isTm a = true → isTm b = true → plainTm a = true → plainTm b = true → ((⟨(printTm a).toArray⟩ : ByteArray) = ⟨(printTm b).toArray⟩ ↔ cmpTm a b = 0) := fun h1 h2 h3 h4 => by
    rw [← print_iff h1 h2 h3 h4]
    simp
  have hlive := fun wx (hx : Keep [] w wx) => l_live (ht.up2 hx)
  generalize cmpTm a b = x at *
  generalize checkTm [a, b] = ck0 at *
  generalize plainTm a = pa at *
  generalize plainTm b = pb at *
  generalize isTm a = ia at *
  generalize isTm b = ib at *
  generalize (⟨(printTm a).toArray⟩ : ByteArray) = ta at *
  generalize (⟨(printTm b).toArray⟩ : ByteArray) = tb at *
  unfold aggTm at *
  simp only [List.flatMap_cons, List.flatMap_nil, encTm, List.cons_append, List.nil_append] at hsm hrc
  have HSM := Lib.hid hsm
  have HRC := Lib.hid hrc
  have HPA := Lib.hid hpa
  have HPB := Lib.hid hpb
  have HAB := Lib.hid hab
  have HTA := Lib.hid hta
  have HTB := Lib.hid htb
  have HIFF := Lib.hid hiff
  have HCK := Lib.hid hck
  have HLV := Lib.hid hlive
  clear hsm hrc hpa hpb hab hta htb hiff hck hlive hl2 ha hb ht
  generalize a.kind = ak at *
  generalize a.num = an at *
  generalize a.name = am at *
  generalize a.iv = av at *
  generalize b.kind = bk at *
  generalize b.num = bn at *
  generalize b.name = bm at *
  generalize b.iv = bv at *
  have HSS := Lib.hid (two_boxes w ak an bk bn am bm av bv)
  have HK0 := Lib.hid (((Keep.refl [] w).alloc (.cells #[.int .i64 ak, .int .i64 an, .string am, av] 31)).alloc (.cells #[.int .i64 bk, .int .i64 bn, .string bm, bv] 31))
  go_enter Tryd.func5, Tryd.ntmps5
  go_wp2_with fail
  refine (HSM.out _ _ HK0.out (by simp)).mono ?_
  rintro e w1 ⟨bb, rfl, -, hk1⟩
  have HL1 := Lib.hid (((Keep.refl [] ((w.alloc (.cells #[.int .i64 ak, .int .i64 an, .string am, av] 31)).alloc (.cells #[.int .i64 bk, .int .i64 bn, .string bm, bv] 31))).alloc _).trans hk1 (by simp))
  have HK1 := Lib.hid (HK0.out.trans HL1.out (by simp))
  clear hk1 HSM
  cases bb with
  | false =>
    go_wp2_with fail
    refine (HLV.out _ HK1.out).mono ?_
    rintro e wl ⟨rfl, hkl⟩
    go_wp2_with fail
    go_ret
    exact ⟨rfl, HK1.out.trans hkl (by simp)⟩
  | true =>
    obtain ⟨⟨a0, a1, a2, a3⟩, b0, b1, b2, b3⟩ := HSS.out w1 HL1.out
    go_wp2_with fail
    refine (HRC.out _ _ HK1.out rfl).mono ?_
    rintro e w2 ⟨rfl, hk2⟩
    have HL2 := Lib.hid (HL1.out.trans (((Keep.refl [] w1).alloc _).trans hk2 (by simp)) (by simp))
    have HK2 := Lib.hid (HK0.out.trans HL2.out (by simp))
    clear hk2 HRC a0 a1 a2 a3 b0 b1 b2 b3
    by_cases hck : ck0 = 0
    · subst hck
      obtain ⟨ia1, ib1, sa, sb⟩ := HCK.out rfl
      have HTA2 := Lib.hid (HTA.out ia1 sa)
      have HTB2 := Lib.hid (HTB.out ib1 sb)
      have HIFF2 := Lib.hid (HIFF.out ia1 ib1)
      clear HTA HTB HIFF HCK ia1 ib1 sa sb
      obtain ⟨⟨a0, a1, a2, a3⟩, b0, b1, b2, b3⟩ := HSS.out w2 HL2.out
      go_wp2_with fail
      refine (HPA.out _ HK2.out).mono ?_
      rintro e w3 ⟨rfl, hk3⟩
      have HL3 := Lib.hid (HL2.out.trans hk3 (by simp))
      have HK3 := Lib.hid (HK0.out.trans HL3.out (by simp))
      clear hk3 HPA a0 a1 a2 a3 b0 b1 b2 b3
      cases pa with
      | false =>
        go_wp2_with fail
        refine (HLV.out _ HK3.out).mono ?_
        rintro e wl ⟨rfl, hkl⟩
        go_wp2_with fail
        go_ret
        exact ⟨rfl, HK3.out.trans hkl (by simp)⟩
      | true =>
        obtain ⟨⟨a0, a1, a2, a3⟩, b0, b1, b2, b3⟩ := HSS.out w3 HL3.out
        go_wp2_with fail
        refine (HPB.out _ HK3.out).mono ?_
        rintro e w4 ⟨rfl, hk4⟩
        have HL4 := Lib.hid (HL3.out.trans hk4 (by simp))
        have HK4 := Lib.hid (HK0.out.trans HL4.out (by simp))
        clear hk4 HPB a0 a1 a2 a3 b0 b1 b2 b3
        cases pb with
        | false =>
          go_wp2_with fail
          refine (HLV.out _ HK4.out).mono ?_
          rintro e wl ⟨rfl, hkl⟩
          go_wp2_with fail
          go_ret
          exact ⟨rfl, HK4.out.trans hkl (by simp)⟩
        | true =>
          have hi := HIFF2.out (by trivial) (by trivial)
          clear HIFF2
          clear HK1 HL1 HK2 HL2 HK3 HL3
          by_cases hx : x = 0
          · have htt : ta = tb := hi.2 hx
            subst htt hx
            clear hi
            go_wp2_with fail
            refine wp_region_held_drew (S := fun w' => Keep [] w4 w') (by kernel_rfl) ((Keep.refl [] w4).drew) (fun hHeld => ?_)
            refine wpAnyH_takeL (i := 0) (v := ?v0) rfl (by kernel_rfl) (by kernel_rfl) (by kernel_rfl) (fun _ _ _ h => h) (Or.inl ⟨by kernel_rfl, ?run0⟩) hHeld ?_
            case run0 => (intro w9 hS9; obtain ⟨⟨a0, a1, a2, a3⟩, b0, b1, b2, b3⟩ := HSS.out w9 (HL4.out.trans hS9 (by simp)); go_simp; try exact rfl)
            try simp only [Act.put, List.setIfInBounds_toArray, List.set_cons_zero, List.set_cons_succ]
            refine wpAnyH_takeL (i := 2) (v := ?v2) rfl (by kernel_rfl) (by kernel_rfl) (by kernel_rfl) (fun _ _ _ h => h) (Or.inl ⟨by kernel_rfl, ?run2⟩) hHeld ?_
            case run2 => (intro w9 hS9; obtain ⟨⟨a0, a1, a2, a3⟩, b0, b1, b2, b3⟩ := HSS.out w9 (HL4.out.trans hS9 (by simp)); go_simp; try exact rfl)
            try simp only [Act.put, List.setIfInBounds_toArray, List.set_cons_zero, List.set_cons_succ]
            refine wpAnyH_takeL (i := 5) (v := ?v5) rfl (by kernel_rfl) (by kernel_rfl) (by kernel_rfl) (fun _ _ _ h => h) (Or.inl ⟨by kernel_rfl, ?run5⟩) hHeld ?_
            case run5 => (intro w9 hS9; obtain ⟨⟨a0, a1, a2, a3⟩, b0, b1, b2, b3⟩ := HSS.out w9 (HL4.out.trans hS9 (by simp)); go_simp; try exact rfl)
            try simp only [Act.put, List.setIfInBounds_toArray, List.set_cons_zero, List.set_cons_succ]
            refine wpAnyH_takeL (i := 6) (v := ?v6) rfl (by kernel_rfl) (by kernel_rfl) (by kernel_rfl) (fun _ _ _ h => h) (Or.inl ⟨by kernel_rfl, ?run6⟩) hHeld ?_
            case run6 => (intro w9 hS9; obtain ⟨⟨a0, a1, a2, a3⟩, b0, b1, b2, b3⟩ := HSS.out w9 (HL4.out.trans hS9 (by simp)); go_simp; try exact rfl)
            try simp only [Act.put, List.setIfInBounds_toArray, List.set_cons_zero, List.set_cons_succ]
            refine wpAnyH_ready (rs := [1]) (by kernel_rfl) (by simp) ?_
            refine AllReadyH.cons rfl (fun K hK => ?_) AllReadyH.nil
            go_simp
            refine (HTA2.out _ (HK4.out.trans ((Keep.refl [] w4).drew) (by simp))).mono ?_
            rintro e wc1 ⟨rfl, hc1⟩
            have HC1 := Lib.hid (((Keep.refl [] w4).drew).trans hc1 (by simp))
            clear hc1
            go_wp2_with fail
            refine hK.out _ _ HC1.out (fun hHeld2 => ?_)
            clear hK K hHeld
            have hHeld := hHeld2
            clear hHeld2
            try simp only [Act.put, List.setIfInBounds_toArray, List.set_cons_zero, List.set_cons_succ]
            refine wpAnyH_ready (rs := [3]) (by kernel_rfl) (by simp) ?_
            refine AllReadyH.cons rfl (fun K hK => ?_) AllReadyH.nil
            go_simp
            refine (HTB2.out _ (HK4.out.trans HC1.out (by simp))).mono ?_
            rintro e wc2 ⟨rfl, hc2⟩
            have HC2 := Lib.hid (HC1.out.trans hc2 (by simp))
            clear hc2
            go_wp2_with fail
            refine hK.out _ _ HC2.out (fun hHeld2 => ?_)
            clear hK K hHeld
            have hHeld := hHeld2
            clear hHeld2
            try simp only [Act.put, List.setIfInBounds_toArray, List.set_cons_zero, List.set_cons_succ]
            refine wpAnyH_takeL (i := 4) (v := .bool true) rfl (by kernel_rfl) (by kernel_rfl) (by kernel_rfl) (fun _ _ _ h => h) (Or.inl ⟨by kernel_rfl, ?run4⟩) hHeld ?_
            case run4 => (intro w9 hS9; obtain ⟨⟨a0, a1, a2, a3⟩, b0, b1, b2, b3⟩ := HSS.out w9 (HL4.out.trans hS9 (by simp)); go_simp; first | done | exact rfl | (simp [*]; done) | (simp; omega))
            try simp only [Act.put, List.setIfInBounds_toArray, List.set_cons_zero, List.set_cons_succ]
            refine wpAnyH_ready (rs := [7]) (by kernel_rfl) (by simp) ?_
            refine AllReadyH.cons rfl (fun K hK => ?_) AllReadyH.nil
            go_simp
            refine (HAB.out _ (HK4.out.trans HC2.out (by simp))).mono ?_
            rintro e wc3 ⟨rfl, hc3⟩
            have HC3 := Lib.hid (HC2.out.trans hc3 (by simp))
            clear hc3
            go_wp2_with fail
            refine hK.out _ _ HC3.out (fun hHeld2 => ?_)
            clear hK K hHeld
            have hHeld := hHeld2
            clear hHeld2
            try simp only [Act.put, List.setIfInBounds_toArray, List.set_cons_zero, List.set_cons_succ]
            refine wpAnyH_takeL (i := 8) (v := .bool true) rfl (by kernel_rfl) (by kernel_rfl) (by kernel_rfl) (fun _ _ _ h => h) (Or.inl ⟨by kernel_rfl, ?run8⟩) hHeld ?_
            case run8 => (intro w9 hS9; obtain ⟨⟨a0, a1, a2, a3⟩, b0, b1, b2, b3⟩ := HSS.out w9 (HL4.out.trans hS9 (by simp)); go_simp; first | done | exact rfl | (simp [*]; done) | (simp; omega))
            try simp only [Act.put, List.setIfInBounds_toArray, List.set_cons_zero, List.set_cons_succ]
            refine wpAnyH_takeL (i := 9) (v := .bool true) rfl (by kernel_rfl) (by kernel_rfl) (by kernel_rfl) (fun _ _ _ h => h) (Or.inl ⟨by kernel_rfl, ?run9⟩) hHeld ?_
            case run9 => (intro w9 hS9; obtain ⟨⟨a0, a1, a2, a3⟩, b0, b1, b2, b3⟩ := HSS.out w9 (HL4.out.trans hS9 (by simp)); go_simp; first | done | exact rfl | (simp [*]; done) | (simp; omega))
            try simp only [Act.put, List.setIfInBounds_toArray, List.set_cons_zero, List.set_cons_succ]
            refine wpAnyH_takeL (i := 10) (v := .bool true) rfl (by kernel_rfl) (by kernel_rfl) (by kernel_rfl) (fun _ _ _ h => h) (Or.inl ⟨by kernel_rfl, ?run10⟩) hHeld ?_
            case run10 => (intro w9 hS9; obtain ⟨⟨a0, a1, a2, a3⟩, b0, b1, b2, b3⟩ := HSS.out w9 (HL4.out.trans hS9 (by simp)); go_simp; first | done | exact rfl | (simp [*]; done) | (simp; omega))
            try simp only [Act.put, List.setIfInBounds_toArray, List.set_cons_zero, List.set_cons_succ]
            refine wpAnyH_ready (rs := [11]) (by kernel_rfl) (by simp) ?_
            refine AllReadyH.cons rfl (fun K hK => ?_) AllReadyH.nil
            go_simp
            refine (HLV.out _ (HK4.out.trans HC3.out (by simp))).mono ?_
            rintro e wc4 ⟨rfl, hc4⟩
            have HC4 := Lib.hid (HC3.out.trans hc4 (by simp))
            clear hc4
            go_wp2_with fail
            refine hK.out _ _ HC4.out (fun hHeld2 => ?_)
            clear hK K hHeld
            have hHeld := hHeld2
            clear hHeld2
            try simp only [Act.put, List.setIfInBounds_toArray, List.set_cons_zero, List.set_cons_succ]
            refine wpAnyH_takeL (i := 12) (v := .bool true) rfl (by kernel_rfl) (by kernel_rfl) (by kernel_rfl) (fun _ _ _ h => h) (Or.inl ⟨by kernel_rfl, ?run12⟩) hHeld ?_
            case run12 => (intro w9 hS9; obtain ⟨⟨a0, a1, a2, a3⟩, b0, b1, b2, b3⟩ := HSS.out w9 (HL4.out.trans hS9 (by simp)); go_simp; first | done | exact rfl | (simp [*]; done) | (simp; omega))
            try simp only [Act.put, List.setIfInBounds_toArray, List.set_cons_zero, List.set_cons_succ]
            refine wpAnyH_takeL (i := 13) (v := .bool true) rfl (by kernel_rfl) (by kernel_rfl) (by kernel_rfl) (fun _ _ _ h => h) (Or.inl ⟨by kernel_rfl, ?run13⟩) hHeld ?_
            case run13 => (intro w9 hS9; obtain ⟨⟨a0, a1, a2, a3⟩, b0, b1, b2, b3⟩ := HSS.out w9 (HL4.out.trans hS9 (by simp)); go_simp; first | done | exact rfl | (simp [*]; done) | (simp; omega))
            try simp only [Act.put, List.setIfInBounds_toArray, List.set_cons_zero, List.set_cons_succ]
            refine wpAnyH_done (by kernel_rfl) ?_ _
            go_wp2_with fail
            go_ret
            exact ⟨rfl, HK4.out.trans HC4.out (by simp)⟩
          · have htt : ¬ ta = tb := fun h => hx (hi.1 h)
            clear hi
            have hq1 : (x == 0) = false := by simpa using hx
            go_wp2_with fail
            refine wp_region_held_drew (S := fun w' => Keep [] w4 w') (by kernel_rfl) ((Keep.refl [] w4).drew) (fun hHeld => ?_)
            refine wpAnyH_takeL (i := 0) (v := ?v0) rfl (by kernel_rfl) (by kernel_rfl) (by kernel_rfl) (fun _ _ _ h => h) (Or.inl ⟨by kernel_rfl, ?run0⟩) hHeld ?_
            case run0 => (intro w9 hS9; obtain ⟨⟨a0, a1, a2, a3⟩, b0, b1, b2, b3⟩ := HSS.out w9 (HL4.out.trans hS9 (by simp)); go_simp; try exact rfl)
            try simp only [Act.put, List.setIfInBounds_toArray, List.set_cons_zero, List.set_cons_succ]
            refine wpAnyH_takeL (i := 2) (v := ?v2) rfl (by kernel_rfl) (by kernel_rfl) (by kernel_rfl) (fun _ _ _ h => h) (Or.inl ⟨by kernel_rfl, ?run2⟩) hHeld ?_
            case run2 => (intro w9 hS9; obtain ⟨⟨a0, a1, a2, a3⟩, b0, b1, b2, b3⟩ := HSS.out w9 (HL4.out.trans hS9 (by simp)); go_simp; try exact rfl)
            try simp only [Act.put, List.setIfInBounds_toArray, List.set_cons_zero, List.set_cons_succ]
            refine wpAnyH_takeL (i := 5) (v := ?v5) rfl (by kernel_rfl) (by kernel_rfl) (by kernel_rfl) (fun _ _ _ h => h) (Or.inl ⟨by kernel_rfl, ?run5⟩) hHeld ?_
            case run5 => (intro w9 hS9; obtain ⟨⟨a0, a1, a2, a3⟩, b0, b1, b2, b3⟩ := HSS.out w9 (HL4.out.trans hS9 (by simp)); go_simp; try exact rfl)
            try simp only [Act.put, List.setIfInBounds_toArray, List.set_cons_zero, List.set_cons_succ]
            refine wpAnyH_takeL (i := 6) (v := ?v6) rfl (by kernel_rfl) (by kernel_rfl) (by kernel_rfl) (fun _ _ _ h => h) (Or.inl ⟨by kernel_rfl, ?run6⟩) hHeld ?_
            case run6 => (intro w9 hS9; obtain ⟨⟨a0, a1, a2, a3⟩, b0, b1, b2, b3⟩ := HSS.out w9 (HL4.out.trans hS9 (by simp)); go_simp; try exact rfl)
            try simp only [Act.put, List.setIfInBounds_toArray, List.set_cons_zero, List.set_cons_succ]
            refine wpAnyH_ready (rs := [1]) (by kernel_rfl) (by simp) ?_
            refine AllReadyH.cons rfl (fun K hK => ?_) AllReadyH.nil
            go_simp
            refine (HTA2.out _ (HK4.out.trans ((Keep.refl [] w4).drew) (by simp))).mono ?_
            rintro e wc1 ⟨rfl, hc1⟩
            have HC1 := Lib.hid (((Keep.refl [] w4).drew).trans hc1 (by simp))
            clear hc1
            go_wp2_with fail
            refine hK.out _ _ HC1.out (fun hHeld2 => ?_)
            clear hK K hHeld
            have hHeld := hHeld2
            clear hHeld2
            try simp only [Act.put, List.setIfInBounds_toArray, List.set_cons_zero, List.set_cons_succ]
            refine wpAnyH_ready (rs := [3]) (by kernel_rfl) (by simp) ?_
            refine AllReadyH.cons rfl (fun K hK => ?_) AllReadyH.nil
            go_simp
            refine (HTB2.out _ (HK4.out.trans HC1.out (by simp))).mono ?_
            rintro e wc2 ⟨rfl, hc2⟩
            have HC2 := Lib.hid (HC1.out.trans hc2 (by simp))
            clear hc2
            go_wp2_with fail
            refine hK.out _ _ HC2.out (fun hHeld2 => ?_)
            clear hK K hHeld
            have hHeld := hHeld2
            clear hHeld2
            try simp only [Act.put, List.setIfInBounds_toArray, List.set_cons_zero, List.set_cons_succ]
            refine wpAnyH_takeL (i := 4) (v := .bool false) rfl (by kernel_rfl) (by kernel_rfl) (by kernel_rfl) (fun _ _ _ h => h) (Or.inl ⟨by kernel_rfl, ?run4⟩) hHeld ?_
            case run4 => (intro w9 hS9; obtain ⟨⟨a0, a1, a2, a3⟩, b0, b1, b2, b3⟩ := HSS.out w9 (HL4.out.trans hS9 (by simp)); go_simp; exact fun h => htt (bytes_inj h))
            try simp only [Act.put, List.setIfInBounds_toArray, List.set_cons_zero, List.set_cons_succ]
            refine wpAnyH_ready (rs := [7]) (by kernel_rfl) (by simp) ?_
            refine AllReadyH.cons rfl (fun K hK => ?_) AllReadyH.nil
            go_simp
            refine (HAB.out _ (HK4.out.trans HC2.out (by simp))).mono ?_
            rintro e wc3 ⟨rfl, hc3⟩
            have HC3 := Lib.hid (HC2.out.trans hc3 (by simp))
            clear hc3
            go_wp2_with fail
            refine hK.out _ _ HC3.out (fun hHeld2 => ?_)
            clear hK K hHeld
            have hHeld := hHeld2
            clear hHeld2
            try simp only [Act.put, List.setIfInBounds_toArray, List.set_cons_zero, List.set_cons_succ]
            refine wpAnyH_takeL (i := 8) (v := .bool false) rfl (by kernel_rfl) (by kernel_rfl) (by kernel_rfl) (fun _ _ _ h => h) (Or.inl ⟨by kernel_rfl, ?run8⟩) hHeld ?_
            case run8 => (intro w9 hS9; obtain ⟨⟨a0, a1, a2, a3⟩, b0, b1, b2, b3⟩ := HSS.out w9 (HL4.out.trans hS9 (by simp)); go_simp; first | done | exact rfl | (simp [*]; done) | (simp; omega))
            try simp only [Act.put, List.setIfInBounds_toArray, List.set_cons_zero, List.set_cons_succ]
            refine wpAnyH_takeL (i := 9) (v := .bool true) rfl (by kernel_rfl) (by kernel_rfl) (by kernel_rfl) (fun _ _ _ h => h) (Or.inl ⟨by kernel_rfl, ?run9⟩) hHeld ?_
            case run9 => (intro w9 hS9; obtain ⟨⟨a0, a1, a2, a3⟩, b0, b1, b2, b3⟩ := HSS.out w9 (HL4.out.trans hS9 (by simp)); go_simp; first | done | exact rfl | (simp [*]; done) | (simp; omega))
            try simp only [Act.put, List.setIfInBounds_toArray, List.set_cons_zero, List.set_cons_succ]
            refine wpAnyH_takeL (i := 10) (v := .bool true) rfl (by kernel_rfl) (by kernel_rfl) (by kernel_rfl) (fun _ _ _ h => h) (Or.inl ⟨by kernel_rfl, ?run10⟩) hHeld ?_
            case run10 => (intro w9 hS9; obtain ⟨⟨a0, a1, a2, a3⟩, b0, b1, b2, b3⟩ := HSS.out w9 (HL4.out.trans hS9 (by simp)); go_simp; first | done | exact rfl | (simp [*]; done) | (simp; omega))
            try simp only [Act.put, List.setIfInBounds_toArray, List.set_cons_zero, List.set_cons_succ]
            refine wpAnyH_ready (rs := [11]) (by kernel_rfl) (by simp) ?_
            refine AllReadyH.cons rfl (fun K hK => ?_) AllReadyH.nil
            go_simp
            refine (HLV.out _ (HK4.out.trans HC3.out (by simp))).mono ?_
            rintro e wc4 ⟨rfl, hc4⟩
            have HC4 := Lib.hid (HC3.out.trans hc4 (by simp))
            clear hc4
            go_wp2_with fail
            refine hK.out _ _ HC4.out (fun hHeld2 => ?_)
            clear hK K hHeld
            have hHeld := hHeld2
            clear hHeld2
            try simp only [Act.put, List.setIfInBounds_toArray, List.set_cons_zero, List.set_cons_succ]
            refine wpAnyH_takeL (i := 12) (v := .bool true) rfl (by kernel_rfl) (by kernel_rfl) (by kernel_rfl) (fun _ _ _ h => h) (Or.inl ⟨by kernel_rfl, ?run12⟩) hHeld ?_
            case run12 => (intro w9 hS9; obtain ⟨⟨a0, a1, a2, a3⟩, b0, b1, b2, b3⟩ := HSS.out w9 (HL4.out.trans hS9 (by simp)); go_simp; first | done | exact rfl | (simp [*]; done) | (simp; omega))
            try simp only [Act.put, List.setIfInBounds_toArray, List.set_cons_zero, List.set_cons_succ]
            refine wpAnyH_takeL (i := 13) (v := .bool true) rfl (by kernel_rfl) (by kernel_rfl) (by kernel_rfl) (fun _ _ _ h => h) (Or.inl ⟨by kernel_rfl, ?run13⟩) hHeld ?_
            case run13 => (intro w9 hS9; obtain ⟨⟨a0, a1, a2, a3⟩, b0, b1, b2, b3⟩ := HSS.out w9 (HL4.out.trans hS9 (by simp)); go_simp; first | done | exact rfl | (simp [*]; done) | (simp; omega))
            try simp only [Act.put, List.setIfInBounds_toArray, List.set_cons_zero, List.set_cons_succ]
            refine wpAnyH_done (by kernel_rfl) ?_ _
            go_wp2_with fail
            go_ret
            exact ⟨rfl, HK4.out.trans HC4.out (by simp)⟩
    · 
      go_wp2_with fail
      refine (HLV.out _ HK2.out).mono ?_
      rintro e wl ⟨rfl, hkl⟩
      go_wp2_with fail
      go_ret
      exact ⟨rfl, HK2.out.trans hkl (by simp)⟩
end Go.Proofs.YtcegdomfmamonaaDoor
