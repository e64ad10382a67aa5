/- Terms: the document's order, Compare, Same. Printed by gen-tm8.py. -/
import Derived.Test.YtcegdomfmamonaaDoorTm7
import Derived.WalkLawsBesides
namespace Go.Proofs.YtcegdomfmamonaaDoor
open Go.RowKit Go.Emb

def ordB (p q : Bool) : Int := if p then -1 else if q then 1 else 0
theorem r_order (p q : Bool) (w : World) : Calls Tryd.prog 63 #[.bool p, .bool q] w fun e w' => e = .returned (.int .i64 (ordB p q)) ∧ w = w' := by
  cases p <;> cases q <;> (
    go_enter Tryd.func63, Tryd.ntmps63
    go_wp2_with fail
    go_ret
    exact ⟨rfl, rfl⟩)
theorem ordB_int (x y : Int) : ordB (decide (x < y)) (decide (y < x)) = Lib.compareInt x y := by
  unfold ordB Lib.compareInt
  by_cases h1 : x < y
  · simp [h1]
  · by_cases h2 : y < x <;> simp [h1, h2]
theorem ordB_bytes (x y : List UInt8) : ordB (Op.bytesLess x y) (Op.bytesLess y x) = Lib.compareBytes x y := by
  induction x generalizing y with
  | nil => cases y <;> simp [ordB, Op.bytesLess, Lib.compareBytes]
  | cons a x ih =>
    cases y with
    | nil => simp [ordB, Op.bytesLess, Lib.compareBytes]
    | cons b y =>
      have := ih y
      rw [Lib.compareBytes, ← this]
      unfold ordB
      simp only [Op.bytesLess]
      by_cases h1 : a < b
      · simp [h1]
      · by_cases h2 : b < a
        · have hne : ¬ a = b := fun e => by subst e; exact UInt8.lt_irrefl _ h2
          simp [h1, h2, hne]
        · have he : a = b := UInt8.le_antisymm (UInt8.not_lt.1 h2) (UInt8.not_lt.1 h1)
          subst he
          simp [h1]
theorem bytesGtr (x y : List UInt8) : Op.bytesLess y x = (!Op.bytesLess x y && !(x == y)) := by
  induction x generalizing y with
  | nil => cases y <;> simp [Op.bytesLess]
  | cons a x ih =>
    cases y with
    | nil => simp [Op.bytesLess]
    | cons b y =>
      have := ih y
      simp only [Op.bytesLess]
      by_cases h1 : a < b
      · have h2 : ¬ b < a := fun h => UInt8.lt_irrefl _ (UInt8.lt_trans h h1)
        have hne : ¬ b = a := fun e => by subst e; exact UInt8.lt_irrefl _ h1
        simp [h1, h2, hne]
      · by_cases h2 : b < a
        · have hne : ¬ a = b := fun e => by subst e; exact UInt8.lt_irrefl _ h2
          simp [h1, h2, hne]
        · have he : a = b := UInt8.le_antisymm (UInt8.not_lt.1 h2) (UInt8.not_lt.1 h1)
          subst he
          simp [h1, this]
theorem or0_assoc (x y z : Int) : or0 (or0 x y) z = or0 x (or0 y z) := by
  unfold or0
  by_cases h : x = 0 <;> simp [h]
theorem or0_zero (x : Int) : or0 x 0 = x := by
  unfold or0
  by_cases h : x = 0 <;> simp [h]
theorem cmpTms_snoc (l r : List Tm) (x y : Tm) (h : l.length = r.length) : cmpTms (l ++ [x]) (r ++ [y]) = or0 (cmpTms l r) (cmpTm x y) := by
  induction l generalizing r with
  | nil =>
    cases r with
    | nil => simp [cmpTms, or0_zero]; simp [or0]
    | cons _ _ => simp at h
  | cons a l ih =>
    cases r with
    | nil => simp at h
    | cons b r => simp only [List.cons_append, cmpTms]; rw [ih r (by simpa using h), or0_assoc]
theorem cmpTms_take (l r : List Tm) (j : Nat) (h : cmpTms (l.take j) (r.take j) ≠ 0) : cmpTms l r = cmpTms (l.take j) (r.take j) := by
  induction l generalizing r j with
  | nil => simp [cmpTms] at h
  | cons a l ih =>
    cases r with
    | nil => cases j <;> simp [cmpTms] at h
    | cons b r =>
      cases j with
      | zero => simp [cmpTms] at h
      | succ j =>
        simp only [List.take_succ_cons, cmpTms] at h ⊢
        unfold or0 at h ⊢
        by_cases hz : cmpTm a b = 0
        · rw [if_pos hz] at h ⊢
          rw [if_pos hz]
          exact ih r j h
        · rw [if_neg hz, if_neg hz]

attribute [local go_sem ↓] Go.wp_at_zero Go.wp_at_succ
set_option maxRecDepth 100000 in
set_option maxHeartbeats 4000000 in
theorem r_compareN : ∀ (N : Nat) (s t : Tm), s.sz ≤ N → ∀ (B B' : Nat) (w : World), RdTm B w s → RdTm B' w t → Calls Tryd.prog 40 #[aggTm s, aggTm t] w fun e w' => e = .returned (.int .i64 (cmpTm s t)) ∧ Keep [] w w'
  | 0, s, t, hN, _, _, _, _, _ => by have := s.sz_pos; omega
  | N + 1, s, t, hN, B, B', w, hs, ht => by
    have IH := r_compareN N
    have hmem := fun (x : Tm) (hx : x ∈ s.items) => sz_mem_lt hx
    have his : cmpTm s t = or0 (or0 (or0 (or0 (Lib.compareInt s.kind t.kind) (Lib.compareInt s.num t.num)) (Lib.compareBytes s.name.data.toList t.name.data.toList)) (Lib.compareInt s.items.length t.items.length)) (cmpTms s.items t.items) := by
      rw [or0_assoc, or0_assoc, or0_assoc]
      cases s; cases t; rw [cmpTm]; rfl
    have hu := hs.has
    have hv := ht.has
    obtain ⟨a, c, hiv, hc1, hc2⟩ := hu.form
    obtain ⟨a', c', hiv', hc1', hc2'⟩ := hv.form
    unfold maxLen at hc2 hc2'
    unfold aggTm
    rw [hiv] at hu ⊢
    rw [hiv'] at hv ⊢
    have HU := Lib.hid hu
    have HV := Lib.hid hv
    have HIS := Lib.hid his
    have HMEM := Lib.hid hmem
    have HIH := Lib.hid IH
    clear hu hv hs ht hmem his IH hiv hiv'
    generalize s.items = l at *
    generalize s.kind = sk at *
    generalize s.num = sn at *
    generalize s.name = ss at *
    generalize t.items = r at *
    generalize t.kind = tk at *
    generalize t.num = tn at *
    generalize t.name = ts at *
    generalize hx1 : Lib.compareInt sk tk = x1 at *
    generalize hx2 : Lib.compareInt sn tn = x2 at *
    generalize hx3 : Lib.compareBytes ss.data.toList ts.data.toList = x3 at *
    generalize hx4 : Lib.compareInt (l.length : Int) r.length = x4 at *
    have k1 : ∀ W, Calls Tryd.prog 63 #[.bool (decide (sk < tk)), .bool (decide (tk < sk))] W fun e w' => e = .returned (.int .i64 x1) ∧ W = w' := fun W => by rw [← hx1, ← ordB_int]; exact r_order _ _ W
    have k2 : ∀ W, Calls Tryd.prog 63 #[.bool (decide (sn < tn)), .bool (decide (tn < sn))] W fun e w' => e = .returned (.int .i64 x2) ∧ W = w' := fun W => by rw [← hx2, ← ordB_int]; exact r_order _ _ W
    have k3 : ∀ W, Calls Tryd.prog 63 #[.bool (Op.bytesLess ss.toList ts.toList), .bool (!Op.bytesLess ss.toList ts.toList && !(ss.toList == ts.toList))] W fun e w' => e = .returned (.int .i64 x3) ∧ W = w' := fun W => by rw [← hx3, ← ByteArray.toList_eq, ← ByteArray.toList_eq, ← ordB_bytes, bytesGtr ss.toList ts.toList]; exact r_order _ _ W
    have k4 : ∀ W, Calls Tryd.prog 63 #[.bool (decide (l.length < r.length)), .bool (decide (r.length < l.length))] W fun e w' => e = .returned (.int .i64 x4) ∧ W = w' := fun W => by
      rw [← hx4, ← ordB_int]
      have := r_order (decide (l.length < r.length)) (decide (r.length < l.length)) W
      simpa using this
    have hx40 : x4 = 0 → l.length = r.length := by rw [← hx4]; unfold Lib.compareInt; split <;> (try split) <;> omega
    have HX40 := Lib.hid hx40
    have K1 := Lib.hid k1
    have K2 := Lib.hid k2
    have K3 := Lib.hid k3
    have K4 := Lib.hid k4
    clear hx1 hx2 hx3 hx4 hx40 k1 k2 k3 k4
    go_enter Tryd.func40, Tryd.ntmps40
    go_upto_region 1 with fail
    obtain ⟨W1, hW1⟩ : ∃ W1, W1 = (w.alloc (.cells #[.int .i64 sk, .int .i64 sn, .string ss, .slice a l.length c] 31)).alloc (.cells #[.int .i64 tk, .int .i64 tn, .string ts, .slice a' r.length c'] 31) := ⟨_, rfl⟩
    have hk1 : Keep [] w W1 := by rw [hW1]; exact ((Keep.refl [] w).alloc _).alloc _
    obtain ⟨b1, b2⟩ := two_blocks w (.cells #[.int .i64 sk, .int .i64 sn, .string ss, .slice a l.length c] 31) (.cells #[.int .i64 tk, .int .i64 tn, .string ts, .slice a' r.length c'] 31)
    rw [← hW1] at b1 b2
    rw [← hW1]
    clear hW1
    obtain ⟨c0, c1, c2, c3, -⟩ := cells4 b1
    obtain ⟨d0, d1, d2, d3, -⟩ := cells4 b2
    have HK1 := Lib.hid hk1
    clear b1 b2 hk1
    generalize w.heap.size + 1 = bt at *
    generalize w.heap.size = bs at *
    go_upto_if 19 with (refine (K1.out _).mono ?_; rintro e w2 ⟨rfl, rfl⟩)
    refine wp_cut (CutF 84 (fun f wx => f 5 = .int .i64 (or0 x1 x2) ∧ f 2 = .pointer (some ⟨bs, 0, none⟩) ∧ f 3 = .pointer (some ⟨bt, 0, none⟩) ∧ W1 = wx)) ?rest1 ?first1
    case first1 =>
      intro J K' hJ hK'
      have HJ := Lib.hid hJ
      clear HIS HMEM HIH hJ
      by_cases hz : x1 = 0
      · rw [hz]
        go_wp2_with fail
        refine (K2.out _).mono ?_
        rintro e w2 ⟨rfl, rfl⟩
        go_wp2_with fail
        exact Met.intro (HJ.out _ _ (CutF.mk rfl ⟨congrArg (Value.int .i64) (by unfold or0; rw [if_pos hz]), rfl, rfl, rfl⟩))
      · have hq : (x1 == 0) = false := by simpa using hz
        go_wp2_with fail
        exact Met.intro (HJ.out _ _ (CutF.mk rfl ⟨congrArg (Value.int .i64) (by unfold or0; rw [if_neg hz]), rfl, rfl, rfl⟩))
    case rest1 =>
    clear K2
    intro a9 wc hc
    obtain ⟨f, rfl, h5, h2, h3, rfl⟩ := hc.lit
    rw [show ((List.range 84).map f).toArray = #[f 0, f 1, f 2, f 3, f 4, f 5, f 6, f 7, f 8, f 9, f 10, f 11, f 12, f 13, f 14, f 15, f 16, f 17, f 18, f 19, f 20, f 21, f 22, f 23, f 24, f 25, f 26, f 27, f 28, f 29, f 30, f 31, f 32, f 33, f 34, f 35, f 36, f 37, f 38, f 39, f 40, f 41, f 42, f 43, f 44, f 45, f 46, f 47, f 48, f 49, f 50, f 51, f 52, f 53, f 54, f 55, f 56, f 57, f 58, f 59, f 60, f 61, f 62, f 63, f 64, f 65, f 66, f 67, f 68, f 69, f 70, f 71, f 72, f 73, f 74, f 75, f 76, f 77, f 78, f 79, f 80, f 81, f 82, f 83] from rfl]
    rw [h5, h2, h3]
    clear h5 h2 h3 hc
    generalize hy2 : or0 x1 x2 = y2 at *
    clear hy2
    go_upto_if 32 with fail
    refine wp_cut (CutF 84 (fun f wx => f 5 = .int .i64 (or0 y2 x3) ∧ f 2 = .pointer (some ⟨bs, 0, none⟩) ∧ f 3 = .pointer (some ⟨bt, 0, none⟩) ∧ W1 = wx)) ?rest2 ?first2
    case first2 =>
      intro J K' hJ hK'
      have HJ := Lib.hid hJ
      clear HIS HMEM HIH hJ
      by_cases hz : y2 = 0
      · rw [hz]
        go_wp2_with fail
        refine (K3.out _).mono ?_
        rintro e w2 ⟨rfl, rfl⟩
        go_wp2_with fail
        exact Met.intro (HJ.out _ _ (CutF.mk rfl ⟨congrArg (Value.int .i64) (by unfold or0; rw [if_pos hz]), rfl, rfl, rfl⟩))
      · have hq : (y2 == 0) = false := by simpa using hz
        go_wp2_with fail
        exact Met.intro (HJ.out _ _ (CutF.mk rfl ⟨congrArg (Value.int .i64) (by unfold or0; rw [if_neg hz]), rfl, rfl, rfl⟩))
    case rest2 =>
    clear K3
    intro a9 wc hc
    obtain ⟨f, rfl, h5, h2, h3, rfl⟩ := hc.lit
    rw [show ((List.range 84).map f).toArray = #[f 0, f 1, f 2, f 3, f 4, f 5, f 6, f 7, f 8, f 9, f 10, f 11, f 12, f 13, f 14, f 15, f 16, f 17, f 18, f 19, f 20, f 21, f 22, f 23, f 24, f 25, f 26, f 27, f 28, f 29, f 30, f 31, f 32, f 33, f 34, f 35, f 36, f 37, f 38, f 39, f 40, f 41, f 42, f 43, f 44, f 45, f 46, f 47, f 48, f 49, f 50, f 51, f 52, f 53, f 54, f 55, f 56, f 57, f 58, f 59, f 60, f 61, f 62, f 63, f 64, f 65, f 66, f 67, f 68, f 69, f 70, f 71, f 72, f 73, f 74, f 75, f 76, f 77, f 78, f 79, f 80, f 81, f 82, f 83] from rfl]
    rw [h5, h2, h3]
    clear h5 h2 h3 hc
    generalize hy3 : or0 y2 x3 = y3 at *
    clear hy3
    go_upto_if 45 with fail
    refine wp_cut (CutF 84 (fun f wx => f 5 = .int .i64 (or0 y3 x4) ∧ f 2 = .pointer (some ⟨bs, 0, none⟩) ∧ f 3 = .pointer (some ⟨bt, 0, none⟩) ∧ W1 = wx)) ?rest3 ?first3
    case first3 =>
      intro J K' hJ hK'
      have HJ := Lib.hid hJ
      clear HIS HMEM HIH hJ
      by_cases hz : y3 = 0
      · rw [hz]
        go_wp2_with fail
        refine (K4.out _).mono ?_
        rintro e w2 ⟨rfl, rfl⟩
        go_wp2_with fail
        exact Met.intro (HJ.out _ _ (CutF.mk rfl ⟨congrArg (Value.int .i64) (by unfold or0; rw [if_pos hz]), rfl, rfl, rfl⟩))
      · have hq : (y3 == 0) = false := by simpa using hz
        go_wp2_with fail
        exact Met.intro (HJ.out _ _ (CutF.mk rfl ⟨congrArg (Value.int .i64) (by unfold or0; rw [if_neg hz]), rfl, rfl, rfl⟩))
    case rest3 =>
    clear K4
    intro a9 wc hc
    obtain ⟨f, rfl, h5, h2, h3, rfl⟩ := hc.lit
    rw [show ((List.range 84).map f).toArray = #[f 0, f 1, f 2, f 3, f 4, f 5, f 6, f 7, f 8, f 9, f 10, f 11, f 12, f 13, f 14, f 15, f 16, f 17, f 18, f 19, f 20, f 21, f 22, f 23, f 24, f 25, f 26, f 27, f 28, f 29, f 30, f 31, f 32, f 33, f 34, f 35, f 36, f 37, f 38, f 39, f 40, f 41, f 42, f 43, f 44, f 45, f 46, f 47, f 48, f 49, f 50, f 51, f 52, f 53, f 54, f 55, f 56, f 57, f 58, f 59, f 60, f 61, f 62, f 63, f 64, f 65, f 66, f 67, f 68, f 69, f 70, f 71, f 72, f 73, f 74, f 75, f 76, f 77, f 78, f 79, f 80, f 81, f 82, f 83] from rfl]
    rw [h5, h2, h3]
    clear h5 h2 h3 hc
    have hy40 : or0 y3 x4 = 0 → l.length = r.length := fun h => HX40.out (by unfold or0 at h; split at h; exact h; omega)
    have HY40 := Lib.hid hy40
    clear hy40 HX40
    generalize or0 y3 x4 = y4 at *
    have hat : y4 = or0 y4 (cmpTms (l.take 0) (r.take 0)) := by simp [cmpTms, or0_zero]
    have HAT := Lib.hid hat
    clear hat K1
    go_wp2_with fail
    go_loopw [5, 6] (fun p i wr => ∃ j : Nat, j ≤ l.length ∧ i = .int .i64 j ∧ p = .int .i64 (or0 y4 (cmpTms (l.take j) (r.take j))) ∧ Keep [] W1 wr) (fun _ i _ => l.length - (RowKit.intOf i).toNat)
    case atStart => exact ⟨0, Nat.zero_le _, rfl, congrArg (Value.int .i64) HAT.out, Keep.refl _ _⟩
    case round =>
      clear HAT
      obtain ⟨j, hj, rfl, rfl, hK⟩ := hrel
      have e3 := hK.cellOf c3
      have g3 := hK.cellOf d3
      have HK := Lib.hid hK
      have hk0 : Keep [] w wr := HK1.out.trans hK (by simp)
      have HK0 := Lib.hid hk0
      clear hK hk0 c0 c1 c2 c3 d0 d1 d2 d3
      by_cases hlt : j < l.length
      · by_cases hz : or0 y4 (cmpTms (l.take j) (r.take j)) = 0
        · have hy0 : y4 = 0 ∧ cmpTms (l.take j) (r.take j) = 0 := by unfold or0 at hz; split at hz <;> omega
          have hlen := HY40.out hy0.1
          have hlt' : j < r.length := by omega
          obtain ⟨b, off, rfl, m0, m1, m2, m3, hrx⟩ := HU.out.at HK0.out hlt
          obtain ⟨b', off', rfl, n0, n1, n2, n3, hry⟩ := HV.out.at HK0.out hlt'
          have hsn : or0 y4 (cmpTms (l.take (j + 1)) (r.take (j + 1))) = cmpTm l[j] r[j] := by
            rw [List.take_succ_eq_append_getElem hlt, List.take_succ_eq_append_getElem hlt', cmpTms_snoc _ _ _ _ (by simp; omega), hy0.1, hy0.2]
            simp [or0]
          have hcall := fun W (hW : Keep [] wr W) => HIH.out l[j] r[j] (by have := HMEM.out _ (List.getElem_mem hlt); omega) B B' W (hrx.keep0 hW) (hry.keep0 hW)
          rw [← hsn] at hcall
          unfold aggTm at hcall
          have hkd := hcall wr.drew (Keep.refl [] wr).drew
          have HC := Lib.hid hkd
          have i0 : (0 : Int) ≤ (j : Int) := by omega
          have i1 : (j : Int) < (l.length : Int) := by omega
          have i2 : (j : Int) < (r.length : Int) := by omega
          clear hcall hkd hsn hrx hry hlen
          rw [hz]
          clear hz hy0
          generalize l[j].kind = xk at *
          generalize l[j].num = xn at *
          generalize l[j].name = xs at *
          generalize l[j].iv = xv at *
          generalize r[j].kind = yk at *
          generalize r[j].num = yn at *
          generalize r[j].name = ys at *
          generalize r[j].iv = yv at *
          go_wp2_with fail
          go_region_held3 (fun w' => w'.cell? ⟨bs, 3, none⟩ = some (.slice (some ⟨b, off, none⟩) l.length c) ∧ w'.cell? ⟨bt, 3, none⟩ = some (.slice (some ⟨b', off', none⟩) r.length c') ∧ w'.cell? ⟨b, off + j * 4, none⟩ = some (.int .i64 xk) ∧ w'.cell? ⟨b, off + j * 4 + 1, none⟩ = some (.int .i64 xn) ∧ w'.cell? ⟨b, off + j * 4 + 2, none⟩ = some (.string xs) ∧ w'.cell? ⟨b, off + j * 4 + 3, none⟩ = some xv ∧ w'.cell? ⟨b', off' + j * 4, none⟩ = some (.int .i64 yk) ∧ w'.cell? ⟨b', off' + j * 4 + 1, none⟩ = some (.int .i64 yn) ∧ w'.cell? ⟨b', off' + j * 4 + 2, none⟩ = some (.string ys) ∧ w'.cell? ⟨b', off' + j * 4 + 3, none⟩ = some yv)
            (first | exact ⟨e3, g3, m0, m1, m2, m3, n0, n1, n2, n3⟩ | exact ⟨hk2.cellOf e3, hk2.cellOf g3, hk2.cellOf m0, hk2.cellOf m1, hk2.cellOf m2, hk2.cellOf m3, hk2.cellOf n0, hk2.cellOf n1, hk2.cellOf n2, hk2.cellOf n3⟩)
            (first
              | ((with_reducible refine HC.out.mono ?_); rintro e w2 ⟨rfl, hk2'⟩; have hk2 := (Keep.refl [] wr).drew.trans hk2' (fun _ h => nomatch h); clear hk2')
              | fail)
          all_goals
            go_wp2_with fail
            go_roundw
            case rel => exact ⟨j + 1, by omega, by go_num, rfl, HK.out.trans hk2 (by simp)⟩
            case measure => simp [RowKit.intOf]; omega
        · have hres : cmpTm s t = or0 y4 (cmpTms (l.take j) (r.take j)) := by
            rw [HIS.out]
            unfold or0 at hz ⊢
            by_cases h4 : y4 = 0
            · rw [if_pos h4] at hz ⊢
              rw [if_pos h4]
              exact cmpTms_take l r j hz
            · rw [if_neg h4, if_neg h4]
          have HRES := Lib.hid hres
          have hq : (or0 y4 (cmpTms (l.take j) (r.take j)) == 0) = false := by simpa using hz
          clear hres hz
          generalize or0 y4 (cmpTms (l.take j) (r.take j)) = res at *
          go_wp2_with fail
          go_ret
          exact ⟨by rw [HRES.out]; rfl, HK0.out⟩
      · obtain rfl : j = l.length := by omega
        have hres : cmpTm s t = or0 y4 (cmpTms (l.take l.length) (r.take l.length)) := by
          rw [HIS.out]
          unfold or0
          by_cases h4 : y4 = 0
          · rw [if_pos h4, if_pos h4, HY40.out h4, List.take_length, ← HY40.out h4, List.take_length]
          · rw [if_neg h4, if_neg h4]
        have HRES := Lib.hid hres
        clear hres
        generalize or0 y4 (cmpTms (l.take l.length) (r.take l.length)) = res at *
        go_wp2_with fail
        go_ret
        exact ⟨by rw [HRES.out]; rfl, HK0.out⟩
theorem r_compare {s t : Tm} {B B' : Nat} {w : World} (hs : RdTm B w s) (ht : RdTm B' w t) : Calls Tryd.prog 40 #[aggTm s, aggTm t] w fun e w' => e = .returned (.int .i64 (cmpTm s t)) ∧ Keep [] w w' := r_compareN s.sz s t (Nat.le_refl _) B B' w hs ht
theorem r_same {s t : Tm} {B B' : Nat} {w : World} (hs : RdTm B w s) (ht : RdTm B' w t) : Calls Tryd.prog 16 #[aggTm s, aggTm t] w fun e w' => e = .returned (.bool (cmpTm s t == 0)) ∧ Keep [] w w' := by
  have hcall := fun o1 o2 => r_compare (hs.keep0 (((Keep.refl [] w).alloc o1).alloc o2)) (ht.keep0 (((Keep.refl [] w).alloc o1).alloc o2))
  unfold aggTm at *
  have HC := Lib.hid hcall
  clear hcall
  generalize cmpTm s t = res at *
  generalize s.iv = sv at *
  generalize t.iv = tv at *
  go_enter Tryd.func16, Tryd.ntmps16
  go_wp2_with fail
  refine (HC.out _ _).mono ?_
  rintro e w2 ⟨rfl, hk2⟩
  go_wp2_with fail
  go_ret
  exact ⟨rfl, (((Keep.refl [] w).alloc _).alloc _).trans hk2 (by simp)⟩
end Go.Proofs.YtcegdomfmamonaaDoor
