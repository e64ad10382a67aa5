/- Terms: the document's row and Print. Printed by gen-tm22.py. -/
import Derived.Test.YtcegdomfmamonaaDoorTm21
import Derived.Test.YtcegdomfmamonaaDoorTm13
namespace Go.Proofs.YtcegdomfmamonaaDoor
open Go.RowKit Go.Emb

/-- the call's text -/
def StrP (w : World) (l : List UInt8) (e : Ending) (w' : World) : Prop := ∃ S : ByteArray, e = .returned (.string S) ∧ S.data.toList = l ∧ Keep [] w w'
theorem size_list (S : ByteArray) : S.size = S.data.toList.length := by simp
theorem StrP.of {w w' : World} {l l' : List UInt8} {S : ByteArray} (h : S.data.toList = l') (hl : l' = l) (hk : Keep [] w w') : StrP w l (.returned (.string S)) w' := ⟨S, rfl, h.trans hl, hk⟩
def PrintD (x : Tm) : Prop := ∀ (B : Nat) (w : World), RdTm B w x → B ≤ w.heap.size → isTm x = true → x.sz ≤ 1000000 → Calls Tryd.prog 41 #[aggTm x] w (StrP w (printTm x))
set_option maxHeartbeats 1000000 in
theorem r_row {l : List Tm} (hl : ∀ x ∈ l, PrintD x) {B : Nat} {w : World} {v : Value} (hv : HasT B w v l) (hB : B ≤ w.heap.size) (hok : ∀ x ∈ l, isTm x = true) (hsz : szL l ≤ 1000000) : Calls Tryd.prog 66 #[v] w (StrP w (rowTms l)) := by
  obtain ⟨a, c, rfl, hc1, hc2⟩ := hv.form
  unfold maxLen at hc2
  have HV := Lib.hid hv
  have HL := Lib.hid hl
  have HOK := Lib.hid hok
  clear hv hl hok
  go_enter Tryd.func66, Tryd.ntmps66
  go_wp2_with fail
  go_loopw [3, 4] (fun s i wr => ∃ (k : Nat) (S : ByteArray), k ≤ l.length ∧ i = .int .i64 k ∧ s = .string S ∧ S.data.toList = rowTms (l.take k) ∧ Keep [] w wr) (fun _ i _ => l.length - (RowKit.intOf i).toNat)
  case atStart => exact ⟨0, ⟨#[]⟩, Nat.zero_le _, rfl, rfl, rfl, Keep.refl _ _⟩
  case round =>
    obtain ⟨k, S, hk, rfl, rfl, hS, hK⟩ := hrel
    have hrl := row_le (l.take k) (fun x hx => HOK.out x (List.mem_of_mem_take hx))
    have htl := szL_take_le l k
    have hs1 : S.size ≤ 1200000000 := by rw [size_list, hS]; omega
    have HS := Lib.hid hS
    have HK := Lib.hid hK
    clear hS hK hrl htl
    by_cases hlt : k < l.length
    · obtain ⟨b', off, rfl, c0, c1, c2, c3, hrx⟩ := HV.out.at HK.out hlt
      obtain ⟨xa, xc, hxv, -, -⟩ := hrx.has.form
      have hmem := List.getElem_mem hlt
      have hsn : rowTms (l.take (k + 1)) = rowTms (l.take k) ++ (if l.take k = [] then [] else [44]) ++ printTm l[k] := by rw [List.take_succ_eq_append_getElem hlt, rowTms_snoc]
      have hxs : l[k].sz ≤ szL l := sz_le_of_mem hmem
      have hxl := (print_le _ l[k] (Nat.le_refl _) (HOK.out _ hmem)).1
      have hcall := HL.out _ hmem B wr hrx (Nat.le_trans hB HK.out.size) (HOK.out _ hmem) (by omega)
      have i0 : (0 : Int) ≤ (k : Int) := by omega
      have i1 : (k : Int) < (l.length : Int) := by omega
      unfold aggTm at hcall
      rw [hxv] at c3 hcall
      have HSN := Lib.hid hsn
      have HC := Lib.hid hcall
      have HXS := Lib.hid hxs
      clear hsn hcall hrx hxv hmem hxs
      generalize l[k] = x at *
      by_cases hk0 : k = 0
      · have hnp : ¬ (0 : Int) < (k : Int) := by omega
        have HNIL : Hid (l.take k = []) := Lib.hid (by rw [hk0]; rfl)
        clear hk0
        go_wp2_with fail
        refine HC.out.mono ?_
        rintro e w2 ⟨P, rfl, hP, hk2⟩
        have hp1 : P.size ≤ 1200000000 := by have := HXS.out; rw [size_list, hP]; omega
        have HP := Lib.hid hP
        have HK2 := Lib.hid (HK.out.trans hk2 (by simp))
        clear hP hk2
        go_wp2_with fail
        go_roundw
        case rel => exact ⟨k + 1, _, by omega, by go_num, rfl, by rw [str_app, HS.out, HP.out, HSN.out, if_pos HNIL.out]; simp, HK2.out⟩
        case measure => simp [RowKit.intOf]; omega
      · have hnp : (0 : Int) < (k : Int) := by omega
        have HNIL : Hid (¬ l.take k = []) := Lib.hid (by intro h; have := congrArg List.length h; rw [List.length_take, List.length_nil] at this; omega)
        clear hk0
        go_wp2_with fail
        refine HC.out.mono ?_
        rintro e w2 ⟨P, rfl, hP, hk2⟩
        have hp1 : P.size ≤ 1200000000 := by have := HXS.out; rw [size_list, hP]; omega
        have HP := Lib.hid hP
        have HK2 := Lib.hid (HK.out.trans hk2 (by simp))
        clear hP hk2
        go_wp2_with fail
        go_roundw
        case rel => exact ⟨k + 1, _, by omega, by go_num, rfl, by rw [str_app, str_app, HS.out, HP.out, HSN.out, if_neg HNIL.out], HK2.out⟩
        case measure => simp [RowKit.intOf]; omega
    · obtain rfl : k = l.length := by omega
      rw [List.take_length] at HS
      go_wp2_with fail
      go_ret
      exact StrP.of HS.out rfl HK.out

/-- a list's loop: the box holds u; what is still to be written -/
def LoopR (w w1 : World) (B N : Nat) (t : Tm) (gk : Nat) (s3 : Value) (wr : World) : Prop :=
  ∃ (u : Tm) (done : List UInt8) (S : ByteArray), gk = u.sz ∧ s3 = .string S ∧ S.data.toList = 91 :: done ∧ wr.heap[w.heap.size]? = some (.cells #[.int .i64 u.kind, .int .i64 u.num, .string u.name, u.iv] 31) ∧ Keep [w.heap.size] w1 wr ∧ RdTm B wr u ∧ isTm u = true ∧
    done ++ restTm true u = restTm true t ∧ (u = t ∨ u.sz ≤ N) ∧ u.sz ≤ N + 1 ∧ done.length + 1200 * u.sz ≤ 1200 * t.sz
theorem restTm_false (y : Tm) (hy : isTm y = true) : restTm false y = (if y.kind = 8 then [44] else []) ++ restTm true y := by
  rw [restTm_eq, restTm_eq]
  by_cases h : y.kind = 8
  · rw [if_pos h, if_pos h, if_pos h]
    have hl : y.items.length = 2 := by
      have := (isTm_split hy).1
      unfold HeadOk at this; omega
    match y.items, hl with
    | [a, b], _ => simp [restOf]
  · rw [if_neg h, if_neg h, if_neg h]; rfl

theorem LoopR.next {w w1 wr w3 : World} {B N : Nat} {done : List UInt8} {S : ByteArray} {t y : Tm} {ya : Option Addr} {yc : Nat} {x0 x1 x2 x3 : Value} (hk1 : Keep [w.heap.size] w1 wr) (hBq : B ≤ w.heap.size) (hk3 : Keep [] wr w3) (hbx3 : w3.heap[w.heap.size]? = some (.cells #[x0, x1, x2, x3] 31)) (hry : RdTm B wr y) (hoky : isTm y = true) (hyv : y.iv = .slice ya y.items.length yc)
    (hS : S.data.toList = 91 :: done) (hdone : done ++ restTm true y = restTm true t) (hsy : y.sz ≤ N) (hroom : done.length + 1200 * y.sz ≤ 1200 * t.sz) :
    LoopR w w1 B N t y.sz (.string S) ((((w3.setCell ⟨w.heap.size, 0, none⟩ (.int .i64 y.kind)).setCell ⟨w.heap.size, 1, none⟩ (.int .i64 y.num)).setCell ⟨w.heap.size, 2, none⟩ (.string y.name)).setCell ⟨w.heap.size, 3, none⟩ (.slice ya y.items.length yc)) := by
  obtain ⟨s1, s2⟩ := set4 hbx3 (.int .i64 y.kind) (.int .i64 y.num) (.string y.name) (.slice ya y.items.length yc)
  have hkk : Keep [w.heap.size] wr _ := (hk3.mono (G := [w.heap.size]) (fun _ h => nomatch h)).trans s2 (fun x hx => .inl hx)
  exact ⟨y, done, S, rfl, rfl, hS, by rw [hyv]; exact s1, hk1.trans hkk (fun x hx => .inl hx), hry.keep hkk (fun x hx => by simp at hx; omega), hoky, hdone, .inr hsy, by omega, hroom⟩
theorem keep_box {w w1 wr w4 : World} (h : Keep [] w w1) (h1 : Keep [w.heap.size] w1 wr) (h4 : Keep [] wr w4) : Keep [] w w4 := by
  refine (h.trans h1 (fun x hx => ?_)).trans h4 (by simp)
  simp at hx; right; omega
set_option maxRecDepth 100000 in
set_option maxHeartbeats 4000000 in
theorem r_printN : ∀ (N : Nat) (t : Tm), t.sz ≤ N → PrintD t
  | 0, t, hN => by have := t.sz_pos; omega
  | N + 1, t, hN => by
    intro B w hr hB hok hsz
    have IH := r_printN N
    have hh := hr.has
    have hbd := isTm_bd hok
    obtain ⟨hhead, hoks⟩ := isTm_split hok
    have hpr := printTm_eq t
    have htsz : t.sz = szL t.items + 1 := by cases t; simp only [Tm.sz, Tm.items]
    have hwc : ∀ x ∈ t.items, PrintD x := fun x hx => IH x (by have := sz_mem_lt hx; omega)
    obtain ⟨a, c, hiv, hc1, hc2⟩ := hh.form
    have hnsz := hbd.2.2
    have hnum : -1000000000000000000 ≤ t.num ∧ t.num ≤ 1000000000000000000 := by unfold HeadOk at hhead; omega
    have hns := itoa_le t.num hbd.1 hbd.2.1
    have hnl := nameL_le t.name.data.toList (by rw [← size_list]; exact hnsz)
    unfold maxLen at hc2
    unfold aggTm
    rw [hiv] at hh ⊢
    have hdig := fun W => r_digits (w := W) hnum.1 hnum.2
    have hnm := fun W => r_name t.name W (by omega)
    have hrow := fun W (hk : Keep [] w W) => r_row hwc (hh.keep0 hk) (Nat.le_trans hB hk.size) hoks (by omega)
    have hrl := row_le t.items hoks
    have HR := Lib.hid hr
    have HHEAD := Lib.hid hhead
    have HOK := Lib.hid hok
    have HPR := Lib.hid hpr
    have HIH := Lib.hid IH
    have HDG := Lib.hid hdig
    have HNM := Lib.hid hnm
    have HROW := Lib.hid hrow
    have HIV := Lib.hid hiv
    clear hr hh hhead hoks hok hwc hpr IH hbd hiv hdig hnm hrow hnum
    generalize hl : t.items = l at *
    generalize hk : t.kind = tk at *
    generalize hn : t.num = tn at *
    generalize hs : t.name = ts at *
    have HEQ : Hid (t.items = l ∧ t.kind = tk ∧ t.num = tn ∧ t.name = ts) := ⟨hl, hk, hn, hs⟩
    clear hl hk hn hs
    obtain ⟨ns, hns1⟩ : ∃ ns : ByteArray, ns = ⟨(Lib.itoa tn).toArray⟩ := ⟨_, rfl⟩
    have hns2 : ns.data.toList = Lib.itoa tn := by rw [hns1]
    have hns3 : ns.size ≤ 20 := by rw [hns1]; simpa [ByteArray.size] using hns.1
    have HNS := Lib.hid hns2
    rw [← hns1] at HDG
    obtain ⟨nm, hnm1⟩ : ∃ nm : ByteArray, nm = ⟨(nameL ts.data.toList).toArray⟩ := ⟨_, rfl⟩
    have HNAME := Lib.hid (show nm.data.toList = nameL ts.data.toList by rw [hnm1])
    rw [← hnm1] at HNM
    obtain ⟨pt, hpt⟩ : ∃ pt, pt = printTm t := ⟨_, rfl⟩
    rw [← hpt] at HPR
    rw [← hpt]
    have HSZ := Lib.hid (And.intro htsz hrl)
    clear hns hns1 hns2 hnm1 hnl hpt htsz hrl
    have HS0 := Lib.hid (fun wx => box4 (w := w) (wr := wx) (x0 := .int .i64 tk) (x1 := .int .i64 tn) (x2 := .string ts) (x3 := .slice a l.length c) (t := 31))
    have HKW := Lib.hid ((Keep.refl [] w).alloc (.cells #[.int .i64 tk, .int .i64 tn, .string ts, .slice a l.length c] 31))
    have HBOX := Lib.hid (heap_alloc_new w (.cells #[.int .i64 tk, .int .i64 tn, .string ts, .slice a l.length c] 31))
    go_enter Tryd.func41, Tryd.ntmps41
    go_upto_block 0 with fail
    generalize w.alloc (.cells #[.int .i64 tk, .int .i64 tn, .string ts, .slice a l.length c] 31) = w1 at *
    obtain ⟨e0, e1, e2, e3⟩ := HS0.out _ (Keep.refl [] w1)
    by_cases k1 : tk = 1
    · as_aux_lemma =>
      subst k1
      have HP : Hid (pt = Lib.itoa tn) := Lib.hid (by rw [HPR.out, if_neg (by omega), if_neg (by omega)]; rfl)
      go_wp2_with fail
      refine (HDG.out _).mono ?_
      rintro e w2 ⟨rfl, hk2⟩
      go_wp2_with fail
      go_ret
      exact StrP.of HNS.out HP.out.symm (HKW.out.trans hk2 (by simp))
    by_cases k2 : tk = 2
    · as_aux_lemma =>
      subst k2
      have HP : Hid (pt = nameL ts.data.toList) := Lib.hid (by rw [HPR.out, if_neg (by omega), if_neg (by omega)]; rfl)
      go_wp2_with fail
      refine (HNM.out _).mono ?_
      rintro e w2 ⟨rfl, hk2⟩
      go_wp2_with fail
      go_ret
      exact StrP.of HNAME.out HP.out.symm (HKW.out.trans hk2 (by simp))
    by_cases k3 : tk = 3
    · as_aux_lemma =>
      subst k3
      have HP : Hid (pt = 35 :: Lib.itoa tn) := Lib.hid (by rw [HPR.out, if_neg (by omega), if_neg (by omega)]; rfl)
      go_wp2_with fail
      refine (HDG.out _).mono ?_
      rintro e w2 ⟨rfl, hk2⟩
      go_wp2_with fail
      go_ret
      exact StrP.of rfl (by rw [HP.out, str_app, HNS.out]; rfl) (HKW.out.trans hk2 (by simp))
    by_cases k5 : tk = 5
    · as_aux_lemma =>
      subst k5
      have HP : Hid (pt = 60 :: (Lib.itoa tn ++ [62])) := Lib.hid (by rw [HPR.out, if_neg (by omega), if_neg (by omega)]; rfl)
      go_wp2_with fail
      refine (HDG.out _).mono ?_
      rintro e w2 ⟨rfl, hk2⟩
      go_wp2_with fail
      go_ret
      exact StrP.of rfl (by rw [HP.out, str_app, str_app, HNS.out]; rfl) (HKW.out.trans hk2 (by simp))
    by_cases k6 : tk = 6
    · as_aux_lemma =>
      subst k6
      have HP : Hid (pt = 123 :: (rowTms l ++ [125])) := Lib.hid (by rw [HPR.out, if_neg (by omega), if_neg (by omega)]; rfl)
      go_wp2_with fail
      refine (HROW.out _ HKW.out).mono ?_
      rintro e w2 ⟨R, rfl, hR, hk2⟩
      have hr1 : R.size ≤ 1200000000 := by have := HSZ.out; rw [size_list, hR]; omega
      have HRR := Lib.hid hR
      clear hR
      go_wp2_with fail
      go_ret
      exact StrP.of rfl (by rw [HP.out, str_app, str_app, HRR.out]; rfl) (HKW.out.trans hk2 (by simp))
    by_cases k4 : tk = 4
    · as_aux_lemma =>
      subst k4
      have HP : Hid (pt = [102, 117, 110, 64] ++ Lib.itoa tn ++ [40] ++ rowTms l ++ [41]) := Lib.hid (by rw [HPR.out, if_neg (by omega), if_neg (by omega)]; rfl)
      clear e0 e1 e2 e3
      go_wp2_with fail
      refine wp_region_held_drew (S := fun w' => Keep [] w1 w') (by kernel_rfl) ((Keep.refl [] w1).drew) (fun hHeld => ?_)
      refine wpAnyH_takeL (i := 0) (v := ?v0) rfl (by kernel_rfl) (by kernel_rfl) (by kernel_rfl) (fun _ _ _ h => h) (Or.inl ⟨by kernel_rfl, ?run0⟩) hHeld ?_
      case run0 => (intro w9 hS9; obtain ⟨e0, e1, e2, e3⟩ := HS0.out w9 hS9; go_simp; try exact rfl)
      try simp only [Act.put, List.setIfInBounds_toArray, List.set_cons_zero, List.set_cons_succ]
      refine wpAnyH_takeL (i := 1) (v := ?v1) rfl (by kernel_rfl) (by kernel_rfl) (by kernel_rfl) (fun _ _ _ h => h) (Or.inl ⟨by kernel_rfl, ?run1⟩) hHeld ?_
      case run1 => (intro w9 hS9; obtain ⟨e0, e1, e2, e3⟩ := HS0.out w9 hS9; go_simp; try exact rfl)
      try simp only [Act.put, List.setIfInBounds_toArray, List.set_cons_zero, List.set_cons_succ]
      refine wpAnyH_takeL (i := 5) (v := ?v5) rfl (by kernel_rfl) (by kernel_rfl) (by kernel_rfl) (fun _ _ _ h => h) (Or.inl ⟨by kernel_rfl, ?run5⟩) hHeld ?_
      case run5 => (intro w9 hS9; obtain ⟨e0, e1, e2, e3⟩ := HS0.out w9 hS9; go_simp; try exact rfl)
      try simp only [Act.put, List.setIfInBounds_toArray, List.set_cons_zero, List.set_cons_succ]
      refine wpAnyH_takeL (i := 6) (v := ?v6) rfl (by kernel_rfl) (by kernel_rfl) (by kernel_rfl) (fun _ _ _ h => h) (Or.inl ⟨by kernel_rfl, ?run6⟩) hHeld ?_
      case run6 => (intro w9 hS9; obtain ⟨e0, e1, e2, e3⟩ := HS0.out w9 hS9; go_simp; try exact rfl)
      try simp only [Act.put, List.setIfInBounds_toArray, List.set_cons_zero, List.set_cons_succ]
      refine wpAnyH_ready (rs := [2]) (by kernel_rfl) (by simp) ?_
      refine AllReadyH.consL rfl (fun K hK => ?_) AllReadyH.nil
      go_simp
      refine (HDG.out _).mono ?_
      rintro e wc1 ⟨rfl, hc1⟩
      have HC1 := Lib.hid (((Keep.refl [] w1).drew).trans hc1 (by simp))
      clear hc1
      go_wp2_with fail
      refine hK.out _ _ HC1.out (fun hHeld2 => ?_)
      clear hK K hHeld
      have hHeld := hHeld2
      clear hHeld2
      try simp only [Act.put, List.setIfInBounds_toArray, List.set_cons_zero, List.set_cons_succ]
      refine wpAnyH_takeL (i := 3) (v := ?v3) rfl (by kernel_rfl) (by kernel_rfl) (by kernel_rfl) (fun _ _ _ h => h) (Or.inl ⟨by kernel_rfl, ?run3⟩) hHeld ?_
      case run3 => (intro w9 hS9; obtain ⟨e0, e1, e2, e3⟩ := HS0.out w9 hS9; go_simp; first | done | exact rfl | (rw [if_neg (by omega)]))
      try simp only [Act.put, List.setIfInBounds_toArray, List.set_cons_zero, List.set_cons_succ]
      refine wpAnyH_takeL (i := 4) (v := ?v4) rfl (by kernel_rfl) (by kernel_rfl) (by kernel_rfl) (fun _ _ _ h => h) (Or.inl ⟨by kernel_rfl, ?run4⟩) hHeld ?_
      case run4 => (intro w9 hS9; obtain ⟨e0, e1, e2, e3⟩ := HS0.out w9 hS9; go_simp; first | done | exact rfl | (rw [if_neg (by omega)]))
      try simp only [Act.put, List.setIfInBounds_toArray, List.set_cons_zero, List.set_cons_succ]
      refine wpAnyH_ready (rs := [7]) (by kernel_rfl) (by simp) ?_
      refine AllReadyH.consL rfl (fun K hK => ?_) AllReadyH.nil
      go_simp
      refine (HROW.out _ (HKW.out.trans HC1.out (by simp))).mono ?_
      rintro e wc2 ⟨R, rfl, hR, hc2⟩
      have HC2 := Lib.hid (HC1.out.trans hc2 (by simp))
      clear hc2
      go_wp2_with fail
      refine hK.out _ _ HC2.out (fun hHeld2 => ?_)
      clear hK K hHeld
      have hHeld := hHeld2
      clear hHeld2
      try simp only [Act.put, List.setIfInBounds_toArray, List.set_cons_zero, List.set_cons_succ]
      have hr1 : R.size ≤ 1200000000 := by have := HSZ.out; rw [size_list, hR]; omega
      have HRR := Lib.hid hR
      clear hR
      refine wpAnyH_takeL (i := 8) (v := ?v8) rfl (by kernel_rfl) (by kernel_rfl) (by kernel_rfl) (fun _ _ _ h => h) (Or.inl ⟨by kernel_rfl, ?run8⟩) hHeld ?_
      case run8 => (intro w9 hS9; obtain ⟨e0, e1, e2, e3⟩ := HS0.out w9 hS9; go_simp; first | done | exact rfl | (rw [if_neg (by omega)]))
      try simp only [Act.put, List.setIfInBounds_toArray, List.set_cons_zero, List.set_cons_succ]
      refine wpAnyH_takeL (i := 9) (v := ?v9) rfl (by kernel_rfl) (by kernel_rfl) (by kernel_rfl) (fun _ _ _ h => h) (Or.inl ⟨by kernel_rfl, ?run9⟩) hHeld ?_
      case run9 => (intro w9 hS9; obtain ⟨e0, e1, e2, e3⟩ := HS0.out w9 hS9; go_simp; first | done | exact rfl | (rw [if_neg (by omega)]))
      try simp only [Act.put, List.setIfInBounds_toArray, List.set_cons_zero, List.set_cons_succ]
      refine wpAnyH_ready (rs := [10]) (by kernel_rfl) (by simp) ?_
      refine AllReadyH.consL rfl (fun K hK => ?_) AllReadyH.nil
      go_simp
      refine hK.out _ _ HC2.out (fun hHeld => ?_)
      clear hK K
      try simp only [Act.put, List.setIfInBounds_toArray, List.set_cons_zero, List.set_cons_succ]
      refine wpAnyH_done (by kernel_rfl) ?_ _
      go_wp2_with fail
      go_ret
      exact StrP.of rfl (by rw [HP.out]; simp only [str_app, HNS.out, HRR.out]) (HKW.out.trans HC2.out (by simp))
    by_cases k7 : tk = 7
    · as_aux_lemma =>
      subst k7
      have HP : Hid (pt = [91, 93]) := Lib.hid (by rw [HPR.out, if_neg (by omega), if_pos rfl])
      go_wp2_with fail
      go_ret
      exact StrP.of rfl (by rw [HP.out]) HKW.out
    have k8 : tk = 8 := by
      have := HHEAD.out
      unfold HeadOk at this
      omega
    subst k8
    clear k1 k2 k3 k4 k5 k6 k7
    have HP : Hid (pt = 91 :: (restTm true t ++ [93])) := Lib.hid (by rw [HPR.out, if_pos rfl, restTm_eq, if_pos HEQ.out.2.1, HEQ.out.1])
    have hqs : w.heap.size < w1.heap.size := (Array.getElem?_eq_some_iff.1 HBOX.out).1
    have hat : LoopR w w1 B N t t.sz (.string ⟨#[91]⟩) w1 := ⟨t, [], ⟨#[91]⟩, rfl, rfl, rfl, by rw [HEQ.out.2.1, HEQ.out.2.2.1, HEQ.out.2.2.2, HIV.out]; exact HBOX.out, Keep.refl _ _, HR.out.keep0 HKW.out, HOK.out, by simp, .inl rfl, hN, by simp⟩
    have HAT := Lib.hid hat
    clear hat
    go_wp2_with fail
    go_loopg [3] t.sz (fun gk s3 wr => LoopR w w1 B N t gk s3 wr)
    case atStart => exact HAT.out
    case round =>
      clear HAT e0 e1 e2 e3 HBOX HPR HNS HHEAD HS0
      obtain ⟨u, done, S, rfl, rfl, hS, hbx, hk1, hru, hoku, hdone, hcase, husz, hroom⟩ := hrel
      have hs1 : S.size ≤ 1300000000 := by rw [size_list, hS, List.length_cons]; omega
      obtain ⟨ua, uc, huv, huc1, huc2⟩ := hru.has.form
      unfold maxLen at huc2
      obtain ⟨hhd, hoku2⟩ := isTm_split hoku
      have hBr : B ≤ wr.heap.size := by have := hk1.size; omega
      have hqr : w.heap.size < wr.heap.size := (Array.getElem?_eq_some_iff.1 hbx).1
      by_cases k8 : u.kind = 8
      · as_aux_lemma =>
        have hu2 : u.items.length = 2 := by unfold HeadOk at hhd; omega
        obtain ⟨x, y, hxy⟩ : ∃ x y, u.items = [x, y] := by
          match hm : u.items, hu2 with
          | [x, y], _ => exact ⟨x, y, rfl⟩
        have hrest : restTm true u = printTm x ++ restTm false y := by rw [restTm_eq, if_pos k8, hxy]; rfl
        have hsx : x.sz < u.sz := sz_mem_lt (by rw [hxy]; simp)
        have hsy : y.sz < u.sz := sz_mem_lt (by rw [hxy]; simp)
        have hsxy : u.sz = x.sz + y.sz + 1 := by
          have : u.sz = szL u.items + 1 := by cases u; simp only [Tm.sz, Tm.items]
          rw [this, hxy, szL_cons, szL_cons, szL_nil]; omega
        have hhas : HasT B wr (.slice ua 2 uc) [x, y] := by have := hru.has; rw [huv, hxy] at this; exact this
        obtain ⟨b', off, hua, c0, c1, c2, c3, hrx⟩ := hhas.at (Keep.refl [] wr) (k := 0) (by simp)
        obtain ⟨b'', off', hua', d0, d1, d2, d3, hry⟩ := hhas.at (Keep.refl [] wr) (k := 1) (by simp)
        subst hua
        cases hua'
        have hbB : b' < B := by
          obtain ⟨⟨o, hrd, ho⟩, -⟩ := hhas
          obtain ⟨_, _, hq, ho2, -⟩ := hrd.at4 (k := 0) (by simp)
          cases hq
          exact ho b' ho2
        simp only [List.getElem_cons_zero, List.getElem_cons_succ, Nat.zero_mul, Nat.one_mul, Nat.add_zero] at c0 c1 c2 c3 d0 d1 d2 d3 hrx hry
        obtain ⟨xa, xc, hxv, -, -⟩ := hrx.has.form
        obtain ⟨ya, yc, hyv, -, -⟩ := hry.has.form
        rw [k8, huv, hxy] at hbx
        obtain ⟨e0, e1, e2, e3, -⟩ := cells4 hbx
        rw [hxv] at c3
        rw [hyv] at d3
        have hokx := hoku2 x (by rw [hxy]; simp)
        have hoky := hoku2 y (by rw [hxy]; simp)
        have hxl := (print_le x.sz x (Nat.le_refl _) hokx).1
        have hcall := HIH.out x (by omega) B wr hrx hBr hokx (by omega)
        unfold aggTm at hcall
        rw [hxv] at hcall
        have HC := Lib.hid hcall
        have HYV := Lib.hid hyv
        have HREST := Lib.hid hrest
        have HDONE := Lib.hid hdone
        have HS := Lib.hid hS
        have HK1 := Lib.hid hk1
        have HBX := Lib.hid hbx
        have HRY := Lib.hid hry
        have HOKY := Lib.hid hoky
        clear hcall hyv hrest hdone hS hk1 hbx hry hoky hrx hokx hxv hcase hhd hoku2 hhas huv hxy hru hoku k8 hu2
        go_wp2_with fail
        refine HC.out.mono ?_
        rintro e w3 ⟨P, rfl, hP, hk3⟩
        have hp1 : P.size ≤ 1200000000 := by rw [size_list, hP]; omega
        have hpl : P.data.toList.length ≤ 1200 * x.sz - 50 := by rw [hP]; omega
        have hbx3 := box_later HBX.out hk3 (by simp)
        obtain ⟨n0, n1, n2, n3, nf⟩ := cells4 hbx3
        have nf0 := nf 0
        have nf1 := nf 1
        have nf2 := nf 2
        have nf3 := nf 3
        have m0 := hk3.cellOf d0 (by simp)
        have m1 := hk3.cellOf d1 (by simp)
        have m2 := hk3.cellOf d2 (by simp)
        have m3 := hk3.cellOf d3 (by simp)
        have HPP := Lib.hid hP
        have HK3 := Lib.hid hk3
        have HBX3 := Lib.hid hbx3
        clear hP hk3 hbx3 nf c0 c1 c2 c3 d0 d1 d2 d3 e0 e1 e2 e3 HC
        by_cases y8 : y.kind = 8
        · have y8' : (y.kind == 8) = true := by simpa using y8
          have hrf := restTm_false y HOKY.out
          rw [if_pos y8] at hrf
          have HNX := Lib.hid (LoopR.next (N := N) (S := S ++ P ++ ⟨#[44]⟩) (done := done ++ printTm x ++ [44]) (t := t) HK1.out hB HK3.out HBX3.out HRY.out HOKY.out HYV.out (by rw [str_app, str_app, HS.out, HPP.out]; rfl) (by rw [← HDONE.out, HREST.out, hrf]; simp) (by omega) (by rw [List.length_append, List.length_append, ← HPP.out, List.length_singleton]; omega))
          clear y8 hrf
          go_wp2_with fail
          go_roundg y.sz
          case measure => exact hsy
          case rel => exact HNX.out
        · have y8' : (y.kind == 8) = false := by simpa using y8
          have hrf := restTm_false y HOKY.out
          rw [if_neg y8] at hrf
          have HNX := Lib.hid (LoopR.next (N := N) (S := S ++ P) (done := done ++ printTm x) (t := t) HK1.out hB HK3.out HBX3.out HRY.out HOKY.out HYV.out (by rw [str_app, HS.out, HPP.out]; rfl) (by rw [← HDONE.out, HREST.out, hrf]; simp) (by omega) (by rw [List.length_append, ← HPP.out]; omega))
          clear y8 hrf
          go_wp2_with fail
          go_roundg y.sz
          case measure => exact hsy
          case rel => exact HNX.out
      · have hq8 : (u.kind == 8) = false := by simpa using k8
        rw [huv] at hbx
        obtain ⟨e0, e1, e2, e3, -⟩ := cells4 hbx
        have hut : u.sz ≤ N := by
          rcases hcase with rfl | h
          · exact absurd HEQ.out.2.1 k8
          · exact h
        by_cases k7 : u.kind = 7
        · as_aux_lemma =>
          have hq7 : (u.kind != 7) = false := by simpa using k7
          have hd2 : done = restTm true t := by rw [← hdone, restTm_eq, if_neg k8, if_pos k7]; simp
          have HD2 := Lib.hid hd2
          have HS := Lib.hid hS
          have HK1 := Lib.hid hk1
          clear hd2 hS hk1 hbx hru hoku hdone hcase hhd hoku2 huv k7 k8
          go_wp2_with fail
          go_ret
          exact StrP.of rfl (by rw [HP.out, str_app, HS.out, HD2.out]; rfl) (keep_box HKW.out HK1.out (Keep.refl _ _))
        · as_aux_lemma =>
          have hq7 : (u.kind != 7) = true := by simpa using k7
          have hpu : restTm true u = 124 :: printTm u := by rw [restTm_eq, if_neg k8, if_neg k7, printTm_eq, if_neg k8, if_neg k7]
          have hcall := HIH.out u hut B wr hru hBr hoku (by omega)
          have hul := (print_le u.sz u (Nat.le_refl _) hoku).1
          unfold aggTm at hcall
          rw [huv] at hcall
          have HC := Lib.hid hcall
          have HD2 := Lib.hid (show done ++ 124 :: printTm u = restTm true t by rw [← hdone, hpu])
          have HS := Lib.hid hS
          have HK1 := Lib.hid hk1
          clear hcall hS hk1 hbx hru hoku hdone hcase hhd hoku2 huv k7 k8 hpu
          go_wp2_with fail
          refine HC.out.mono ?_
          rintro e w3 ⟨P, rfl, hP, hk3⟩
          have hp1 : P.size ≤ 1200000000 := by rw [size_list, hP]; omega
          have HPP := Lib.hid hP
          clear hP HC
          go_wp2_with fail
          go_ret
          exact StrP.of rfl (by rw [HP.out, str_app, str_app, str_app, HS.out, HPP.out, ← HD2.out]; simp) (keep_box HKW.out HK1.out hk3)
theorem r_print {B : Nat} {w : World} {t : Tm} (hr : RdTm B w t) (hB : B ≤ w.heap.size) (hok : isTm t = true) (hsz : t.sz ≤ 1000000) : Calls Tryd.prog 41 #[aggTm t] w (StrP w (printTm t)) := r_printN t.sz t (Nat.le_refl _) B w hr hB hok hsz
end Go.Proofs.YtcegdomfmamonaaDoor
