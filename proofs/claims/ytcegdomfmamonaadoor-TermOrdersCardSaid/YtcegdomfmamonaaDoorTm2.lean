/- Terms: what is a term (the document's is, Check). -/
import Derived.Test.YtcegdomfmamonaaDoorTm1
import Derived.Deep.CutBlock
import Derived.Deep.Light
import Derived.Deep.DeepCutAuto
import Derived.Test.YtcegdomfmamonaaDoorBaseCut
namespace Go.Proofs.YtcegdomfmamonaaDoor
open Go.RowKit Go.Emb Go.Lib

set_option maxRecDepth 100000 in
set_option maxHeartbeats 2000000 in
theorem r_isN : ∀ (N : Nat) (t : Tm), t.sz ≤ N → ∀ (B : Nat) (w : World), RdTm B w t → Calls Tryd.prog 49 #[aggTm t] w fun e w' => e = .returned (.bool (isTm t)) ∧ Keep [] w w'
  | 0, t, hN, _, _, _ => by have := t.sz_pos; omega
  | N + 1, t, hN, B, w, hr => by
    have IH := r_isN N
    have hh := hr.has
    have hmem := fun (x : Tm) (hx : x ∈ t.items) => sz_mem_lt hx
    have his : isTm t = (headOk t.kind t.num t.name t.items.length && isTms t.items) := by cases t; simp only [isTm, Tm.items, Tm.kind, Tm.num, Tm.name]
    obtain ⟨a, c, hiv, hc1, hc2⟩ := hh.form
    have HIS := Lib.hid his
    have HMEM := Lib.hid hmem
    have HIH := Lib.hid IH
    unfold maxLen at hc2
    unfold aggTm
    rw [hiv] at hh ⊢
    have HH := Lib.hid hh
    clear hh hr hmem his IH hiv
    generalize t.items = l at *
    generalize t.kind = tk at *
    generalize t.num = tn at *
    generalize t.name = ts at *
    go_enter Tryd.func49, Tryd.ntmps49
    go_upto_block 0 with fail
    refine wp_cut (CutF 147 (fun f wx => f 3 = .bool (headOk tk tn ts l.length) ∧ f 1 = .pointer (some ⟨w.heap.size, 0, none⟩) ∧ wx = w.alloc (.cells #[.int .i64 tk, .int .i64 tn, .string ts, .slice a l.length c] 31))) ?rest ?first
    case first =>
      intro J K' hJ hK'
      have HJ := Lib.hid hJ
      clear HIS HMEM HIH HH hJ
      by_cases k1 : tk = 1
      · as_aux_lemma =>
        subst k1
        go_wp2_with fail
        all_goals
          refine Met.intro (HJ.out _ _ (CutF.mk rfl ⟨?_, rfl, by first | rfl | (go_light; simp [*])⟩))
          refine congrArg Value.bool ?_
          clear HJ
          go_light
          rw [headOk_1, Bool.eq_iff_iff]
          try simp only [toList_nil_iff] at *
          simp only [Bool.and_eq_true, decide_eq_true_eq, beq_iff_eq, Bool.false_eq_true, false_iff]
          omega
      by_cases k2 : tk = 2
      · as_aux_lemma =>
        subst k2
        go_wp2_with fail
        all_goals
          refine Met.intro (HJ.out _ _ (CutF.mk rfl ⟨?_, rfl, by first | rfl | (go_light; simp [*])⟩))
          refine congrArg Value.bool ?_
          clear HJ
          go_light
          rw [headOk_2, Bool.eq_iff_iff]
          try simp only [toList_nil_iff] at *
          simp only [Bool.and_eq_true, decide_eq_true_eq, beq_iff_eq, Bool.false_eq_true, false_iff]
          omega
      by_cases k3 : tk = 3
      · as_aux_lemma =>
        subst k3
        go_wp2_with fail
        all_goals
          refine Met.intro (HJ.out _ _ (CutF.mk rfl ⟨?_, rfl, by first | rfl | (go_light; simp [*])⟩))
          refine congrArg Value.bool ?_
          clear HJ
          go_light
          rw [headOk_3, Bool.eq_iff_iff]
          try simp only [toList_nil_iff] at *
          simp only [Bool.and_eq_true, decide_eq_true_eq, beq_iff_eq, Bool.false_eq_true, false_iff]
          omega
      by_cases k5 : tk = 5
      · as_aux_lemma =>
        subst k5
        go_wp2_with fail
        all_goals
          refine Met.intro (HJ.out _ _ (CutF.mk rfl ⟨?_, rfl, by first | rfl | (go_light; simp [*])⟩))
          refine congrArg Value.bool ?_
          clear HJ
          go_light
          rw [headOk_5, Bool.eq_iff_iff]
          try simp only [toList_nil_iff] at *
          simp only [Bool.and_eq_true, decide_eq_true_eq, beq_iff_eq, Bool.false_eq_true, false_iff]
          omega
      by_cases k4 : tk = 4
      · as_aux_lemma =>
        subst k4
        go_wp2_with fail
        all_goals
          refine Met.intro (HJ.out _ _ (CutF.mk rfl ⟨?_, rfl, by first | rfl | (go_light; simp [*])⟩))
          refine congrArg Value.bool ?_
          clear HJ
          go_light
          rw [headOk_4, Bool.eq_iff_iff]
          try simp only [toList_nil_iff] at *
          simp only [Bool.and_eq_true, decide_eq_true_eq, Bool.false_eq_true, false_iff, List.isEmpty_iff, toList_nil_iff]
          omega
      by_cases k6 : tk = 6
      · as_aux_lemma =>
        subst k6
        go_wp2_with fail
        all_goals
          refine Met.intro (HJ.out _ _ (CutF.mk rfl ⟨?_, rfl, by first | rfl | (go_light; simp [*])⟩))
          refine congrArg Value.bool ?_
          clear HJ
          go_light
          rw [headOk_6, Bool.eq_iff_iff]
          try simp only [toList_nil_iff] at *
          simp only [Bool.and_eq_true, decide_eq_true_eq, Bool.false_eq_true, false_iff, List.isEmpty_iff, toList_nil_iff]
          omega
      by_cases k7 : tk = 7
      · as_aux_lemma =>
        subst k7
        go_wp2_with fail
        all_goals
          refine Met.intro (HJ.out _ _ (CutF.mk rfl ⟨?_, rfl, by first | rfl | (go_light; simp [*])⟩))
          refine congrArg Value.bool ?_
          clear HJ
          go_light
          rw [headOk_7, Bool.eq_iff_iff]
          try simp only [toList_nil_iff] at *
          simp only [Bool.and_eq_true, decide_eq_true_eq, beq_iff_eq, Bool.false_eq_true, false_iff]
          omega
      by_cases k8 : tk = 8
      · as_aux_lemma =>
        subst k8
        go_wp2_with fail
        all_goals
          refine Met.intro (HJ.out _ _ (CutF.mk rfl ⟨?_, rfl, by first | rfl | (go_light; simp [*])⟩))
          refine congrArg Value.bool ?_
          clear HJ
          go_light
          rw [headOk_8, Bool.eq_iff_iff]
          try simp only [toList_nil_iff] at *
          simp only [Bool.and_eq_true, decide_eq_true_eq, beq_iff_eq, Bool.false_eq_true, false_iff]
          omega
      have q1 : (tk == 1) = false := by simpa using k1
      have q2 : (tk == 2) = false := by simpa using k2
      have q3 : (tk == 3) = false := by simpa using k3
      have q5 : (tk == 5) = false := by simpa using k5
      have q4 : (tk == 4) = false := by simpa using k4
      have q6 : (tk == 6) = false := by simpa using k6
      have q7 : (tk == 7) = false := by simpa using k7
      have q8 : (tk == 8) = false := by simpa using k8
      go_wp2_with fail
      all_goals
        refine Met.intro (HJ.out _ _ (CutF.mk rfl ⟨?_, rfl, rfl⟩))
        exact congrArg Value.bool (headOk_no _ _ _ k1 k2 k3 k4 k5 k6 k7 k8).symm
    case rest =>
      intro a' wc hc
      obtain ⟨f, rfl, h3, h1, rfl⟩ := hc.lit
      rw [show ((List.range 147).map f).toArray = #[f 0, f 1, f 2, f 3, f 4, f 5, f 6, f 7, f 8, f 9, f 10, f 11, f 12, f 13, f 14, f 15, f 16, f 17, f 18, f 19, f 20, f 21, f 22, f 23, f 24, f 25, f 26, f 27, f 28, f 29, f 30, f 31, f 32, f 33, f 34, f 35, f 36, f 37, f 38, f 39, f 40, f 41, f 42, f 43, f 44, f 45, f 46, f 47, f 48, f 49, f 50, f 51, f 52, f 53, f 54, f 55, f 56, f 57, f 58, f 59, f 60, f 61, f 62, f 63, f 64, f 65, f 66, f 67, f 68, f 69, f 70, f 71, f 72, f 73, f 74, f 75, f 76, f 77, f 78, f 79, f 80, f 81, f 82, f 83, f 84, f 85, f 86, f 87, f 88, f 89, f 90, f 91, f 92, f 93, f 94, f 95, f 96, f 97, f 98, f 99, f 100, f 101, f 102, f 103, f 104, f 105, f 106, f 107, f 108, f 109, f 110, f 111, f 112, f 113, f 114, f 115, f 116, f 117, f 118, f 119, f 120, f 121, f 122, f 123, f 124, f 125, f 126, f 127, f 128, f 129, f 130, f 131, f 132, f 133, f 134, f 135, f 136, f 137, f 138, f 139, f 140, f 141, f 142, f 143, f 144, f 145, f 146] from rfl]
      rw [h3, h1]
      clear h3 h1 hc
      go_wp2_with fail
      go_loopw [3, 4] (fun p i wr => ∃ j : Nat, j ≤ l.length ∧ i = .int .i64 j ∧ p = .bool (headOk tk tn ts l.length && isTms (l.take j)) ∧ Keep [] (w.alloc (.cells #[.int .i64 tk, .int .i64 tn, .string ts, .slice a l.length c] 31)) wr) (fun _ i _ => l.length - (intOf i).toNat)
      case atStart => exact ⟨0, Nat.zero_le _, rfl, by simp [isTms], Keep.refl _ _⟩
      case round =>
        obtain ⟨j, hj, rfl, rfl, hK⟩ := hrel
        have HK := Lib.hid hK
        obtain ⟨-, -, -, e3⟩ := box4 hK
        clear hK
        have hk0 : Keep [] w wr := ((Keep.refl [] w).alloc _).trans HK.out (by simp)
        have HK0 := Lib.hid hk0
        clear hk0
        by_cases hlt : j < l.length
        · obtain ⟨b, off, rfl, c0, c1, c2, c3, hrx⟩ := HH.out.at HK0.out hlt
          have hcall := HIH.out l[j] (by have := HMEM.out _ (List.getElem_mem hlt); omega) B wr hrx
          have hts := isTms_take_succ l j hlt
          have HTS := Lib.hid hts
          have i0 : (0 : Int) ≤ (j : Int) := by omega
          have i1 : (j : Int) < (l.length : Int) := by omega
          have HC := Lib.hid hcall
          clear hcall hts hrx
          unfold aggTm at HC
          generalize l[j].kind = xk at *
          generalize l[j].num = xn at *
          generalize l[j].name = xs at *
          generalize l[j].iv = xv at *
          cases hp : (headOk tk tn ts l.length && isTms (l.take j)) with
          | true =>
            have HP := Lib.hid hp
            clear hp
            go_wp2_with fail
            refine HC.out.mono ?_
            rintro e w2 ⟨rfl, hk2⟩
            go_wp2_with fail
            go_roundw
            case rel => exact ⟨j + 1, by omega, by go_num, by rw [HTS.out, ← Bool.and_assoc, HP.out]; simp, HK.out.trans hk2 (by simp)⟩
            case measure => simp [intOf]; omega
          | false =>
            have hres : false = isTm t := by
              rw [HIS.out]
              cases hh : headOk tk tn ts l.length with
              | false => rfl
              | true => rw [hh, Bool.true_and] at hp; rw [isTms_take_false l j hp]; rfl
            have HRES := Lib.hid hres
            clear hp hres
            go_wp2_with fail
            go_ret
            exact ⟨by rw [← HRES.out]; rfl, HK0.out⟩
        · obtain rfl : j = l.length := by omega
          rw [List.take_length, ← HIS.out] at *
          go_wp2_with fail
          go_ret
          exact ⟨rfl, HK0.out⟩
theorem r_is {t : Tm} {B : Nat} {w : World} (h : RdTm B w t) : Calls Tryd.prog 49 #[aggTm t] w fun e w' => e = .returned (.bool (isTm t)) ∧ Keep [] w w' := r_isN t.sz t (Nat.le_refl _) B w h

set_option maxHeartbeats 1000000 in
theorem r_check {B : Nat} {w : World} {v : Value} {l : List Tm} (h : HasT B w v l) : Calls Tryd.prog 12 #[v] w fun e w' => e = .returned (.int .i64 (checkTm l)) ∧ Keep [] w w' := by
  have hcall := r_fits h (n := 4096) (by omega) (by omega)
  obtain ⟨a, c, rfl, hc1, hc2⟩ := h.form
  unfold maxLen at hc2
  have HH := Lib.hid h
  have HC := Lib.hid hcall
  clear h hcall
  by_cases hf : szL l ≤ 4096
  · have hd : decide ((szL l : Int) ≤ 4096) = true := by simp; omega
    have hres : checkTm l = if isTms l then 0 else 70 := by unfold checkTm; rw [if_pos hf]
    rw [hd] at HC
    have HRES := Lib.hid hres
    clear hres hd hf
    go_enter Tryd.func12, Tryd.ntmps12
    go_wp2_with fail
    refine HC.out.mono ?_
    rintro e w1 ⟨rfl, hk1⟩
    have HK1 := Lib.hid hk1
    clear hk1
    go_wp2_with fail
    go_loopw [3] (fun i wr => ∃ j : Nat, j ≤ l.length ∧ i = .int .i64 j ∧ isTms (l.take j) = true ∧ Keep [] w wr) (fun i _ => l.length - (intOf i).toNat)
    case atStart => exact ⟨0, Nat.zero_le _, rfl, by simp [isTms], HK1.out⟩
    case round =>
      clear HK1
      obtain ⟨j, hj, rfl, hok, hK⟩ := hrel
      have HK := Lib.hid hK
      have HOK := Lib.hid hok
      clear hK hok
      by_cases hlt : j < l.length
      · obtain ⟨b, off, rfl, c0, c1, c2, c3, hrx⟩ := HH.out.at HK.out hlt
        have hcall := r_is hrx
        have hts := isTms_take_succ l j hlt
        rw [HOK.out, Bool.true_and] at hts
        have HTS := Lib.hid hts
        have i0 : (0 : Int) ≤ (j : Int) := by omega
        have i1 : (j : Int) < (l.length : Int) := by omega
        unfold aggTm at hcall
        clear hts hrx
        generalize l[j].kind = xk at *
        generalize l[j].num = xn at *
        generalize l[j].name = xs at *
        generalize l[j].iv = xv at *
        cases hp : isTm l[j] with
        | true =>
          rw [hp] at hcall
          have HP := Lib.hid hp
          have HC2 := Lib.hid hcall
          clear hp hcall
          go_wp2_with fail
          refine HC2.out.mono ?_
          rintro e w2 ⟨rfl, hk2⟩
          go_wp2_with fail
          go_roundw
          case rel => exact ⟨j + 1, by omega, by go_num, by rw [HTS.out]; exact HP.out, HK.out.trans hk2 (by simp)⟩
          case measure => simp [intOf]; omega
        | false =>
          rw [hp] at hcall
          have hr2 : checkTm l = 70 := by rw [HRES.out, isTms_take_false l (j + 1) (HTS.out.trans hp)]; rfl
          have HR2 := Lib.hid hr2
          have HC2 := Lib.hid hcall
          clear hp hcall hr2
          go_wp2_with fail
          refine HC2.out.mono ?_
          rintro e w2 ⟨rfl, hk2⟩
          go_wp2_with fail
          go_ret
          exact ⟨by rw [HR2.out]; rfl, HK.out.trans hk2 (by simp)⟩
      · obtain rfl : j = l.length := by omega
        have hr2 : checkTm l = 0 := by rw [HRES.out]; have := HOK.out; rw [List.take_length] at this; rw [this]; rfl
        have HR2 := Lib.hid hr2
        clear hr2
        go_wp2_with fail
        go_ret
        exact ⟨by rw [HR2.out]; rfl, HK.out⟩
  · have hd : decide ((szL l : Int) ≤ 4096) = false := by simp; omega
    have hres : checkTm l = 6 := by unfold checkTm; rw [if_neg hf]
    rw [hd] at HC
    have HRES := Lib.hid hres
    clear hres hd hf
    go_enter Tryd.func12, Tryd.ntmps12
    go_wp2_with fail
    refine HC.out.mono ?_
    rintro e w1 ⟨rfl, hk1⟩
    go_wp2_with fail
    go_ret
    exact ⟨by rw [HRES.out]; rfl, hk1⟩
end Go.Proofs.YtcegdomfmamonaaDoor
