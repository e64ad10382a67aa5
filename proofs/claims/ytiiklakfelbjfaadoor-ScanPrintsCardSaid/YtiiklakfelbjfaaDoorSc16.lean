/- Terms: the document's Word, Bare (the text Tm19 for the scan seat). -/
import Derived.Test.YtiiklakfelbjfaaDoorSc14
namespace Go.Proofs.YtiiklakfelbjfaaDoor
open Go.RowKit Go.Emb

theorem wordsB_at (k : Nat) (h : k < 14) : (wordsB.getD k ByteArray.empty).data.toList = wordsL[k] := by
  unfold wordsB
  rw [List.getD_eq_getElem?_getD, List.getElem?_map, List.getElem?_eq_getElem (by simpa using h)]
  rfl
theorem words_take (s : List UInt8) (k : Nat) (h : k < 14) : (wordsL.take (k + 1)).contains s = ((wordsL.take k).contains s || s == wordsL[k]) := by
  rw [List.take_succ_eq_append_getElem (by simpa using h), List.contains_eq_any_beq, List.contains_eq_any_beq, List.any_append]
  simp only [List.any_cons, List.any_nil, Bool.or_false]
set_option maxHeartbeats 1000000 in
theorem r_word (s : ByteArray) (w : World) (hs : s.size ≤ 140737488355328) : Calls Tryd.prog 72 #[.string s] w fun e w' => e = .returned (.bool (wordsL.contains s.data.toList)) ∧ Keep [] w w' := by
  have hcells := words_cells w
  have HKW : Hid (Keep [] w (w.alloc (.cells #[.string ⟨#[97, 102, 116, 101, 114]⟩, .string ⟨#[97, 110, 100]⟩, .string ⟨#[99, 97, 115, 101]⟩, .string ⟨#[99, 97, 116, 99, 104]⟩, .string ⟨#[100, 105, 118]⟩, .string ⟨#[101, 110, 100]⟩, .string ⟨#[102, 117, 110]⟩, .string ⟨#[110, 111, 116]⟩, .string ⟨#[111, 102]⟩, .string ⟨#[111, 114]⟩, .string ⟨#[114, 101, 99, 101, 105, 118, 101]⟩, .string ⟨#[114, 101, 109]⟩, .string ⟨#[116, 114, 121]⟩, .string ⟨#[119, 104, 101, 110]⟩] 9))) := (Keep.refl [] w).alloc _
  have HC := Lib.hid hcells
  clear hcells
  obtain ⟨wb, hwb⟩ : ∃ b, b = wordsL.contains s.data.toList := ⟨_, rfl⟩
  rw [← hwb]
  have HWB := Lib.hid hwb
  clear hwb
  go_enter Tryd.func72, Tryd.ntmps72
  go_wp2_with fail
  generalize w.alloc (.cells #[.string ⟨#[97, 102, 116, 101, 114]⟩, .string ⟨#[97, 110, 100]⟩, .string ⟨#[99, 97, 115, 101]⟩, .string ⟨#[99, 97, 116, 99, 104]⟩, .string ⟨#[100, 105, 118]⟩, .string ⟨#[101, 110, 100]⟩, .string ⟨#[102, 117, 110]⟩, .string ⟨#[110, 111, 116]⟩, .string ⟨#[111, 102]⟩, .string ⟨#[111, 114]⟩, .string ⟨#[114, 101, 99, 101, 105, 118, 101]⟩, .string ⟨#[114, 101, 109]⟩, .string ⟨#[116, 114, 121]⟩, .string ⟨#[119, 104, 101, 110]⟩] 9) = W0 at *
  go_loop [4] (fun i => ∃ k : Nat, k ≤ 14 ∧ i = .int .i64 k ∧ (wordsL.take k).contains s.data.toList = false) (fun i => 14 - (RowKit.intOf i).toNat)
  case atStart => exact ⟨0, Nat.zero_le _, rfl, rfl⟩
  case round =>
    obtain ⟨k, hk, rfl, hall⟩ := hrel
    have HALL := Lib.hid hall
    clear hall
    by_cases hlt : k < 14
    · have hc := HC.out k (by simpa [wordsB] using hlt)
      have hat := wordsB_at k hlt
      have hts := words_take s.data.toList k hlt
      rw [HALL.out, Bool.false_or, ← hat] at hts
      rw [Nat.zero_add] at hc
      have HTS := Lib.hid hts
      have i0 : (0 : Int) ≤ (k : Int) := by omega
      have i1 : (k : Int) < 14 := by omega
      clear hat hts
      generalize wordsB.getD k ByteArray.empty = u at *
      cases hq : (u.toList == s.toList) with
      | true =>
        have hq2 : (s.data.toList == u.data.toList) = true := by
          rw [Go.ByteArray.toList_eq, Go.ByteArray.toList_eq] at hq
          simp only [beq_iff_eq] at hq ⊢; exact hq.symm
        have hres : wordsL.contains s.data.toList = true := by
          have h1 := HTS.out
          rw [hq2] at h1
          rw [List.contains_eq_any_beq, List.any_eq_true] at h1 ⊢
          obtain ⟨y, hy, he⟩ := h1
          exact ⟨y, List.mem_of_mem_take hy, he⟩
        obtain rfl : wb = true := HWB.out.trans hres
        clear hres hq2
        go_wp2_with fail
        go_ret
        exact ⟨rfl, HKW.out⟩
      | false =>
        have hq2 : (s.data.toList == u.data.toList) = false := by
          rw [Go.ByteArray.toList_eq, Go.ByteArray.toList_eq] at hq
          simp only [beq_eq_false_iff_ne, ne_eq] at hq ⊢; exact fun h => hq h.symm
        have H2 := Lib.hid (HTS.out.trans hq2)
        clear hq2
        go_wp2_with fail
        go_round
        case rel => exact ⟨k + 1, by omega, by go_num, H2.out⟩
        case measure => simp [RowKit.intOf]; omega
    · obtain rfl : k = 14 := by omega
      obtain rfl : wb = false := HWB.out.trans HALL.out
      go_wp2_with fail
      go_ret
      exact ⟨rfl, HKW.out⟩

def letterI (n : Int) : Bool := decide (97 ≤ n ∧ n ≤ 122 ∨ 65 ≤ n ∧ n ≤ 90 ∨ 48 ≤ n ∧ n ≤ 57 ∨ n = 95 ∨ n = 64)
theorem letterB_int (c : UInt8) : letterB c = letterI c.toNat := by
  have h : ∀ n, n < 256 → letterB (UInt8.ofNat n) = letterI ((UInt8.ofNat n).toNat : Int) := by decide +kernel
  have := h c.toNat c.toNat_lt
  rwa [UInt8.ofNat_toNat] at this
theorem letterI_yes {n : Int} (h : 97 ≤ n ∧ n ≤ 122 ∨ 65 ≤ n ∧ n ≤ 90 ∨ 48 ≤ n ∧ n ≤ 57 ∨ n = 95 ∨ n = 64) : letterI n = true := decide_eq_true h
theorem letterI_no {n : Int} (h : ¬ (97 ≤ n ∧ n ≤ 122 ∨ 65 ≤ n ∧ n ≤ 90 ∨ 48 ≤ n ∧ n ≤ 57 ∨ n = 95 ∨ n = 64)) : letterI n = false := decide_eq_false h
def digitAt (n : Nat) : ByteArray := ⟨#[UInt8.ofNat (48 + n)]⟩
theorem digit_at : ∀ n, n < 10 → (⟨#[48, 49, 50, 51, 52, 53, 54, 55, 56, 57]⟩ : ByteArray).extract n (n + 1) = digitAt n := by decide
set_option maxHeartbeats 2000000 in
theorem r_bare (s : ByteArray) (w : World) (hs : s.size ≤ 140737488355328) : Calls Tryd.prog 53 #[.string s] w fun e w' => e = .returned (.bool (bareL s.data.toList)) ∧ Keep [] w w' := by
  have hbare : bareL s.data.toList = (s.data.toList.all letterB && (match s.data.toList with | [] => false | c :: _ => decide (97 ≤ c) && decide (c ≤ 122)) && !wordsL.contains s.data.toList) := rfl
  have HB := Lib.hid hbare
  have hw := r_word s w hs
  have HW := Lib.hid hw
  clear hbare hw
  obtain ⟨res, hrs⟩ : ∃ b, b = bareL s.data.toList := ⟨_, rfl⟩
  rw [← hrs]
  rw [← hrs] at HB
  clear hrs
  generalize wordsL.contains s.data.toList = wb at *
  cases hs0 : s.data.toList with
  | nil =>
    have e1 : s.toList = [] := by rw [Go.ByteArray.toList_eq]; exact hs0
    have e2 : s.toList.isEmpty = true := by rw [e1]; rfl
    obtain rfl : res = false := by rw [HB.out, hs0]; simp
    clear hs0 HB
    go_enter Tryd.func53, Tryd.ntmps53
    go_wp2_with fail
    go_ret
    exact ⟨rfl, Keep.refl _ _⟩
  | cons c r =>
    have hsz : 0 < s.size := by
      rcases Nat.eq_zero_or_pos s.size with h | h
      · have := (toList_nil_iff s).2 h; rw [Go.ByteArray.toList_eq, hs0] at this; cases this
      · exact h
    have e1 : ¬ s.toList = [] := by rw [Go.ByteArray.toList_eq, hs0]; simp
    have e2 : s.toList.isEmpty = false := by simpa using e1
    have e3 : s[0] = c := by rw [← index_at s 0 hsz]; simp [hs0]
    have i0 : (0 : Int) < (s.size : Int) := by omega
    have hn1 : decide (97 ≤ c) = decide ((97 : Int) ≤ (c.toNat : Int)) := by rw [Bool.eq_iff_iff]; simp [UInt8.le_iff_toNat_le]; omega
    have hn2 : decide (c ≤ 122) = decide ((c.toNat : Int) ≤ 122) := by rw [Bool.eq_iff_iff]; simp [UInt8.le_iff_toNat_le]; omega
    have hres : res = (s.data.toList.all letterB && (decide ((97 : Int) ≤ (c.toNat : Int)) && decide ((c.toNat : Int) ≤ 122)) && !wb) := by rw [HB.out, hs0]; simp only [hn1, hn2]
    have HRES := Lib.hid hres
    clear hs0 hn1 hn2 hres HB
    subst e3
    by_cases h1 : (97 : Int) ≤ (s[0].toNat : Int)
    case neg =>
      have n1 : (s[0].toNat : Int) < 97 := by omega
      obtain rfl : res = false := by rw [HRES.out, decide_eq_false h1]; simp
      go_enter Tryd.func53, Tryd.ntmps53
      go_wp2_with fail
      go_ret
      exact ⟨rfl, Keep.refl _ _⟩
    by_cases h2 : (s[0].toNat : Int) ≤ 122
    case neg =>
      have n1 : ¬ (s[0].toNat : Int) < 97 := by omega
      have n2 : (122 : Int) < (s[0].toNat : Int) := by omega
      obtain rfl : res = false := by rw [HRES.out, decide_eq_false h2]; simp
      go_enter Tryd.func53, Tryd.ntmps53
      go_wp2_with fail
      go_ret
      exact ⟨rfl, Keep.refl _ _⟩
    rw [decide_eq_true h1, decide_eq_true h2] at HRES
    have n1 : ¬ (s[0].toNat : Int) < 97 := by omega
    have n2 : ¬ (122 : Int) < (s[0].toNat : Int) := by omega
    go_enter Tryd.func53, Tryd.ntmps53
    go_wp2_with fail
    go_loop [3, 4] (fun i _ => ∃ k : Nat, k ≤ s.size ∧ i = .int .i64 k ∧ (s.data.toList.take k).all letterB = true) (fun i _ => s.size - (RowKit.intOf i).toNat)
    case atStart => exact ⟨0, Nat.zero_le _, rfl, by simp⟩
    case round =>
      obtain ⟨k, hk, rfl, hall⟩ := hrel
      have HALL := Lib.hid hall
      clear hall
      by_cases hlt : k < s.size
      · have hts : (s.data.toList.take (k + 1)).all letterB = letterB s[k] := by
          rw [List.take_succ_eq_append_getElem (by simpa using hlt), List.all_append, HALL.out, index_at s k hlt]; simp
        obtain ⟨c, hcc⟩ : ∃ c, c = s[k] := ⟨_, rfl⟩
        rw [← hcc, letterB_int] at hts
        have HTS := Lib.hid hts
        clear hts n1 n2 h1 h2
        have HLT := Lib.hid hlt
        have i1 : (k : Int) < (s.size : Int) := by omega
        have i2 : (0 : Int) ≤ (k : Int) := by omega
        have HSP : Hid (letterI (c.toNat : Int) = false → res = false) := by
          intro h
          have h2 := HTS.out
          rw [h] at h2
          have : s.data.toList.all letterB = false := by
            rw [← List.take_append_drop (k + 1) s.data.toList, List.all_append, h2]; rfl
          rw [HRES.out, this]; simp
        clear HRES HW
        have HCC := Lib.hid hcc
        clear hcc
        go_upto_region 7 with fail
        rw [← HCC.out]
        clear HCC
        have HIY : Hid (∀ n : Int, (n == 95) = true ∨ (n == 64) = true → letterI n = true) := by
          intro n h; apply letterI_yes; simp only [beq_iff_eq] at h; omega
        cases h95 : ((c.toNat : Int) == 95) with
        | true =>
          have hy := HIY.out _ (Or.inl h95)
          have HY := Lib.hid hy
          clear hy
          go_wp2
          all_goals
            go_round
            case rel => exact ⟨k + 1, by have := HLT.out; omega, by go_num, by rw [HTS.out]; exact HY.out⟩
            case measure =>
              have := HLT.out
              simp [RowKit.intOf]; omega
        | false =>
          cases h64 : ((c.toNat : Int) == 64) with
          | true =>
            have hy := HIY.out _ (Or.inr h64)
            have HY := Lib.hid hy
            clear hy
            go_wp2
            all_goals
              go_round
              case rel => exact ⟨k + 1, by have := HLT.out; omega, by go_num, by rw [HTS.out]; exact HY.out⟩
              case measure =>
                have := HLT.out
                simp [RowKit.intOf]; omega
          | false =>
            have hn95 : ¬ (c.toNat : Int) = 95 := by simpa using h95
            have hn64 : ¬ (c.toNat : Int) = 64 := by simpa using h64
            have HNN := Lib.hid (And.intro hn95 hn64)
            clear hn95 hn64
            by_cases a1 : (97 : Int) ≤ (c.toNat : Int) <;> by_cases a2 : (c.toNat : Int) ≤ 122 <;> by_cases a3 : (65 : Int) ≤ (c.toNat : Int) <;> by_cases a4 : (c.toNat : Int) ≤ 90 <;> by_cases a5 : (48 : Int) ≤ (c.toNat : Int) <;> by_cases a6 : (c.toNat : Int) ≤ 57 <;> try (exfalso; omega)
            all_goals first
              | (have hno := HSP.out (letterI_no (by have := HNN.out; omega)); have HN2 := Lib.hid hno; clear hno; go_wp2_with fail; go_ret; exact ⟨by rw [HN2.out]; rfl, Keep.refl _ _⟩)
              | (have hyes := letterI_yes (n := (c.toNat : Int)) (by have := HNN.out; omega)
                 have HY := Lib.hid hyes
                 clear hyes
                 go_wp2_with fail
                 go_round
                 · exact ⟨k + 1, by have := HLT.out; omega, by go_num, by rw [HTS.out]; exact HY.out⟩
                 · have := HLT.out
                   simp [RowKit.intOf]; omega)
      · have hall : s.data.toList.all letterB = true := by
          have := HALL.out
          rwa [List.take_of_length_le (by simp; exact Nat.le_of_not_lt hlt)] at this
        rw [hall] at HRES
        clear hall
        go_wp2_with fail
        refine HW.out.mono ?_
        rintro e w2 ⟨rfl, hk2⟩
        go_wp2_with fail
        go_ret
        exact ⟨by rw [HRES.out]; simp, hk2⟩
end Go.Proofs.YtiiklakfelbjfaaDoor
