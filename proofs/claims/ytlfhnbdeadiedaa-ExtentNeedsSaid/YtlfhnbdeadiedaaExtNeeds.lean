/- The walk of ExtentNeeds. -/
import Derived.Test.YtlfhnbdeadiedaaExtLaws2
namespace Go.Proofs.Ytlfhnbdeadiedaa
open Go.RowKit Go.Emb Go.Lib Go.Emb.Ext Go.Shelf Go.Sort

theorem any_has {l : List E} (h : ∀ x ∈ l, right x = true) (i : Int) : l.any (hasE i) = true ↔ cov l i := by
  rw [List.any_eq_true]
  constructor
  · rintro ⟨x, hx, h1⟩
    unfold hasE at h1
    simp at h1
    exact ⟨x, hx, by unfold covers; omega⟩
  · rintro ⟨x, hx, h1, h2⟩
    refine ⟨x, hx, ?_⟩
    unfold hasE
    rw [h x hx]
    simp
    omega
theorem any_join {l p : List E} (h : JoinRes l p 0) (i : Int) : p.any (hasE i) = l.any (hasE i) := by
  obtain ⟨h1, h2, h3⟩ := h.ok
  rw [Bool.eq_iff_iff, any_has h3, any_has h1]
  exact h2.same i
/-- how many of the first m blocks are in them -/
def cntE (l : List E) (m : Nat) : Nat := (List.range m).countP fun t : Nat => l.any (hasE (t : Int))
theorem cntE_succ (l : List E) (m : Nat) : cntE l (m + 1) = cntE l m + if l.any (hasE m) then 1 else 0 := by
  unfold cntE
  rw [List.range_succ, List.countP_append, List.countP_singleton]
theorem cntE_le (l : List E) (m : Nat) : cntE l m ≤ m := by
  unfold cntE
  have := List.countP_le_length (p := fun t : Nat => l.any (hasE (t : Int))) (l := List.range m)
  simpa using this
theorem cnt_one (x : E) (hx : right x = true) : ∀ m : Nat, (((List.range m).countP fun t : Nat => hasE (t : Int) x : Nat) : Int) = max 0 (min ((m : Int) - x.1) x.2)
  | 0 => by have := (right_iff x).1 hx; simp; omega
  | m + 1 => by
    have h := (right_iff x).1 hx
    rw [List.range_succ, List.countP_append, List.countP_singleton]
    have ih := cnt_one x hx m
    by_cases hh : hasE m x = true
    · rw [if_pos hh]
      unfold hasE at hh
      simp at hh
      push_cast
      omega
    · rw [if_neg hh]
      unfold hasE at hh
      simp [hx] at hh
      push_cast
      by_cases h5 : x.1 ≤ (m : Int)
      · have := hh h5
        omega
      · omega
theorem countP_or {α : Type} (p q : α → Bool) : ∀ l : List α, l.countP (fun t => p t || q t) ≤ l.countP p + l.countP q
  | [] => by simp
  | a :: l => by
    have := countP_or p q l
    simp only [List.countP_cons]
    cases p a <;> cases q a <;> simp <;> omega
theorem cntE_sum : ∀ {l : List E}, (∀ x ∈ l, right x = true) → ∀ m, (cntE l m : Int) ≤ sumL l
  | [], _, m => by simp [cntE, sumL]
  | x :: l, h, m => by
    have ih := cntE_sum (l := l) (fun y hy => h y (by simp [hy])) m
    have h1 := cnt_one x (h x (by simp)) m
    have h2 := (right_iff x).1 (h x (by simp))
    have h3 : cntE (x :: l) m ≤ ((List.range m).countP fun t : Nat => hasE (t : Int) x) + cntE l m := by
      unfold cntE
      simp only [List.any_cons]
      exact countP_or (fun t : Nat => hasE (t : Int) x) (fun t : Nat => l.any (hasE (t : Int))) (List.range m)
    rw [sumL_cons]
    omega
theorem needs_law {b r : Int} (hb : 1 ≤ b) (hr : 1 ≤ r) (hb2 : b ≤ 1099511627776) (hr2 : r ≤ 1048576) :
    b ≤ needE b r * r ∧ needE b r * r ≤ 10000000000000 ∧ (needE b r - 1) * r < b ∧ 0 ≤ (needE b r - 1) * r ∧ 1 ≤ needE b r ∧ needE b r ≤ 1099511627776 := by
  unfold needE
  rw [if_neg (by omega)]
  have h1 := Int.ediv_mul_le (b - 1) (b := r) (by omega)
  have h2 := Int.lt_ediv_add_one_mul_self (b - 1) (b := r) (by omega)
  have h3 : 0 ≤ (b - 1) / r := Int.ediv_nonneg (by omega) (by omega)
  have h4 : (b - 1) / r ≤ b - 1 := Int.ediv_le_self _ (by omega)
  generalize (b - 1) / r = d at *
  have e1 : (1 + d) * r = d * r + r := by rw [Int.add_mul]; omega
  have e2 : (1 + d - 1) * r = d * r := by congr 1; omega
  have e3 : (d + 1) * r = d * r + r := by rw [Int.add_mul]; omega
  rw [e3] at h2
  rw [e1, e2]
  have h5 : 0 ≤ d * r := Int.mul_nonneg h3 (by omega)
  omega

def NeedR (w : World) (l : List E) (k : Nat) (wr : World) : Prop := Keep [] w wr ∧ cntE l k ≤ k

set_option maxRecDepth 100000 in
set_option maxHeartbeats 4000000 in
theorem needs_row {w : World} {v : Value} {l : List E} (bytes : Int) (hb : -9223372036854775808 ≤ bytes ∧ bytes ≤ 9223372036854775807) (room : Int) (hr : -9223372036854775808 ≤ room ∧ room ≤ 9223372036854775807) (hl : HasE w v l) :
    Calls Try.prog 8 #[.int .i64 bytes, .int .i64 room, v] w fun e w' => e = .returned (.bool true) ∧ Keep [] w w' := by
  obtain ⟨a, c, rfl⟩ := hl.slice
  have HL := Lib.hid hl
  clear hl
  obtain ⟨hb1, hb2⟩ := hb
  obtain ⟨hr1, hr2⟩ := hr
  by_cases h60 : 60 < l.length
  · have h60' : (60 : Int) < (l.length : Int) := by omega
    go_enter Try.func8, Try.ntmps8
    go_wp2_with (go_at_call 9; refine (live_any _).mono ?_; rintro e w' ⟨rfl, hk⟩)
    go_ret
    exact ⟨rfl, hk⟩
  have h60' : ¬ (60 : Int) < (l.length : Int) := by omega
  by_cases hbb : 1099511627776 < bytes
  · go_enter Try.func8, Try.ntmps8
    go_wp2_with (go_at_call 9; refine (live_any _).mono ?_; rintro e w' ⟨rfl, hk⟩)
    go_ret
    exact ⟨rfl, hk⟩
  by_cases hrr : 1048576 < room
  · go_enter Try.func8, Try.ntmps8
    go_wp2_with (go_at_call 9; refine (live_any _).mono ?_; rintro e w' ⟨rfl, hk⟩)
    go_ret
    exact ⟨rfl, hk⟩
  have hneed := need_any bytes room w hb2 hr2
  have HN1 : Hid (bytes < 1 ∨ room < 1 → needE bytes room = 0) := fun h => by unfold needE; rw [if_pos h]
  have HN2 : Hid (1 ≤ bytes → 1 ≤ room → _) := fun h1 h2 => needs_law h1 h2 (by omega) (by omega)
  have hcase : bytes < 1 ∨ (¬ bytes < 1 ∧ room < 1) ∨ (1 ≤ bytes ∧ 1 ≤ room) := by omega
  generalize needE bytes room = nd at *
  rcases hcase with h1 | ⟨h1, h2⟩ | ⟨h1, h2⟩
  · obtain rfl := HN1.out (.inl h1)
    clear HN1 HN2
    go_enter Try.func8, Try.ntmps8
    go_wp2_with (go_at_call 22; refine hneed.mono ?_; rintro e w' ⟨rfl, rfl⟩)
    refine (join_h HL.out (by omega)).mono ?_
    rintro e w1 ⟨vp, p, e1, rfl, hres, hp, hk1⟩
    have hlp := hres.len
    have HL1 := Lib.hid (HL.out.keep hk1)
    have HP1 := Lib.hid hp
    have K1 := Lib.hid hk1
    by_cases hz : e1 = 0
    · subst hz
      have HRES := Lib.hid hres
      clear hres hp hk1 HL
      go_wp2_with (go_at_call 13; refine (num_any _ _).mono ?_; rintro e w' ⟨rfl, rfl⟩)
      go_loopw [10, 11] (fun sk i wr => ∃ k : Nat, k ≤ 200 ∧ i = .int .i64 k ∧ sk = .int .i64 (cntE l k : Int) ∧ Keep [] w1 wr) (fun _ i _ => 200 - (intOf i).toNat)
      case atStart => exact ⟨0, Nat.zero_le _, rfl, rfl, Keep.refl _ _⟩
      case round =>
        obtain ⟨k, hk, rfl, rfl, hK⟩ := hrel
        have HK := Lib.hid hK
        clear hK
        have hcl := cntE_le l k
        by_cases hlt : k < 200
        · have q1 : (k : Int) < 200 := by omega
          have q2 : (k : Int) ≤ 32768 := by omega
          have hj := any_join HRES.out (k : Int)
          have hs := cntE_succ l k
          have HS := Lib.hid hs
          have hc1 := has_h (HL1.out.keep HK.out) (by omega) (k : Int) (by omega) (by omega)
          have HP2 := Lib.hid (HP1.out.keep HK.out)
          have HL2 := Lib.hid (HL1.out.keep HK.out)
          clear hs
          cases hany : l.any (hasE (k : Int)) with
          | true =>
            rw [hany] at hj hc1
            have hs2 : cntE l (k + 1) = cntE l k + 1 := by rw [HS.out, hany]; rfl
            have HS2 := Lib.hid hs2
            have HANY := Lib.hid hany
            have HJ := Lib.hid hj
            clear hs2 HS hany hj
            go_wp2_with fail
            refine hc1.mono ?_
            rintro e w2 ⟨rfl, hk2⟩
            have hc2 := has_h (HP2.out.keep hk2) (by omega) (k : Int) (by omega) (by omega)
            rw [HJ.out] at hc2
            have HL3 := Lib.hid (HL2.out.keep hk2)
            have K2 := Lib.hid (HK.out.trans hk2 (by simp))
            clear hk2 hc1
            go_wp2_with fail
            refine hc2.mono ?_
            rintro e w3 ⟨rfl, hk3⟩
            have hc3 := has_h (HL3.out.keep hk3) (by omega) (k : Int) (by omega) (by omega)
            rw [HANY.out] at hc3
            have K3 := Lib.hid (K2.out.trans hk3 (by simp))
            clear hk3 hc2
            go_wp2_with fail
            refine hc3.mono ?_
            rintro e w4 ⟨rfl, hk4⟩
            clear hc3
            go_wp2_with fail
            go_roundw
            case rel => exact ⟨k + 1, by omega, by go_num, by rw [HS2.out]; go_num, K3.out.trans hk4 (by simp)⟩
            case measure => simp [intOf]; omega
          | false =>
            rw [hany] at hj hc1
            have hs2 : cntE l (k + 1) = cntE l k := by rw [HS.out, hany]; rfl
            have HS2 := Lib.hid hs2
            have HANY := Lib.hid hany
            have HJ := Lib.hid hj
            clear hs2 HS hany hj
            go_wp2_with fail
            refine hc1.mono ?_
            rintro e w2 ⟨rfl, hk2⟩
            have hc2 := has_h (HP2.out.keep hk2) (by omega) (k : Int) (by omega) (by omega)
            rw [HJ.out] at hc2
            have HL3 := Lib.hid (HL2.out.keep hk2)
            have K2 := Lib.hid (HK.out.trans hk2 (by simp))
            clear hk2 hc1
            go_wp2_with fail
            refine hc2.mono ?_
            rintro e w3 ⟨rfl, hk3⟩
            have hc3 := has_h (HL3.out.keep hk3) (by omega) (k : Int) (by omega) (by omega)
            rw [HANY.out] at hc3
            have K3 := Lib.hid (K2.out.trans hk3 (by simp))
            clear hk3 hc2
            go_wp2_with fail
            refine hc3.mono ?_
            rintro e w4 ⟨rfl, hk4⟩
            clear hc3
            go_wp2_with fail
            go_roundw
            case rel => exact ⟨k + 1, by omega, by go_num, by rw [HS2.out], K3.out.trans hk4 (by simp)⟩
            case measure => simp [intOf]; omega
        · have hk200 : k = 200 := by omega
          subst hk200
          obtain ⟨hlr, hok, hpr⟩ := HRES.out.ok
          have hcs : (cntE l 200 : Int) ≤ countE p := by
            have := cntE_sum hlr 200
            rw [countE_right hpr, hok.sum]
            exact this
          have hce : (countE p == countE l) = true := by rw [countE_right hpr, countE_right hlr, hok.sum]; simp
          have hcd : decide ((cntE l 200 : Int) ≤ countE p) = true := by simpa using hcs
          have HP2 := Lib.hid (HP1.out.keep HK.out)
          have HL2 := Lib.hid (HL1.out.keep HK.out)
          clear hlr hok hpr
          go_wp2_with fail
          refine (count_h HP2.out (by omega)).mono ?_
          rintro e w2 ⟨rfl, hk2⟩
          have HL3 := Lib.hid (HL2.out.keep hk2)
          have K2 := Lib.hid ((K1.out.trans HK.out (by simp)).trans hk2 (by simp))
          clear hk2
          go_wp2_with fail
          refine (count_h HL3.out (by omega)).mono ?_
          rintro e w3 ⟨rfl, hk3⟩
          have K3 := Lib.hid (K2.out.trans hk3 (by simp))
          clear hk3
          go_wp2_with fail
          refine (live_any _).mono ?_
          rintro e w4 ⟨rfl, hk4⟩
          go_wp2_with fail
          go_ret
          exact ⟨rfl, K3.out.trans hk4 (by simp)⟩
    · have hneb : (e1 != 0) = true := by simp [hz]
      clear hres hp hk1 hz
      go_wp2_with (first | (go_at_call 13; refine (num_any _ _).mono ?_; rintro e w' ⟨rfl, rfl⟩) | (go_at_call 9; refine (live_any _).mono ?_; rintro e w' ⟨rfl, hk⟩))
      go_ret
      exact ⟨rfl, K1.out.trans hk (by simp)⟩
  · obtain rfl := HN1.out (.inr h2)
    clear HN1 HN2
    go_enter Try.func8, Try.ntmps8
    go_wp2_with (go_at_call 22; refine hneed.mono ?_; rintro e w' ⟨rfl, rfl⟩)
    refine (join_h HL.out (by omega)).mono ?_
    rintro e w1 ⟨vp, p, e1, rfl, hres, hp, hk1⟩
    have hlp := hres.len
    have HL1 := Lib.hid (HL.out.keep hk1)
    have HP1 := Lib.hid hp
    have K1 := Lib.hid hk1
    by_cases hz : e1 = 0
    · subst hz
      have HRES := Lib.hid hres
      clear hres hp hk1 HL
      go_wp2_with (go_at_call 13; refine (num_any _ _).mono ?_; rintro e w' ⟨rfl, rfl⟩)
      go_loopw [10, 11] (fun sk i wr => ∃ k : Nat, k ≤ 200 ∧ i = .int .i64 k ∧ sk = .int .i64 (cntE l k : Int) ∧ Keep [] w1 wr) (fun _ i _ => 200 - (intOf i).toNat)
      case atStart => exact ⟨0, Nat.zero_le _, rfl, rfl, Keep.refl _ _⟩
      case round =>
        obtain ⟨k, hk, rfl, rfl, hK⟩ := hrel
        have HK := Lib.hid hK
        clear hK
        have hcl := cntE_le l k
        by_cases hlt : k < 200
        · have q1 : (k : Int) < 200 := by omega
          have q2 : (k : Int) ≤ 32768 := by omega
          have hj := any_join HRES.out (k : Int)
          have hs := cntE_succ l k
          have HS := Lib.hid hs
          have hc1 := has_h (HL1.out.keep HK.out) (by omega) (k : Int) (by omega) (by omega)
          have HP2 := Lib.hid (HP1.out.keep HK.out)
          have HL2 := Lib.hid (HL1.out.keep HK.out)
          clear hs
          cases hany : l.any (hasE (k : Int)) with
          | true =>
            rw [hany] at hj hc1
            have hs2 : cntE l (k + 1) = cntE l k + 1 := by rw [HS.out, hany]; rfl
            have HS2 := Lib.hid hs2
            have HANY := Lib.hid hany
            have HJ := Lib.hid hj
            clear hs2 HS hany hj
            go_wp2_with fail
            refine hc1.mono ?_
            rintro e w2 ⟨rfl, hk2⟩
            have hc2 := has_h (HP2.out.keep hk2) (by omega) (k : Int) (by omega) (by omega)
            rw [HJ.out] at hc2
            have HL3 := Lib.hid (HL2.out.keep hk2)
            have K2 := Lib.hid (HK.out.trans hk2 (by simp))
            clear hk2 hc1
            go_wp2_with fail
            refine hc2.mono ?_
            rintro e w3 ⟨rfl, hk3⟩
            have hc3 := has_h (HL3.out.keep hk3) (by omega) (k : Int) (by omega) (by omega)
            rw [HANY.out] at hc3
            have K3 := Lib.hid (K2.out.trans hk3 (by simp))
            clear hk3 hc2
            go_wp2_with fail
            refine hc3.mono ?_
            rintro e w4 ⟨rfl, hk4⟩
            clear hc3
            go_wp2_with fail
            go_roundw
            case rel => exact ⟨k + 1, by omega, by go_num, by rw [HS2.out]; go_num, K3.out.trans hk4 (by simp)⟩
            case measure => simp [intOf]; omega
          | false =>
            rw [hany] at hj hc1
            have hs2 : cntE l (k + 1) = cntE l k := by rw [HS.out, hany]; rfl
            have HS2 := Lib.hid hs2
            have HANY := Lib.hid hany
            have HJ := Lib.hid hj
            clear hs2 HS hany hj
            go_wp2_with fail
            refine hc1.mono ?_
            rintro e w2 ⟨rfl, hk2⟩
            have hc2 := has_h (HP2.out.keep hk2) (by omega) (k : Int) (by omega) (by omega)
            rw [HJ.out] at hc2
            have HL3 := Lib.hid (HL2.out.keep hk2)
            have K2 := Lib.hid (HK.out.trans hk2 (by simp))
            clear hk2 hc1
            go_wp2_with fail
            refine hc2.mono ?_
            rintro e w3 ⟨rfl, hk3⟩
            have hc3 := has_h (HL3.out.keep hk3) (by omega) (k : Int) (by omega) (by omega)
            rw [HANY.out] at hc3
            have K3 := Lib.hid (K2.out.trans hk3 (by simp))
            clear hk3 hc2
            go_wp2_with fail
            refine hc3.mono ?_
            rintro e w4 ⟨rfl, hk4⟩
            clear hc3
            go_wp2_with fail
            go_roundw
            case rel => exact ⟨k + 1, by omega, by go_num, by rw [HS2.out], K3.out.trans hk4 (by simp)⟩
            case measure => simp [intOf]; omega
        · have hk200 : k = 200 := by omega
          subst hk200
          obtain ⟨hlr, hok, hpr⟩ := HRES.out.ok
          have hcs : (cntE l 200 : Int) ≤ countE p := by
            have := cntE_sum hlr 200
            rw [countE_right hpr, hok.sum]
            exact this
          have hce : (countE p == countE l) = true := by rw [countE_right hpr, countE_right hlr, hok.sum]; simp
          have hcd : decide ((cntE l 200 : Int) ≤ countE p) = true := by simpa using hcs
          have HP2 := Lib.hid (HP1.out.keep HK.out)
          have HL2 := Lib.hid (HL1.out.keep HK.out)
          clear hlr hok hpr
          go_wp2_with fail
          refine (count_h HP2.out (by omega)).mono ?_
          rintro e w2 ⟨rfl, hk2⟩
          have HL3 := Lib.hid (HL2.out.keep hk2)
          have K2 := Lib.hid ((K1.out.trans HK.out (by simp)).trans hk2 (by simp))
          clear hk2
          go_wp2_with fail
          refine (count_h HL3.out (by omega)).mono ?_
          rintro e w3 ⟨rfl, hk3⟩
          have K3 := Lib.hid (K2.out.trans hk3 (by simp))
          clear hk3
          go_wp2_with fail
          refine (live_any _).mono ?_
          rintro e w4 ⟨rfl, hk4⟩
          go_wp2_with fail
          go_ret
          exact ⟨rfl, K3.out.trans hk4 (by simp)⟩
    · have hneb : (e1 != 0) = true := by simp [hz]
      clear hres hp hk1 hz
      go_wp2_with (first | (go_at_call 13; refine (num_any _ _).mono ?_; rintro e w' ⟨rfl, rfl⟩) | (go_at_call 9; refine (live_any _).mono ?_; rintro e w' ⟨rfl, hk⟩))
      go_ret
      exact ⟨rfl, K1.out.trans hk (by simp)⟩
  · obtain ⟨n1, n2, n3, n4, n5, n6⟩ := HN2.out h1 h2
    have d1 : decide (nd * room < bytes) = false := by simpa using n1
    have d2 : decide (bytes ≤ (nd - 1) * room) = false := by simpa using n3
    clear HN1 HN2
    have h3 : ¬ bytes < 1 := by omega
    have h4 : ¬ room < 1 := by omega
    go_enter Try.func8, Try.ntmps8
    go_wp2_with (go_at_call 22; refine hneed.mono ?_; rintro e w' ⟨rfl, rfl⟩)
    refine (join_h HL.out (by omega)).mono ?_
    rintro e w1 ⟨vp, p, e1, rfl, hres, hp, hk1⟩
    have hlp := hres.len
    have HL1 := Lib.hid (HL.out.keep hk1)
    have HP1 := Lib.hid hp
    have K1 := Lib.hid hk1
    by_cases hz : e1 = 0
    · subst hz
      have HRES := Lib.hid hres
      clear hres hp hk1 HL
      go_wp2_with (go_at_call 13; refine (num_any _ _).mono ?_; rintro e w' ⟨rfl, rfl⟩)
      go_loopw [10, 11] (fun sk i wr => ∃ k : Nat, k ≤ 200 ∧ i = .int .i64 k ∧ sk = .int .i64 (cntE l k : Int) ∧ Keep [] w1 wr) (fun _ i _ => 200 - (intOf i).toNat)
      case atStart => exact ⟨0, Nat.zero_le _, rfl, rfl, Keep.refl _ _⟩
      case round =>
        obtain ⟨k, hk, rfl, rfl, hK⟩ := hrel
        have HK := Lib.hid hK
        clear hK
        have hcl := cntE_le l k
        by_cases hlt : k < 200
        · have q1 : (k : Int) < 200 := by omega
          have q2 : (k : Int) ≤ 32768 := by omega
          have hj := any_join HRES.out (k : Int)
          have hs := cntE_succ l k
          have HS := Lib.hid hs
          have hc1 := has_h (HL1.out.keep HK.out) (by omega) (k : Int) (by omega) (by omega)
          have HP2 := Lib.hid (HP1.out.keep HK.out)
          have HL2 := Lib.hid (HL1.out.keep HK.out)
          clear hs
          cases hany : l.any (hasE (k : Int)) with
          | true =>
            rw [hany] at hj hc1
            have hs2 : cntE l (k + 1) = cntE l k + 1 := by rw [HS.out, hany]; rfl
            have HS2 := Lib.hid hs2
            have HANY := Lib.hid hany
            have HJ := Lib.hid hj
            clear hs2 HS hany hj
            go_wp2_with fail
            refine hc1.mono ?_
            rintro e w2 ⟨rfl, hk2⟩
            have hc2 := has_h (HP2.out.keep hk2) (by omega) (k : Int) (by omega) (by omega)
            rw [HJ.out] at hc2
            have HL3 := Lib.hid (HL2.out.keep hk2)
            have K2 := Lib.hid (HK.out.trans hk2 (by simp))
            clear hk2 hc1
            go_wp2_with fail
            refine hc2.mono ?_
            rintro e w3 ⟨rfl, hk3⟩
            have hc3 := has_h (HL3.out.keep hk3) (by omega) (k : Int) (by omega) (by omega)
            rw [HANY.out] at hc3
            have K3 := Lib.hid (K2.out.trans hk3 (by simp))
            clear hk3 hc2
            go_wp2_with fail
            refine hc3.mono ?_
            rintro e w4 ⟨rfl, hk4⟩
            clear hc3
            go_wp2_with fail
            go_roundw
            case rel => exact ⟨k + 1, by omega, by go_num, by rw [HS2.out]; go_num, K3.out.trans hk4 (by simp)⟩
            case measure => simp [intOf]; omega
          | false =>
            rw [hany] at hj hc1
            have hs2 : cntE l (k + 1) = cntE l k := by rw [HS.out, hany]; rfl
            have HS2 := Lib.hid hs2
            have HANY := Lib.hid hany
            have HJ := Lib.hid hj
            clear hs2 HS hany hj
            go_wp2_with fail
            refine hc1.mono ?_
            rintro e w2 ⟨rfl, hk2⟩
            have hc2 := has_h (HP2.out.keep hk2) (by omega) (k : Int) (by omega) (by omega)
            rw [HJ.out] at hc2
            have HL3 := Lib.hid (HL2.out.keep hk2)
            have K2 := Lib.hid (HK.out.trans hk2 (by simp))
            clear hk2 hc1
            go_wp2_with fail
            refine hc2.mono ?_
            rintro e w3 ⟨rfl, hk3⟩
            have hc3 := has_h (HL3.out.keep hk3) (by omega) (k : Int) (by omega) (by omega)
            rw [HANY.out] at hc3
            have K3 := Lib.hid (K2.out.trans hk3 (by simp))
            clear hk3 hc2
            go_wp2_with fail
            refine hc3.mono ?_
            rintro e w4 ⟨rfl, hk4⟩
            clear hc3
            go_wp2_with fail
            go_roundw
            case rel => exact ⟨k + 1, by omega, by go_num, by rw [HS2.out], K3.out.trans hk4 (by simp)⟩
            case measure => simp [intOf]; omega
        · have hk200 : k = 200 := by omega
          subst hk200
          obtain ⟨hlr, hok, hpr⟩ := HRES.out.ok
          have hcs : (cntE l 200 : Int) ≤ countE p := by
            have := cntE_sum hlr 200
            rw [countE_right hpr, hok.sum]
            exact this
          have hce : (countE p == countE l) = true := by rw [countE_right hpr, countE_right hlr, hok.sum]; simp
          have hcd : decide ((cntE l 200 : Int) ≤ countE p) = true := by simpa using hcs
          have HP2 := Lib.hid (HP1.out.keep HK.out)
          have HL2 := Lib.hid (HL1.out.keep HK.out)
          clear hlr hok hpr
          go_wp2_with fail
          refine (count_h HP2.out (by omega)).mono ?_
          rintro e w2 ⟨rfl, hk2⟩
          have HL3 := Lib.hid (HL2.out.keep hk2)
          have K2 := Lib.hid ((K1.out.trans HK.out (by simp)).trans hk2 (by simp))
          clear hk2
          go_wp2_with fail
          refine (count_h HL3.out (by omega)).mono ?_
          rintro e w3 ⟨rfl, hk3⟩
          have K3 := Lib.hid (K2.out.trans hk3 (by simp))
          clear hk3
          go_wp2_with fail
          refine (live_any _).mono ?_
          rintro e w4 ⟨rfl, hk4⟩
          go_wp2_with fail
          go_ret
          exact ⟨rfl, K3.out.trans hk4 (by simp)⟩
    · have hneb : (e1 != 0) = true := by simp [hz]
      clear hres hp hk1 hz
      go_wp2_with (first | (go_at_call 13; refine (num_any _ _).mono ?_; rintro e w' ⟨rfl, rfl⟩) | (go_at_call 9; refine (live_any _).mono ?_; rintro e w' ⟨rfl, hk⟩))
      go_ret
      exact ⟨rfl, K1.out.trans hk (by simp)⟩
end Go.Proofs.Ytlfhnbdeadiedaa
