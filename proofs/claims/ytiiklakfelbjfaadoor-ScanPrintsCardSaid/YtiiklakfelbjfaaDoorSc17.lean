/- Terms: the document's Digits, at every int64 that is not the least (the text Tm20 for the scan seat). -/
import Derived.Test.YtiiklakfelbjfaaDoorSc16
import Derived.Test.YtiiklakfelbjfaaDoorBaseReg
namespace Go.Proofs.YtiiklakfelbjfaaDoor
open Go.RowKit Go.Emb

theorem bytes_add (a b : List UInt8) : (⟨a.toArray⟩ : ByteArray) ++ ⟨b.toArray⟩ = ⟨(a ++ b).toArray⟩ := by
  apply ByteArray.ext; simp
theorem digits_step (u : Nat) (h : ¬ u < 10) : (⟨(Lib.decDigits (u / 10)).toArray⟩ : ByteArray) ++ digitAt (u % 10) = ⟨(Lib.decDigits u).toArray⟩ := by
  unfold digitAt
  rw [show (⟨#[UInt8.ofNat (48 + u % 10)]⟩ : ByteArray) = ⟨[UInt8.ofNat (48 + u % 10)].toArray⟩ from rfl, bytes_add]
  rw [Lib.decDigits.eq_1 u, dif_neg h]
theorem digits_one (u : Nat) (h : u < 10) : digitAt u = ⟨(Lib.decDigits u).toArray⟩ := by
  rw [Lib.decDigits_one h]; rfl
set_option maxHeartbeats 1000000 in
theorem r_digitsN : ∀ (N u : Nat), u ≤ N → u ≤ 9223372036854775807 → ∀ w : World, Calls Tryd.prog 33 #[.int .i64 (u : Int)] w fun e w' => e = .returned (.string ⟨(Lib.decDigits u).toArray⟩) ∧ Keep [] w w' := by
  intro N
  induction N with
  | zero =>
    intro u h0 _ w
    obtain rfl : u = 0 := by omega
    have hd := digit_at 0 (by omega)
    have ho := digits_one 0 (by omega)
    have HD := Lib.hid hd
    have HO := Lib.hid ho
    clear hd ho
    go_enter Tryd.func33, Tryd.ntmps33
    go_wp2_with fail
    go_ret
    exact ⟨by rw [← HO.out]; rfl, Keep.refl _ _⟩
  | succ N ih =>
    intro u h0 h1 w
    by_cases hlt : u < 10
    · have hd := digit_at u hlt
      have ho := digits_one u hlt
      have HD := Lib.hid hd
      have HO := Lib.hid ho
      clear hd ho
      have q0 : (0 : Int) ≤ (u : Int) := by omega
      have q1 : (u : Int) < 10 := by omega
      have q2 : ¬ (u : Int) < 0 := by omega
      go_enter Tryd.func33, Tryd.ntmps33
      go_wp2_with fail
      go_ret
      exact ⟨by rw [← HO.out, ← HD.out]; rfl, Keep.refl _ _⟩
    · have hcall := ih (u / 10) (by omega) (by omega)
      have IH := Lib.hid hcall
      have hs := digits_step u hlt
      have HS := Lib.hid hs
      have hd := digit_at (u % 10) (by omega)
      rw [show u % 10 = ((u : Int) % 10).toNat from by omega, show ((u : Int) % 10).toNat + 1 = ((u : Int) % 10 + 1).toNat from by omega] at hd
      have hl := decDigits_le 19 (u / 10) (by omega) (by omega)
      have HDI : Hid ((⟨#[48, 49, 50, 51, 52, 53, 54, 55, 56, 57]⟩ : ByteArray).extract ((u : Int) % 10).toNat ((u : Int) % 10 + 1).toNat = digitAt (u % 10)) := Lib.hid (by rw [hd, show ((u : Int) % 10).toNat = u % 10 from by omega])
      have HLE := Lib.hid hl
      clear ih hcall hs hd hl
      have q0 : (0 : Int) ≤ (u : Int) := by omega
      have q1 : ¬ (u : Int) < 10 := by omega
      have q2 : ¬ (u : Int) < 0 := by omega
      have w1 : IntKind.i64.wrap ((u : Int) / 10) = (u : Int) / 10 := IntWalk.i64_in _ (by omega)
      have w2 : IntKind.i64.wrap ((u : Int) % 10) = (u : Int) % 10 := IntWalk.i64_in _ (by omega)
      have w3 : IntKind.i64.wrap ((u : Int) % 10 + 1) = (u : Int) % 10 + 1 := IntWalk.i64_in _ (by omega)
      have t1 : (u : Int).tdiv 10 = (u : Int) / 10 := Int.tdiv_eq_ediv_of_nonneg (by omega)
      have t2 : (u : Int).tmod 10 = (u : Int) % 10 := Int.tmod_eq_emod_of_nonneg (by omega)
      have r1 : (0 : Int) ≤ (u : Int) % 10 := by omega
      have r2 : (u : Int) % 10 + 1 ≤ 10 := by omega
      have r3 : (u : Int) % 10 ≤ (u : Int) % 10 + 1 := by omega
      go_enter Tryd.func33, Tryd.ntmps33
      go_wp2_with fail
      refine wp_region_held_drew (S := fun w' => Keep [] w w') (by kernel_rfl) ((Keep.refl [] w).drew) (fun hHeld => ?_)
      refine wpAnyH_takeL (i := 0) (v := ?v0) rfl (by kernel_rfl) (by kernel_rfl) (by kernel_rfl) (fun _ _ _ h => h) (Or.inl ⟨by kernel_rfl, ?run0⟩) hHeld ?_
      case run0 => (intro w9 hS9; go_simp; try exact rfl)
      try simp only [Act.put, List.setIfInBounds_toArray, List.set_cons_zero, List.set_cons_succ]
      refine wpAnyH_takeL (i := 1) (v := .int .i64 ((u : Int) / 10)) rfl (by kernel_rfl) (by kernel_rfl) (by kernel_rfl) (fun _ _ _ h => h) (Or.inl ⟨by kernel_rfl, ?run1⟩) hHeld ?_
      case run1 => (intro w9 hS9; go_simp; first | done | exact rfl | (simp [*]; done) | (simp; omega))
      try simp only [Act.put, List.setIfInBounds_toArray, List.set_cons_zero, List.set_cons_succ]
      refine wpAnyH_takeL (i := 3) (v := ?v3) rfl (by kernel_rfl) (by kernel_rfl) (by kernel_rfl) (fun _ _ _ h => h) (Or.inl ⟨by kernel_rfl, ?run3⟩) hHeld ?_
      case run3 => (intro w9 hS9; go_simp; try exact rfl)
      try simp only [Act.put, List.setIfInBounds_toArray, List.set_cons_zero, List.set_cons_succ]
      refine wpAnyH_takeL (i := 4) (v := .int .i64 ((u : Int) % 10)) rfl (by kernel_rfl) (by kernel_rfl) (by kernel_rfl) (fun _ _ _ h => h) (Or.inl ⟨by kernel_rfl, ?run4⟩) hHeld ?_
      case run4 => (intro w9 hS9; go_simp; first | done | exact rfl | (simp [*]; done) | (simp; omega))
      try simp only [Act.put, List.setIfInBounds_toArray, List.set_cons_zero, List.set_cons_succ]
      refine wpAnyH_takeL (i := 5) (v := ?v5) rfl (by kernel_rfl) (by kernel_rfl) (by kernel_rfl) (fun _ _ _ h => h) (Or.inl ⟨by kernel_rfl, ?run5⟩) hHeld ?_
      case run5 => (intro w9 hS9; go_simp; try exact rfl)
      try simp only [Act.put, List.setIfInBounds_toArray, List.set_cons_zero, List.set_cons_succ]
      refine wpAnyH_takeL (i := 6) (v := .int .i64 ((u : Int) % 10)) rfl (by kernel_rfl) (by kernel_rfl) (by kernel_rfl) (fun _ _ _ h => h) (Or.inl ⟨by kernel_rfl, ?run6⟩) hHeld ?_
      case run6 => (intro w9 hS9; go_simp; first | done | exact rfl | (simp [*]; done) | (simp; omega))
      try simp only [Act.put, List.setIfInBounds_toArray, List.set_cons_zero, List.set_cons_succ]
      refine wpAnyH_takeL (i := 7) (v := .int .i64 ((u : Int) % 10 + 1)) rfl (by kernel_rfl) (by kernel_rfl) (by kernel_rfl) (fun _ _ _ h => h) (Or.inl ⟨by kernel_rfl, ?run7⟩) hHeld ?_
      case run7 => (intro w9 hS9; go_simp; first | done | exact rfl | (simp [*]; done) | (simp; omega))
      try simp only [Act.put, List.setIfInBounds_toArray, List.set_cons_zero, List.set_cons_succ]
      refine wpAnyH_takeL (i := 8) (v := .string (digitAt (u % 10))) rfl (by kernel_rfl) (by kernel_rfl) (by kernel_rfl) (fun _ _ _ h => h) (Or.inl ⟨by kernel_rfl, ?run8⟩) hHeld ?_
      case run8 => (intro w9 hS9; go_simp; rw [HDI.out])
      try simp only [Act.put, List.setIfInBounds_toArray, List.set_cons_zero, List.set_cons_succ]
      refine wpAnyH_ready (rs := [2]) (by kernel_rfl) (by simp) ?_
      refine AllReadyH.consL rfl (fun K hK => ?_) AllReadyH.nil
      go_simp
      rw [show (u : Int) / 10 = ((u / 10 : Nat) : Int) from by omega]
      refine (IH.out _).mono ?_
      rintro e wc1 ⟨rfl, hc1⟩
      have HC1 := Lib.hid (((Keep.refl [] w).drew).trans hc1 (by simp))
      clear hc1
      go_wp2_with fail
      refine hK.out _ _ HC1.out (fun hHeld2 => ?_)
      clear hK K hHeld
      have hHeld := hHeld2
      clear hHeld2
      try simp only [Act.put, List.setIfInBounds_toArray, List.set_cons_zero, List.set_cons_succ]
      refine wpAnyH_takeL (i := 9) (v := .string ⟨(Lib.decDigits u).toArray⟩) rfl (by kernel_rfl) (by kernel_rfl) (by kernel_rfl) (fun _ _ _ h => h) (Or.inl ⟨by kernel_rfl, ?run9⟩) hHeld ?_
      case run9 => (intro w9 hS9; go_simp; rw [if_neg (by have := HLE.out; have : (digitAt (u % 10)).size = 1 := rfl; omega), HS.out])
      try simp only [Act.put, List.setIfInBounds_toArray, List.set_cons_zero, List.set_cons_succ]
      refine wpAnyH_ready (rs := [10]) (by kernel_rfl) (by simp) ?_
      refine AllReadyH.consL rfl (fun K hK => ?_) AllReadyH.nil
      go_simp
      refine hK.out _ _ HC1.out (fun hHeld => ?_)
      clear hK K
      try simp only [Act.put, List.setIfInBounds_toArray, List.set_cons_zero, List.set_cons_succ]
      refine wpAnyH_done (by kernel_rfl) ?_ _
      go_wp2_with fail
      go_ret
      exact ⟨rfl, HC1.out⟩
theorem r_digits {n : Int} {w : World} (h0 : -9223372036854775807 ≤ n) (h1 : n ≤ 9223372036854775807) : Calls Tryd.prog 33 #[.int .i64 n] w fun e w' => e = .returned (.string ⟨(Lib.itoa n).toArray⟩) ∧ Keep [] w w' := by
  by_cases hn : n < 0
  · obtain ⟨u, rfl⟩ : ∃ u : Nat, n = -(u : Int) := ⟨n.natAbs, by omega⟩
    have hcall := r_digitsN u u (Nat.le_refl _) (by omega) w
    have hl := decDigits_le 19 u (by omega) (by omega)
    have hi : (⟨#[45]⟩ : ByteArray) ++ ⟨(Lib.decDigits u).toArray⟩ = ⟨(Lib.itoa (-(u : Int))).toArray⟩ := by
      unfold Lib.itoa
      rw [if_pos hn, Int.natAbs_neg, Int.natAbs_natCast, show (⟨#[45]⟩ : ByteArray) = ⟨[45].toArray⟩ from rfl, bytes_add]; rfl
    have HI := Lib.hid hi
    have HC := Lib.hid hcall
    have w1 : IntKind.i64.wrap (-(-(u : Int))) = (u : Int) := by rw [Int.neg_neg]; exact IntWalk.i64_in _ (by omega)
    have w2 : IntKind.i64.wrap (u : Int) = (u : Int) := IntWalk.i64_in _ (by omega)
    clear hi hcall
    go_enter Tryd.func33, Tryd.ntmps33
    go_wp2_with fail
    refine HC.out.mono ?_
    rintro e w2 ⟨rfl, hk2⟩
    go_wp2_with fail
    go_ret
    exact ⟨by rw [← HI.out]; rfl, hk2⟩
  · obtain ⟨u, rfl⟩ : ∃ u : Nat, n = (u : Int) := ⟨n.toNat, by omega⟩
    have hi : Lib.itoa (u : Int) = Lib.decDigits u := by unfold Lib.itoa; rw [if_neg hn]; simp
    rw [hi]
    exact r_digitsN u u (Nat.le_refl _) (by omega) w
end Go.Proofs.YtiiklakfelbjfaaDoor
