/- Scanning: escape (the program's). -/
import Derived.Test.YtiiklakfelbjfaaDoorSc1
namespace Go.Proofs.YtiiklakfelbjfaaDoor
open Go.RowKit Go.Emb

theorem hex_bits (a b : Nat) (ha : a < 16) (hb : b < 16) : IntKind.u8.wrap (bits BinOp.or IntKind.i64 (IntKind.i64.wrap ((a : Int) * 16)) (b : Int)) = ((UInt8.ofNat (16 * a + b)).toNat : Int) := by
  have h : ∀ x y : Fin 16, IntKind.u8.wrap (bits BinOp.or IntKind.i64 (IntKind.i64.wrap ((x.val : Int) * 16)) (y.val : Int)) = ((UInt8.ofNat (16 * x.val + y.val)).toNat : Int) := by decide +kernel
  exact h ⟨a, ha⟩ ⟨b, hb⟩
set_option maxRecDepth 100000 in
set_option maxHeartbeats 1000000 in
theorem p_escape (s : ByteArray) (w : World) (hs : s.size ≤ 140737488355328) : Calls Tryd.prog 41 #[.string s] w fun e w' => e = .returned (.tuple #[.int .u8 ((escV s.data.toList).1 : Nat), .int .i64 ((escV s.data.toList).2 : Nat)]) ∧ Keep [] w w' := by
  obtain ⟨R, hR⟩ : ∃ R, R = escV s.data.toList := ⟨_, rfl⟩
  have HR := Lib.hid hR
  rw [← hR]
  clear hR
  by_cases h1 : 1 < s.size
  · have i1 : (1 : Int) < (s.size : Int) := by omega
    have i1' : (2 : Int) ≤ (s.size : Int) := by omega
    by_cases c1 : s[1].toNat = 39
    · have hres : R = (39, 2) := by rw [HR.out]; unfold escV; rw [escN_two s h1 (.inl c1)]; simp only [c1]
      have HRES := Lib.hid hres
      have c1' : (s[1].toNat : Int) = 39 := by omega
      clear hres c1
      go_enter Tryd.func41, Tryd.ntmps41
      go_wp2_with fail
      refine bodyPost_ret (results_tmp2 rfl _ _ _) rfl ?_
      exact ⟨by rw [HRES.out]; rfl, Keep.refl _ _⟩
    · have c1' : ((s[1].toNat : Int) == 39) = false := beq_eq_false_iff_ne.2 (by omega)
      by_cases c2 : s[1].toNat = 92
      · have hres : R = (92, 2) := by rw [HR.out]; unfold escV; rw [escN_two s h1 (.inr c2)]; simp only [c2]
        have HRES := Lib.hid hres
        have c2' : (s[1].toNat : Int) = 92 := by omega
        clear hres c2 c1
        go_enter Tryd.func41, Tryd.ntmps41
        go_wp2_with fail
        refine bodyPost_ret (results_tmp2 rfl _ _ _) rfl ?_
        exact ⟨by rw [HRES.out]; rfl, Keep.refl _ _⟩
      · have c2' : ((s[1].toNat : Int) == 92) = false := beq_eq_false_iff_ne.2 (by omega)
        have hno : ¬ (s[1].toNat = 39 ∨ s[1].toNat = 92) := fun h => h.elim c1 c2
        by_cases h4 : 3 < s.size
        · have i4 : (4 : Int) ≤ (s.size : Int) := by omega
          have i3 : (3 : Int) < (s.size : Int) := by omega
          have i2 : (2 : Int) < (s.size : Int) := by omega
          by_cases c3 : s[1].toNat = 120
          · have c3' : (s[1].toNat : Int) = 120 := by omega
            have hrun := p_run (s.extract 2 4) ⟨#[48, 49, 50, 51, 52, 53, 54, 55, 56, 57, 97, 98, 99, 100, 101, 102]⟩ w (by simp; omega)
            obtain ⟨n, hn⟩ : ∃ n, n = runN (s.extract 2 4).data.toList hexL := ⟨_, rfl⟩
            simp only [← hn] at hrun
            have HRUN := Lib.hid hrun
            clear hrun
            by_cases h5 : n = 2
            · obtain ⟨b1, b2, b3⟩ := escN_four s h4 c3 (by rw [← hn]; exact h5)
              have hres : R = ((UInt8.ofNat (16 * hexV s[2] + hexV s[3])).toNat, 4) := by rw [HR.out]; unfold escV; rw [b3]
              have HRES := Lib.hid hres
              have hx1 := hex_index _ b1
              have hx2 := hex_index _ b2
              have hl1 := hexV_lt _ b1
              have hl2 := hexV_lt _ b2
              have HX1 := Lib.hid hx1
              have HX2 := Lib.hid hx2
              subst h5
              clear hres hx1 hx2 b1 b2 b3 hn c1 c2 c3
              go_enter Tryd.func41, Tryd.ntmps41
              go_wp2_with fail
              refine HRUN.out.mono ?_
              rintro e w2 ⟨rfl, rfl⟩
              go_wp2_with fail
              refine wp_region_held_drew (S := fun w' => Keep [] w w') (by kernel_rfl) ((Keep.refl [] w).drew) (fun hHeld => ?_)
              have HS0 := Lib.hid hHeld
              clear hHeld
              have hHeld := HS0.out
              generalize w.drew = w8 at *
              refine wpAnyH_takeL (i := 0) (v := ?vE0) rfl (by kernel_rfl) (by kernel_rfl) (by kernel_rfl) (fun _ _ _ h => h) (Or.inl ⟨by kernel_rfl, ?runE0⟩) hHeld ?_
              case runE0 => (intro w9 hS9; go_simp; try exact rfl)
              try simp only [Act.put, List.setIfInBounds_toArray, List.set_cons_zero, List.set_cons_succ]
              refine wpAnyH_takeL (i := 4) (v := ?vE4) rfl (by kernel_rfl) (by kernel_rfl) (by kernel_rfl) (fun _ _ _ h => h) (Or.inl ⟨by kernel_rfl, ?runE4⟩) hHeld ?_
              case runE4 => (intro w9 hS9; go_simp; try exact rfl)
              try simp only [Act.put, List.setIfInBounds_toArray, List.set_cons_zero, List.set_cons_succ]
              refine wpAnyH_takeL (i := 1) (v := ?vE1) rfl (by kernel_rfl) (by kernel_rfl) (by kernel_rfl) (fun _ _ _ h => h) (Or.inl ⟨by kernel_rfl, ?runE1⟩) hHeld ?_
              case runE1 => (intro w9 hS9; go_simp; try exact rfl)
              try simp only [Act.put, List.setIfInBounds_toArray, List.set_cons_zero, List.set_cons_succ]
              refine wpAnyH_takeL (i := 5) (v := ?vE5) rfl (by kernel_rfl) (by kernel_rfl) (by kernel_rfl) (fun _ _ _ h => h) (Or.inl ⟨by kernel_rfl, ?runE5⟩) hHeld ?_
              case runE5 => (intro w9 hS9; go_simp; try exact rfl)
              try simp only [Act.put, List.setIfInBounds_toArray, List.set_cons_zero, List.set_cons_succ]
              refine wpAnyH_ready (rs := [2]) (by kernel_rfl) (by simp) ?_
              refine AllReadyH.consL rfl (fun K hK => ?_) AllReadyH.nil
              go_simp
              refine ((Tryd.strings_IndexByte ⟨#[48, 49, 50, 51, 52, 53, 54, 55, 56, 57, 97, 98, 99, 100, 101, 102]⟩ (s[2].toNat : Int) w8).mono (R' := fun e w' => e = .returned (.int .i64 (hexV s[2])) ∧ w8 = w') (fun e w' h => ⟨by rw [h.1]; simp [HX1.out], h.2.symm⟩)).mono ?_
              rintro e wn ⟨rfl, rfl⟩
              clear hHeld
              go_wp2_with fail
              refine hK.out _ _ HS0.out (fun hHeld => ?_)
              clear hK K
              try simp only [Act.put, List.setIfInBounds_toArray, List.set_cons_zero, List.set_cons_succ]
              refine wpAnyH_takeL (i := 3) (v := ?vE3) rfl (by kernel_rfl) (by kernel_rfl) (by kernel_rfl) (fun _ _ _ h => h) (Or.inl ⟨by kernel_rfl, ?runE3⟩) hHeld ?_
              case runE3 => (intro w9 hS9; go_simp; try exact rfl)
              try simp only [Act.put, List.setIfInBounds_toArray, List.set_cons_zero, List.set_cons_succ]
              refine wpAnyH_ready (rs := [6]) (by kernel_rfl) (by simp) ?_
              refine AllReadyH.consL rfl (fun K hK => ?_) AllReadyH.nil
              go_simp
              refine ((Tryd.strings_IndexByte ⟨#[48, 49, 50, 51, 52, 53, 54, 55, 56, 57, 97, 98, 99, 100, 101, 102]⟩ (s[3].toNat : Int) w8).mono (R' := fun e w' => e = .returned (.int .i64 (hexV s[3])) ∧ w8 = w') (fun e w' h => ⟨by rw [h.1]; simp [HX2.out], h.2.symm⟩)).mono ?_
              rintro e wn ⟨rfl, rfl⟩
              clear hHeld
              go_wp2_with fail
              refine hK.out _ _ HS0.out (fun hHeld => ?_)
              clear hK K
              try simp only [Act.put, List.setIfInBounds_toArray, List.set_cons_zero, List.set_cons_succ]
              refine wpAnyH_takeL (i := 7) (v := ?vE7) rfl (by kernel_rfl) (by kernel_rfl) (by kernel_rfl) (fun _ _ _ h => h) (Or.inl ⟨by kernel_rfl, ?runE7⟩) hHeld ?_
              case runE7 => (intro w9 hS9; go_simp; try exact rfl)
              try simp only [Act.put, List.setIfInBounds_toArray, List.set_cons_zero, List.set_cons_succ]
              refine wpAnyH_takeL (i := 8) (v := ?vE8) rfl (by kernel_rfl) (by kernel_rfl) (by kernel_rfl) (fun _ _ _ h => h) (Or.inl ⟨by kernel_rfl, ?runE8⟩) hHeld ?_
              case runE8 => (intro w9 hS9; go_simp; try exact rfl)
              try simp only [Act.put, List.setIfInBounds_toArray, List.set_cons_zero, List.set_cons_succ]
              refine wpAnyH_takeL (i := 9) (v := ?vE9) rfl (by kernel_rfl) (by kernel_rfl) (by kernel_rfl) (fun _ _ _ h => h) (Or.inl ⟨by kernel_rfl, ?runE9⟩) hHeld ?_
              case runE9 => (intro w9 hS9; go_simp; try exact rfl)
              try simp only [Act.put, List.setIfInBounds_toArray, List.set_cons_zero, List.set_cons_succ]
              refine wpAnyH_takeL (i := 10) (v := ?vE10) rfl (by kernel_rfl) (by kernel_rfl) (by kernel_rfl) (fun _ _ _ h => h) (Or.inl ⟨by kernel_rfl, ?runE10⟩) hHeld ?_
              case runE10 => (intro w9 hS9; go_simp; try exact rfl)
              try simp only [Act.put, List.setIfInBounds_toArray, List.set_cons_zero, List.set_cons_succ]
              refine wpAnyH_done (by kernel_rfl) ?_ _
              clear hHeld
              go_wp2_with fail
              refine bodyPost_ret (results_tmp2 rfl _ _ _) rfl ?_
              refine ⟨?_, HS0.out⟩
              rw [HRES.out]
              have hb := hex_bits _ _ hl1 hl2
              simp [hb]
            · have hres : R = (0, 0) := by rw [HR.out]; unfold escV; rw [escN_none s h1 hno (.inr (.inr (by rw [← hn]; exact h5)))]
              have HRES := Lib.hid hres
              have h5' : ((n : Int) == 2) = false := beq_eq_false_iff_ne.2 (by omega)
              clear hres c1 c2 hn h5
              go_enter Tryd.func41, Tryd.ntmps41
              go_wp2_with fail
              refine HRUN.out.mono ?_
              rintro e w2 ⟨rfl, rfl⟩
              go_wp2_with fail
              refine bodyPost_ret (results_tmp2 rfl _ _ _) rfl ?_
              exact ⟨by rw [HRES.out]; rfl, Keep.refl _ _⟩
          · have c3' : ((s[1].toNat : Int) == 120) = false := beq_eq_false_iff_ne.2 (by omega)
            have hres : R = (0, 0) := by rw [HR.out]; unfold escV; rw [escN_none s h1 hno (.inl c3)]
            have HRES := Lib.hid hres
            clear hres c1 c2 c3
            go_enter Tryd.func41, Tryd.ntmps41
            go_wp2_with fail
            refine bodyPost_ret (results_tmp2 rfl _ _ _) rfl ?_
            exact ⟨by rw [HRES.out]; rfl, Keep.refl _ _⟩
        · have i4 : ¬ (4 : Int) ≤ (s.size : Int) := by omega
          have hres : R = (0, 0) := by rw [HR.out]; unfold escV; rw [escN_none s h1 hno (.inr (.inl (by omega)))]
          have HRES := Lib.hid hres
          clear hres c1 c2
          go_enter Tryd.func41, Tryd.ntmps41
          go_wp2_with fail
          refine bodyPost_ret (results_tmp2 rfl _ _ _) rfl ?_
          exact ⟨by rw [HRES.out]; rfl, Keep.refl _ _⟩
  · have i1 : ¬ (1 : Int) < (s.size : Int) := by omega
    have i1' : ¬ (2 : Int) ≤ (s.size : Int) := by omega
    have i4 : ¬ (4 : Int) ≤ (s.size : Int) := by omega
    have hres : R = (0, 0) := by rw [HR.out]; unfold escV; rw [escN_short s (by omega)]
    have HRES := Lib.hid hres
    clear hres
    go_enter Tryd.func41, Tryd.ntmps41
    go_wp2_with fail
    refine bodyPost_ret (results_tmp2 rfl _ _ _) rfl ?_
    exact ⟨by rw [HRES.out]; rfl, Keep.refl _ _⟩
end Go.Proofs.YtiiklakfelbjfaaDoor
