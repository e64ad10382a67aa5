/- The walk of ExtentFirst. -/
import Derived.Test.YtlfhnbdeadiedaaExtLaws
namespace Go.Proofs.Ytlfhnbdeadiedaa
open Go.RowKit Go.Emb Go.Lib Go.Emb.Ext Go.Shelf Go.Sort

set_option maxRecDepth 100000 in
set_option maxHeartbeats 2000000 in
theorem first_walk {w : World} {v : Value} {l : List E} (hr : HasE w v l) (n : Int) :
    Calls Try.prog 6 #[.int .i64 n, v] w fun e w' => e = .returned (.bool true) ∧ Keep [] w w' := by
  obtain ⟨a, c, rfl⟩ := hr.slice
  have HR := Lib.hid hr
  clear hr
  by_cases h60 : 60 < l.length
  · have h60' : (60 : Int) < (l.length : Int) := by omega
    go_enter Try.func6, Try.ntmps6
    go_wp2_with (go_at_call 9; refine (live_any _).mono ?_; rintro e w' ⟨rfl, hk⟩)
    go_ret
    exact ⟨rfl, hk⟩
  have h60' : ¬ (60 : Int) < (l.length : Int) := by omega
  by_cases hn1 : n < 1
  · go_enter Try.func6, Try.ntmps6
    go_wp2_with (go_at_call 9; refine (live_any _).mono ?_; rintro e w' ⟨rfl, hk⟩)
    go_ret
    exact ⟨rfl, hk⟩
  by_cases hn2 : 16384 < n
  · go_enter Try.func6, Try.ntmps6
    go_wp2_with (go_at_call 9; refine (live_any _).mono ?_; rintro e w' ⟨rfl, hk⟩)
    go_ret
    exact ⟨rfl, hk⟩
  go_enter Try.func6, Try.ntmps6
  go_wp2_with fail
  refine (join_h HR.out (by omega)).mono ?_
  rintro e w1 ⟨vp, p, e1, rfl, hres, hp, hk1⟩
  have HR1 := Lib.hid (HR.out.keep hk1)
  by_cases hz : e1 = 0
  · subst hz
    have hpl : p.length ≤ l.length := hres.ok.2.1.len
    have hpc := countE_bd p
    have HRES := Lib.hid hres
    have HP := Lib.hid hp
    have K1 := Lib.hid hk1
    clear hres hp hk1 HR
    go_wp2_with (go_at_call 13; refine (num_any _ _).mono ?_; rintro e w' ⟨rfl, rfl⟩)
    refine (take_h n 1 HR1.out (by omega) (by omega)).mono ?_
    rintro e w2 ⟨vg, vl, got, left, f, rfl, hres2, hg, hl, hk2⟩
    obtain ⟨hA, hB⟩ := first_law (by omega) (by omega) HRES.out hres2
    have HP2 := Lib.hid (HP.out.keep hk2)
    have HG := Lib.hid hg
    have HL := Lib.hid hl
    have K2 := Lib.hid (K1.out.trans hk2 (by simp))
    have HA := Lib.hid hA
    have HB := Lib.hid hB
    clear hres2 hg hl hk2 hA hB HP K1 HR1 HRES
    obtain ⟨ap, cp, rfl⟩ := HP2.out.slice
    go_wp2_with fail
    go_loopw [10] (fun i wr => ∃ k : Nat, k ≤ p.length ∧ i = .int .i64 k ∧ (∀ j (hj : j < p.length), j < k → p[j].2 < n) ∧ wr = w2) (fun i _ => p.length - (intOf i).toNat)
    case atStart => exact ⟨0, Nat.zero_le _, rfl, fun j _ hj => absurd hj (Nat.not_lt_zero _), rfl⟩
    case round =>
      obtain ⟨k, hk, rfl, hno, rfl⟩ := hrel
      have HNO := Lib.hid hno
      clear hno
      by_cases hlt : k < p.length
      · obtain ⟨op, hrdp, -⟩ := HP2.out
        obtain ⟨b, off, rfl, -, c0, c1⟩ := hrdp.at hlt
        have hA := HA.out k hlt
        have hno1 : p[k].2 < n → ∀ j (hj : j < p.length), j < k + 1 → p[j].2 < n := by
          intro h j hj hj2
          by_cases e : j = k
          · subst e; exact h
          · exact HNO.out j hj (by omega)
        have HNO1 := Lib.hid hno1
        have HA1 := Lib.hid hA
        clear hrdp hA hno1 HA HB
        generalize p[k] = x at *
        obtain ⟨x1, x2⟩ := x
        simp only at c0 c1
        have q0 : (0 : Int) ≤ (k : Int) := by omega
        have q1 : (k : Int) < (p.length : Int) := by omega
        by_cases hge : n ≤ x2
        · obtain ⟨hf, hgt, hcl, hll⟩ := HA1.out hge (fun j hj => HNO.out j (by omega) hj)
          subst hf hgt
          have hclb : (countE left == countE p - n) = true := by simp [hcl]
          have HCL := Lib.hid hcl
          clear hcl HA1
          go_wp2_with (go_at_call 13; refine (num_any _ _).mono ?_; rintro e w' ⟨rfl, rfl⟩)
          refine (extents_t (HG.out.keep ((Keep.refl [] wr).alloc _)) (has_lit1 _ _ _ _) (by simp) rfl).mono ?_
          rintro e w3 ⟨rfl, hk3⟩
          have k3 : Keep [] wr w3 := ((Keep.refl [] wr).alloc _).trans hk3 (by simp)
          have HL3 := Lib.hid (HL.out.keep k3)
          have HP3 := Lib.hid (HP2.out.keep k3)
          have K3 := Lib.hid (K2.out.trans k3 (by simp))
          clear hk3 k3 HL HG HP2 K2 c0 c1
          go_wp2_with fail
          refine (count_h HL3.out (by omega)).mono ?_
          rintro e w4 ⟨rfl, hk4⟩
          have HP4 := Lib.hid (HP3.out.keep hk4)
          have K4 := Lib.hid (K3.out.trans hk4 (by simp))
          clear hk4 HL3 HP3 K3
          go_wp2_with fail
          refine (count_h HP4.out (by omega)).mono ?_
          rintro e w5 ⟨rfl, hk5⟩
          have K5 := Lib.hid (K4.out.trans hk5 (by simp))
          clear hk5 HP4 K4
          go_wp2_with fail
          refine (live_any _).mono ?_
          rintro e w6 ⟨rfl, hk6⟩
          go_wp2_with fail
          go_ret
          exact ⟨rfl, K5.out.trans hk6 (by simp)⟩
        · go_wp2_with fail
          go_roundw
          case rel => exact ⟨k + 1, by omega, by go_num, HNO1.out (by omega), by trivial⟩
          case measure => simp [intOf]; omega
      · have hall : ∀ x ∈ p, x.2 < n := by
          intro x hx
          obtain ⟨j, hj, rfl⟩ := List.getElem_of_mem hx
          exact HNO.out j hj (by omega)
        obtain ⟨hf, hgt, hlf⟩ := HB.out hall
        subst hf hgt hlf
        clear hall HB HA HNO
        obtain ⟨ag, cg, rfl⟩ := HG.out.slice
        obtain ⟨al, cl, rfl⟩ := HL.out.slice
        go_wp2_with (first | (go_at_call 13; refine (num_any _ _).mono ?_; rintro e w' ⟨rfl, rfl⟩) | (go_at_call 9; refine (live_any _).mono ?_; rintro e w' ⟨rfl, hk⟩))
        go_ret
        exact ⟨rfl, K2.out.trans hk (by simp)⟩
  · have hneb : (e1 != 0) = true := by simp [hz]
    have K1 := Lib.hid hk1
    clear hres hp hk1 hz
    go_wp2_with (first | (go_at_call 13; refine (num_any _ _).mono ?_; rintro e w' ⟨rfl, rfl⟩) | (go_at_call 9; refine (live_any _).mono ?_; rintro e w' ⟨rfl, hk⟩))
    go_ret
    exact ⟨rfl, K1.out.trans hk (by simp)⟩
theorem first_row {w : World} {v : Value} {l : List E} (n : Int) (_ : -9223372036854775808 ≤ n ∧ n ≤ 9223372036854775807) (hr : HasE w v l) :
    Calls Try.prog 6 #[.int .i64 n, v] w fun e w' => e = .returned (.bool true) ∧ Keep [] w w' := first_walk hr n
end Go.Proofs.Ytlfhnbdeadiedaa
