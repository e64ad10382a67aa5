/- Scanning: sign (the program's). -/
import Derived.Test.YtiiklakfelbjfaaDoorSc3
namespace Go.Proofs.YtiiklakfelbjfaaDoor
open Go.RowKit Go.Emb

def sgnB : List ByteArray := [⟨#[45, 62]⟩, ⟨#[61, 61]⟩, ⟨#[47, 61]⟩, ⟨#[61, 60]⟩, ⟨#[62, 61]⟩]
theorem sgn_cells (w : World) : ∀ j, j < 5 → (w.alloc (.cells #[.string ⟨#[45, 62]⟩, .string ⟨#[61, 61]⟩, .string ⟨#[47, 61]⟩, .string ⟨#[61, 60]⟩, .string ⟨#[62, 61]⟩] 9)).cell? ⟨w.heap.size, j, none⟩ = some (.string (sgnB.getD j ByteArray.empty)) := by
  intro j hj
  have hb := heap_alloc_new w (.cells #[.string ⟨#[45, 62]⟩, .string ⟨#[61, 61]⟩, .string ⟨#[47, 61]⟩, .string ⟨#[61, 60]⟩, .string ⟨#[62, 61]⟩] 9)
  match j, hj with
  | 0, _ => exact (Lib.cell_of_heap hb _).trans rfl
  | 1, _ => exact (Lib.cell_of_heap hb _).trans rfl
  | 2, _ => exact (Lib.cell_of_heap hb _).trans rfl
  | 3, _ => exact (Lib.cell_of_heap hb _).trans rfl
  | 4, _ => exact (Lib.cell_of_heap hb _).trans rfl
theorem sgn_hit {l : List UInt8} {k : Nat} (hk : k < 5) (h : Lib.hasPrefix l (sgnB.getD k ByteArray.empty).data.toList = true) : signN l = 2 ∧ (sgnB.getD k ByteArray.empty).data.toList = l.take 2 := by
  unfold Lib.hasPrefix at h
  match k, hk, h with
  | 0, _, h | 1, _, h | 2, _, h | 3, _, h | 4, _, h =>
    match l, h with
    | [], h => simp [sgnB] at h
    | [a], h => simp [sgnB, List.isPrefixOf] at h
    | a :: b :: r, h =>
      simp [sgnB, List.isPrefixOf] at h
      obtain ⟨rfl, rfl⟩ := h
      exact ⟨rfl, rfl⟩
theorem sgn_miss {l : List UInt8} (h : ∀ k, k < 5 → Lib.hasPrefix l (sgnB.getD k ByteArray.empty).data.toList = false) (c : UInt8) (r : List UInt8) (hl : l = c :: r) : signN l = if signsL.contains c then 1 else 0 := by
  subst hl
  have h0 := h 0 (by omega)
  have h1 := h 1 (by omega)
  have h2 := h 2 (by omega)
  have h3 := h 3 (by omega)
  have h4 := h 4 (by omega)
  cases r with
  | nil => rfl
  | cons d r =>
    unfold signN
    simp only
    have : sign2 c d = false := by
      unfold Lib.hasPrefix at h0 h1 h2 h3 h4
      simp [sgnB, List.isPrefixOf] at h0 h1 h2 h3 h4
      unfold sign2
      simp only [Bool.or_eq_false_iff, Bool.and_eq_false_iff, beq_eq_false_iff_ne]
      exact ⟨⟨⟨⟨Decidable.or_iff_not_imp_left.2 fun x => fun y => h0 (Decidable.not_not.1 x).symm y.symm, Decidable.or_iff_not_imp_left.2 fun x => fun y => h1 (Decidable.not_not.1 x).symm y.symm⟩, Decidable.or_iff_not_imp_left.2 fun x => fun y => h2 (Decidable.not_not.1 x).symm y.symm⟩, Decidable.or_iff_not_imp_left.2 fun x => fun y => h3 (Decidable.not_not.1 x).symm y.symm⟩, Decidable.or_iff_not_imp_left.2 fun x => fun y => h4 (Decidable.not_not.1 x).symm y.symm⟩
    rw [this]; rfl
set_option maxRecDepth 100000 in
set_option maxHeartbeats 1000000 in
theorem p_sign (s : ByteArray) (w : World) (hs0 : 0 < s.size) (hs : s.size ≤ 140737488355328) : Calls Tryd.prog 27 #[.string s] w fun e w' => (∃ S : ByteArray, e = .returned (.string S) ∧ S.data.toList = s.data.toList.take (signN s.data.toList)) ∧ Keep [] w w' := by
  have hcells := sgn_cells w
  have HKW : Hid (Keep [] w (w.alloc (.cells #[.string ⟨#[45, 62]⟩, .string ⟨#[61, 61]⟩, .string ⟨#[47, 61]⟩, .string ⟨#[61, 60]⟩, .string ⟨#[62, 61]⟩] 9))) := Lib.hid ((Keep.refl [] w).alloc _)
  have HC := Lib.hid hcells
  clear hcells
  obtain ⟨R, hR⟩ : ∃ R, R = s.data.toList.take (signN s.data.toList) := ⟨_, rfl⟩
  have HR := Lib.hid hR
  rw [← hR]
  clear hR
  go_enter Tryd.func27, Tryd.ntmps27
  go_wp2_with fail
  generalize w.alloc (.cells #[.string ⟨#[45, 62]⟩, .string ⟨#[61, 61]⟩, .string ⟨#[47, 61]⟩, .string ⟨#[61, 60]⟩, .string ⟨#[62, 61]⟩] 9) = w1 at *
  go_loop [4, 7] (fun _ i => ∃ k : Nat, k ≤ 5 ∧ i = .int .i64 k ∧ ∀ j, j < k → Lib.hasPrefix s.data.toList (sgnB.getD j ByteArray.empty).data.toList = false) (fun _ i => 5 - (RowKit.intOf i).toNat)
  case atStart => exact ⟨0, Nat.zero_le _, rfl, fun j hj => by omega⟩
  case round =>
    obtain ⟨k, hk, rfl, hall⟩ := hrel
    have HALL := Lib.hid hall
    clear hall
    by_cases hlt : k < 5
    · have hc := HC.out k hlt
      have i0 : (0 : Int) ≤ (k : Int) := by omega
      have i1 : (k : Int) < 5 := by omega
      have hhit := fun h => sgn_hit (l := s.data.toList) hlt h
      have HHIT := Lib.hid hhit
      have hcall := fun (u : ByteArray) => (Tryd.strings_HasPrefix s u w1).mono (R' := fun e w' => e = .returned (.bool (Lib.hasPrefix s.data.toList u.data.toList)) ∧ w1 = w') (fun e w' h => ⟨h.1, h.2.symm⟩)
      obtain ⟨u, hu⟩ : ∃ u, u = sgnB.getD k ByteArray.empty := ⟨_, rfl⟩
      rw [← hu] at hc
      have HU := Lib.hid hu
      have HCALL := Lib.hid (hcall u)
      clear hcall hhit hu
      obtain ⟨b, hb⟩ : ∃ b, b = Lib.hasPrefix s.data.toList u.data.toList := ⟨_, rfl⟩
      rw [← hb] at HCALL
      have HB := Lib.hid hb
      clear hb
      cases b with
      | true =>
        go_wp2_with fail
        refine HCALL.out.mono ?_
        rintro e w2 ⟨rfl, rfl⟩
        go_wp2_with fail
        go_ret
        have h1 := HHIT.out (by rw [← HU.out]; exact HB.out.symm)
        refine ⟨⟨u, rfl, ?_⟩, HKW.out⟩
        rw [HR.out, HU.out, h1.1, h1.2]
      | false =>
        go_wp2_with fail
        refine HCALL.out.mono ?_
        rintro e w2 ⟨rfl, rfl⟩
        go_wp2_with fail
        go_round
        case rel => exact ⟨k + 1, by omega, by go_num, fun j hj => by
          rcases Nat.lt_or_ge j k with h | h
          · exact HALL.out j h
          · obtain rfl : j = k := by omega
            rw [← HU.out]; exact HB.out.symm⟩
        case measure => simp [RowKit.intOf]; omega
    · obtain rfl : k = 5 := by omega
      obtain ⟨c, r, hcr⟩ : ∃ c r, s.data.toList = c :: r := by
        match e : s.data.toList with
        | [] => have : s.data.toList.length = s.size := by simp
                rw [e] at this; simp at this; omega
        | c :: r => exact ⟨c, r, rfl⟩
      have hmiss := sgn_miss HALL.out c r hcr
      have hc0 : s[0] = c := by rw [← index_at s 0 hs0]; simp [hcr]
      have i0 : (0 : Int) < (s.size : Int) := by omega
      have hcall := (Tryd.strings_IndexByte ⟨#[40, 41, 91, 93, 123, 125, 44, 59, 46, 124, 33, 43, 45, 42, 60, 62, 61]⟩ (s[0].toNat : Int) w1).mono (R' := fun e w' => e = .returned (.int .i64 (Lib.indexByte signsL s[0])) ∧ w1 = w') (fun e w' h => ⟨by rw [h.1]; simp, h.2.symm⟩)
      have hneg : decide (Lib.indexByte signsL s[0] < 0) = !signsL.contains s[0] := indexByte_neg signsL s[0]
      have HCALL := Lib.hid hcall
      have HM := Lib.hid hmiss
      have HCR := Lib.hid hcr
      have HC0 := Lib.hid hc0
      clear hcall hmiss hcr hc0 HALL HC
      generalize Lib.indexByte signsL s[0] = ix at *
      cases hq : signsL.contains s[0] with
      | true =>
        rw [hq] at hneg
        have hd : 0 ≤ ix := by simpa using hneg
        have HQ := Lib.hid hq
        clear hneg hq
        go_wp2_with fail
        refine HCALL.out.mono ?_
        rintro e w2 ⟨rfl, rfl⟩
        go_wp2_with fail
        go_ret
        refine ⟨⟨_, rfl, ?_⟩, HKW.out⟩
        rw [HR.out, HM.out, ← HC0.out, HQ.out]
        simp [ByteArray.data_extract]
      | false =>
        rw [hq] at hneg
        have hd : ¬ 0 ≤ ix := by simpa using hneg
        have HQ := Lib.hid hq
        clear hneg hq
        go_wp2_with fail
        refine HCALL.out.mono ?_
        rintro e w2 ⟨rfl, rfl⟩
        go_wp2_with fail
        go_ret
        refine ⟨⟨_, rfl, ?_⟩, HKW.out⟩
        rw [HR.out, HM.out, ← HC0.out, HQ.out]
        rfl
end Go.Proofs.YtiiklakfelbjfaaDoor
