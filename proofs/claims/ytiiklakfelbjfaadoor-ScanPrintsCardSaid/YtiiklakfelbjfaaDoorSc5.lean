/- Scanning: strings.Cut at a newline. -/
import Derived.Test.YtiiklakfelbjfaaDoorSc4
import Derived.Deep.QuietTactic
import Derived.BigQuiet
namespace Go.Proofs.YtiiklakfelbjfaaDoor
open Go.RowKit Go.Emb

abbrev noNL : UInt8 → Bool := fun x => decide (x.toNat ≠ 10)
theorem idx_note (l : List UInt8) : (Lib.indexByte l 10 = -1 ∧ l.takeWhile noNL = l) ∨ (Lib.indexByte l 10 = ((l.takeWhile noNL).length : Nat) ∧ (l.takeWhile noNL).length < l.length) := by
  induction l with
  | nil => exact .inl ⟨rfl, rfl⟩
  | cons c r ih =>
    by_cases hc : c.toNat = 10
    · have hc' : c = 10 := UInt8.toNat.inj hc
      subst hc'
      refine .inr ⟨?_, ?_⟩
      · rw [List.takeWhile_cons_of_neg (by decide)]; simp [Lib.indexByte]
      · rw [List.takeWhile_cons_of_neg (by decide)]; simp
    · have hne : (c == 10) = false := by simpa using fun h => hc (by rw [h]; rfl)
      have hp : noNL c = true := by simp [noNL, hc]
      rw [List.takeWhile_cons_of_pos hp]
      unfold Lib.indexByte
      rw [hne]
      rcases ih with ⟨h1, h2⟩ | ⟨h1, h2⟩
      · refine .inl ⟨?_, by rw [h2]⟩
        simp [h1]
      · refine .inr ⟨?_, by simp; omega⟩
        rw [h1]
        have : (((r.takeWhile noNL).length : Int) == -1) = false := beq_eq_false_iff_ne.2 (by omega)
        simp only [this, List.length_cons]
        simp
theorem take_tw (p : UInt8 → Bool) (l : List UInt8) : l.take (l.takeWhile p).length = l.takeWhile p := by
  conv => lhs; rw [← List.takeWhile_append_dropWhile (p := p) (l := l)]
  have : ∀ (x y z : List UInt8), z = x → (x ++ y).take z.length = x := fun x y z h => by subst h; simp
  exact this _ _ _ (by rw [List.takeWhile_append_dropWhile])
def CutP (w : World) (l : List UInt8) (e : Ending) (w' : World) : Prop := ∃ (S T : ByteArray) (b : Bool), e = .returned (.tuple #[.string S, .string T, .bool b]) ∧ S.data.toList = l.takeWhile noNL ∧ Keep [] w w'
set_option maxRecDepth 100000 in
set_option maxHeartbeats 1000000 in
theorem p_scut (s : ByteArray) (w : World) (hs : s.size ≤ 140737488355328) : Calls Tryd.prog 24 #[.string s, .string ⟨#[10]⟩] w (CutP w s.data.toList) := by
  have hcall := (Tryd.stringslite_Index_one s 10 w).mono (R' := fun e w' => e = .returned (.int .i64 (Lib.indexByte s.data.toList 10)) ∧ w = w') (fun e w' h => ⟨h.1, h.2.symm⟩)
  have hi := idx_note s.data.toList
  have hl : s.data.toList.length = s.size := by simp
  rw [hl] at hi
  obtain ⟨R, hR⟩ : ∃ R, R = s.data.toList.takeWhile noNL := ⟨_, rfl⟩
  have htk := take_tw noNL s.data.toList
  rw [← hR] at hi htk
  unfold CutP
  rw [← hR]
  have HR := Lib.hid hR
  have HTK := Lib.hid htk
  have HC := Lib.hid hcall
  clear hR hcall hl htk
  generalize Lib.indexByte s.data.toList 10 = ix at *
  rcases hi with ⟨rfl, h2⟩ | ⟨rfl, h2⟩
  · have H2 := Lib.hid h2
    clear h2
    go_enter Tryd.func24, Tryd.ntmps24
    go_wp2_with fail
    refine HC.out.mono ?_
    rintro e w2 ⟨rfl, rfl⟩
    go_wp2_with fail
    refine bodyPost_ret (results_tmp3 rfl _ _ _) rfl ?_
    exact ⟨_, _, _, rfl, H2.out.symm, Keep.refl _ _⟩
  · have i0 : (0 : Int) ≤ (R.length : Int) := by omega
    have i1 : (R.length : Int) ≤ (s.size : Int) := by omega
    have i2 : IntKind.i64.wrap ((R.length : Int) + 1) = ((R.length + 1 : Nat) : Int) := (IntWalk.i64_in _ (by omega)).trans (by omega)
    have i3 : ((R.length + 1 : Nat) : Int) ≤ (s.size : Int) := by omega
    have i4 : (0 : Int) ≤ ((R.length + 1 : Nat) : Int) := by omega
    go_enter Tryd.func24, Tryd.ntmps24
    go_wp2_with fail
    refine HC.out.mono ?_
    rintro e w2 ⟨rfl, rfl⟩
    go_wp2_with fail
    go_quiet (fail)
    go_wp2_with fail
    refine bodyPost_ret (results_tmp3 rfl _ _ _) rfl ?_
    refine ⟨_, _, _, rfl, ?_, (Keep.refl [] w).drewN _⟩
    rw [← HTK.out]
    simp [ByteArray.data_extract]
set_option maxRecDepth 100000 in
set_option maxHeartbeats 1000000 in
theorem p_cut (s : ByteArray) (w : World) (hs : s.size ≤ 140737488355328) : Calls Tryd.prog 14 #[.string s, .string ⟨#[10]⟩] w (CutP w s.data.toList) := by
  have hcall := p_scut s w hs
  have HC := Lib.hid hcall
  clear hcall
  go_enter Tryd.func14, Tryd.ntmps14
  go_wp2_with fail
  refine HC.out.mono ?_
  rintro e w2 ⟨S, T, b, rfl, hS, hk⟩
  have HS := Lib.hid hS
  have HK := Lib.hid hk
  clear hS hk
  go_wp2_with fail
  refine bodyPost_ret (results_tmp3 rfl _ _ _) rfl ?_
  exact ⟨_, _, _, rfl, HS.out, HK.out⟩
end Go.Proofs.YtiiklakfelbjfaaDoor
