/- Scanning: the document's Print. Printed by gen-sc20.py. -/
import Derived.Test.YtiiklakfelbjfaaDoorSc19
namespace Go.Proofs.YtiiklakfelbjfaaDoor
open Go.RowKit Go.Emb

theorem joinS_snoc (xs : List (List UInt8)) (x : List UInt8) : joinS (xs ++ [x]) = joinS xs ++ (if xs = [] then [] else [32]) ++ x := by
  induction xs with
  | nil => simp [joinS]
  | cons y r ih =>
    cases r with
    | nil => simp [joinS]
    | cons z r =>
      simp only [List.cons_append, joinS] at ih ⊢
      rw [ih]
      simp
theorem joinS_take (xs : List (List UInt8)) (k : Nat) : (joinS (xs.take k)).length ≤ (joinS xs).length := by
  induction xs generalizing k with
  | nil => simp
  | cons x r ih =>
    cases k with
    | zero => simp [joinS]
    | succ k =>
      cases r with
      | nil => simp
      | cons y r =>
        cases k with
        | zero => simp [joinS]
        | succ k =>
          have := ih (k + 1)
          simp only [List.take_succ_cons, joinS, List.length_append, List.length_cons] at this ⊢
          omega
def SprI (gs : List TkG) (k : Nat) (X : ByteArray) : Prop := X.data.toList = joinS ((gs.take k).map printG)
theorem SprI.next {gs : List TkG} {k : Nat} {X S : ByteArray} (h : SprI gs k X) (hk : k < gs.length) (hS : S.data.toList = printG gs[k]) :
    (k = 0 → SprI gs (k + 1) (X ++ S)) ∧ (0 < k → SprI gs (k + 1) (X ++ ⟨#[32]⟩ ++ S)) := by
  unfold SprI at h ⊢
  rw [List.take_succ_eq_append_getElem hk, List.map_append, List.map_cons, List.map_nil, joinS_snoc, ← h, ← hS]
  refine ⟨fun h0 => ?_, fun h0 => ?_⟩
  · subst h0
    rw [ByteArray.data_append]; simp
  · rw [if_neg (by intro h1; have h2 := congrArg List.length h1; rw [List.length_map, List.length_take] at h2; simp only [List.length_nil] at h2; omega), ByteArray.data_append, ByteArray.data_append]; simp
theorem SprI.size {gs : List TkG} {k : Nat} {X : ByteArray} (h : SprI gs k X) : X.size ≤ (joinS (gs.map printG)).length := by
  have h1 : X.data.toList.length = X.size := by simp
  have h2 := joinS_take (gs.map printG) k
  rw [← List.map_take] at h2
  unfold SprI at h
  rw [h] at h1
  omega
set_option maxRecDepth 100000 in
set_option maxHeartbeats 4000000 in
theorem r_sprint {w : World} {v : Value} {gs : List TkG} (hg : HasG w v gs) (hl : gs.length ≤ 1000000) (hi64 : ∀ x ∈ gs, -9223372036854775808 ≤ x.n ∧ x.n ≤ 9223372036854775807) (hsz : ∀ x ∈ gs, x.S.size ≤ 100000) (hlen : (joinS (gs.map printG)).length ≤ 140737488355328) :
    Calls Tryd.prog 11 #[v] w fun e w' => (∃ X : ByteArray, e = .returned (.string X) ∧ X.data.toList = joinS (gs.map printG)) ∧ Keep [] w w' := by
  obtain ⟨va, vc, rfl, hv1, hv2⟩ := hg.slice
  unfold maxLen at hv2
  have HG := Lib.hid hg
  have HI64 := Lib.hid hi64
  have HSZ := Lib.hid hsz
  clear hg hi64 hsz
  go_enter Tryd.func11, Tryd.ntmps11
  go_wp2_with fail
  go_loopw [3, 4] (fun t i wr => ∃ (k : Nat) (X : ByteArray), k ≤ gs.length ∧ i = .int .i64 k ∧ t = .string X ∧ SprI gs k X ∧ Keep [] w wr) (fun _ i _ => gs.length - (RowKit.intOf i).toNat)
  case atStart => exact ⟨0, ⟨#[]⟩, Nat.zero_le _, rfl, rfl, by simp [SprI, joinS], Keep.refl _ _⟩
  case round =>
    obtain ⟨k, X, hk, rfl, rfl, hspr, hkw⟩ := hrel
    have hXs := hspr.size
    have HSPR := Lib.hid hspr
    have HKW := Lib.hid hkw
    clear hspr hkw
    by_cases hlt : k < gs.length
    · have q0 : (0 : Int) ≤ (k : Int) := by omega
      have q1 : (k : Int) < (gs.length : Int) := by omega
      obtain ⟨vb, voff, rfl, c0, c1, c2, c3, c4⟩ := (HG.out.keep HKW.out).at hlt
      have hin := HI64.out _ (List.getElem_mem hlt)
      have hss := HSZ.out _ (List.getElem_mem hlt)
      have hnx := fun S hS => HSPR.out.next (S := S) hlt hS
      obtain ⟨g, hgg⟩ : ∃ g, g = gs[k] := ⟨_, rfl⟩
      rw [← hgg] at c0 c1 c2 hin hss
      simp only [← hgg] at hnx
      have HNX := Lib.hid hnx
      clear hgg c3 c4 hnx
      obtain ⟨gk, gn, gS, ga, gz⟩ := g
      simp only at c0 c1 c2 hin hss
      have hX2 : (X ++ (⟨#[32]⟩ : ByteArray)).size = X.size + 1 := by rw [ByteArray.size_append]; rfl
      by_cases hk0 : k = 0
      · subst hk0
        simp only [Nat.zero_mul, Nat.add_zero] at c0 c1 c2
        by_cases h1 : gk = 1
        · subst h1
          have hd := r_digitsD (w := wr) hin.1 hin.2
          have HD := Lib.hid hd
          clear hd
          go_wp2_with fail
          refine HD.out.mono ?_
          rintro e w6 ⟨rfl, hk6⟩
          obtain ⟨S, hS⟩ : ∃ S : ByteArray, S = ⟨(Lib.itoa gn).toArray⟩ := ⟨_, rfl⟩
          rw [← hS]
          have hSl : S.data.toList = printG ⟨1, gn, gS, ga, gz⟩ := by rw [hS]; rfl
          have hnew : SprI gs (1) (X ++ S) := (HNX.out _ hSl).1 (by first | trivial | rfl)
          have hns := hnew.size
          rw [ByteArray.size_append] at hns
          have HNEW := Lib.hid hnew
          clear hnew
          have HK6 := Lib.hid (HKW.out.trans hk6 (by simp))
          clear hk6 hS hSl
          go_wp2_with fail
          go_roundw
          case rel => exact ⟨1, _, by omega, by go_num, rfl, HNEW.out, HK6.out⟩
          case measure => simp [intOf]; omega
        · have h1' : (gk == 1) = false := beq_eq_false_iff_ne.2 h1
          by_cases h2 : gk = 2
          · subst h2
            go_wp2_with fail
            refine (r_atom gS wr).mono ?_
            rintro e w5 ⟨rfl, hk5⟩
            have hp := r_printA (w := w5) gS hss
            have HP := Lib.hid hp
            have HK5 := Lib.hid hk5
            clear hp hk5
            go_wp2_with fail
            refine HP.out.mono ?_
            rintro e w6 ⟨rfl, hk6⟩
            obtain ⟨S, hS⟩ : ∃ S : ByteArray, S = ⟨(nameL gS.data.toList).toArray⟩ := ⟨_, rfl⟩
            rw [← hS]
            have hSl : S.data.toList = printG ⟨2, gn, gS, ga, gz⟩ := by rw [hS]; rfl
            have hnew : SprI gs (1) (X ++ S) := (HNX.out _ hSl).1 (by first | trivial | rfl)
            have hns := hnew.size
            rw [ByteArray.size_append] at hns
            have HNEW := Lib.hid hnew
            clear hnew
            have HK6 := Lib.hid ((HKW.out.trans HK5.out (by simp)).trans hk6 (by simp))
            clear hk6 hS hSl
            go_wp2_with fail
            go_roundw
            case rel => exact ⟨1, _, by omega, by go_num, rfl, HNEW.out, HK6.out⟩
            case measure => simp [intOf]; omega
          · have h2' : (gk == 2) = false := beq_eq_false_iff_ne.2 h2
            have hSl : gS.data.toList = printG ⟨gk, gn, gS, ga, gz⟩ := by unfold printG; simp only; rw [if_neg h1, if_neg h2]
            have hnew : SprI gs (1) (X ++ gS) := (HNX.out _ hSl).1 (by first | trivial | rfl)
            have hns := hnew.size
            rw [ByteArray.size_append] at hns
            have HNEW := Lib.hid hnew
            clear hnew
            clear hSl
            go_wp2_with fail
            go_roundw
            case rel => exact ⟨1, _, by omega, by go_num, rfl, HNEW.out, HKW.out⟩
            case measure => simp [intOf]; omega
      · have hk0' : (0 : Int) < (k : Int) := by omega
        by_cases h1 : gk = 1
        · subst h1
          have hd := r_digitsD (w := wr) hin.1 hin.2
          have HD := Lib.hid hd
          clear hd
          go_wp2_with fail
          refine HD.out.mono ?_
          rintro e w6 ⟨rfl, hk6⟩
          obtain ⟨S, hS⟩ : ∃ S : ByteArray, S = ⟨(Lib.itoa gn).toArray⟩ := ⟨_, rfl⟩
          rw [← hS]
          have hSl : S.data.toList = printG ⟨1, gn, gS, ga, gz⟩ := by rw [hS]; rfl
          have hnew : SprI gs (k + 1) (X ++ ⟨#[32]⟩ ++ S) := (HNX.out _ hSl).2 (by omega)
          have hns := hnew.size
          rw [ByteArray.size_append, hX2] at hns
          have HNEW := Lib.hid hnew
          clear hnew
          have HK6 := Lib.hid (HKW.out.trans hk6 (by simp))
          clear hk6 hS hSl
          go_wp2_with fail
          go_roundw
          case rel => exact ⟨k + 1, _, by omega, by go_num, rfl, HNEW.out, HK6.out⟩
          case measure => simp [intOf]; omega
        · have h1' : (gk == 1) = false := beq_eq_false_iff_ne.2 h1
          by_cases h2 : gk = 2
          · subst h2
            go_wp2_with fail
            refine (r_atom gS wr).mono ?_
            rintro e w5 ⟨rfl, hk5⟩
            have hp := r_printA (w := w5) gS hss
            have HP := Lib.hid hp
            have HK5 := Lib.hid hk5
            clear hp hk5
            go_wp2_with fail
            refine HP.out.mono ?_
            rintro e w6 ⟨rfl, hk6⟩
            obtain ⟨S, hS⟩ : ∃ S : ByteArray, S = ⟨(nameL gS.data.toList).toArray⟩ := ⟨_, rfl⟩
            rw [← hS]
            have hSl : S.data.toList = printG ⟨2, gn, gS, ga, gz⟩ := by rw [hS]; rfl
            have hnew : SprI gs (k + 1) (X ++ ⟨#[32]⟩ ++ S) := (HNX.out _ hSl).2 (by omega)
            have hns := hnew.size
            rw [ByteArray.size_append, hX2] at hns
            have HNEW := Lib.hid hnew
            clear hnew
            have HK6 := Lib.hid ((HKW.out.trans HK5.out (by simp)).trans hk6 (by simp))
            clear hk6 hS hSl
            go_wp2_with fail
            go_roundw
            case rel => exact ⟨k + 1, _, by omega, by go_num, rfl, HNEW.out, HK6.out⟩
            case measure => simp [intOf]; omega
          · have h2' : (gk == 2) = false := beq_eq_false_iff_ne.2 h2
            have hSl : gS.data.toList = printG ⟨gk, gn, gS, ga, gz⟩ := by unfold printG; simp only; rw [if_neg h1, if_neg h2]
            have hnew : SprI gs (k + 1) (X ++ ⟨#[32]⟩ ++ gS) := (HNX.out _ hSl).2 (by omega)
            have hns := hnew.size
            rw [ByteArray.size_append, hX2] at hns
            have HNEW := Lib.hid hnew
            clear hnew
            clear hSl
            go_wp2_with fail
            go_roundw
            case rel => exact ⟨k + 1, _, by omega, by go_num, rfl, HNEW.out, HKW.out⟩
            case measure => simp [intOf]; omega
    · obtain rfl : k = gs.length := by omega
      have q1 : ¬ (gs.length : Int) < (gs.length : Int) := by omega
      go_wp2_with fail
      go_ret
      refine ⟨⟨X, rfl, ?_⟩, HKW.out⟩
      have := HSPR.out
      unfold SprI at this
      rwa [List.take_length] at this
end Go.Proofs.YtiiklakfelbjfaaDoor
