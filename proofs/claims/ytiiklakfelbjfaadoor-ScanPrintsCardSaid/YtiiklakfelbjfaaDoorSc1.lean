/- Scanning: run, Word (the program's). -/
import Derived.Test.YtiiklakfelbjfaaDoorTm10
import Derived.Test.YtiiklakfelbjfaaDoorScB
import Derived.Test.YtiiklakfelbjfaaDoorBaseReg
namespace Go.Proofs.YtiiklakfelbjfaaDoor
open Go.RowKit Go.Emb

theorem set_eq {l : List UInt8} {p : UInt8 → Bool} (h : ∀ n : Fin 256, l.contains (UInt8.ofNat n.val) = p (UInt8.ofNat n.val)) (c : UInt8) : l.contains c = p c := by
  have := h ⟨c.toNat, c.toNat_lt⟩
  simpa using this
theorem set_digit (c : UInt8) : ([48, 49, 50, 51, 52, 53, 54, 55, 56, 57] : List UInt8).contains c = digitB c := set_eq (by decide +kernel) c
theorem set_blank (c : UInt8) : ([32, 9, 10, 13] : List UInt8).contains c = blankB c := set_eq (by decide +kernel) c
theorem set_hex (c : UInt8) : hexL.contains c = hexB c := set_eq (by decide +kernel) c
theorem set_great (c : UInt8) : ([65, 66, 67, 68, 69, 70, 71, 72, 73, 74, 75, 76, 77, 78, 79, 80, 81, 82, 83, 84, 85, 86, 87, 88, 89, 90, 95] : List UInt8).contains c = greatB c := set_eq (by decide +kernel) c
theorem set_letter (c : UInt8) : ([97, 98, 99, 100, 101, 102, 103, 104, 105, 106, 107, 108, 109, 110, 111, 112, 113, 114, 115, 116, 117, 118, 119, 120, 121, 122, 65, 66, 67, 68, 69, 70, 71, 72, 73, 74, 75, 76, 77, 78, 79, 80, 81, 82, 83, 84, 85, 86, 87, 88, 89, 90, 95] : List UInt8).contains c = (smallB c || greatB c) := set_eq (p := fun c => smallB c || greatB c) (by decide +kernel) c
theorem set_more (c : UInt8) : ([97, 98, 99, 100, 101, 102, 103, 104, 105, 106, 107, 108, 109, 110, 111, 112, 113, 114, 115, 116, 117, 118, 119, 120, 121, 122, 65, 66, 67, 68, 69, 70, 71, 72, 73, 74, 75, 76, 77, 78, 79, 80, 81, 82, 83, 84, 85, 86, 87, 88, 89, 90, 95, 48, 49, 50, 51, 52, 53, 54, 55, 56, 57, 64] : List UInt8).contains c = moreB c := set_eq (by decide +kernel) c
theorem hex_index (c : UInt8) (h : hexB c = true) : Lib.indexByte hexL c = (hexV c : Int) := by
  have : ∀ n : Fin 256, hexB (UInt8.ofNat n.val) = true → Lib.indexByte hexL (UInt8.ofNat n.val) = (hexV (UInt8.ofNat n.val) : Int) := by decide +kernel
  have h2 := this ⟨c.toNat, c.toNat_lt⟩
  simp only [UInt8.ofNat_toNat] at h2
  exact h2 h
theorem hexV_lt (c : UInt8) (h : hexB c = true) : hexV c < 16 := by
  have : ∀ n : Fin 256, hexB (UInt8.ofNat n.val) = true → hexV (UInt8.ofNat n.val) < 16 := by decide +kernel
  have h2 := this ⟨c.toNat, c.toNat_lt⟩
  simp only [UInt8.ofNat_toNat] at h2
  exact h2 h
/-- the length of the run of bytes of a set -/
def runN (l a : List UInt8) : Nat := (l.takeWhile (fun c => a.contains c)).length
theorem runN_le (l a : List UInt8) : runN l a ≤ l.length := tw_le _ _
theorem runN_full {l a : List UInt8} (h : l.all (fun c => a.contains c) = true) : runN l a = l.length := by
  unfold runN
  have e := List.takeWhile_append_of_pos (l₂ := []) (fun x hx => List.all_eq_true.1 h x hx)
  rw [List.append_nil] at e
  rw [e]; simp
theorem runN_at {l a : List UInt8} {k : Nat} (hk : k < l.length) (h : (l.take k).all (fun c => a.contains c) = true) (hn : a.contains l[k] = false) : runN l a = k := by
  unfold runN
  have e : l = l.take k ++ l[k] :: l.drop (k + 1) := by rw [← List.drop_eq_getElem_cons hk, List.take_append_drop]
  conv => lhs; rw [e]
  rw [List.takeWhile_append_of_pos (fun x hx => List.all_eq_true.1 h x hx), List.takeWhile_cons_of_neg (by rw [hn]; simp)]
  simp; omega
set_option maxRecDepth 100000 in
set_option maxHeartbeats 1000000 in
theorem p_run (s a : ByteArray) (w : World) (hs : s.size ≤ 140737488355328) : Calls Tryd.prog 13 #[.string s, .string a] w fun e w' => e = .returned (.int .i64 (runN s.data.toList a.data.toList : Nat)) ∧ w = w' := by
  obtain ⟨R, hR⟩ : ∃ R, R = runN s.data.toList a.data.toList := ⟨_, rfl⟩
  have HR := Lib.hid hR
  rw [← hR]
  clear hR
  go_enter Tryd.func13, Tryd.ntmps13
  go_wp2_with fail
  go_loop [5, 8] (fun _ i => ∃ k : Nat, k ≤ s.size ∧ i = .int .i64 k ∧ (s.data.toList.take k).all (fun c => a.data.toList.contains c) = true) (fun _ i => s.size - (RowKit.intOf i).toNat)
  case atStart => exact ⟨0, Nat.zero_le _, rfl, by simp⟩
  case round =>
    obtain ⟨k, hk, rfl, hall⟩ := hrel
    have HALL := Lib.hid hall
    clear hall
    by_cases hlt : k < s.size
    · have hlt' : k < s.data.toList.length := by simpa using hlt
      have hts : (s.data.toList.take (k + 1)).all (fun c => a.data.toList.contains c) = a.data.toList.contains s[k] := by
        rw [List.take_succ_eq_append_getElem hlt', List.all_append, HALL.out, index_at s k hlt]; simp
      have hcall := (Tryd.strings_IndexByte a (s[k].toNat : Int) w).mono (R' := fun e w' => e = .returned (.int .i64 (Lib.indexByte a.data.toList s[k])) ∧ w = w') (fun e w' h => ⟨by rw [h.1]; simp, h.2.symm⟩)
      have hneg : decide (Lib.indexByte a.data.toList s[k] < 0) = !a.data.toList.contains s[k] := indexByte_neg a.data.toList s[k]
      have HTS := Lib.hid hts
      have HC := Lib.hid hcall
      clear hts hcall
      generalize Lib.indexByte a.data.toList s[k] = ix at *
      cases hl : a.data.toList.contains s[k] with
      | true =>
        rw [hl] at hneg HTS
        have hd : ¬ ix < 0 := by simpa using hneg
        clear hneg hl
        go_wp2_with fail
        refine HC.out.mono ?_
        rintro e w2 ⟨rfl, rfl⟩
        go_wp2_with fail
        go_round
        case rel => exact ⟨k + 1, by omega, by go_num, HTS.out⟩
        case measure => simp [RowKit.intOf]; omega
      | false =>
        have hres : R = k := by rw [HR.out]; exact runN_at hlt' HALL.out (by rw [index_at s k hlt]; exact hl)
        have HRES := Lib.hid hres
        rw [hl] at hneg
        have hd : ix < 0 := by simpa using hneg
        clear hneg hl hres HTS
        go_wp2_with fail
        refine HC.out.mono ?_
        rintro e w2 ⟨rfl, rfl⟩
        go_wp2_with fail
        go_ret
        exact ⟨by rw [HRES.out]; rfl, rfl⟩
    · have hall := HALL.out
      rw [List.take_of_length_le (by simp; exact Nat.le_of_not_lt hlt)] at hall
      have hres : R = s.size := by rw [HR.out, runN_full hall]; simp
      have HRES := Lib.hid hres
      clear hall hres
      go_wp2_with fail
      go_ret
      exact ⟨by rw [HRES.out]; rfl, rfl⟩

/-! ## escape -/
def escV (l : List UInt8) : Nat × Nat := match escN l with | some p => (p.1.toNat, p.2) | none => (0, 0)
theorem escN_short (s : ByteArray) (h : s.size < 2) : escN s.data.toList = none := by
  have hl : s.data.toList.length = s.size := by simp
  match e : s.data.toList with
  | [] => rfl
  | [_] => rfl
  | _ :: _ :: _ => rw [e] at hl; simp at hl; omega
theorem escN_two (s : ByteArray) (h : 1 < s.size) (h1 : s[1].toNat = 39 ∨ s[1].toNat = 92) : escN s.data.toList = some (s[1], 2) := by
  have hl : s.data.toList.length = s.size := by simp
  have h2 := index_at s 1 h
  match e : s.data.toList with
  | [] => rw [e] at hl; simp at hl; omega
  | [_] => rw [e] at hl; simp at hl; omega
  | a :: c :: r =>
    simp only [e] at h2
    have h3 : c = s[1] := h2
    unfold escN
    simp only
    rw [h3, if_pos h1]
theorem escN_none (s : ByteArray) (h : 1 < s.size) (h1 : ¬ (s[1].toNat = 39 ∨ s[1].toNat = 92)) (h2 : s[1].toNat ≠ 120 ∨ s.size < 4 ∨ runN ((s.extract 2 4).data.toList) hexL ≠ 2) : escN s.data.toList = none := by
  have hl : s.data.toList.length = s.size := by simp
  have h3 := index_at s 1 h
  match e : s.data.toList with
  | [] => rfl
  | [_] => rfl
  | a :: c :: r =>
    simp only [e] at h3
    have h4 : c = s[1] := h3
    unfold escN
    simp only
    rw [h4, if_neg h1]
    by_cases hc : s[1].toNat = 120
    · rw [if_pos hc]
      match r with
      | [] => rfl
      | [_] => rfl
      | p :: q :: r =>
        simp only
        rcases h2 with h2 | h2 | h2
        · exact absurd hc h2
        · rw [e] at hl; simp at hl; omega
        · have hx : (s.extract 2 4).data.toList = [p, q] := by simp [ByteArray.data_extract, e]
          rw [hx] at h2
          by_cases hb : (hexB p && hexB q) = true
          · exfalso
            apply h2
            simp only [Bool.and_eq_true] at hb
            unfold runN
            simp only [set_hex]
            rw [List.takeWhile_cons_of_pos hb.1, List.takeWhile_cons_of_pos hb.2]; rfl
          · rw [if_neg hb]
    · rw [if_neg hc]
theorem escN_four (s : ByteArray) (h : 3 < s.size) (h1 : s[1].toNat = 120) (h2 : runN ((s.extract 2 4).data.toList) hexL = 2) : hexB s[2] = true ∧ hexB s[3] = true ∧ escN s.data.toList = some (UInt8.ofNat (16 * hexV s[2] + hexV s[3]), 4) := by
  have hl : s.data.toList.length = s.size := by simp
  have g1 := index_at s 1 (by omega)
  have g2 := index_at s 2 (by omega)
  have g3 := index_at s 3 (by omega)
  match e : s.data.toList with
  | [] => rw [e] at hl; simp at hl; omega
  | [_] => rw [e] at hl; simp at hl; omega
  | [_, _] => rw [e] at hl; simp at hl; omega
  | [_, _, _] => rw [e] at hl; simp at hl; omega
  | a :: c :: p :: q :: r =>
    simp only [e] at g1 g2 g3
    have k1 : c = s[1] := g1
    have k2 : p = s[2] := g2
    have k3 : q = s[3] := g3
    have hx : (s.extract 2 4).data.toList = [p, q] := by simp [ByteArray.data_extract, e]
    rw [hx] at h2
    unfold runN at h2
    simp only [set_hex] at h2
    by_cases hp : hexB p = true
    · rw [List.takeWhile_cons_of_pos hp] at h2
      by_cases hq : hexB q = true
      · rw [← k2, ← k3]
        refine ⟨hp, hq, ?_⟩
        unfold escN
        simp only
        rw [k1, if_neg (by omega), if_pos h1, hp, hq]; rfl
      · rw [List.takeWhile_cons_of_neg hq] at h2; simp at h2
    · rw [List.takeWhile_cons_of_neg hp] at h2; simp at h2
end Go.Proofs.YtiiklakfelbjfaaDoor
