import Derived.Test.YtdmmhfbafinkpaaGreatDoorTm10
import Derived.Test.YtdmmhfbafinkpaaGreatDoorScB
import Derived.Test.YtdmmhfbafinkpaaGreatDoorBaseApp2
import Derived.Deep.QuietTactic
import Derived.BigQuiet
/- Scanning: run, Word (the program's). -/
namespace Go.Proofs.YtdmmhfbafinkpaaGreatDoor
open Go.RowKit Go.Emb

theorem set_eq {l : List UInt8} {p : UInt8 → Bool} (h : ∀ n : Fin 256, l.contains (UInt8.ofNat n.val) = p (UInt8.ofNat n.val)) (c : UInt8) : l.contains c = p c := by
  have := h ⟨c.toNat, c.toNat_lt⟩
  simpa using this
theorem set_digit (c : UInt8) : ([48, 49, 50, 51, 52, 53, 54, 55, 56, 57] : List UInt8).contains c = digitB c := set_eq (by decide +kernel) c
theorem set_blank (c : UInt8) : ([32, 9, 10, 13] : List UInt8).contains c = blankB c := set_eq (by decide +kernel) c
theorem set_hex (c : UInt8) : hexL.contains c = hexB c := set_eq (by decide +kernel) c
theorem set_great (c : UInt8) : ([65, 66, 67, 68, 69, 70, 71, 72, 73, 74, 75, 76, 77, 78, 79, 80, 81, 82, 83, 84, 85, 86, 87, 88, 89, 90, 95] : List UInt8).contains c = greatB c := set_eq (by decide +kernel) c
theorem set_letter (c : UInt8) : ([97, 98, 99, 100, 101, 102, 103, 104, 105, 106, 107, 108, 109, 110, 111, 112, 113, 114, 115, 116, 117, 118, 119, 120, 121, 122, 65, 66, 67, 68, 69, 70, 71, 72, 73, 74, 75, 76, 77, 78, 79, 80, 81, 82, 83, 84, 85, 86, 87, 88, 89, 90, 95] : List UInt8).contains c = (smallB c || greatB c) := set_eq (p := fun c => smallB c || greatB c) (by decide +kernel) c
theorem set_more (c : UInt8) : ([97, 98, 99, 100, 101, 102, 103, 104, 105, 106, 107, 108, 109, 110, 111, 112, 113, 114, 115, 116, 117, 118, 119, 120, 121, 122, 65, 66, 67, 68, 69, 70, 71, 72, 73, 74, 75, 76, 77, 78, 79, 80, 81, 82, 83, 84, 85, 86, 87, 88, 89, 90, 95, 48, 49, 50, 51, 52, 53, 54, 55, 56, 57, 64] : List UInt8).contains c = moreB c := set_eq (by decide +kernel) c
theorem hex_index (c : UInt8) (h : hexB c = true) : Lib.indexByte hexL c = (hexV c : Int) := by
  have : ∀ n : Fin 256, hexB (UInt8.ofNat n.val) = true → Lib.indexByte hexL (UInt8.ofNat n.val) = (hexV (UInt8.ofNat n.val) : Int) := by decide +kernel
  have h2 := this ⟨c.toNat, c.toNat_lt⟩
  simp only [UInt8.ofNat_toNat] at h2
  exact h2 h
theorem hexV_lt (c : UInt8) (h : hexB c = true) : hexV c < 16 := by
  have : ∀ n : Fin 256, hexB (UInt8.ofNat n.val) = true → hexV (UInt8.ofNat n.val) < 16 := by decide +kernel
  have h2 := this ⟨c.toNat, c.toNat_lt⟩
  simp only [UInt8.ofNat_toNat] at h2
  exact h2 h
/-- the length of the run of bytes of a set -/
def runN (l a : List UInt8) : Nat := (l.takeWhile (fun c => a.contains c)).length
theorem runN_le (l a : List UInt8) : runN l a ≤ l.length := tw_le _ _
theorem runN_full {l a : List UInt8} (h : l.all (fun c => a.contains c) = true) : runN l a = l.length := by
  unfold runN
  have e := List.takeWhile_append_of_pos (l₂ := []) (fun x hx => List.all_eq_true.1 h x hx)
  rw [List.append_nil] at e
  rw [e]; simp
theorem runN_at {l a : List UInt8} {k : Nat} (hk : k < l.length) (h : (l.take k).all (fun c => a.contains c) = true) (hn : a.contains l[k] = false) : runN l a = k := by
  unfold runN
  have e : l = l.take k ++ l[k] :: l.drop (k + 1) := by rw [← List.drop_eq_getElem_cons hk, List.take_append_drop]
  conv => lhs; rw [e]
  rw [List.takeWhile_append_of_pos (fun x hx => List.all_eq_true.1 h x hx), List.takeWhile_cons_of_neg (by rw [hn]; simp)]
  simp; omega
set_option maxRecDepth 100000 in
set_option maxHeartbeats 1000000 in
theorem p_run (s a : ByteArray) (w : World) (hs : s.size ≤ 140737488355328) : Calls Tryz.prog 91 #[.string s, .string a] w fun e w' => e = .returned (.int .i64 (runN s.data.toList a.data.toList : Nat)) ∧ w = w' := by
  obtain ⟨R, hR⟩ : ∃ R, R = runN s.data.toList a.data.toList := ⟨_, rfl⟩
  have HR := Lib.hid hR
  rw [← hR]
  clear hR
  go_enter Tryz.func91, Tryz.ntmps91
  go_wp2_with fail
  go_loop [5, 8] (fun _ i => ∃ k : Nat, k ≤ s.size ∧ i = .int .i64 k ∧ (s.data.toList.take k).all (fun c => a.data.toList.contains c) = true) (fun _ i => s.size - (RowKit.intOf i).toNat)
  case atStart => exact ⟨0, Nat.zero_le _, rfl, by simp⟩
  case round =>
    obtain ⟨k, hk, rfl, hall⟩ := hrel
    have HALL := Lib.hid hall
    clear hall
    by_cases hlt : k < s.size
    · have hlt' : k < s.data.toList.length := by simpa using hlt
      have hts : (s.data.toList.take (k + 1)).all (fun c => a.data.toList.contains c) = a.data.toList.contains s[k] := by
        rw [List.take_succ_eq_append_getElem hlt', List.all_append, HALL.out, index_at s k hlt]; simp
      have hcall := (Tryz.strings_IndexByte a (s[k].toNat : Int) w).mono (R' := fun e w' => e = .returned (.int .i64 (Lib.indexByte a.data.toList s[k])) ∧ w = w') (fun e w' h => ⟨by rw [h.1]; simp, h.2.symm⟩)
      have hneg : decide (Lib.indexByte a.data.toList s[k] < 0) = !a.data.toList.contains s[k] := indexByte_neg a.data.toList s[k]
      have HTS := Lib.hid hts
      have HC := Lib.hid hcall
      clear hts hcall
      generalize Lib.indexByte a.data.toList s[k] = ix at *
      cases hl : a.data.toList.contains s[k] with
      | true =>
        rw [hl] at hneg HTS
        have hd : ¬ ix < 0 := by simpa using hneg
        clear hneg hl
        go_wp2_with fail
        refine HC.out.mono ?_
        rintro e w2 ⟨rfl, rfl⟩
        go_wp2_with fail
        go_round
        case rel => exact ⟨k + 1, by omega, by go_num, HTS.out⟩
        case measure => simp [RowKit.intOf]; omega
      | false =>
        have hres : R = k := by rw [HR.out]; exact runN_at hlt' HALL.out (by rw [index_at s k hlt]; exact hl)
        have HRES := Lib.hid hres
        rw [hl] at hneg
        have hd : ix < 0 := by simpa using hneg
        clear hneg hl hres HTS
        go_wp2_with fail
        refine HC.out.mono ?_
        rintro e w2 ⟨rfl, rfl⟩
        go_wp2_with fail
        go_ret
        exact ⟨by rw [HRES.out]; rfl, rfl⟩
    · have hall := HALL.out
      rw [List.take_of_length_le (by simp; exact Nat.le_of_not_lt hlt)] at hall
      have hres : R = s.size := by rw [HR.out, runN_full hall]; simp
      have HRES := Lib.hid hres
      clear hall hres
      go_wp2_with fail
      go_ret
      exact ⟨by rw [HRES.out]; rfl, rfl⟩

/-! ## escape -/
def escV (l : List UInt8) : Nat × Nat := match escN l with | some p => (p.1.toNat, p.2) | none => (0, 0)
theorem escN_short (s : ByteArray) (h : s.size < 2) : escN s.data.toList = none := by
  have hl : s.data.toList.length = s.size := by simp
  match e : s.data.toList with
  | [] => rfl
  | [_] => rfl
  | _ :: _ :: _ => rw [e] at hl; simp at hl; omega
theorem escN_two (s : ByteArray) (h : 1 < s.size) (h1 : s[1].toNat = 39 ∨ s[1].toNat = 92) : escN s.data.toList = some (s[1], 2) := by
  have hl : s.data.toList.length = s.size := by simp
  have h2 := index_at s 1 h
  match e : s.data.toList with
  | [] => rw [e] at hl; simp at hl; omega
  | [_] => rw [e] at hl; simp at hl; omega
  | a :: c :: r =>
    simp only [e] at h2
    have h3 : c = s[1] := h2
    unfold escN
    simp only
    rw [h3, if_pos h1]
theorem escN_none (s : ByteArray) (h : 1 < s.size) (h1 : ¬ (s[1].toNat = 39 ∨ s[1].toNat = 92)) (h2 : s[1].toNat ≠ 120 ∨ s.size < 4 ∨ runN ((s.extract 2 4).data.toList) hexL ≠ 2) : escN s.data.toList = none := by
  have hl : s.data.toList.length = s.size := by simp
  have h3 := index_at s 1 h
  match e : s.data.toList with
  | [] => rfl
  | [_] => rfl
  | a :: c :: r =>
    simp only [e] at h3
    have h4 : c = s[1] := h3
    unfold escN
    simp only
    rw [h4, if_neg h1]
    by_cases hc : s[1].toNat = 120
    · rw [if_pos hc]
      match r with
      | [] => rfl
      | [_] => rfl
      | p :: q :: r =>
        simp only
        rcases h2 with h2 | h2 | h2
        · exact absurd hc h2
        · rw [e] at hl; simp at hl; omega
        · have hx : (s.extract 2 4).data.toList = [p, q] := by simp [ByteArray.data_extract, e]
          rw [hx] at h2
          by_cases hb : (hexB p && hexB q) = true
          · exfalso
            apply h2
            simp only [Bool.and_eq_true] at hb
            unfold runN
            simp only [set_hex]
            rw [List.takeWhile_cons_of_pos hb.1, List.takeWhile_cons_of_pos hb.2]; rfl
          · rw [if_neg hb]
    · rw [if_neg hc]
theorem escN_four (s : ByteArray) (h : 3 < s.size) (h1 : s[1].toNat = 120) (h2 : runN ((s.extract 2 4).data.toList) hexL = 2) : hexB s[2] = true ∧ hexB s[3] = true ∧ escN s.data.toList = some (UInt8.ofNat (16 * hexV s[2] + hexV s[3]), 4) := by
  have hl : s.data.toList.length = s.size := by simp
  have g1 := index_at s 1 (by omega)
  have g2 := index_at s 2 (by omega)
  have g3 := index_at s 3 (by omega)
  match e : s.data.toList with
  | [] => rw [e] at hl; simp at hl; omega
  | [_] => rw [e] at hl; simp at hl; omega
  | [_, _] => rw [e] at hl; simp at hl; omega
  | [_, _, _] => rw [e] at hl; simp at hl; omega
  | a :: c :: p :: q :: r =>
    simp only [e] at g1 g2 g3
    have k1 : c = s[1] := g1
    have k2 : p = s[2] := g2
    have k3 : q = s[3] := g3
    have hx : (s.extract 2 4).data.toList = [p, q] := by simp [ByteArray.data_extract, e]
    rw [hx] at h2
    unfold runN at h2
    simp only [set_hex] at h2
    by_cases hp : hexB p = true
    · rw [List.takeWhile_cons_of_pos hp] at h2
      by_cases hq : hexB q = true
      · rw [← k2, ← k3]
        refine ⟨hp, hq, ?_⟩
        unfold escN
        simp only
        rw [k1, if_neg (by omega), if_pos h1, hp, hq]; rfl
      · rw [List.takeWhile_cons_of_neg hq] at h2; simp at h2
    · rw [List.takeWhile_cons_of_neg hp] at h2; simp at h2
end Go.Proofs.YtdmmhfbafinkpaaGreatDoor

/- Scanning: escape (the program's). -/
namespace Go.Proofs.YtdmmhfbafinkpaaGreatDoor
open Go.RowKit Go.Emb

theorem hex_bits (a b : Nat) (ha : a < 16) (hb : b < 16) : IntKind.u8.wrap (bits BinOp.or IntKind.i64 (IntKind.i64.wrap ((a : Int) * 16)) (b : Int)) = ((UInt8.ofNat (16 * a + b)).toNat : Int) := by
  have h : ∀ x y : Fin 16, IntKind.u8.wrap (bits BinOp.or IntKind.i64 (IntKind.i64.wrap ((x.val : Int) * 16)) (y.val : Int)) = ((UInt8.ofNat (16 * x.val + y.val)).toNat : Int) := by decide +kernel
  exact h ⟨a, ha⟩ ⟨b, hb⟩
set_option maxRecDepth 100000 in
set_option maxHeartbeats 1000000 in
theorem p_escape (s : ByteArray) (w : World) (hs : s.size ≤ 140737488355328) : Calls Tryz.prog 129 #[.string s] w fun e w' => e = .returned (.tuple #[.int .u8 ((escV s.data.toList).1 : Nat), .int .i64 ((escV s.data.toList).2 : Nat)]) ∧ Keep [] w w' := by
  obtain ⟨R, hR⟩ : ∃ R, R = escV s.data.toList := ⟨_, rfl⟩
  have HR := Lib.hid hR
  rw [← hR]
  clear hR
  by_cases h1 : 1 < s.size
  · have i1 : (1 : Int) < (s.size : Int) := by omega
    have i1' : (2 : Int) ≤ (s.size : Int) := by omega
    by_cases c1 : s[1].toNat = 39
    · have hres : R = (39, 2) := by rw [HR.out]; unfold escV; rw [escN_two s h1 (.inl c1)]; simp only [c1]
      have HRES := Lib.hid hres
      have c1' : (s[1].toNat : Int) = 39 := by omega
      clear hres c1
      go_enter Tryz.func129, Tryz.ntmps129
      go_wp2_with fail
      refine bodyPost_ret (results_tmp2 rfl _ _ _) rfl ?_
      exact ⟨by rw [HRES.out]; rfl, Keep.refl _ _⟩
    · have c1' : ((s[1].toNat : Int) == 39) = false := beq_eq_false_iff_ne.2 (by omega)
      by_cases c2 : s[1].toNat = 92
      · have hres : R = (92, 2) := by rw [HR.out]; unfold escV; rw [escN_two s h1 (.inr c2)]; simp only [c2]
        have HRES := Lib.hid hres
        have c2' : (s[1].toNat : Int) = 92 := by omega
        clear hres c2 c1
        go_enter Tryz.func129, Tryz.ntmps129
        go_wp2_with fail
        refine bodyPost_ret (results_tmp2 rfl _ _ _) rfl ?_
        exact ⟨by rw [HRES.out]; rfl, Keep.refl _ _⟩
      · have c2' : ((s[1].toNat : Int) == 92) = false := beq_eq_false_iff_ne.2 (by omega)
        have hno : ¬ (s[1].toNat = 39 ∨ s[1].toNat = 92) := fun h => h.elim c1 c2
        by_cases h4 : 3 < s.size
        · have i4 : (4 : Int) ≤ (s.size : Int) := by omega
          have i3 : (3 : Int) < (s.size : Int) := by omega
          have i2 : (2 : Int) < (s.size : Int) := by omega
          by_cases c3 : s[1].toNat = 120
          · have c3' : (s[1].toNat : Int) = 120 := by omega
            have hrun := p_run (s.extract 2 4) ⟨#[48, 49, 50, 51, 52, 53, 54, 55, 56, 57, 97, 98, 99, 100, 101, 102]⟩ w (by simp; omega)
            obtain ⟨n, hn⟩ : ∃ n, n = runN (s.extract 2 4).data.toList hexL := ⟨_, rfl⟩
            simp only [← hn] at hrun
            have HRUN := Lib.hid hrun
            clear hrun
            by_cases h5 : n = 2
            · obtain ⟨b1, b2, b3⟩ := escN_four s h4 c3 (by rw [← hn]; exact h5)
              have hres : R = ((UInt8.ofNat (16 * hexV s[2] + hexV s[3])).toNat, 4) := by rw [HR.out]; unfold escV; rw [b3]
              have HRES := Lib.hid hres
              have hx1 := hex_index _ b1
              have hx2 := hex_index _ b2
              have hl1 := hexV_lt _ b1
              have hl2 := hexV_lt _ b2
              have HX1 := Lib.hid hx1
              have HX2 := Lib.hid hx2
              subst h5
              clear hres hx1 hx2 b1 b2 b3 hn c1 c2 c3
              go_enter Tryz.func129, Tryz.ntmps129
              go_wp2_with fail
              refine HRUN.out.mono ?_
              rintro e w2 ⟨rfl, rfl⟩
              go_wp2_with fail
              refine wp_region_held_drew (S := fun w' => Keep [] w w') (by kernel_rfl) ((Keep.refl [] w).drew) (fun hHeld => ?_)
              have HS0 := Lib.hid hHeld
              clear hHeld
              have hHeld := HS0.out
              generalize w.drew = w8 at *
              refine wpAnyH_takeL (i := 0) (v := ?vE0) rfl (by kernel_rfl) (by kernel_rfl) (by kernel_rfl) (fun _ _ _ h => h) (Or.inl ⟨by kernel_rfl, ?runE0⟩) hHeld ?_
              case runE0 => (intro w9 hS9; go_simp; try exact rfl)
              try simp only [Act.put, List.setIfInBounds_toArray, List.set_cons_zero, List.set_cons_succ]
              refine wpAnyH_takeL (i := 4) (v := ?vE4) rfl (by kernel_rfl) (by kernel_rfl) (by kernel_rfl) (fun _ _ _ h => h) (Or.inl ⟨by kernel_rfl, ?runE4⟩) hHeld ?_
              case runE4 => (intro w9 hS9; go_simp; try exact rfl)
              try simp only [Act.put, List.setIfInBounds_toArray, List.set_cons_zero, List.set_cons_succ]
              refine wpAnyH_takeL (i := 1) (v := ?vE1) rfl (by kernel_rfl) (by kernel_rfl) (by kernel_rfl) (fun _ _ _ h => h) (Or.inl ⟨by kernel_rfl, ?runE1⟩) hHeld ?_
              case runE1 => (intro w9 hS9; go_simp; try exact rfl)
              try simp only [Act.put, List.setIfInBounds_toArray, List.set_cons_zero, List.set_cons_succ]
              refine wpAnyH_takeL (i := 5) (v := ?vE5) rfl (by kernel_rfl) (by kernel_rfl) (by kernel_rfl) (fun _ _ _ h => h) (Or.inl ⟨by kernel_rfl, ?runE5⟩) hHeld ?_
              case runE5 => (intro w9 hS9; go_simp; try exact rfl)
              try simp only [Act.put, List.setIfInBounds_toArray, List.set_cons_zero, List.set_cons_succ]
              refine wpAnyH_ready (rs := [2]) (by kernel_rfl) (by simp) ?_
              refine AllReadyH.consL rfl (fun K hK => ?_) AllReadyH.nil
              go_simp
              refine ((Tryz.strings_IndexByte ⟨#[48, 49, 50, 51, 52, 53, 54, 55, 56, 57, 97, 98, 99, 100, 101, 102]⟩ (s[2].toNat : Int) w8).mono (R' := fun e w' => e = .returned (.int .i64 (hexV s[2])) ∧ w8 = w') (fun e w' h => ⟨by rw [h.1]; simp [HX1.out], h.2.symm⟩)).mono ?_
              rintro e wn ⟨rfl, rfl⟩
              clear hHeld
              go_wp2_with fail
              refine hK.out _ _ HS0.out (fun hHeld => ?_)
              clear hK K
              try simp only [Act.put, List.setIfInBounds_toArray, List.set_cons_zero, List.set_cons_succ]
              refine wpAnyH_takeL (i := 3) (v := ?vE3) rfl (by kernel_rfl) (by kernel_rfl) (by kernel_rfl) (fun _ _ _ h => h) (Or.inl ⟨by kernel_rfl, ?runE3⟩) hHeld ?_
              case runE3 => (intro w9 hS9; go_simp; try exact rfl)
              try simp only [Act.put, List.setIfInBounds_toArray, List.set_cons_zero, List.set_cons_succ]
              refine wpAnyH_ready (rs := [6]) (by kernel_rfl) (by simp) ?_
              refine AllReadyH.consL rfl (fun K hK => ?_) AllReadyH.nil
              go_simp
              refine ((Tryz.strings_IndexByte ⟨#[48, 49, 50, 51, 52, 53, 54, 55, 56, 57, 97, 98, 99, 100, 101, 102]⟩ (s[3].toNat : Int) w8).mono (R' := fun e w' => e = .returned (.int .i64 (hexV s[3])) ∧ w8 = w') (fun e w' h => ⟨by rw [h.1]; simp [HX2.out], h.2.symm⟩)).mono ?_
              rintro e wn ⟨rfl, rfl⟩
              clear hHeld
              go_wp2_with fail
              refine hK.out _ _ HS0.out (fun hHeld => ?_)
              clear hK K
              try simp only [Act.put, List.setIfInBounds_toArray, List.set_cons_zero, List.set_cons_succ]
              refine wpAnyH_takeL (i := 7) (v := ?vE7) rfl (by kernel_rfl) (by kernel_rfl) (by kernel_rfl) (fun _ _ _ h => h) (Or.inl ⟨by kernel_rfl, ?runE7⟩) hHeld ?_
              case runE7 => (intro w9 hS9; go_simp; try exact rfl)
              try simp only [Act.put, List.setIfInBounds_toArray, List.set_cons_zero, List.set_cons_succ]
              refine wpAnyH_takeL (i := 8) (v := ?vE8) rfl (by kernel_rfl) (by kernel_rfl) (by kernel_rfl) (fun _ _ _ h => h) (Or.inl ⟨by kernel_rfl, ?runE8⟩) hHeld ?_
              case runE8 => (intro w9 hS9; go_simp; try exact rfl)
              try simp only [Act.put, List.setIfInBounds_toArray, List.set_cons_zero, List.set_cons_succ]
              refine wpAnyH_takeL (i := 9) (v := ?vE9) rfl (by kernel_rfl) (by kernel_rfl) (by kernel_rfl) (fun _ _ _ h => h) (Or.inl ⟨by kernel_rfl, ?runE9⟩) hHeld ?_
              case runE9 => (intro w9 hS9; go_simp; try exact rfl)
              try simp only [Act.put, List.setIfInBounds_toArray, List.set_cons_zero, List.set_cons_succ]
              refine wpAnyH_takeL (i := 10) (v := ?vE10) rfl (by kernel_rfl) (by kernel_rfl) (by kernel_rfl) (fun _ _ _ h => h) (Or.inl ⟨by kernel_rfl, ?runE10⟩) hHeld ?_
              case runE10 => (intro w9 hS9; go_simp; try exact rfl)
              try simp only [Act.put, List.setIfInBounds_toArray, List.set_cons_zero, List.set_cons_succ]
              refine wpAnyH_done (by kernel_rfl) ?_ _
              clear hHeld
              go_wp2_with fail
              refine bodyPost_ret (results_tmp2 rfl _ _ _) rfl ?_
              refine ⟨?_, HS0.out⟩
              rw [HRES.out]
              have hb := hex_bits _ _ hl1 hl2
              simp [hb]
            · have hres : R = (0, 0) := by rw [HR.out]; unfold escV; rw [escN_none s h1 hno (.inr (.inr (by rw [← hn]; exact h5)))]
              have HRES := Lib.hid hres
              have h5' : ((n : Int) == 2) = false := beq_eq_false_iff_ne.2 (by omega)
              clear hres c1 c2 hn h5
              go_enter Tryz.func129, Tryz.ntmps129
              go_wp2_with fail
              refine HRUN.out.mono ?_
              rintro e w2 ⟨rfl, rfl⟩
              go_wp2_with fail
              refine bodyPost_ret (results_tmp2 rfl _ _ _) rfl ?_
              exact ⟨by rw [HRES.out]; rfl, Keep.refl _ _⟩
          · have c3' : ((s[1].toNat : Int) == 120) = false := beq_eq_false_iff_ne.2 (by omega)
            have hres : R = (0, 0) := by rw [HR.out]; unfold escV; rw [escN_none s h1 hno (.inl c3)]
            have HRES := Lib.hid hres
            clear hres c1 c2 c3
            go_enter Tryz.func129, Tryz.ntmps129
            go_wp2_with fail
            refine bodyPost_ret (results_tmp2 rfl _ _ _) rfl ?_
            exact ⟨by rw [HRES.out]; rfl, Keep.refl _ _⟩
        · have i4 : ¬ (4 : Int) ≤ (s.size : Int) := by omega
          have hres : R = (0, 0) := by rw [HR.out]; unfold escV; rw [escN_none s h1 hno (.inr (.inl (by omega)))]
          have HRES := Lib.hid hres
          clear hres c1 c2
          go_enter Tryz.func129, Tryz.ntmps129
          go_wp2_with fail
          refine bodyPost_ret (results_tmp2 rfl _ _ _) rfl ?_
          exact ⟨by rw [HRES.out]; rfl, Keep.refl _ _⟩
  · have i1 : ¬ (1 : Int) < (s.size : Int) := by omega
    have i1' : ¬ (2 : Int) ≤ (s.size : Int) := by omega
    have i4 : ¬ (4 : Int) ≤ (s.size : Int) := by omega
    have hres : R = (0, 0) := by rw [HR.out]; unfold escV; rw [escN_short s (by omega)]
    have HRES := Lib.hid hres
    clear hres
    go_enter Tryz.func129, Tryz.ntmps129
    go_wp2_with fail
    refine bodyPost_ret (results_tmp2 rfl _ _ _) rfl ?_
    exact ⟨by rw [HRES.out]; rfl, Keep.refl _ _⟩
end Go.Proofs.YtdmmhfbafinkpaaGreatDoor

/- Scanning: Word, sign (the program's). -/
namespace Go.Proofs.YtdmmhfbafinkpaaGreatDoor
open Go.RowKit Go.Emb
set_option maxHeartbeats 1000000 in
theorem p_word (s : ByteArray) (w : World) : Calls Tryz.prog 113 #[.string s] w fun e w' => e = .returned (.bool (wordsS.contains s.data.toList)) ∧ w = w' := by
  go_enter Tryz.func113, Tryz.ntmps113
  go_wp2_with fail
  all_goals
    first
      | (exfalso; rename_i ha hb; rw [ha] at hb; cases hb; done)
      | (refine bodyPost_ret (results_tmp rfl _ _ _) rfl ⟨?_, rfl⟩
         simp only [Go.ByteArray.toList_eq] at *
         simp only [wordsS, List.contains_cons, *, Bool.or_true, Bool.true_or, Bool.or_false, Bool.false_or, List.contains_nil]
         rfl)
end Go.Proofs.YtdmmhfbafinkpaaGreatDoor

/- Scanning: sign (the program's). -/
namespace Go.Proofs.YtdmmhfbafinkpaaGreatDoor
open Go.RowKit Go.Emb

def sgnB : List ByteArray := [⟨#[45, 62]⟩, ⟨#[61, 61]⟩, ⟨#[47, 61]⟩, ⟨#[61, 60]⟩, ⟨#[62, 61]⟩]
theorem sgn_cells (w : World) : ∀ j, j < 5 → (w.alloc (.cells #[.string ⟨#[45, 62]⟩, .string ⟨#[61, 61]⟩, .string ⟨#[47, 61]⟩, .string ⟨#[61, 60]⟩, .string ⟨#[62, 61]⟩] 9)).cell? ⟨w.heap.size, j, none⟩ = some (.string (sgnB.getD j ByteArray.empty)) := by
  intro j hj
  have hb := heap_alloc_new w (.cells #[.string ⟨#[45, 62]⟩, .string ⟨#[61, 61]⟩, .string ⟨#[47, 61]⟩, .string ⟨#[61, 60]⟩, .string ⟨#[62, 61]⟩] 9)
  match j, hj with
  | 0, _ => exact (Lib.cell_of_heap hb _).trans rfl
  | 1, _ => exact (Lib.cell_of_heap hb _).trans rfl
  | 2, _ => exact (Lib.cell_of_heap hb _).trans rfl
  | 3, _ => exact (Lib.cell_of_heap hb _).trans rfl
  | 4, _ => exact (Lib.cell_of_heap hb _).trans rfl
theorem sgn_hit {l : List UInt8} {k : Nat} (hk : k < 5) (h : Lib.hasPrefix l (sgnB.getD k ByteArray.empty).data.toList = true) : signN l = 2 ∧ (sgnB.getD k ByteArray.empty).data.toList = l.take 2 := by
  unfold Lib.hasPrefix at h
  match k, hk, h with
  | 0, _, h | 1, _, h | 2, _, h | 3, _, h | 4, _, h =>
    match l, h with
    | [], h => simp [sgnB] at h
    | [a], h => simp [sgnB, List.isPrefixOf] at h
    | a :: b :: r, h =>
      simp [sgnB, List.isPrefixOf] at h
      obtain ⟨rfl, rfl⟩ := h
      exact ⟨rfl, rfl⟩
theorem sgn_miss {l : List UInt8} (h : ∀ k, k < 5 → Lib.hasPrefix l (sgnB.getD k ByteArray.empty).data.toList = false) (c : UInt8) (r : List UInt8) (hl : l = c :: r) : signN l = if signsL.contains c then 1 else 0 := by
  subst hl
  have h0 := h 0 (by omega)
  have h1 := h 1 (by omega)
  have h2 := h 2 (by omega)
  have h3 := h 3 (by omega)
  have h4 := h 4 (by omega)
  cases r with
  | nil => rfl
  | cons d r =>
    unfold signN
    simp only
    have : sign2 c d = false := by
      unfold Lib.hasPrefix at h0 h1 h2 h3 h4
      simp [sgnB, List.isPrefixOf] at h0 h1 h2 h3 h4
      unfold sign2
      simp only [Bool.or_eq_false_iff, Bool.and_eq_false_iff, beq_eq_false_iff_ne]
      exact ⟨⟨⟨⟨Decidable.or_iff_not_imp_left.2 fun x => fun y => h0 (Decidable.not_not.1 x).symm y.symm, Decidable.or_iff_not_imp_left.2 fun x => fun y => h1 (Decidable.not_not.1 x).symm y.symm⟩, Decidable.or_iff_not_imp_left.2 fun x => fun y => h2 (Decidable.not_not.1 x).symm y.symm⟩, Decidable.or_iff_not_imp_left.2 fun x => fun y => h3 (Decidable.not_not.1 x).symm y.symm⟩, Decidable.or_iff_not_imp_left.2 fun x => fun y => h4 (Decidable.not_not.1 x).symm y.symm⟩
    rw [this]; rfl
set_option maxRecDepth 100000 in
set_option maxHeartbeats 1000000 in
theorem p_sign (s : ByteArray) (w : World) (hs0 : 0 < s.size) (hs : s.size ≤ 140737488355328) : Calls Tryz.prog 115 #[.string s] w fun e w' => (∃ S : ByteArray, e = .returned (.string S) ∧ S.data.toList = s.data.toList.take (signN s.data.toList)) ∧ Keep [] w w' := by
  have hcells := sgn_cells w
  have HKW : Hid (Keep [] w (w.alloc (.cells #[.string ⟨#[45, 62]⟩, .string ⟨#[61, 61]⟩, .string ⟨#[47, 61]⟩, .string ⟨#[61, 60]⟩, .string ⟨#[62, 61]⟩] 9))) := Lib.hid ((Keep.refl [] w).alloc _)
  have HC := Lib.hid hcells
  clear hcells
  obtain ⟨R, hR⟩ : ∃ R, R = s.data.toList.take (signN s.data.toList) := ⟨_, rfl⟩
  have HR := Lib.hid hR
  rw [← hR]
  clear hR
  go_enter Tryz.func115, Tryz.ntmps115
  go_wp2_with fail
  generalize w.alloc (.cells #[.string ⟨#[45, 62]⟩, .string ⟨#[61, 61]⟩, .string ⟨#[47, 61]⟩, .string ⟨#[61, 60]⟩, .string ⟨#[62, 61]⟩] 9) = w1 at *
  go_loop [4, 7] (fun _ i => ∃ k : Nat, k ≤ 5 ∧ i = .int .i64 k ∧ ∀ j, j < k → Lib.hasPrefix s.data.toList (sgnB.getD j ByteArray.empty).data.toList = false) (fun _ i => 5 - (RowKit.intOf i).toNat)
  case atStart => exact ⟨0, Nat.zero_le _, rfl, fun j hj => by omega⟩
  case round =>
    obtain ⟨k, hk, rfl, hall⟩ := hrel
    have HALL := Lib.hid hall
    clear hall
    by_cases hlt : k < 5
    · have hc := HC.out k hlt
      have i0 : (0 : Int) ≤ (k : Int) := by omega
      have i1 : (k : Int) < 5 := by omega
      have hhit := fun h => sgn_hit (l := s.data.toList) hlt h
      have HHIT := Lib.hid hhit
      have hcall := fun (u : ByteArray) => (Tryz.strings_HasPrefix s u w1).mono (R' := fun e w' => e = .returned (.bool (Lib.hasPrefix s.data.toList u.data.toList)) ∧ w1 = w') (fun e w' h => ⟨h.1, h.2.symm⟩)
      obtain ⟨u, hu⟩ : ∃ u, u = sgnB.getD k ByteArray.empty := ⟨_, rfl⟩
      rw [← hu] at hc
      have HU := Lib.hid hu
      have HCALL := Lib.hid (hcall u)
      clear hcall hhit hu
      obtain ⟨b, hb⟩ : ∃ b, b = Lib.hasPrefix s.data.toList u.data.toList := ⟨_, rfl⟩
      rw [← hb] at HCALL
      have HB := Lib.hid hb
      clear hb
      cases b with
      | true =>
        go_wp2_with fail
        refine HCALL.out.mono ?_
        rintro e w2 ⟨rfl, rfl⟩
        go_wp2_with fail
        go_ret
        have h1 := HHIT.out (by rw [← HU.out]; exact HB.out.symm)
        refine ⟨⟨u, rfl, ?_⟩, HKW.out⟩
        rw [HR.out, HU.out, h1.1, h1.2]
      | false =>
        go_wp2_with fail
        refine HCALL.out.mono ?_
        rintro e w2 ⟨rfl, rfl⟩
        go_wp2_with fail
        go_round
        case rel => exact ⟨k + 1, by omega, by go_num, fun j hj => by
          rcases Nat.lt_or_ge j k with h | h
          · exact HALL.out j h
          · obtain rfl : j = k := by omega
            rw [← HU.out]; exact HB.out.symm⟩
        case measure => simp [RowKit.intOf]; omega
    · obtain rfl : k = 5 := by omega
      obtain ⟨c, r, hcr⟩ : ∃ c r, s.data.toList = c :: r := by
        match e : s.data.toList with
        | [] => have : s.data.toList.length = s.size := by simp
                rw [e] at this; simp at this; omega
        | c :: r => exact ⟨c, r, rfl⟩
      have hmiss := sgn_miss HALL.out c r hcr
      have hc0 : s[0] = c := by rw [← index_at s 0 hs0]; simp [hcr]
      have i0 : (0 : Int) < (s.size : Int) := by omega
      have hcall := (Tryz.strings_IndexByte ⟨#[40, 41, 91, 93, 123, 125, 44, 59, 46, 124, 33, 43, 45, 42, 60, 62, 61]⟩ (s[0].toNat : Int) w1).mono (R' := fun e w' => e = .returned (.int .i64 (Lib.indexByte signsL s[0])) ∧ w1 = w') (fun e w' h => ⟨by rw [h.1]; simp, h.2.symm⟩)
      have hneg : decide (Lib.indexByte signsL s[0] < 0) = !signsL.contains s[0] := indexByte_neg signsL s[0]
      have HCALL := Lib.hid hcall
      have HM := Lib.hid hmiss
      have HCR := Lib.hid hcr
      have HC0 := Lib.hid hc0
      clear hcall hmiss hcr hc0 HALL HC
      generalize Lib.indexByte signsL s[0] = ix at *
      cases hq : signsL.contains s[0] with
      | true =>
        rw [hq] at hneg
        have hd : 0 ≤ ix := by simpa using hneg
        have HQ := Lib.hid hq
        clear hneg hq
        go_wp2_with fail
        refine HCALL.out.mono ?_
        rintro e w2 ⟨rfl, rfl⟩
        go_wp2_with fail
        go_ret
        refine ⟨⟨_, rfl, ?_⟩, HKW.out⟩
        rw [HR.out, HM.out, ← HC0.out, HQ.out]
        simp [ByteArray.data_extract]
      | false =>
        rw [hq] at hneg
        have hd : ¬ 0 ≤ ix := by simpa using hneg
        have HQ := Lib.hid hq
        clear hneg hq
        go_wp2_with fail
        refine HCALL.out.mono ?_
        rintro e w2 ⟨rfl, rfl⟩
        go_wp2_with fail
        go_ret
        refine ⟨⟨_, rfl, ?_⟩, HKW.out⟩
        rw [HR.out, HM.out, ← HC0.out, HQ.out]
        rfl
end Go.Proofs.YtdmmhfbafinkpaaGreatDoor

/- Scanning: strings.Cut at a newline. -/
namespace Go.Proofs.YtdmmhfbafinkpaaGreatDoor
open Go.RowKit Go.Emb

abbrev noNL : UInt8 → Bool := fun x => decide (x.toNat ≠ 10)
theorem idx_note (l : List UInt8) : (Lib.indexByte l 10 = -1 ∧ l.takeWhile noNL = l) ∨ (Lib.indexByte l 10 = ((l.takeWhile noNL).length : Nat) ∧ (l.takeWhile noNL).length < l.length) := by
  induction l with
  | nil => exact .inl ⟨rfl, rfl⟩
  | cons c r ih =>
    by_cases hc : c.toNat = 10
    · have hc' : c = 10 := UInt8.toNat.inj hc
      subst hc'
      refine .inr ⟨?_, ?_⟩
      · rw [List.takeWhile_cons_of_neg (by decide)]; simp [Lib.indexByte]
      · rw [List.takeWhile_cons_of_neg (by decide)]; simp
    · have hne : (c == 10) = false := by simpa using fun h => hc (by rw [h]; rfl)
      have hp : noNL c = true := by simp [noNL, hc]
      rw [List.takeWhile_cons_of_pos hp]
      unfold Lib.indexByte
      rw [hne]
      rcases ih with ⟨h1, h2⟩ | ⟨h1, h2⟩
      · refine .inl ⟨?_, by rw [h2]⟩
        simp [h1]
      · refine .inr ⟨?_, by simp; omega⟩
        rw [h1]
        have : (((r.takeWhile noNL).length : Int) == -1) = false := beq_eq_false_iff_ne.2 (by omega)
        simp only [this, List.length_cons]
        simp
theorem take_tw (p : UInt8 → Bool) (l : List UInt8) : l.take (l.takeWhile p).length = l.takeWhile p := by
  conv => lhs; rw [← List.takeWhile_append_dropWhile (p := p) (l := l)]
  have : ∀ (x y z : List UInt8), z = x → (x ++ y).take z.length = x := fun x y z h => by subst h; simp
  exact this _ _ _ (by rw [List.takeWhile_append_dropWhile])
def CutP (w : World) (l : List UInt8) (e : Ending) (w' : World) : Prop := ∃ (S T : ByteArray) (b : Bool), e = .returned (.tuple #[.string S, .string T, .bool b]) ∧ S.data.toList = l.takeWhile noNL ∧ Keep [] w w'
set_option maxRecDepth 100000 in
set_option maxHeartbeats 1000000 in
theorem p_scut (s : ByteArray) (w : World) (hs : s.size ≤ 140737488355328) : Calls Tryz.prog 111 #[.string s, .string ⟨#[10]⟩] w (CutP w s.data.toList) := by
  have hcall := (Tryz.stringslite_Index_one s 10 w).mono (R' := fun e w' => e = .returned (.int .i64 (Lib.indexByte s.data.toList 10)) ∧ w = w') (fun e w' h => ⟨h.1, h.2.symm⟩)
  have hi := idx_note s.data.toList
  have hl : s.data.toList.length = s.size := by simp
  rw [hl] at hi
  obtain ⟨R, hR⟩ : ∃ R, R = s.data.toList.takeWhile noNL := ⟨_, rfl⟩
  have htk := take_tw noNL s.data.toList
  rw [← hR] at hi htk
  unfold CutP
  rw [← hR]
  have HR := Lib.hid hR
  have HTK := Lib.hid htk
  have HC := Lib.hid hcall
  clear hR hcall hl htk
  generalize Lib.indexByte s.data.toList 10 = ix at *
  rcases hi with ⟨rfl, h2⟩ | ⟨rfl, h2⟩
  · have H2 := Lib.hid h2
    clear h2
    go_enter Tryz.func111, Tryz.ntmps111
    go_wp2_with fail
    refine HC.out.mono ?_
    rintro e w2 ⟨rfl, rfl⟩
    go_wp2_with fail
    refine bodyPost_ret (results_tmp3 rfl _ _ _) rfl ?_
    exact ⟨_, _, _, rfl, H2.out.symm, Keep.refl _ _⟩
  · have i0 : (0 : Int) ≤ (R.length : Int) := by omega
    have i1 : (R.length : Int) ≤ (s.size : Int) := by omega
    have i2 : IntKind.i64.wrap ((R.length : Int) + 1) = ((R.length + 1 : Nat) : Int) := (IntWalk.i64_in _ (by omega)).trans (by omega)
    have i3 : ((R.length + 1 : Nat) : Int) ≤ (s.size : Int) := by omega
    have i4 : (0 : Int) ≤ ((R.length + 1 : Nat) : Int) := by omega
    go_enter Tryz.func111, Tryz.ntmps111
    go_wp2_with fail
    refine HC.out.mono ?_
    rintro e w2 ⟨rfl, rfl⟩
    go_wp2_with fail
    go_quiet (fail)
    go_wp2_with fail
    refine bodyPost_ret (results_tmp3 rfl _ _ _) rfl ?_
    refine ⟨_, _, _, rfl, ?_, (Keep.refl [] w).drewN _⟩
    rw [← HTK.out]
    simp [ByteArray.data_extract]
set_option maxRecDepth 100000 in
set_option maxHeartbeats 1000000 in
theorem p_cut (s : ByteArray) (w : World) (hs : s.size ≤ 140737488355328) : Calls Tryz.prog 92 #[.string s, .string ⟨#[10]⟩] w (CutP w s.data.toList) := by
  have hcall := p_scut s w hs
  have HC := Lib.hid hcall
  clear hcall
  go_enter Tryz.func92, Tryz.ntmps92
  go_wp2_with fail
  refine HC.out.mono ?_
  rintro e w2 ⟨S, T, b, rfl, hS, hk⟩
  have HS := Lib.hid hS
  have HK := Lib.hid hk
  clear hS hk
  go_wp2_with fail
  refine bodyPost_ret (results_tmp3 rfl _ _ _) rfl ?_
  exact ⟨_, _, _, rfl, HS.out, HK.out⟩
end Go.Proofs.YtdmmhfbafinkpaaGreatDoor
