/- Terms: Bare (the program's). Printed by gen-tm10.py. -/
import Derived.Test.YtiiklakfelbjfaaDoorTm9
namespace Go.Proofs.YtiiklakfelbjfaaDoor
open Go.RowKit Go.Emb

theorem indexByte_neg (l : List UInt8) (c : UInt8) : decide (Lib.indexByte l c < 0) = !l.contains c := by
  induction l with
  | nil => simp [Lib.indexByte]
  | cons b l ih =>
    have hge := Lib.indexByte_ge l c
    unfold Lib.indexByte
    by_cases hb : b = c
    · subst hb; simp
    · have hb1 : (b == c) = false := by simpa using hb
      have hb2 : (c == b) = false := by simpa using fun h => hb h.symm
      rw [hb1, List.contains_cons, hb2, Bool.false_or, ← ih]
      by_cases h1 : Lib.indexByte l c = -1
      · simp [h1]
      · have h1' : (Lib.indexByte l c == -1) = false := by simpa using h1
        simp only [h1', Bool.false_eq_true, if_false]
        simp only [decide_eq_decide]
        omega
def wordsB : List ByteArray := wordsL.map fun l => ⟨l.toArray⟩
theorem contains_words (s : ByteArray) : Lib.containsS (wordsB.take 14) s = wordsL.contains s.data.toList := by
  rw [Bool.eq_iff_iff, Lib.containsS_iff, List.contains_iff_mem]
  have : wordsB.take 14 = wordsB := rfl
  rw [this]
  unfold wordsB
  rw [List.mem_map]
  constructor
  · rintro ⟨l, hl, rfl⟩; simpa using hl
  · intro h; exact ⟨_, h, by cases s; simp⟩
theorem words_cells (w : World) : ∀ j, j < wordsB.length → (w.alloc (.cells #[.string ⟨#[97, 102, 116, 101, 114]⟩, .string ⟨#[97, 110, 100]⟩, .string ⟨#[99, 97, 115, 101]⟩, .string ⟨#[99, 97, 116, 99, 104]⟩, .string ⟨#[100, 105, 118]⟩, .string ⟨#[101, 110, 100]⟩, .string ⟨#[102, 117, 110]⟩, .string ⟨#[110, 111, 116]⟩, .string ⟨#[111, 102]⟩, .string ⟨#[111, 114]⟩, .string ⟨#[114, 101, 99, 101, 105, 118, 101]⟩, .string ⟨#[114, 101, 109]⟩, .string ⟨#[116, 114, 121]⟩, .string ⟨#[119, 104, 101, 110]⟩] 9)).cell? ⟨w.heap.size, 0 + j, none⟩ = some (.string (wordsB.getD j ByteArray.empty)) := by
  intro j hj
  have hb := heap_alloc_new w (.cells #[.string ⟨#[97, 102, 116, 101, 114]⟩, .string ⟨#[97, 110, 100]⟩, .string ⟨#[99, 97, 115, 101]⟩, .string ⟨#[99, 97, 116, 99, 104]⟩, .string ⟨#[100, 105, 118]⟩, .string ⟨#[101, 110, 100]⟩, .string ⟨#[102, 117, 110]⟩, .string ⟨#[110, 111, 116]⟩, .string ⟨#[111, 102]⟩, .string ⟨#[111, 114]⟩, .string ⟨#[114, 101, 99, 101, 105, 118, 101]⟩, .string ⟨#[114, 101, 109]⟩, .string ⟨#[116, 114, 121]⟩, .string ⟨#[119, 104, 101, 110]⟩] 9)
  have hj' : j < 14 := hj
  match j, hj' with
    | 0, _ => exact (Lib.cell_of_heap hb _).trans rfl
    | 1, _ => exact (Lib.cell_of_heap hb _).trans rfl
    | 2, _ => exact (Lib.cell_of_heap hb _).trans rfl
    | 3, _ => exact (Lib.cell_of_heap hb _).trans rfl
    | 4, _ => exact (Lib.cell_of_heap hb _).trans rfl
    | 5, _ => exact (Lib.cell_of_heap hb _).trans rfl
    | 6, _ => exact (Lib.cell_of_heap hb _).trans rfl
    | 7, _ => exact (Lib.cell_of_heap hb _).trans rfl
    | 8, _ => exact (Lib.cell_of_heap hb _).trans rfl
    | 9, _ => exact (Lib.cell_of_heap hb _).trans rfl
    | 10, _ => exact (Lib.cell_of_heap hb _).trans rfl
    | 11, _ => exact (Lib.cell_of_heap hb _).trans rfl
    | 12, _ => exact (Lib.cell_of_heap hb _).trans rfl
    | 13, _ => exact (Lib.cell_of_heap hb _).trans rfl
theorem index_at (s : ByteArray) (k : Nat) (h : k < s.size) : s.data.toList[k]'(by simpa using h) = s[k] := rfl
set_option maxRecDepth 100000 in
set_option maxHeartbeats 1000000 in
theorem p_bare (s : ByteArray) (w : World) (hs : s.size ≤ 140737488355328) : Calls Tryd.prog 48 #[.string s] w fun e w' => e = .returned (.bool (bareL s.data.toList)) ∧ Keep [] w w' := by
  have hbare : bareL s.data.toList = (s.data.toList.all letterB && (match s.data.toList with | [] => false | c :: _ => decide (97 ≤ c) && decide (c ≤ 122)) && !wordsL.contains s.data.toList) := rfl
  have HB := Lib.hid hbare
  clear hbare
  go_enter Tryd.func48, Tryd.ntmps48
  go_wp2_with fail
  go_loop [3, 7] (fun _ i => ∃ k : Nat, k ≤ s.size ∧ i = .int .i64 k ∧ (s.data.toList.take k).all letterB = true) (fun _ i => s.size - (RowKit.intOf i).toNat)
  case atStart => exact ⟨0, Nat.zero_le _, rfl, by simp⟩
  case round =>
    obtain ⟨k, hk, rfl, hall⟩ := hrel
    have HALL := Lib.hid hall
    clear hall
    by_cases hlt : k < s.size
    · have hts : (s.data.toList.take (k + 1)).all letterB = letterB s[k] := by
        rw [List.take_succ_eq_append_getElem (by simpa using hlt), List.all_append, HALL.out, index_at s k hlt]; simp
      have hcall := (Tryd.strings_IndexByte ⟨#[97, 98, 99, 100, 101, 102, 103, 104, 105, 106, 107, 108, 109, 110, 111, 112, 113, 114, 115, 116, 117, 118, 119, 120, 121, 122, 65, 66, 67, 68, 69, 70, 71, 72, 73, 74, 75, 76, 77, 78, 79, 80, 81, 82, 83, 84, 85, 86, 87, 88, 89, 90, 48, 49, 50, 51, 52, 53, 54, 55, 56, 57, 95, 64]⟩ (s[k].toNat : Int) w).mono (R' := fun e w' => e = .returned (.int .i64 (Lib.indexByte lettersL s[k])) ∧ w = w') (fun e w' h => ⟨by rw [h.1]; simp, h.2.symm⟩)
      have hneg : decide (Lib.indexByte lettersL s[k] < 0) = !letterB s[k] := indexByte_neg lettersL s[k]
      have HTS := Lib.hid hts
      have HC := Lib.hid hcall
      clear hts hcall
      generalize Lib.indexByte lettersL s[k] = ix at *
      cases hl : letterB s[k] with
      | true =>
        rw [hl] at hneg HTS
        have hd : ¬ ix < 0 := by simpa using hneg
        clear hneg hl
        go_wp2_with fail
        refine HC.out.mono ?_
        rintro e w2 ⟨rfl, rfl⟩
        go_wp2_with fail
        go_round
        case rel => exact ⟨k + 1, by omega, by go_num, HTS.out⟩
        case measure => simp [RowKit.intOf]; omega
      | false =>
        rw [hl] at hneg HTS
        have hd : ix < 0 := by simpa using hneg
        have hres : bareL s.data.toList = false := by
          rw [HB.out]
          have := List.take_append_drop (k + 1) s.data.toList
          rw [← this, List.all_append, HTS.out]; simp
        have HRES := Lib.hid hres
        clear hneg hl hres
        go_wp2_with fail
        refine HC.out.mono ?_
        rintro e w2 ⟨rfl, rfl⟩
        go_wp2_with fail
        go_ret
        exact ⟨by rw [HRES.out]; rfl, Keep.refl _ _⟩
    · have hall : s.data.toList.all letterB = true := by
        have := HALL.out
        rwa [List.take_of_length_le (by simp; exact Nat.le_of_not_lt hlt)] at this
      have hcall : Calls Tryd.prog 69 #[.slice (some ⟨w.heap.size, 0, none⟩) 14 14, .string s] (w.alloc (.cells #[.string ⟨#[97, 102, 116, 101, 114]⟩, .string ⟨#[97, 110, 100]⟩, .string ⟨#[99, 97, 115, 101]⟩, .string ⟨#[99, 97, 116, 99, 104]⟩, .string ⟨#[100, 105, 118]⟩, .string ⟨#[101, 110, 100]⟩, .string ⟨#[102, 117, 110]⟩, .string ⟨#[110, 111, 116]⟩, .string ⟨#[111, 102]⟩, .string ⟨#[111, 114]⟩, .string ⟨#[114, 101, 99, 101, 105, 118, 101]⟩, .string ⟨#[114, 101, 109]⟩, .string ⟨#[116, 114, 121]⟩, .string ⟨#[119, 104, 101, 110]⟩] 9)) (fun e w' => e = .returned (.bool (wordsL.contains s.data.toList)) ∧ (w.alloc (.cells #[.string ⟨#[97, 102, 116, 101, 114]⟩, .string ⟨#[97, 110, 100]⟩, .string ⟨#[99, 97, 115, 101]⟩, .string ⟨#[99, 97, 116, 99, 104]⟩, .string ⟨#[100, 105, 118]⟩, .string ⟨#[101, 110, 100]⟩, .string ⟨#[102, 117, 110]⟩, .string ⟨#[110, 111, 116]⟩, .string ⟨#[111, 102]⟩, .string ⟨#[111, 114]⟩, .string ⟨#[114, 101, 99, 101, 105, 118, 101]⟩, .string ⟨#[114, 101, 109]⟩, .string ⟨#[116, 114, 121]⟩, .string ⟨#[119, 104, 101, 110]⟩] 9)) = w') :=
        (Tryd.slices_Contains_string w.heap.size 0 14 14 wordsB s _ (by decide) (by decide) (words_cells w)).mono (fun e w' h => ⟨by rw [h.1, contains_words], h.2.symm⟩)
      have hb2 := HB.out
      rw [hall, Bool.true_and] at hb2
      have HC := Lib.hid hcall
      clear hcall hall HALL HB
      generalize wordsL.contains s.data.toList = wb at *
      cases hs0 : s.data.toList with
      | nil =>
        have e1 : s.toList = [] := by rw [Go.ByteArray.toList_eq]; exact hs0
        have e2 : s.toList.isEmpty = true := by rw [e1]; rfl
        have hres : bareL s.data.toList = false := by rw [hb2, hs0]; rfl
        have HRES := Lib.hid hres
        clear hs0 hb2 hres
        go_wp2_with fail
        go_ret
        exact ⟨by rw [HRES.out]; rfl, (Keep.refl [] w).alloc _⟩
      | cons c r =>
        have hsz : 0 < s.size := by
          rcases Nat.eq_zero_or_pos s.size with h | h
          · have := (toList_nil_iff s).2 h; rw [Go.ByteArray.toList_eq, hs0] at this; cases this
          · exact h
        have e1 : ¬ s.toList = [] := by rw [Go.ByteArray.toList_eq, hs0]; simp
        have e2 : s.toList.isEmpty = false := by simpa using e1
        have e3 : s[0] = c := by rw [← index_at s 0 hsz]; simp [hs0]
        have i0 : (0 : Int) < (s.size : Int) := by omega
        have hn1 : decide (97 ≤ c) = decide ((97 : Int) ≤ (c.toNat : Int)) := by rw [Bool.eq_iff_iff]; simp [UInt8.le_iff_toNat_le]; omega
        have hn2 : decide (c ≤ 122) = decide ((c.toNat : Int) ≤ 122) := by rw [Bool.eq_iff_iff]; simp [UInt8.le_iff_toNat_le]; omega
        have hres : bareL s.data.toList = (decide ((97 : Int) ≤ (c.toNat : Int)) && decide ((c.toNat : Int) ≤ 122) && !wb) := by rw [hb2, hs0]; simp only [hn1, hn2]
        have HRES := Lib.hid hres
        clear hs0 hn1 hn2 hres hb2
        subst e3
        by_cases h1 : (97 : Int) ≤ (s[0].toNat : Int)
        · by_cases h2 : (s[0].toNat : Int) ≤ 122
          · go_wp2_with fail
            refine HC.out.mono ?_
            rintro e w2 ⟨rfl, rfl⟩
            go_wp2_with fail
            go_ret
            exact ⟨by rw [HRES.out]; simp [h1, h2], (Keep.refl [] w).alloc _⟩
          · go_wp2_with fail
            go_ret
            exact ⟨by rw [HRES.out]; simp; intros; omega, (Keep.refl [] w).alloc _⟩
        · go_wp2_with fail
          go_ret
          exact ⟨by rw [HRES.out]; simp; intros; omega, (Keep.refl [] w).alloc _⟩
end Go.Proofs.YtiiklakfelbjfaaDoor
