/- Terms: the statement's live. Printed by gen-tm15.py. -/
import Derived.Test.YtcegdomfmamonaaDoorTm14
import Derived.Test.YtcegdomfmamonaaDoorTm6
import Derived.Test.YtcegdomfmamonaaDoorTm8
namespace Go.Proofs.YtcegdomfmamonaaDoor
open Go.RowKit Go.Emb

theorem q_num (n : Int) (w : World) : Calls Tryd.prog 10 #[.int .i64 n] w fun e w' => e = .returned (.int .i64 n) ∧ w = w' := by
  go_enter Tryd.func10, Tryd.ntmps10
  go_wp2_with fail
  go_ret
  exact ⟨rfl, rfl⟩
theorem q_int (n : Int) (w : World) : Calls Tryd.prog 24 #[.int .i64 n] w fun e w' => e = .returned (.agg #[.int .i64 1, .int .i64 n, .string ⟨#[]⟩, .slice none 0 0]) ∧ Keep [] w w' := p_int n w
theorem q_atom (s : ByteArray) (w : World) : Calls Tryd.prog 26 #[.string s] w fun e w' => e = .returned (.agg #[.int .i64 2, .int .i64 0, .string s, .slice none 0 0]) ∧ Keep [] w w' := p_atom s w
theorem q_pid (n : Int) (w : World) : Calls Tryd.prog 28 #[.int .i64 n] w fun e w' => e = .returned (.agg #[.int .i64 5, .int .i64 n, .string ⟨#[]⟩, .slice none 0 0]) ∧ Keep [] w w' := p_pid n w
theorem q_ref (n : Int) (w : World) : Calls Tryd.prog 30 #[.int .i64 n] w fun e w' => e = .returned (.agg #[.int .i64 3, .int .i64 n, .string ⟨#[]⟩, .slice none 0 0]) ∧ Keep [] w w' := p_ref n w
theorem q_nil (w : World) : Calls Tryd.prog 32 #[] w fun e w' => e = .returned (.agg #[.int .i64 7, .int .i64 0, .string ⟨#[]⟩, .slice none 0 0]) ∧ Keep [] w w' := p_nil w

theorem q_cons {B : Nat} {w : World} {h t : Tm} (hh : RdTm B w h) (ht : RdTm B w t) (hB : B ≤ w.heap.size) : Calls Tryd.prog 34 #[aggTm h, aggTm t] w fun e w' => ∃ a c, e = .returned (.agg #[.int .i64 8, .int .i64 0, .string ⟨#[]⟩, .slice a 2 c]) ∧ RdTm w'.heap.size w' (.mk 8 0 ⟨#[]⟩ (.slice a 2 c) [h, t]) ∧ Keep [] w w' := by
  refine (p_cons hh ht hB).mono ?_
  rintro e w' ⟨iv, rfl, h1, h2⟩
  obtain ⟨a, c, hiv, -, -⟩ := h1.has.form
  obtain rfl : iv = .slice a 2 c := hiv
  exact ⟨a, c, rfl, h1, h2⟩
theorem q_tuple {B : Nat} {w : World} {v : Value} {l : List Tm} (h : HasT B w v l) (hB : B ≤ w.heap.size) (hl : l.length * 56 ≤ 140737488355328) : Calls Tryd.prog 36 #[v] w fun e w' => ∃ a c, e = .returned (.agg #[.int .i64 6, .int .i64 0, .string ⟨#[]⟩, .slice a l.length c]) ∧ RdTm w'.heap.size w' (.mk 6 0 ⟨#[]⟩ (.slice a l.length c) l) ∧ Keep [] w w' := by
  refine (p_tuple h hB hl).mono ?_
  rintro e w' ⟨iv, rfl, h1, h2⟩
  obtain ⟨a, c, hiv, -, -⟩ := h1.has.form
  obtain rfl : iv = .slice a l.length c := hiv
  exact ⟨a, c, rfl, h1, h2⟩

/-- the statement's term -/
def liveT (v6 v8 v9 : Value) : Tm := .mk 6 0 ⟨#[]⟩ v6 [leaf 2 0 ⟨#[97]⟩, leaf 2 0 ⟨#[66]⟩, .mk 8 0 ⟨#[]⟩ v8 [leaf 1 1 ⟨#[]⟩, .mk 8 0 ⟨#[]⟩ v9 [leaf 1 2 ⟨#[]⟩, leaf 2 0 ⟨#[120]⟩]], leaf 5 3 ⟨#[]⟩, leaf 3 4 ⟨#[]⟩]
theorem liveT_sz (v6 v8 v9 : Value) : (liveT v6 v8 v9).sz = 10 := by simp [liveT, leaf, Tm.sz, szL]
theorem liveT_is (v6 v8 v9 : Value) : isTm (liveT v6 v8 v9) = true := by
  simp only [liveT, leaf, isTm, isTms, headOk_1, headOk_2, headOk_3, headOk_5, headOk_6, headOk_8]
  rfl
theorem itoa_small (n : Nat) (h : n < 10) : Lib.itoa (n : Int) = [UInt8.ofNat (48 + n)] := by
  unfold Lib.itoa
  rw [if_neg (by omega), Int.toNat_natCast]
  unfold Lib.decDigits
  rw [dif_pos h]
theorem liveT_print (v6 v8 v9 : Value) : printTm (liveT v6 v8 v9) = [123, 97, 44, 39, 66, 39, 44, 91, 49, 44, 50, 124, 120, 93, 44, 60, 51, 62, 44, 35, 52, 125] := by
  have i1 : Lib.itoa 1 = [49] := itoa_small 1 (by omega)
  have i2 : Lib.itoa 2 = [50] := itoa_small 2 (by omega)
  have i3 : Lib.itoa 3 = [51] := itoa_small 3 (by omega)
  have i4 : Lib.itoa 4 = [52] := itoa_small 4 (by omega)
  have n1 : nameL [97] = [97] := by decide
  have n2 : nameL [66] = [39, 66, 39] := by decide
  have n3 : nameL [120] = [120] := by decide
  simp [liveT, leaf, printTm, restOf, restTm, rowTms, flatL, i1, i2, i3, i4, n1, n2, n3]
theorem TabOk.up {B C : Nat} {w : World} (h : TabOk B w) (hB : B ≤ C) (hC : C ≤ w.heap.size) : TabOk C w := ⟨h.1, Nat.lt_of_lt_of_le h.2.1 hB, hC⟩
theorem live_c1 : cmpTm (leaf 1 9 ⟨#[]⟩) (leaf 2 0 ⟨#[97]⟩) = -1 := by decide +kernel
theorem live_c2 (v : Value) : cmpTm (.mk 6 0 ⟨#[]⟩ v []) (leaf 7 0 ⟨#[]⟩) = -1 := by
  simp only [leaf, cmpTm]
  rfl
theorem live_k1 (v6 v8 v9 : Value) : checkTm [liveT v6 v8 v9] = 0 := by
  unfold checkTm
  rw [szL_cons, szL_nil, liveT_sz, isTms, liveT_is, isTms]
  rfl
theorem live_k2 : checkTm [leaf 0 0 ⟨#[]⟩] = 70 := by
  unfold checkTm
  rw [szL_cons, szL_nil, isTms, leaf, isTm, headOk_no _ _ _ (by omega) (by omega) (by omega) (by omega) (by omega) (by omega) (by omega) (by omega)]
  simp [Tm.sz, szL]
theorem hasT_one {w : World} {t : Tm} {B : Nat} (h : RdTm B w t) (hB : B ≤ w.heap.size) : HasT (w.heap.size + 1) (w.alloc (.cells (encTm t).toArray 31)) (.slice (some ⟨w.heap.size, 0, none⟩) 1 1) [t] := by
  refine HasT.ofBlock (l := [t]) (E := 31) (by simpa using heap_alloc_new w _) ?_ (by simp) (by omega)
  simp only [RdTms, and_true]
  exact (h.keep0 ((Keep.refl [] w).alloc _)).up (by omega)
theorem hasT_nil {B : Nat} {w : World} : HasT B w (.slice none 0 0) [] := ⟨⟨none, ⟨rfl, none, 0, rfl, Nat.le_refl _, by simp, .inl ⟨rfl, rfl⟩⟩, by simp⟩, by simp, by simp [RdTms]⟩

set_option maxRecDepth 100000 in
set_option maxHeartbeats 1000000 in
theorem l_live {B : Nat} {w : World} (ht : TabOk B w) : Calls Tryd.prog 9 #[] w fun e w' => e = .returned (.bool true) ∧ Keep [] w w' := by
  have HT := Lib.hid ht
  clear ht
  go_enter Tryd.func9, Tryd.ntmps9
  go_wp2_with fail
  refine (q_atom ⟨#[97]⟩ _).mono ?_
  rintro e w1 ⟨rfl, hk1⟩
  have HK1 := Lib.hid ((Keep.refl [] w).trans hk1 (by simp))
  have HL1 := Lib.hid hk1
  clear hk1
  go_wp2_with fail
  refine (q_atom ⟨#[66]⟩ _).mono ?_
  rintro e w2 ⟨rfl, hk2⟩
  have HK2 := Lib.hid ((HK1.out).trans hk2 (by simp))
  have HL2 := Lib.hid hk2
  clear hk2
  go_wp2_with fail
  refine (q_int 1 _).mono ?_
  rintro e w3 ⟨rfl, hk3⟩
  have HK3 := Lib.hid ((HK2.out).trans hk3 (by simp))
  have HL3 := Lib.hid hk3
  clear hk3
  go_wp2_with fail
  refine (q_int 2 _).mono ?_
  rintro e w4 ⟨rfl, hk4⟩
  have HK4 := Lib.hid ((HK3.out).trans hk4 (by simp))
  have HL4 := Lib.hid hk4
  clear hk4
  go_wp2_with fail
  refine (q_atom ⟨#[120]⟩ _).mono ?_
  rintro e w5 ⟨rfl, hk5⟩
  have HK5 := Lib.hid ((HK4.out).trans hk5 (by simp))
  have HL5 := Lib.hid hk5
  clear hk5
  go_wp2_with fail
  refine (q_cons (B := w5.heap.size) (h := leaf 1 2 ⟨#[]⟩) (t := leaf 2 0 ⟨#[120]⟩) (leaf_rd (by omega) (by omega) (by simp [ByteArray.size])) (leaf_rd (by omega) (by omega) (by simp [ByteArray.size])) (Nat.le_refl _)).mono ?_
  rintro e w6 ⟨a9, c9, rfl, r9, hk6⟩
  have R9 := Lib.hid r9
  have HK6 := Lib.hid ((HK5.out).trans hk6 (by simp))
  clear hk6 r9
  go_wp2_with fail
  refine (q_cons (B := w6.heap.size) (h := leaf 1 1 ⟨#[]⟩) (t := .mk 8 0 ⟨#[]⟩ (.slice a9 2 c9) [leaf 1 2 ⟨#[]⟩, leaf 2 0 ⟨#[120]⟩]) (leaf_rd (by omega) (by omega) (by simp [ByteArray.size])) R9.out (Nat.le_refl _)).mono ?_
  rintro e w7 ⟨a8, c8, rfl, r8, hk7⟩
  have R8 := Lib.hid r8
  have HK7 := Lib.hid ((HK6.out).trans hk7 (by simp))
  clear hk7 r8
  go_wp2_with fail
  refine (q_pid 3 _).mono ?_
  rintro e w8 ⟨rfl, hk8⟩
  have HK8 := Lib.hid ((HK7.out).trans hk8 (by simp))
  have HL8 := Lib.hid hk8
  clear hk8
  go_wp2_with fail
  refine (q_ref 4 _).mono ?_
  rintro e w9 ⟨rfl, hk9⟩
  have HK9 := Lib.hid ((HK8.out).trans hk9 (by simp))
  have HL9 := Lib.hid hk9
  clear hk9
  go_wp2_with fail
  refine (q_tuple (B := w9.heap.size + 1) (l := (liveT (.slice none 0 0) (.slice a8 2 c8) (.slice a9 2 c9)).items) (HasT.ofBlock (l := (liveT (.slice none 0 0) (.slice a8 2 c8) (.slice a9 2 c9)).items) (heap_alloc_new w9 _) ?hr (by simp [liveT, Tm.items]) (by omega)) (by simp) (by simp [liveT, Tm.items])).mono ?_
  case hr =>
    have r := (((R8.out.keep0 HL8.out).keep0 HL9.out).keep0 ((Keep.refl [] w9).alloc (.cells ((liveT (.slice none 0 0) (.slice a8 2 c8) (.slice a9 2 c9)).items.flatMap encTm).toArray 31))).up (C := w9.heap.size + 1) (by have := HL8.out.size; have := HL9.out.size; omega)
    simp only [liveT, Tm.items, RdTms, and_true]
    exact ⟨(leaf_rd (by omega) (by omega) (by simp [ByteArray.size])), (leaf_rd (by omega) (by omega) (by simp [ByteArray.size])), r, (leaf_rd (by omega) (by omega) (by simp [ByteArray.size])), (leaf_rd (by omega) (by omega) (by simp [ByteArray.size]))⟩
  rintro e w10 ⟨a6, c6, rfl, r6, hk10⟩
  have R6 : Hid (RdTm w10.heap.size w10 (liveT (.slice a6 5 c6) (.slice a8 2 c8) (.slice a9 2 c9))) := r6
  have HK10 := Lib.hid ((HK9.out.alloc _).trans hk10 (by simp))
  clear r6 hk10
  have hpr : Calls Tryd.prog 18 #[.agg #[.int .i64 6, .int .i64 0, .string ⟨#[]⟩, .slice a6 5 c6]] (w10.alloc (.cells #[.int .i64 6, .int .i64 0, .string ⟨#[]⟩, .slice a6 5 c6] 31)) fun e w' => e = .returned (.string ⟨#[123, 97, 44, 39, 66, 39, 44, 91, 49, 44, 50, 124, 120, 93, 44, 60, 51, 62, 44, 35, 52, 125]⟩) ∧ Keep [] (w10.alloc (.cells #[.int .i64 6, .int .i64 0, .string ⟨#[]⟩, .slice a6 5 c6] 31)) w' := by
    have h := p_print (B := w10.heap.size) (t := liveT (.slice a6 5 c6) (.slice a8 2 c8) (.slice a9 2 c9)) (R6.out.keep0 ((Keep.refl [] w10).alloc (.cells #[.int .i64 6, .int .i64 0, .string ⟨#[]⟩, .slice a6 5 c6] 31))) (liveT_is _ _ _) ((HT.out.keep0 (HK10.out.alloc (.cells #[.int .i64 6, .int .i64 0, .string ⟨#[]⟩, .slice a6 5 c6] 31))).up (Nat.le_trans HT.out.2.2 HK10.out.size) (by simp)) (by rw [liveT_sz]; omega)
    rw [liveT_print] at h
    exact h
  have HPR := Lib.hid hpr
  clear hpr
  go_wp2_with fail
  refine HPR.out.mono ?_
  rintro e w11 ⟨rfl, hk11⟩
  have HL11 := Lib.hid hk11
  clear hk11 HPR
  go_wp2_with fail
  refine (q_int 9 _).mono ?_
  rintro e w12 ⟨rfl, hk12⟩
  have HL12 := Lib.hid (HL11.out.trans hk12 (by simp))
  clear hk12
  go_wp2_with fail
  refine (q_atom ⟨#[97]⟩ _).mono ?_
  rintro e w13 ⟨rfl, hk13⟩
  have HL13 := Lib.hid (HL12.out.trans hk13 (by simp))
  have hcmp : Calls Tryd.prog 15 #[.agg #[.int .i64 1, .int .i64 9, .string ⟨#[]⟩, .slice none 0 0], .agg #[.int .i64 2, .int .i64 0, .string ⟨#[97]⟩, .slice none 0 0]] w13 fun e w' => e = .returned (.int .i64 (-1)) ∧ Keep [] w13 w' := by
    have h := p_compare (w := w13) (B := 0) (B' := 0) (s := leaf 1 9 ⟨#[]⟩) (t := leaf 2 0 ⟨#[97]⟩) (leaf_rd (by omega) (by omega) (by simp [ByteArray.size])) (leaf_rd (by omega) (by omega) (by simp [ByteArray.size]))
    rw [live_c1] at h
    exact h
  have HCM := Lib.hid hcmp
  clear hk13 hcmp
  go_wp2_with fail
  refine HCM.out.mono ?_
  rintro e w14 ⟨rfl, hk14⟩
  have HL14 := Lib.hid (HL13.out.trans hk14 (by simp))
  clear hk14 HCM
  go_wp2_with fail
  refine (q_tuple (B := 0) (l := []) hasT_nil (Nat.zero_le _) (by simp)).mono ?_
  rintro e w15 ⟨a5, c5, rfl, r5, hk15⟩
  have HL15 := Lib.hid (HL14.out.trans hk15 (by simp))
  have R5 := Lib.hid r5
  clear hk15 r5
  go_wp2_with fail
  refine (q_nil _).mono ?_
  rintro e w16 ⟨rfl, hk16⟩
  have HL16 := Lib.hid (HL15.out.trans hk16 (by simp))
  have hcmp : Calls Tryd.prog 15 #[.agg #[.int .i64 6, .int .i64 0, .string ⟨#[]⟩, .slice a5 0 c5], .agg #[.int .i64 7, .int .i64 0, .string ⟨#[]⟩, .slice none 0 0]] w16 fun e w' => e = .returned (.int .i64 (-1)) ∧ Keep [] w16 w' := by
    have h := p_compare (w := w16) (B' := 0) (t := leaf 7 0 ⟨#[]⟩) (R5.out.keep0 hk16) (leaf_rd (by omega) (by omega) (by simp [ByteArray.size]))
    rw [live_c2] at h
    exact h
  have HCM := Lib.hid hcmp
  clear hk16 hcmp
  go_wp2_with fail
  refine HCM.out.mono ?_
  rintro e w17 ⟨rfl, hk17⟩
  have HL17 := Lib.hid (HL16.out.trans hk17 (by simp))
  obtain ⟨b0, b1, b2, b3⟩ := box4 HL17.out
  have hchk : Calls Tryd.prog 11 #[.slice (some ⟨w17.heap.size, 0, none⟩) 1 1] (w17.alloc (.cells #[.int .i64 6, .int .i64 0, .string ⟨#[]⟩, .slice a6 5 c6] 31)) fun e w' => e = .returned (.int .i64 0) ∧ Keep [] (w17.alloc (.cells #[.int .i64 6, .int .i64 0, .string ⟨#[]⟩, .slice a6 5 c6] 31)) w' := by
    have hr := R6.out.keep0 (((Keep.refl [] w10).alloc (.cells #[.int .i64 6, .int .i64 0, .string ⟨#[]⟩, .slice a6 5 c6] 31)).trans HL17.out (by simp))
    have h := p_check (hasT_one hr (Nat.le_of_lt (by have := HL17.out.size; simp at this; omega))) (by simp)
    rw [live_k1] at h
    exact h
  have HCH := Lib.hid hchk
  clear hk17 hchk HCM
  go_wp2_with fail
  refine HCH.out.mono ?_
  rintro e w18 ⟨rfl, hk18⟩
  have HL18 := Lib.hid ((HL17.out.alloc _).trans hk18 (by simp))
  clear hk18 HCH b0 b1 b2 b3
  go_wp2_with fail
  refine (q_num _ _).mono ?_
  rintro e w19 ⟨rfl, rfl⟩
  obtain ⟨b0, b1, b2, b3⟩ := box4 HL18.out
  have hsz : Calls Tryd.prog 13 #[.agg #[.int .i64 6, .int .i64 0, .string ⟨#[]⟩, .slice a6 5 c6]] w18 fun e w' => e = .returned (.int .i64 10) ∧ Keep [] w18 w' := by
    have hr := R6.out.keep0 (((Keep.refl [] w10).alloc (.cells #[.int .i64 6, .int .i64 0, .string ⟨#[]⟩, .slice a6 5 c6] 31)).trans HL18.out (by simp))
    have h := p_size hr (Nat.le_of_lt (by have := HL18.out.size; simp at this; omega))
    rw [liveT_sz] at h
    exact h
  have HSZ := Lib.hid hsz
  clear hsz
  go_wp2_with fail
  refine HSZ.out.mono ?_
  rintro e w20 ⟨rfl, hk20⟩
  have HL20 := Lib.hid (HL18.out.trans hk20 (by simp))
  clear hk20 HSZ b0 b1 b2 b3
  have hchk : Calls Tryd.prog 11 #[.slice (some ⟨w20.heap.size, 0, none⟩) 1 1] (w20.alloc (.cells #[.int .i64 0, .int .i64 0, .string ⟨#[]⟩, .slice none 0 0] 31)) fun e w' => e = .returned (.int .i64 70) ∧ Keep [] (w20.alloc (.cells #[.int .i64 0, .int .i64 0, .string ⟨#[]⟩, .slice none 0 0] 31)) w' := by
    have hr : RdTm 0 w20 (leaf 0 0 ⟨#[]⟩) := (leaf_rd (by omega) (by omega) (by simp [ByteArray.size]))
    have h := p_check (hasT_one hr (Nat.zero_le _)) (by simp)
    rw [live_k2] at h
    exact h
  have HCH := Lib.hid hchk
  clear hchk
  go_wp2_with fail
  refine HCH.out.mono ?_
  rintro e w21 ⟨rfl, hk21⟩
  go_wp2_with fail
  refine (q_num _ _).mono ?_
  rintro e w22 ⟨rfl, rfl⟩
  go_wp2_with fail
  go_ret
  exact ⟨rfl, (HK10.out.alloc _).trans ((HL20.out.alloc _).trans hk21 (by simp)) (by simp)⟩
end Go.Proofs.YtcegdomfmamonaaDoor
