/- Terms: terms of one text are the same (plain). -/
import Derived.Test.YtcegdomfmamonaaDoorTmLaw
namespace Go.Emb
open Go.RowKit

theorem u8_all (p : UInt8 → Bool) (h : ∀ n : Fin 256, p (UInt8.ofNat n.val) = true) (c : UInt8) : p c = true := by
  have := h ⟨c.toNat, c.toNat_lt⟩
  simpa using this
def digitB (c : UInt8) : Bool := decide (48 ≤ c) && decide (c ≤ 57)
/-- a rest that begins with no byte of p -/
def NoHead (p : UInt8 → Bool) (r : List UInt8) : Prop := ∀ c s, r = c :: s → p c = false
theorem span_uniq (p : UInt8 → Bool) : ∀ (l l' r r' : List UInt8), l.all p = true → l'.all p = true → NoHead p r → NoHead p r' → l ++ r = l' ++ r' → l = l' ∧ r = r'
  | [], [], r, r', _, _, _, _, h => ⟨rfl, by simpa using h⟩
  | [], c :: l', r, r', _, h2, h3, _, h => by
    have h4 := h3 c _ (by simpa using h)
    rw [List.all_cons, h4] at h2
    simp at h2
  | c :: l, [], r, r', h1, _, _, h3, h => by
    have h4 := h3 c _ (by simpa using h.symm)
    rw [List.all_cons, h4] at h1
    simp at h1
  | c :: l, c' :: l', r, r', h1, h2, h3, h4, h => by
    simp only [List.cons_append, List.cons.injEq] at h
    rw [List.all_cons, Bool.and_eq_true] at h1 h2
    obtain ⟨e1, e2⟩ := span_uniq p l l' r r' h1.2 h2.2 h3 h4 h.2
    exact ⟨by rw [h.1, e1], e2⟩

/-! ### numbers -/
def decVal (l : List UInt8) : Nat := l.foldl (fun a c => a * 10 + (c.toNat - 48)) 0
theorem decVal_snoc (l : List UInt8) (c : UInt8) : decVal (l ++ [c]) = decVal l * 10 + (c.toNat - 48) := by simp [decVal, List.foldl_append]
theorem digit_of (u : Nat) (h : u < 10) : digitB (UInt8.ofNat (48 + u)) = true ∧ (UInt8.ofNat (48 + u)).toNat = 48 + u := by
  have : ∀ n : Fin 10, digitB (UInt8.ofNat (48 + n.val)) = true ∧ (UInt8.ofNat (48 + n.val)).toNat = 48 + n.val := by decide +kernel
  exact this ⟨u, h⟩
theorem decDigits_all : ∀ (N u : Nat), u ≤ N → (Lib.decDigits u).all digitB = true ∧ decVal (Lib.decDigits u) = u
  | N, u, hN => by
    unfold Lib.decDigits
    by_cases h : u < 10
    · rw [dif_pos h]
      obtain ⟨h1, h2⟩ := digit_of u h
      refine ⟨by rw [List.all_cons, h1]; rfl, ?_⟩
      show 0 * 10 + ((UInt8.ofNat (48 + u)).toNat - 48) = u
      rw [h2]
      omega
    · rw [dif_neg h]
      match N, hN with
      | 0, hN => omega
      | N + 1, hN =>
        obtain ⟨i1, i2⟩ := decDigits_all N (u / 10) (by omega)
        obtain ⟨h1, h2⟩ := digit_of (u % 10) (by omega)
        refine ⟨by rw [List.all_append, i1, List.all_cons, h1]; rfl, ?_⟩
        rw [decVal_snoc, i2, h2]
        omega
theorem decDigits_inj {u v : Nat} (h : Lib.decDigits u = Lib.decDigits v) : u = v := by
  have h1 := (decDigits_all u u (Nat.le_refl _)).2
  have h2 := (decDigits_all v v (Nat.le_refl _)).2
  rw [h, h2] at h1
  exact h1.symm
theorem decDigits_head (u : Nat) : ∃ c s, Lib.decDigits u = c :: s ∧ digitB c = true := by
  have h1 := (decDigits_all u u (Nat.le_refl _)).1
  have h2 := decDigits_pos u
  match hm : Lib.decDigits u, h2 with
  | c :: s, _ =>
    rw [hm, List.all_cons, Bool.and_eq_true] at h1
    exact ⟨c, s, rfl, h1.1⟩
theorem itoa_uniq {n m : Int} {r r' : List UInt8} (hr : NoHead digitB r) (hr' : NoHead digitB r') (h : Lib.itoa n ++ r = Lib.itoa m ++ r') : n = m ∧ r = r' := by
  unfold Lib.itoa at h
  by_cases hn : n < 0
  · by_cases hm : m < 0
    · rw [if_pos hn, if_pos hm] at h
      simp only [List.cons_append, List.cons.injEq, true_and] at h
      obtain ⟨e1, e2⟩ := span_uniq digitB _ _ _ _ (decDigits_all _ _ (Nat.le_refl _)).1 (decDigits_all _ _ (Nat.le_refl _)).1 hr hr' h
      have := decDigits_inj e1
      exact ⟨by omega, e2⟩
    · rw [if_pos hn, if_neg hm] at h
      obtain ⟨c, s, e, hc⟩ := decDigits_head m.toNat
      rw [e] at h
      simp only [List.cons_append, List.cons.injEq] at h
      rw [← h.1] at hc
      exact absurd hc (by decide)
  · by_cases hm : m < 0
    · rw [if_neg hn, if_pos hm] at h
      obtain ⟨c, s, e, hc⟩ := decDigits_head n.toNat
      rw [e] at h
      simp only [List.cons_append, List.cons.injEq] at h
      rw [h.1] at hc
      exact absurd hc (by decide)
    · rw [if_neg hn, if_neg hm] at h
      obtain ⟨e1, e2⟩ := span_uniq digitB _ _ _ _ (decDigits_all _ _ (Nat.le_refl _)).1 (decDigits_all _ _ (Nat.le_refl _)).1 hr hr' h
      have := decDigits_inj e1
      exact ⟨by omega, e2⟩

/-! ### names -/
theorem esc_head (c : UInt8) : ∃ d s, escL c = d :: s ∧ d ≠ 39 := by
  unfold escL
  by_cases h : c = 39 ∨ c = 92
  · rw [if_pos h]; exact ⟨92, _, rfl, by decide⟩
  · rw [if_neg h]
    by_cases h2 : c < 32 ∨ 126 < c
    · rw [if_pos h2]; exact ⟨92, _, rfl, by decide⟩
    · rw [if_neg h2]; exact ⟨c, _, rfl, fun e => h (.inl e)⟩
theorem hex_inj (a b : Nat) (ha : a < 16) (hb : b < 16) (h : hexL.getD a 0 = hexL.getD b 0) : a = b := by
  have : ∀ i j : Fin 16, hexL.getD i.val 0 = hexL.getD j.val 0 → i.val = j.val := by decide +kernel
  exact this ⟨a, ha⟩ ⟨b, hb⟩ h
theorem esc_uniq (c d : UInt8) (x y : List UInt8) (h : escL c ++ x = escL d ++ y) : c = d ∧ x = y := by
  unfold escL at h
  have hc := c.toNat_lt
  have hd := d.toNat_lt
  by_cases h1 : c = 39 ∨ c = 92
  · rw [if_pos h1] at h
    by_cases h2 : d = 39 ∨ d = 92
    · rw [if_pos h2] at h
      simpa using h
    · rw [if_neg h2] at h
      by_cases h3 : d < 32 ∨ 126 < d
      · rw [if_pos h3] at h
        simp only [List.cons_append, List.cons.injEq] at h
        rcases h1 with rfl | rfl
        · exact absurd h.2.1 (by decide)
        · exact absurd h.2.1 (by decide)
      · rw [if_neg h3] at h
        simp only [List.cons_append, List.cons.injEq] at h
        exact absurd (.inr h.1.symm) h2
  · rw [if_neg h1] at h
    by_cases h4 : c < 32 ∨ 126 < c
    · rw [if_pos h4] at h
      by_cases h2 : d = 39 ∨ d = 92
      · rw [if_pos h2] at h
        simp only [List.cons_append, List.cons.injEq] at h
        rcases h2 with rfl | rfl
        · exact absurd h.2.1 (by decide)
        · exact absurd h.2.1 (by decide)
      · rw [if_neg h2] at h
        by_cases h3 : d < 32 ∨ 126 < d
        · rw [if_pos h3] at h
          simp only [List.cons_append, List.nil_append, List.cons.injEq, true_and] at h
          have e1 := hex_inj _ _ (by omega) (by omega) h.1
          have e2 := hex_inj _ _ (by omega) (by omega) h.2.1
          exact ⟨UInt8.toNat_inj.1 (by omega), h.2.2⟩
        · rw [if_neg h3] at h
          simp only [List.cons_append, List.cons.injEq] at h
          exact absurd (.inr h.1.symm) h2
    · rw [if_neg h4] at h
      by_cases h2 : d = 39 ∨ d = 92
      · rw [if_pos h2] at h
        simp only [List.cons_append, List.cons.injEq] at h
        exact absurd (.inr h.1) h1
      · rw [if_neg h2] at h
        by_cases h3 : d < 32 ∨ 126 < d
        · rw [if_pos h3] at h
          simp only [List.cons_append, List.cons.injEq] at h
          exact absurd (.inr h.1) h1
        · rw [if_neg h3] at h
          simpa using h
theorem quote_uniq : ∀ (s t r r' : List UInt8), s.flatMap escL ++ 39 :: r = t.flatMap escL ++ 39 :: r' → s = t ∧ r = r'
  | [], [], r, r', h => by simpa using h
  | [], d :: t, r, r', h => by
    obtain ⟨e, z, h1, h2⟩ := esc_head d
    simp only [List.flatMap_nil, List.nil_append, List.flatMap_cons, h1, List.cons_append, List.cons.injEq] at h
    exact absurd h.1.symm h2
  | c :: s, [], r, r', h => by
    obtain ⟨e, z, h1, h2⟩ := esc_head c
    simp only [List.flatMap_nil, List.nil_append, List.flatMap_cons, h1, List.cons_append, List.cons.injEq] at h
    exact absurd h.1 h2
  | c :: s, d :: t, r, r', h => by
    simp only [List.flatMap_cons, List.append_assoc] at h
    obtain ⟨e1, e2⟩ := esc_uniq c d _ _ h
    obtain ⟨e3, e4⟩ := quote_uniq s t r r' e2
    exact ⟨by rw [e1, e3], e4⟩
theorem bare_all {s : List UInt8} (h : bareL s = true) : s.all letterB = true ∧ ∃ c r, s = c :: r ∧ 97 ≤ c ∧ c ≤ 122 := by
  unfold bareL at h
  simp only [Bool.and_eq_true] at h
  refine ⟨h.1.1, ?_⟩
  cases s with
  | nil => simp at h
  | cons c r => exact ⟨c, r, rfl, by simpa using h.1.2⟩
theorem nameL_uniq {s t r r' : List UInt8} (hr : NoHead letterB r) (hr' : NoHead letterB r') (h : nameL s ++ r = nameL t ++ r') : s = t ∧ r = r' := by
  unfold nameL quoteL at h
  cases hs : bareL s with
  | true =>
    cases ht : bareL t with
    | true =>
      rw [hs, ht] at h
      exact span_uniq letterB _ _ _ _ (bare_all hs).1 (bare_all ht).1 hr hr' h
    | false =>
      rw [hs, ht] at h
      obtain ⟨-, c, q, rfl, h1, -⟩ := bare_all hs
      simp only [if_true, Bool.false_eq_true, if_false, List.cons_append, List.cons.injEq] at h
      rw [h.1] at h1
      exact absurd h1 (by decide)
  | false =>
    cases ht : bareL t with
    | true =>
      rw [hs, ht] at h
      obtain ⟨-, c, q, rfl, h1, -⟩ := bare_all ht
      simp only [if_true, Bool.false_eq_true, if_false, List.cons_append, List.cons.injEq] at h
      rw [← h.1] at h1
      exact absurd h1 (by decide)
    | false =>
      rw [hs, ht] at h
      simp only [Bool.false_eq_true, if_false, List.cons_append, List.cons.injEq, true_and, List.append_assoc, List.nil_append] at h
      exact quote_uniq s t r r' h

/-! ### what stands ahead -/
def stopB (c : UInt8) : Bool := c == 44 || c == 124 || c == 93 || c == 125
def Stop (r : List UInt8) : Prop := ∀ c s, r = c :: s → stopB c = true
theorem Stop.digit {r : List UInt8} (h : Stop r) : NoHead digitB r := fun c s e => by
  have := u8_all (fun c => !stopB c || !digitB c) (by decide +kernel) c
  simpa [h c s e] using this
theorem Stop.letter {r : List UInt8} (h : Stop r) : NoHead letterB r := fun c s e => by
  have := u8_all (fun c => !stopB c || !letterB c) (by decide +kernel) c
  simpa [h c s e] using this
theorem Stop.cons {c : UInt8} {s : List UInt8} (h : stopB c = true) : Stop (c :: s) := fun _ _ e => by cases e; exact h
def headKind (c : UInt8) : Int := if c = 35 then 3 else if c = 60 then 5 else if c = 123 then 6 else if c = 91 then 8 else if c = 45 || digitB c then 1 else if c = 39 || (decide (97 ≤ c) && decide (c ≤ 122)) then 2 else 0
theorem headKind_digit {c : UInt8} (h : digitB c = true) : headKind c = 1 := by
  have := u8_all (fun c => !digitB c || headKind c == 1) (by decide +kernel) c
  simpa [h] using this
theorem headKind_low {c : UInt8} (h1 : 97 ≤ c) (h2 : c ≤ 122) : headKind c = 2 := by
  have := u8_all (fun c => !(decide (97 ≤ c) && decide (c ≤ 122)) || headKind c == 2) (by decide +kernel) c
  simpa [h1, h2] using this
theorem headKind_stop {c : UInt8} (h : stopB c = true) : headKind c = 0 := by
  have := u8_all (fun c => !stopB c || headKind c == 0) (by decide +kernel) c
  simpa [h] using this
theorem itoa_head (n : Int) : ∃ c s, Lib.itoa n = c :: s ∧ headKind c = 1 := by
  unfold Lib.itoa
  by_cases hn : n < 0
  · rw [if_pos hn]; exact ⟨45, _, rfl, by decide⟩
  · rw [if_neg hn]
    obtain ⟨c, s, e, h⟩ := decDigits_head n.toNat
    exact ⟨c, s, e, headKind_digit h⟩
theorem nameL_head (s : List UInt8) : ∃ c r, nameL s = c :: r ∧ headKind c = 2 := by
  unfold nameL quoteL
  cases hs : bareL s with
  | true =>
    obtain ⟨-, c, q, rfl, h1, h2⟩ := bare_all hs
    exact ⟨c, q, rfl, headKind_low h1 h2⟩
  | false => exact ⟨39, _, rfl, by decide⟩
theorem plain_split {t : Tm} (h : plainTm t = true) : t.kind ≠ 4 ∧ ∀ x ∈ t.items, plainTm x = true := by
  cases t with
  | mk k n s v l =>
    rw [plainTm, Bool.and_eq_true, plainTms_iff] at h
    exact ⟨fun e => by have := h.2; simp [show k = 4 from e] at this, fun x hx => List.all_eq_true.1 h.1 x hx⟩
theorem print_head {t : Tm} (h : isTm t = true) (hp : plainTm t = true) : ∃ c s, printTm t = c :: s ∧ headKind c = (if t.kind = 7 then 8 else t.kind) := by
  obtain ⟨hh, -⟩ := isTm_split h
  have h4 := (plain_split hp).1
  rw [printTm_eq]
  unfold HeadOk at hh
  rcases hh with hh | hh | hh | hh | hh | hh | hh
  · rw [hh.1]; exact itoa_head _
  · rw [hh.1]; exact nameL_head _
  · rcases hh.1 with hk | hk
    · rw [hk]; exact ⟨35, _, rfl, by decide⟩
    · rw [hk]; exact ⟨60, _, rfl, by decide⟩
  · exact absurd hh.1 h4
  · rw [hh.1]; exact ⟨123, _, rfl, by decide⟩
  · rw [hh.1]; exact ⟨91, _, rfl, by decide⟩
  · rw [hh.1]; exact ⟨91, _, rfl, by decide⟩
theorem kind_pos {t : Tm} (h : isTm t = true) : 1 ≤ t.kind := by
  obtain ⟨hh, -⟩ := isTm_split h
  unfold HeadOk at hh
  omega
theorem print_noStop {t : Tm} (h : isTm t = true) (hp : plainTm t = true) {c : UInt8} {s r : List UInt8} (hc : stopB c = true) (e : printTm t ++ r = c :: s) : False := by
  obtain ⟨d, z, h1, h2⟩ := print_head h hp
  rw [h1] at e
  simp only [List.cons_append, List.cons.injEq] at e
  rw [e.1, headKind_stop hc] at h2
  have := kind_pos h
  split at h2 <;> omega

/-! ### the texts -/
theorem cmp_zero {s t : Tm} (hk : s.kind = t.kind) (hn : s.num = t.num) (hs : s.name.data.toList = t.name.data.toList) (hl : s.items.length = t.items.length) (hc : cmpTms s.items t.items = 0) : cmpTm s t = 0 := by
  rw [cmpTm_eq]
  simp only [or0_zero, compareInt_eq, compareBytes_eq]
  exact ⟨hk, hn, hs, by omega, hc⟩
def PrintC (t : Tm) : Prop := ∀ (t' : Tm) (r r' : List UInt8), isTm t' = true → plainTm t' = true → Stop r → Stop r' → printTm t ++ r = printTm t' ++ r' → cmpTm t t' = 0 ∧ r = r'
def RestC (t : Tm) : Prop := ∀ (t' : Tm) (r r' : List UInt8), isTm t' = true → plainTm t' = true → restTm false t ++ 93 :: r = restTm false t' ++ 93 :: r' → cmpTm t t' = 0 ∧ r = r'
def tailRow : List Tm → List UInt8
  | [] => []
  | y :: l => 44 :: rowTms (y :: l)
theorem row_cons (x : Tm) (l : List Tm) : rowTms (x :: l) = printTm x ++ tailRow l := by
  cases l with
  | nil => rw [rowTms, tailRow, List.append_nil]
  | cons y l => rw [rowTms, tailRow]
theorem tailRow_stop (l : List Tm) (r : List UInt8) : Stop (tailRow l ++ 125 :: r) := by
  cases l with
  | nil => exact Stop.cons (by decide)
  | cons y l => rw [tailRow, List.cons_append]; exact Stop.cons (by decide)
theorem row_uniq : ∀ (l l' : List Tm) (r r' : List UInt8), (∀ x ∈ l, PrintC x ∧ isTm x = true ∧ plainTm x = true) → (∀ x ∈ l', isTm x = true ∧ plainTm x = true) → rowTms l ++ 125 :: r = rowTms l' ++ 125 :: r' → l.length = l'.length ∧ cmpTms l l' = 0 ∧ r = r'
  | [], [], r, r', _, _, h => by simpa [rowTms, cmpTms_nil] using h
  | [], x :: l', r, r', _, h2, h => by
    rw [row_cons, List.append_assoc, rowTms, List.nil_append] at h
    exact (print_noStop (h2 x (by simp)).1 (h2 x (by simp)).2 (by decide) h.symm).elim
  | x :: l, [], r, r', h1, _, h => by
    rw [row_cons, List.append_assoc, rowTms, List.nil_append] at h
    exact (print_noStop (h1 x (by simp)).2.1 (h1 x (by simp)).2.2 (by decide) h).elim
  | x :: l, y :: l', r, r', h1, h2, h => by
    rw [row_cons, row_cons, List.append_assoc, List.append_assoc] at h
    obtain ⟨e1, e2⟩ := (h1 x (by simp)).1 y _ _ (h2 y (by simp)).1 (h2 y (by simp)).2 (tailRow_stop _ _) (tailRow_stop _ _) h
    match l, l', e2, h1, h2 with
    | [], [], e2, _, _ =>
      refine ⟨rfl, ?_, by simpa [tailRow] using e2⟩
      rw [cmpTms_cons, or0_zero]
      exact ⟨e1, cmpTms_nil _⟩
    | [], z :: l', e2, _, _ => simp [tailRow] at e2
    | z :: l, [], e2, _, _ => simp [tailRow] at e2
    | z :: l, z' :: l', e2, h1, h2 =>
      simp only [tailRow, List.cons_append, List.cons.injEq, true_and] at e2
      obtain ⟨i1, i2, i3⟩ := row_uniq (z :: l) (z' :: l') r r' (fun q hq => h1 q (List.mem_cons_of_mem _ hq)) (fun q hq => h2 q (List.mem_cons_of_mem _ hq)) e2
      refine ⟨by simp at i1 ⊢; exact i1, ?_, i3⟩
      rw [cmpTms_cons, or0_zero]
      exact ⟨e1, i2⟩
theorem rest_stop (t : Tm) (h : isTm t = true) (r : List UInt8) : Stop (restTm false t ++ 93 :: r) := by
  rw [restTm_eq]
  by_cases h8 : t.kind = 8
  · obtain ⟨hh, -⟩ := isTm_split h
    have h2 : t.items.length = 2 := by unfold HeadOk at hh; omega
    rw [if_pos h8]
    match hm : t.items, h2 with
    | [a, b], _ => rw [restOf]; exact Stop.cons (by decide)
  · rw [if_neg h8]
    by_cases h7 : t.kind = 7
    · rw [if_pos h7]; exact Stop.cons (by decide)
    · rw [if_neg h7]; exact Stop.cons (by decide)
theorem restTm_other {t : Tm} (h8 : t.kind ≠ 8) (h7 : t.kind ≠ 7) : restTm false t = 124 :: printTm t := by
  rw [restTm_eq, printTm_eq, if_neg h8, if_neg h7, if_neg h8, if_neg h7]
theorem items2 {t : Tm} (h : isTm t = true) (h8 : t.kind = 8) : ∃ x y, t.items = [x, y] ∧ t.num = 0 ∧ t.name.data.toList = [] := by
  obtain ⟨hh, -⟩ := isTm_split h
  unfold HeadOk at hh
  have h2 : t.items.length = 2 ∧ t.num = 0 ∧ t.name.toList = [] := by
    rcases hh with hh | hh | hh | hh | hh | hh | hh <;> first | (exfalso; omega) | exact ⟨hh.2.2.2, hh.2.1, hh.2.2.1⟩
  have hn : t.name.data.toList = [] := by rw [← _root_.Go.ByteArray.toList_eq]; exact h2.2.2
  match hm : t.items, h2.1 with
  | [a, b], _ => exact ⟨a, b, rfl, h2.2.1, hn⟩
theorem print_8 {t : Tm} {x y : Tm} (h8 : t.kind = 8) (hm : t.items = [x, y]) : printTm t = 91 :: (printTm x ++ (restTm false y ++ [93])) := by
  rw [printTm_eq, if_pos h8, hm, restOf]; simp
theorem rest_8 {t : Tm} {x y : Tm} (h8 : t.kind = 8) (hm : t.items = [x, y]) : restTm false t = 44 :: (printTm x ++ restTm false y) := by
  rw [restTm_eq, if_pos h8, hm, restOf]; simp
theorem cmp_8 {t t' x y x' y' : Tm} (ht : isTm t = true) (ht' : isTm t' = true) (h8 : t.kind = 8) (h8' : t'.kind = 8) (hm : t.items = [x, y]) (hm' : t'.items = [x', y']) (h1 : cmpTm x x' = 0) (h2 : cmpTm y y' = 0) : cmpTm t t' = 0 := by
  obtain ⟨_, _, _, n1, s1⟩ := items2 ht h8
  obtain ⟨_, _, _, n2, s2⟩ := items2 ht' h8'
  refine cmp_zero (by omega) (by omega) (by rw [s1, s2]) (by rw [hm, hm']; rfl) ?_
  rw [hm, hm', cmpTms_cons, cmpTms_cons, cmpTms_nil, h1, h2]; rfl
theorem name_nil {s : ByteArray} (h : s.toList = []) : s.data.toList = [] := by rw [← _root_.Go.ByteArray.toList_eq]; exact h
/-- what a head says, kind by kind -/
theorem head_of {t : Tm} (h : isTm t = true) : (t.kind = 1 ∧ t.name.data.toList = [] ∧ t.items = []) ∨ (t.kind = 2 ∧ t.num = 0 ∧ t.items = []) ∨ ((t.kind = 3 ∨ t.kind = 5) ∧ t.name.data.toList = [] ∧ t.items = []) ∨ t.kind = 4 ∨ (t.kind = 6 ∧ t.num = 0 ∧ t.name.data.toList = []) ∨ (t.kind = 7 ∧ t.num = 0 ∧ t.name.data.toList = [] ∧ t.items = []) ∨ t.kind = 8 := by
  obtain ⟨hh, -⟩ := isTm_split h
  unfold HeadOk at hh
  rcases hh with hh | hh | hh | hh | hh | hh | hh
  · exact .inl ⟨hh.1, name_nil hh.2.2.2.1, List.eq_nil_of_length_eq_zero hh.2.2.2.2⟩
  · exact .inr (.inl ⟨hh.1, hh.2.1, List.eq_nil_of_length_eq_zero hh.2.2.2.2⟩)
  · exact .inr (.inr (.inl ⟨hh.1, name_nil hh.2.2.2.1, List.eq_nil_of_length_eq_zero hh.2.2.2.2⟩))
  · exact .inr (.inr (.inr (.inl hh.1)))
  · exact .inr (.inr (.inr (.inr (.inl ⟨hh.1, hh.2.1, name_nil hh.2.2⟩))))
  · exact .inr (.inr (.inr (.inr (.inr (.inl ⟨hh.1, hh.2.1, name_nil hh.2.2.1, List.eq_nil_of_length_eq_zero hh.2.2.2⟩)))))
  · exact .inr (.inr (.inr (.inr (.inr (.inr hh.1)))))
theorem cmp_flat {t t' : Tm} (hk : t.kind = t'.kind) (hn : t.num = t'.num) (hs : t.name.data.toList = t'.name.data.toList) (h1 : t.items = []) (h2 : t'.items = []) : cmpTm t t' = 0 :=
  cmp_zero hk hn hs (by rw [h1, h2]) (by rw [h1, h2]; exact cmpTms_nil _)
theorem print_flat {t : Tm} (h8 : t.kind ≠ 8) (h7 : t.kind ≠ 7) : printTm t = flatL t.kind t.num t.name.data.toList (rowTms t.items) := by
  rw [printTm_eq, if_neg h8, if_neg h7]
theorem print_7 {t : Tm} (h7 : t.kind = 7) : printTm t = [91, 93] := by
  rw [printTm_eq, if_neg (by omega), if_pos h7]

theorem print_uniqN : ∀ (N : Nat) (t : Tm), t.sz ≤ N → isTm t = true → plainTm t = true → PrintC t ∧ RestC t
  | 0, t, hN, _, _ => by have := t.sz_pos; omega
  | N + 1, t, hN, ht, hp => by
    have IH := print_uniqN N
    obtain ⟨h4, hpi⟩ := plain_split hp
    have hti := (isTm_split ht).2
    have hsub : ∀ x ∈ t.items, PrintC x ∧ RestC x := fun x hx => IH x (by have := sz_mem_lt hx; omega) (hti x hx) (hpi x hx)
    have key : PrintC t := by
      intro t' r r' ht' hp' hr hr' h
      obtain ⟨h4', hpi'⟩ := plain_split hp'
      have hti' := (isTm_split ht').2
      obtain ⟨c, s, e1, e2⟩ := print_head ht hp
      obtain ⟨c', s', e1', e2'⟩ := print_head ht' hp'
      have hkk : (if t.kind = 7 then 8 else t.kind) = (if t'.kind = 7 then 8 else t'.kind) := by
        rw [← e2, ← e2']
        rw [e1, e1'] at h
        simp only [List.cons_append, List.cons.injEq] at h
        rw [h.1]
      clear e1 e2 e1' e2'
      rcases head_of ht with ⟨k, hs, hi⟩ | ⟨k, hn, hi⟩ | ⟨k, hs, hi⟩ | k | ⟨k, hn, hs⟩ | ⟨k, hn, hs, hi⟩ | k
      · have k' : t'.kind = 1 := by rw [k] at hkk; split at hkk <;> omega
        rcases head_of ht' with ⟨_, hs', hi'⟩ | ⟨q, _⟩ | ⟨q, _⟩ | q | ⟨q, _⟩ | ⟨q, _⟩ | q
        · rw [print_flat (by omega) (by omega), print_flat (by omega) (by omega), k, k'] at h
          obtain ⟨e1, e2⟩ := itoa_uniq hr.digit hr'.digit h
          exact ⟨cmp_flat (by omega) e1 (by rw [hs, hs']) hi hi', e2⟩
        all_goals omega
      · have k' : t'.kind = 2 := by rw [k] at hkk; split at hkk <;> omega
        rcases head_of ht' with ⟨q, _⟩ | ⟨_, hn', hi'⟩ | ⟨q, _⟩ | q | ⟨q, _⟩ | ⟨q, _⟩ | q
        · omega
        · rw [print_flat (by omega) (by omega), print_flat (by omega) (by omega), k, k'] at h
          obtain ⟨e1, e2⟩ := nameL_uniq hr.letter hr'.letter h
          exact ⟨cmp_flat (by omega) (by omega) e1 hi hi', e2⟩
        all_goals omega
      · have k' : t'.kind = t.kind := by split at hkk <;> split at hkk <;> omega
        rcases head_of ht' with ⟨q, _⟩ | ⟨q, _⟩ | ⟨_, hs', hi'⟩ | q | ⟨q, _⟩ | ⟨q, _⟩ | q
        · omega
        · omega
        · rw [print_flat (by omega) (by omega), print_flat (by omega) (by omega), k'] at h
          rcases k with k | k
          · rw [k] at h
            have h' : Lib.itoa t.num ++ r = Lib.itoa t'.num ++ r' := by
              have : (35 :: Lib.itoa t.num) ++ r = (35 :: Lib.itoa t'.num) ++ r' := h
              simpa using this
            obtain ⟨e1, e2⟩ := itoa_uniq hr.digit hr'.digit h'
            exact ⟨cmp_flat (by omega) e1 (by rw [hs, hs']) hi hi', e2⟩
          · rw [k] at h
            have h' : Lib.itoa t.num ++ (62 :: r) = Lib.itoa t'.num ++ (62 :: r') := by
              have : (60 :: (Lib.itoa t.num ++ [62])) ++ r = (60 :: (Lib.itoa t'.num ++ [62])) ++ r' := h
              simpa using this
            obtain ⟨e1, e2⟩ := itoa_uniq (fun _ _ e => by cases e; decide) (fun _ _ e => by cases e; decide) h'
            exact ⟨cmp_flat (by omega) e1 (by rw [hs, hs']) hi hi', by simpa using e2⟩
        all_goals omega
      · exact absurd k h4
      · have k' : t'.kind = 6 := by rw [k] at hkk; split at hkk <;> omega
        rcases head_of ht' with ⟨q, _⟩ | ⟨q, _⟩ | ⟨q, _⟩ | q | ⟨_, hn', hs'⟩ | ⟨q, _⟩ | q
        · omega
        · omega
        · omega
        · omega
        · rw [print_flat (by omega) (by omega), print_flat (by omega) (by omega), k, k'] at h
          have h' : rowTms t.items ++ (125 :: r) = rowTms t'.items ++ (125 :: r') := by
            have : (123 :: (rowTms t.items ++ [125])) ++ r = (123 :: (rowTms t'.items ++ [125])) ++ r' := h
            simpa using this
          obtain ⟨e1, e2, e3⟩ := row_uniq _ _ _ _ (fun x hx => ⟨(hsub x hx).1, hti x hx, hpi x hx⟩) (fun x hx => ⟨hti' x hx, hpi' x hx⟩) h'
          exact ⟨cmp_zero (by omega) (by omega) (by rw [hs, hs']) e1 e2, e3⟩
        · omega
        · omega
      · rw [if_pos k] at hkk
        rw [print_7 k] at h
        by_cases k' : t'.kind = 7
        · rcases head_of ht' with ⟨q, _⟩ | ⟨q, _⟩ | ⟨q, _⟩ | q | ⟨q, _⟩ | ⟨_, hn', hs', hi'⟩ | q
          · omega
          · omega
          · omega
          · omega
          · omega
          · rw [print_7 k'] at h
            exact ⟨cmp_flat (by omega) (by omega) (by rw [hs, hs']) hi hi', by simpa using h⟩
          · omega
        · rw [if_neg k'] at hkk
          obtain ⟨x', y', hm', -, -⟩ := items2 ht' hkk.symm
          rw [print_8 hkk.symm hm'] at h
          simp only [List.cons_append, List.cons.injEq, true_and, List.append_assoc, List.nil_append] at h
          exact (print_noStop (hti' x' (by rw [hm']; simp)) (hpi' x' (by rw [hm']; simp)) (by decide) h.symm).elim
      · rw [if_neg (by omega), k] at hkk
        obtain ⟨x, y, hm, -, -⟩ := items2 ht k
        rw [print_8 k hm] at h
        by_cases k' : t'.kind = 7
        · rw [print_7 k'] at h
          simp only [List.cons_append, List.cons.injEq, true_and, List.append_assoc, List.nil_append] at h
          exact (print_noStop (hti x (by rw [hm]; simp)) (hpi x (by rw [hm]; simp)) (by decide) h).elim
        · rw [if_neg k'] at hkk
          obtain ⟨x', y', hm', -, -⟩ := items2 ht' hkk.symm
          rw [print_8 hkk.symm hm'] at h
          simp only [List.cons_append, List.cons.injEq, true_and, List.append_assoc, List.nil_append] at h
          have mx : x ∈ t.items := by rw [hm]; simp
          have my : y ∈ t.items := by rw [hm]; simp
          have mx' : x' ∈ t'.items := by rw [hm']; simp
          have my' : y' ∈ t'.items := by rw [hm']; simp
          obtain ⟨e1, e2⟩ := (hsub x mx).1 x' _ _ (hti' x' mx') (hpi' x' mx') (rest_stop y (hti y my) _) (rest_stop y' (hti' y' my') _) h
          obtain ⟨e3, e4⟩ := (hsub y my).2 y' _ _ (hti' y' my') (hpi' y' my') e2
          exact ⟨cmp_8 ht ht' k hkk.symm hm hm' e1 e3, e4⟩
    refine ⟨key, ?_⟩
    intro t' r r' ht' hp' h
    obtain ⟨h4', hpi'⟩ := plain_split hp'
    have hti' := (isTm_split ht').2
    by_cases k8 : t.kind = 8
    · obtain ⟨x, y, hm, -, -⟩ := items2 ht k8
      rw [rest_8 k8 hm] at h
      by_cases k8' : t'.kind = 8
      · obtain ⟨x', y', hm', -, -⟩ := items2 ht' k8'
        rw [rest_8 k8' hm'] at h
        simp only [List.cons_append, List.cons.injEq, true_and, List.append_assoc] at h
        have mx : x ∈ t.items := by rw [hm]; simp
        have my : y ∈ t.items := by rw [hm]; simp
        have mx' : x' ∈ t'.items := by rw [hm']; simp
        have my' : y' ∈ t'.items := by rw [hm']; simp
        obtain ⟨e1, e2⟩ := (hsub x mx).1 x' _ _ (hti' x' mx') (hpi' x' mx') (rest_stop y (hti y my) _) (rest_stop y' (hti' y' my') _) h
        obtain ⟨e3, e4⟩ := (hsub y my).2 y' _ _ (hti' y' my') (hpi' y' my') e2
        exact ⟨cmp_8 ht ht' k8 k8' hm hm' e1 e3, e4⟩
      · by_cases k7' : t'.kind = 7
        · rw [restTm_eq false t', if_neg k8', if_pos k7'] at h
          simp at h
        · rw [restTm_other k8' k7'] at h
          simp at h
    · by_cases k7 : t.kind = 7
      · rw [restTm_eq false t, if_neg k8, if_pos k7] at h
        by_cases k8' : t'.kind = 8
        · obtain ⟨x', y', hm', -, -⟩ := items2 ht' k8'
          rw [rest_8 k8' hm'] at h
          simp at h
        · by_cases k7' : t'.kind = 7
          · rw [restTm_eq false t', if_neg k8', if_pos k7'] at h
            rcases head_of ht with ⟨q, _⟩ | ⟨q, _⟩ | ⟨q, _⟩ | q | ⟨q, _⟩ | ⟨_, hn, hs, hi⟩ | q
            · omega
            · omega
            · omega
            · omega
            · omega
            · rcases head_of ht' with ⟨q, _⟩ | ⟨q, _⟩ | ⟨q, _⟩ | q | ⟨q, _⟩ | ⟨_, hn', hs', hi'⟩ | q
              · omega
              · omega
              · omega
              · omega
              · omega
              · exact ⟨cmp_flat (by omega) (by omega) (by rw [hs, hs']) hi hi', by simpa using h⟩
              · omega
            · omega
          · rw [restTm_other k8' k7'] at h
            simp at h
      · rw [restTm_other k8 k7] at h
        by_cases k8' : t'.kind = 8
        · obtain ⟨x', y', hm', -, -⟩ := items2 ht' k8'
          rw [rest_8 k8' hm'] at h
          simp at h
        · by_cases k7' : t'.kind = 7
          · rw [restTm_eq false t', if_neg k8', if_pos k7'] at h
            simp at h
          · rw [restTm_other k8' k7'] at h
            simp only [List.cons_append, List.cons.injEq, true_and] at h
            obtain ⟨e1, e2⟩ := key t' _ _ ht' hp' (Stop.cons (by decide)) (Stop.cons (by decide)) h
            exact ⟨e1, by simpa using e2⟩
theorem print_inj {a b : Tm} (ha : isTm a = true) (hb : isTm b = true) (pa : plainTm a = true) (pb : plainTm b = true) (h : printTm a = printTm b) : cmpTm a b = 0 :=
  ((print_uniqN a.sz a (Nat.le_refl _) ha pa).1 b [] [] hb pb (fun _ _ e => by cases e) (fun _ _ e => by cases e) (by simpa using h)).1

/-! ### the same term, the same text -/
theorem row_same : ∀ (l l' : List Tm), (∀ x ∈ l, ∀ y, cmpTm x y = 0 → printTm x = printTm y) → l.length = l'.length → cmpTms l l' = 0 → rowTms l = rowTms l'
  | [], [], _, _, _ => rfl
  | [], _ :: _, _, h, _ => by simp at h
  | _ :: _, [], _, h, _ => by simp at h
  | x :: l, y :: l', hx, hl, h => by
    rw [cmpTms_cons, or0_zero] at h
    have e := hx x (by simp) y h.1
    have i := row_same l l' (fun q hq => hx q (by simp [hq])) (by simpa using hl) h.2
    rw [row_cons, row_cons, e]
    match l, l', hl, i with
    | [], [], _, _ => rfl
    | [], _ :: _, hl, _ => simp at hl
    | _ :: _, [], hl, _ => simp at hl
    | z :: l, z' :: l', _, i => rw [tailRow, tailRow, i]
theorem print_sameN : ∀ (N : Nat) (a b : Tm), a.sz ≤ N → cmpTm a b = 0 → printTm a = printTm b ∧ ∀ q, restTm q a = restTm q b
  | 0, a, _, h, _ => by have := a.sz_pos; omega
  | N + 1, a, b, hN, h => by
    rw [cmpTm_eq] at h
    simp only [or0_zero, compareInt_eq, compareBytes_eq] at h
    obtain ⟨hk, hn, hs, hl, hc⟩ := h
    have IH : ∀ x ∈ a.items, ∀ y, cmpTm x y = 0 → printTm x = printTm y ∧ ∀ q, restTm q x = restTm q y := fun x hx y hy => print_sameN N x y (by have := sz_mem_lt hx; omega) hy
    have h1 : rowTms a.items = rowTms b.items := row_same _ _ (fun x hx y hy => (IH x hx y hy).1) (by omega) hc
    have h2 : ∀ q, restOf q a.items = restOf q b.items := by
      intro q
      match ha : a.items, hb : b.items, hl with
      | [], [], _ => rfl
      | [x], [x'], _ => rw [restOf, restOf] <;> simp
      | [x, y], [x', y'], _ =>
        rw [ha, hb, cmpTms_cons, cmpTms_cons, or0_zero, or0_zero] at hc
        rw [restOf, restOf, (IH x (by rw [ha]; simp) x' hc.1).1, (IH y (by rw [ha]; simp) y' hc.2.1).2]
      | x :: y :: z :: l, x' :: y' :: z' :: l', _ => rw [restOf, restOf] <;> simp
      | [], _ :: _, hl => exfalso; simp only [List.length_cons, List.length_nil] at hl; omega
      | [_], [], hl => exfalso; simp only [List.length_cons, List.length_nil] at hl; omega
      | [_], _ :: _ :: _, hl => exfalso; simp only [List.length_cons, List.length_nil] at hl; omega
      | _ :: _ :: _, [], hl => exfalso; simp only [List.length_cons, List.length_nil] at hl; omega
      | _ :: _ :: _, [_], hl => exfalso; simp only [List.length_cons, List.length_nil] at hl; omega
      | [_, _], _ :: _ :: _ :: _, hl => exfalso; simp only [List.length_cons, List.length_nil] at hl; omega
      | _ :: _ :: _ :: _, [_, _], hl => exfalso; simp only [List.length_cons, List.length_nil] at hl; omega
    refine ⟨?_, fun q => ?_⟩
    · rw [printTm_eq, printTm_eq b, hk, hn, hs, h1, h2]
    · rw [restTm_eq, restTm_eq q b, hk, hn, hs, h1, h2]
theorem print_iff {a b : Tm} (ha : isTm a = true) (hb : isTm b = true) (pa : plainTm a = true) (pb : plainTm b = true) : printTm a = printTm b ↔ cmpTm a b = 0 :=
  ⟨print_inj ha hb pa pb, fun h => (print_sameN a.sz a b (Nat.le_refl _) h).1⟩
end Go.Emb
