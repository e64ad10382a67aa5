import Derived.Test.YtdmmhfbafinkpaaGreatDoorScP
import Derived.Test.YtdmmhfbafinkpaaGreatDoorTm10
/- Scanning: places; what is printed is scanned again (plain). -/
namespace Go.Emb
/-! ## places -/
def Placed (z : Nat) : Nat → List (Tk × Nat) → Prop
  | _, [] => True
  | a, (t, p) :: ts => a ≤ p ∧ 1 ≤ t.en ∧ p + t.en ≤ z ∧ Placed z (p + t.en) ts
theorem scan_placed : ∀ (ts : List (Tk × Nat)) (l : List UInt8) (a : Nat), scanL l a = .ok ts → Placed (a + l.length) a ts
  | [], _, _, _ => True.intro
  | (t, p) :: ts, l, a, h => by
    obtain ⟨h1, h2, h3, _, h5⟩ := scanL_at _ l (Nat.le_refl _) a t p ts h
    refine ⟨h1, h3, h2, ?_⟩
    have := scan_placed ts _ _ h5
    rwa [show p + t.en + (l.drop (p - a + t.en)).length = a + l.length by rw [List.length_drop]; omega] at this
theorem quoL_err : ∀ (n : Nat) (l : List UInt8), l.length ≤ n → ∀ (i : Nat) (b : List UInt8) (f : Nat), quoL l i b = .error f → f ≤ i + l.length := by
  intro n
  induction n with
  | zero =>
    intro l hl i b f h
    have : l = [] := List.length_eq_zero_iff.1 (by omega)
    subst this
    rw [quoL_nil] at h; cases h; omega
  | succ n ih =>
    intro l hl i b f h
    cases l with
    | nil => rw [quoL_nil] at h; cases h; omega
    | cons c r =>
      rw [quoL_cons] at h
      split at h
      · split at h
        · cases h; omega
        · cases h
      · split at h
        · split at h
          · cases h; omega
          · rename_i p he
            have hk := escN_pos (x := p.1) (k := p.2) he
            have := ih _ (by simp at hl ⊢; omega) _ _ _ h
            simp at this hk ⊢
            omega
        · split at h
          · cases h; omega
          · have := ih _ (by simp at hl; omega) _ _ _ h
            simp
            omega
theorem tokL_err {l : List UInt8} {e : Int} {f : Nat} (h : tokL l = .error (e, f)) : f ≤ l.length ∧ (e = 100 ∨ e = 101) := by
  unfold tokL at h
  split at h
  · cases h; simp
  · split at h
    · split at h
      · cases h
      · cases h; simp
    · split at h
      · split at h
        · cases h; simp
        · cases h
      · split at h
        · split at h
          · rename_i q hq
            cases h
            have := quoL_err _ _ (Nat.le_refl _) _ _ _ hq
            simp; omega
          · cases h
        · split at h
          · cases h; simp
          · cases h
theorem scan_err : ∀ (n : Nat) (l : List UInt8), l.length ≤ n → ∀ (a : Nat) (e : Int) (f : Nat), scanL l a = .error (e, f) → a ≤ f ∧ f ≤ a + l.length ∧ (e = 100 ∨ e = 101) := by
  intro n
  induction n with
  | zero =>
    intro l hl a e f h
    have : l = [] := List.length_eq_zero_iff.1 (by omega)
    subst this
    rw [scanL_nil] at h; cases h
  | succ n ih =>
    intro l hl a e f h
    cases l with
    | nil => rw [scanL_nil] at h; cases h
    | cons c r =>
      by_cases hb : blankB c = true
      · rw [scanL_blank r a hb] at h
        have := ih r (by simp at hl; omega) _ _ _ h
        simp; omega
      · have hb' : blankB c = false := by simpa using hb
        by_cases hn : c.toNat = 37
        · rw [scanL_note r a hb' hn] at h
          have hsum : (r.takeWhile (fun x => decide (x.toNat ≠ 10))).length + (r.dropWhile (fun x => decide (x.toNat ≠ 10))).length = r.length := by
            rw [← List.length_append, List.takeWhile_append_dropWhile]
          have := ih _ (by simp at hl; omega) _ _ _ h
          simp at this hsum ⊢; omega
        · rw [scanL_tok r a hb' hn] at h
          split at h
          · rename_i q ht
            cases h
            have := tokL_err (e := q.1) (f := q.2) ht
            exact ⟨by omega, by omega, this.2⟩
          · rename_i t ht
            have hen := tokL_en ht
            split at h
            · rename_i x hs
              cases h
              have := ih _ (by simp at hl ⊢; omega) _ _ _ hs
              rw [List.length_drop] at this
              omega
            · cases h
/-! ## printing -/
def printTk (t : Tk) : List UInt8 := if t.kind = 1 then Lib.itoa t.num else if t.kind = 2 then nameL t.text else t.text
def joinS : List (List UInt8) → List UInt8
  | [] => []
  | [x] => x
  | x :: y :: r => x ++ 32 :: joinS (y :: r)
def printL (ts : List Tk) : List UInt8 := joinS (ts.map printTk)
/-- what a token may be -/
def TokOk (t : Tk) : Prop :=
  (t.kind = 1 ∧ t.text = [] ∧ ∃ n : Nat, t.num = n ∧ n ≤ 576460752303423487) ∨
  (t.num = 0 ∧ ((t.kind = 2 ∧ 1 ≤ t.text.length ∧ t.text.length ≤ 255) ∨
    (t.kind = 3 ∧ t.text.length ≤ 255 ∧ (∀ x ∈ t.text, moreB x = true) ∧ ∃ c r, t.text = c :: r ∧ greatB c = true) ∨
    (t.kind = 4 ∧ wordsS.contains t.text = true) ∨
    (t.kind = 5 ∧ ((∃ c, t.text = [c] ∧ signsL.contains c = true) ∨ ∃ c d, t.text = [c, d] ∧ sign2 c d = true))))
theorem tw_all (p : UInt8 → Bool) (l : List UInt8) : ∀ x ∈ l.takeWhile p, p x = true := fun x hx => List.all_eq_true.1 (List.all_takeWhile (l := l) (p := p)) x hx
theorem tokL_ok {l : List UInt8} {t : Tk} (h : tokL l = .ok t) : TokOk t := by
  unfold tokL at h
  split at h
  · cases h
  · rename_i c r
    split at h
    · split at h
      · rename_i h2
        cases h
        exact .inl ⟨rfl, rfl, _, rfl, h2⟩
      · cases h
    · split at h
      · rename_i hd
        split at h
        · cases h
        · rename_i hle
          cases h
          refine .inr ⟨rfl, ?_⟩
          have hm : moreB c = true := by unfold moreB; simp at hd; rcases hd with hd | hd <;> simp [hd]
          have hcons : (c :: r).takeWhile moreB = c :: r.takeWhile moreB := List.takeWhile_cons_of_pos hm
          by_cases hg : greatB c = true
          · refine .inr (.inl ⟨by simp [hg], by simp only; omega, tw_all _ _, c, _, hcons, hg⟩)
          · by_cases hw : wordsS.contains ((c :: r).takeWhile moreB) = true
            · exact .inr (.inr (.inl ⟨by simp only [hg, hw]; rfl, hw⟩))
            · refine .inl ⟨by simp only [hg, hw]; rfl, ?_, by simp only; omega⟩
              simp only; rw [hcons]; simp
      · split at h
        · split at h
          · cases h
          · rename_i b n hq
            cases h
            have := quoL_bd _ _ (Nat.le_refl _) _ _ _ _ hq
            exact .inr ⟨rfl, .inl ⟨rfl, this.2.2.2, this.2.2.1⟩⟩
        · split at h
          · cases h
          · rename_i h4
            cases h
            refine .inr ⟨rfl, .inr (.inr (.inr ⟨rfl, ?_⟩))⟩
            simp only
            unfold signN at h4 ⊢
            split
            · rename_i e; cases e
            · rename_i c' e
              cases e
              simp only at h4
              split
              · rename_i h5; exact .inl ⟨c, rfl, h5⟩
              · rename_i h5; rw [if_neg h5] at h4; exact absurd rfl h4
            · rename_i c' d r' e
              cases e
              simp only at h4
              split
              · rename_i h5; exact .inr ⟨c, d, rfl, h5⟩
              · rename_i h5
                rw [if_neg h5] at h4
                split
                · rename_i h6; exact .inl ⟨c, rfl, h6⟩
                · rename_i h6; rw [if_neg h6] at h4; exact absurd rfl h4
theorem tokL_head {c : UInt8} {r : List UInt8} {t : Tk} (h : tokL (c :: r) = .ok t) : blankB c = false ∧ c.toNat ≠ 37 := by
  have hs : ∀ c : UInt8, (blankB c = true ∨ c.toNat = 37) → digitB c = false ∧ smallB c = false ∧ greatB c = false ∧ c.toNat ≠ 39 ∧ signsL.contains c = false ∧ (c ≠ 45 ∧ c ≠ 61 ∧ c ≠ 47 ∧ c ≠ 62) := by
    intro c hc
    have hc' : c.toNat = 32 ∨ c.toNat = 9 ∨ c.toNat = 10 ∨ c.toNat = 13 ∨ c.toNat = 37 := by
      unfold blankB at hc; simp at hc; omega
    have : c = 32 ∨ c = 9 ∨ c = 10 ∨ c = 13 ∨ c = 37 := by
      rcases hc' with h | h | h | h | h
      · exact .inl (UInt8.toNat.inj h)
      · exact .inr (.inl (UInt8.toNat.inj h))
      · exact .inr (.inr (.inl (UInt8.toNat.inj h)))
      · exact .inr (.inr (.inr (.inl (UInt8.toNat.inj h))))
      · exact .inr (.inr (.inr (.inr (UInt8.toNat.inj h))))
    rcases this with rfl | rfl | rfl | rfl | rfl <;> decide
  by_cases hc : blankB c = true ∨ c.toNat = 37
  · exfalso
    obtain ⟨h1, h2, h3, h4, h5, h6⟩ := hs c hc
    unfold tokL at h
    simp only [h1, h2, h3, h4, if_neg, Bool.or_self, Bool.false_eq_true, if_false] at h
    have h7 : signN (c :: r) = 0 := by
      unfold signN
      split
      · rfl
      · rename_i e; cases e; rw [h5]; rfl
      · rename_i d r' e
        cases e
        have : sign2 c d = false := by unfold sign2; simp [h6]
        rw [this, h5]; rfl
    rw [if_pos h7] at h
    cases h
  · exact ⟨by simpa using fun h => hc (.inl h), fun h => hc (.inr h)⟩
theorem scan_ok : ∀ (ts : List (Tk × Nat)) (l : List UInt8) (a : Nat), scanL l a = .ok ts → ∀ x ∈ ts, TokOk x.1
  | [], _, _, _, _, hx => by cases hx
  | (t, p) :: ts, l, a, h, x, hx => by
    obtain ⟨_, _, _, h4, h5⟩ := scanL_at _ l (Nat.le_refl _) a t p ts h
    rcases List.mem_cons.1 hx with rfl | hx
    · exact tokL_ok h4
    · exact scan_ok ts _ _ h5 x hx
/-! ## a printed token is scanned again -/
def Stop (v : List UInt8) : Prop := v = [] ∨ ∃ c r, v = c :: r ∧ blankB c = true
theorem tw_stop {p : UInt8 → Bool} {u v : List UInt8} (hv : Stop v) (hb : ∀ c, blankB c = true → p c = false) (hu : ∀ x ∈ u, p x = true) : (u ++ v).takeWhile p = u := by
  rw [List.takeWhile_append_of_pos hu]
  rcases hv with rfl | ⟨c, r, rfl, hc⟩
  · simp
  · rw [List.takeWhile_cons_of_neg (by simp [hb c hc])]; simp
theorem numD_snoc (l : List UInt8) (c : UInt8) : numD (l ++ [c]) = numD l * 10 + (c.toNat - 48) := by simp [numD]
theorem dec_ok : ∀ (n u : Nat), u ≤ n → (∀ x ∈ Lib.decDigits u, digitB x = true) ∧ numD (Lib.decDigits u) = u ∧ Lib.decDigits u ≠ [] := by
  intro n
  induction n with
  | zero =>
    intro u hu
    obtain rfl : u = 0 := by omega
    refine ⟨?_, ?_, ?_⟩ <;> rw [Lib.decDigits] <;> simp [digitB, numD]
  | succ n ih =>
    intro u hu
    have hd : ∀ k, k < 10 → (UInt8.ofNat (48 + k)).toNat = 48 + k := fun k hk => by
      rw [UInt8.toNat_ofNat']; omega
    by_cases h : u < 10
    · rw [Lib.decDigits, dif_pos h]
      refine ⟨fun x hx => ?_, ?_, by simp⟩
      · obtain rfl := List.mem_singleton.1 hx
        unfold digitB; rw [hd u h]; simp; omega
      · simp only [numD, List.foldl_cons, List.foldl_nil]; rw [hd u h]; omega
    · rw [Lib.decDigits, dif_neg h]
      obtain ⟨h1, h2, h3⟩ := ih (u / 10) (by omega)
      have hm := hd (u % 10) (Nat.mod_lt _ (by omega))
      refine ⟨fun x hx => ?_, ?_, by simp⟩
      · rcases List.mem_append.1 hx with hx | hx
        · exact h1 x hx
        · obtain rfl := List.mem_singleton.1 hx
          unfold digitB; rw [hm]; simp; omega
      · rw [numD_snoc, h2, hm]; omega
theorem escL_ne (c : UInt8) : escL c ≠ [] := by
  unfold escL; split
  · simp
  · split <;> simp
theorem esc_back (c : UInt8) (v : List UInt8) (i : Nat) (b : List UInt8) : quoL (escL c ++ v) i b = quoL v (i + (escL c).length) (b ++ [c]) := by
  unfold escL
  by_cases h1 : c = 39 ∨ c = 92
  · rw [if_pos h1]
    simp only [List.cons_append, List.nil_append]
    rw [quoL_cons, if_neg (by decide), if_pos (by decide)]
    have : escN (92 :: c :: v) = some (c, 2) := by
      have h1' : c.toNat = 39 ∨ c.toNat = 92 := by rcases h1 with rfl | rfl; (· exact .inl rfl); exact .inr rfl
      simp only [escN]
      rw [if_pos h1']
    rw [this]; rfl
  · rw [if_neg h1]
    by_cases h2 : c < 32 ∨ 126 < c
    · rw [if_pos h2]
      simp only [List.cons_append, List.nil_append]
      rw [quoL_cons, if_neg (by decide), if_pos (by decide)]
      have hx : ∀ k : Nat, k < 16 → hexB (hexL.getD k 0) = true ∧ hexV (hexL.getD k 0) = k := by decide
      obtain ⟨a1, a2⟩ := hx (c.toNat / 16) (by have := c.toNat_lt; omega)
      obtain ⟨b1, b2⟩ := hx (c.toNat % 16) (by omega)
      have : escN (92 :: 120 :: hexL.getD (c.toNat / 16) 0 :: hexL.getD (c.toNat % 16) 0 :: v) = some (c, 4) := by
        have n1 : ¬ ((120 : UInt8).toNat = 39 ∨ (120 : UInt8).toNat = 92) := by decide
        have n2 : (120 : UInt8).toNat = 120 := by decide
        simp only [escN]
        rw [if_neg n1, if_pos n2]
        simp only [a1, b1, a2, b2, Bool.and_self, if_true]
        have : UInt8.ofNat (16 * (c.toNat / 16) + c.toNat % 16) = c := by
          rw [Nat.div_add_mod]; simp
        rw [this]
      rw [this]; rfl
    · rw [if_neg h2]
      simp only [List.cons_append, List.nil_append]
      have n1 : c.toNat ≠ 39 := fun h => h1 (.inl (UInt8.toNat.inj h))
      have n2 : c.toNat ≠ 92 := fun h => h1 (.inr (UInt8.toNat.inj h))
      have n3 : ¬ (c.toNat < 32 ∨ 126 < c.toNat) := fun h => h2 (by rcases h with h | h; exact .inl (UInt8.lt_iff_toNat_lt.2 h); exact .inr (UInt8.lt_iff_toNat_lt.2 h))
      rw [quoL_cons, if_neg n1, if_neg n2, if_neg n3]
      simp
theorem quo_back (s : List UInt8) (v : List UInt8) (i : Nat) (b : List UInt8) (h1 : 1 ≤ (b ++ s).length) (h2 : (b ++ s).length ≤ 255) : quoL (s.flatMap escL ++ 39 :: v) i b = .ok (b ++ s, i + (s.flatMap escL).length + 1) := by
  induction s generalizing i b with
  | nil =>
    simp only [List.flatMap_nil, List.nil_append, List.append_nil] at *
    rw [quoL_cons, if_pos (by decide), if_neg (by omega)]; rfl
  | cons c s ih =>
    rw [List.flatMap_cons, List.append_assoc, esc_back, ih _ _ (by simp; omega) (by simp at h2 ⊢; omega)]
    simp [Nat.add_assoc]
theorem letter_more (c : UInt8) (h : letterB c = true) : moreB c = true := by
  have : ∀ x ∈ lettersL, moreB x = true := by decide
  unfold letterB at h
  exact this c (List.contains_iff_mem.1 h)
theorem tokL_print {t : Tk} (h : TokOk t) {v : List UInt8} (hv : Stop v) : tokL (printTk t ++ v) = .ok { t with en := (printTk t).length } ∧ printTk t ≠ [] := by
  obtain ⟨kind, num, text, en⟩ := t
  unfold TokOk at h
  unfold printTk
  simp only at h ⊢
  rcases h with ⟨rfl, rfl, n, rfl, hn⟩ | ⟨rfl, ⟨rfl, h1, h2⟩ | ⟨rfl, h1, h2, c, r, rfl, hg⟩ | ⟨rfl, hw⟩ | ⟨rfl, ⟨c, rfl, hc⟩ | ⟨c, d, rfl, hc⟩⟩⟩
  · rw [if_pos rfl]
    have hi : Lib.itoa (n : Int) = Lib.decDigits n := by unfold Lib.itoa; rw [if_neg (by omega)]; simp
    rw [hi]
    obtain ⟨h1, h2, h3⟩ := dec_ok n n (Nat.le_refl _)
    refine ⟨?_, h3⟩
    have htw := tw_stop hv blank_digit h1
    obtain ⟨c, r, hcr⟩ := List.exists_cons_of_ne_nil h3
    have hc : digitB c = true := h1 c (by rw [hcr]; simp)
    rw [hcr] at htw h2 ⊢
    unfold tokL
    simp only [List.cons_append] at htw ⊢
    rw [if_pos hc, htw, h2, if_pos hn]
  · rw [if_neg (by decide), if_pos rfl]
    unfold nameL
    by_cases hb : bareL text = true
    · rw [if_pos hb]
      unfold bareL at hb
      simp only [Bool.and_eq_true, List.all_eq_true, Bool.not_eq_true'] at hb
      obtain ⟨⟨b1, b2⟩, b3⟩ := hb
      match text, h1, h2, b1, b2, b3 with
      | [], h1, _, _, _, _ => simp at h1
      | c :: r, h1, h2, b1, b2, b3 =>
        refine ⟨?_, by simp⟩
        simp only [Bool.and_eq_true, decide_eq_true_eq] at b2
        have hs : 97 ≤ c.toNat ∧ c.toNat ≤ 122 := ⟨UInt8.le_iff_toNat_le.1 b2.1, UInt8.le_iff_toNat_le.1 b2.2⟩
        have htw := tw_stop hv blank_more (fun x hx => letter_more x (b1 x hx))
        unfold tokL
        simp only [List.cons_append] at htw ⊢
        have d1 : digitB c = false := by unfold digitB; simp; omega
        have d2 : smallB c = true := by unfold smallB; simp; omega
        have d3 : greatB c = false := by unfold greatB; simp; omega
        rw [if_neg (by simp [d1]), if_pos (by simp [d2])]
        simp only [htw]
        have b3' : wordsS.contains (c :: r) = false := b3
        rw [if_neg (by omega), d3, b3']; rfl
    · rw [if_neg hb]
      refine ⟨?_, by simp [quoteL]⟩
      unfold quoteL tokL
      simp only [List.cons_append, List.append_assoc, List.nil_append]
      rw [if_neg (by decide), if_neg (by decide), if_pos (by decide)]
      rw [quo_back text v 1 [] (by simpa using h1) (by simpa using h2)]
      simp [Nat.add_comm]
  · rw [if_neg (by decide), if_neg (by decide)]
    refine ⟨?_, by simp⟩
    have htw := tw_stop hv blank_more h2
    unfold tokL
    simp only [List.cons_append] at htw ⊢
    have d1 : digitB c = false := by unfold greatB at hg; unfold digitB; simp at hg ⊢; omega
    rw [if_neg (by simp [d1]), if_pos (by simp [hg])]
    simp only [htw]
    rw [if_neg (by omega), hg]; rfl
  · rw [if_neg (by decide), if_neg (by decide)]
    have hall : ∀ s ∈ wordsS, s ≠ [] ∧ (∀ x ∈ s, smallB x = true) ∧ s.length ≤ 255 := by decide
    obtain ⟨w1, w2, w3⟩ := hall text (List.contains_iff_mem.1 hw)
    refine ⟨?_, w1⟩
    obtain ⟨c, r, rfl⟩ := List.exists_cons_of_ne_nil w1
    have htw := tw_stop hv blank_more (fun x hx => show moreB x = true by unfold moreB; rw [w2 x hx]; rfl)
    have hc := w2 c (by simp)
    have d1 : digitB c = false := by unfold smallB at hc; unfold digitB; simp at hc ⊢; omega
    have d3 : greatB c = false := by unfold smallB at hc; unfold greatB; simp at hc ⊢; omega
    unfold tokL
    simp only [List.cons_append] at htw ⊢
    rw [if_neg (by simp [d1]), if_pos (by simp [hc])]
    simp only [htw]
    rw [if_neg (by omega), d3, hw]; rfl
  · rw [if_neg (by decide), if_neg (by decide)]
    refine ⟨?_, by simp⟩
    have hall : ∀ c ∈ signsL, digitB c = false ∧ smallB c = false ∧ greatB c = false ∧ c.toNat ≠ 39 := by decide
    obtain ⟨s1, s2, s3, s4⟩ := hall c (List.contains_iff_mem.1 hc)
    have hsn : signN ([c] ++ v) = 1 := by
      rcases hv with rfl | ⟨d, r, rfl, hd⟩
      · simp only [List.append_nil, signN]; rw [if_pos hc]
      · simp only [List.cons_append, List.nil_append, signN]; rw [sign2_blank c d hd, if_pos hc]; rfl
    unfold tokL
    simp only [List.cons_append, List.nil_append] at hsn ⊢
    rw [if_neg (by simp [s1]), if_neg (by simp [s2, s3]), if_neg s4, hsn]; rfl
  · rw [if_neg (by decide), if_neg (by decide)]
    refine ⟨?_, by simp⟩
    have hcc : c = 45 ∨ c = 61 ∨ c = 47 ∨ c = 62 := by
      unfold sign2 at hc
      simp only [Bool.or_eq_true, Bool.and_eq_true, beq_iff_eq] at hc
      rcases hc with (((h | h) | h) | h) | h
      · exact .inl h.1
      · exact .inr (.inl h.1)
      · exact .inr (.inr (.inl h.1))
      · exact .inr (.inl h.1)
      · exact .inr (.inr (.inr h.1))
    have hall : digitB c = false ∧ smallB c = false ∧ greatB c = false ∧ c.toNat ≠ 39 := by
      rcases hcc with rfl | rfl | rfl | rfl <;> decide
    obtain ⟨s1, s2, s3, s4⟩ := hall
    have hsn : signN ([c, d] ++ v) = 2 := by simp only [List.cons_append, List.nil_append, signN]; rw [if_pos hc]
    unfold tokL
    simp only [List.cons_append, List.nil_append] at hsn ⊢
    rw [if_neg (by simp [s1]), if_neg (by simp [s2, s3]), if_neg s4, hsn]; rfl
/-- the same tokens but for places -/
def core (t : Tk) : Int × Int × List UInt8 := (t.kind, t.num, t.text)
theorem scan_print : ∀ (ts : List Tk) (a : Nat), (∀ t ∈ ts, TokOk t) → ∃ ts', scanL (printL ts) a = .ok ts' ∧ ts'.map (fun x => core x.1) = ts.map core
  | [], a, _ => ⟨[], by unfold printL; simp only [List.map_nil, joinS]; exact scanL_nil a, rfl⟩
  | [t], a, h => by
    obtain ⟨h1, h2⟩ := tokL_print (h t (by simp)) (v := []) (.inl rfl)
    rw [List.append_nil] at h1
    obtain ⟨c, r, hcr⟩ := List.exists_cons_of_ne_nil h2
    refine ⟨[({ t with en := (printTk t).length }, a)], ?_, by simp [core]⟩
    unfold printL
    simp only [List.map_cons, List.map_nil, joinS]
    have hl : (printTk t).length = (c :: r).length := by rw [hcr]
    rw [hcr] at h1 ⊢
    have hh := tokL_head h1
    rw [scanL_tok r a hh.1 hh.2, h1]
    simp only [List.drop_length, scanL_nil]
  | t :: t2 :: ts, a, h => by
    obtain ⟨X, hX⟩ : ∃ X, X = printL (t2 :: ts) := ⟨_, rfl⟩
    obtain ⟨h1, h2⟩ := tokL_print (h t (by simp)) (v := 32 :: X) (.inr ⟨32, X, rfl, by decide⟩)
    obtain ⟨c, r, hcr⟩ := List.exists_cons_of_ne_nil h2
    obtain ⟨ts', h3, h4⟩ := scan_print (t2 :: ts) (a + (printTk t).length + 1) (fun x hx => h x (List.mem_cons_of_mem _ hx))
    refine ⟨({ t with en := (printTk t).length }, a) :: ts', ?_, by rw [List.map_cons, h4]; simp [core]⟩
    have hpr : printL (t :: t2 :: ts) = printTk t ++ 32 :: X := by rw [hX]; rfl
    rw [hpr]
    have hd : (printTk t ++ 32 :: X).drop (printTk t).length = 32 :: X := by simp
    rw [hcr] at h1 hd ⊢
    rw [List.cons_append] at h1 hd ⊢
    have hh := tokL_head h1
    rw [scanL_tok _ a hh.1 hh.2, h1]
    simp only
    rw [hd, scanL_blank _ _ (by decide), hX, ← hcr, h3]
end Go.Emb
