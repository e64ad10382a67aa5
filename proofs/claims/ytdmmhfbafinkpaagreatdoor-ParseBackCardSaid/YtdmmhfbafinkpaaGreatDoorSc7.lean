import Derived.Test.YtdmmhfbafinkpaaGreatDoorSc6
import Derived.Lib.ParseIntB
/- Scanning: numbers (ParseInt at digits). -/
namespace Go.Proofs.YtdmmhfbafinkpaaGreatDoor
open Go.RowKit Go.Emb

def valD (a : Nat) (l : List UInt8) : Nat := l.foldl (fun a c => a * 10 + (c.toNat - 48)) a
theorem valD_le (l : List UInt8) : ∀ a, a ≤ valD a l := by
  induction l with
  | nil => intro a; exact Nat.le_refl _
  | cons c l ih => intro a; have := ih (a * 10 + (c.toNat - 48)); unfold valD at this ⊢; simp only [List.foldl_cons]; omega
theorem parse_digits_from (l : List UInt8) (h : ∀ x ∈ l, digitB x = true) : ∀ a, a ≤ 2 ^ 64 - 1 → Lib.parseUintM (2 ^ 64 - 1) a l = if valD a l ≤ 2 ^ 64 - 1 then .ok (valD a l) else .range := by
  induction l with
  | nil => intro a ha; rw [if_pos (show valD a [] ≤ 2 ^ 64 - 1 from ha)]; rfl
  | cons c l ih =>
    intro a ha
    have hc := h c (by simp)
    have hle := valD_le l (a * 10 + (c.toNat - 48))
    have e : valD a (c :: l) = valD (a * 10 + (c.toNat - 48)) l := rfl
    unfold digitB at hc
    simp only [Bool.and_eq_true, decide_eq_true_eq] at hc
    unfold Lib.parseUintM
    rw [if_pos hc, e]
    by_cases h1 : 1844674407370955162 ≤ a
    · rw [if_pos h1, if_neg (by omega)]
    · rw [if_neg h1]
      by_cases h2 : 2 ^ 64 - 1 < a * 10 + (c.toNat - 48)
      · rw [if_pos h2, if_neg (by omega)]
      · rw [if_neg h2, ih (fun x hx => h x (by simp [hx])) _ (by omega)]
theorem parse_digits {l : List UInt8} (hne : l ≠ []) (h : ∀ x ∈ l, digitB x = true) : Lib.parseIntB 64 l = if numD l < 2 ^ 63 then .ok (numD l : Int) else .range := by
  obtain ⟨c, r, rfl⟩ := List.exists_cons_of_ne_nil hne
  have hc := h c (by simp)
  unfold digitB at hc
  simp only [Bool.and_eq_true, decide_eq_true_eq] at hc
  unfold Lib.parseIntB
  simp only
  rw [if_neg (by omega)]
  unfold Lib.parseUintB
  rw [if_neg (by simp), parse_digits_from _ h 0 (by omega)]
  have e : valD 0 (c :: r) = numD (c :: r) := rfl
  rw [e]
  by_cases h1 : numD (c :: r) ≤ 2 ^ 64 - 1
  · rw [if_pos h1]
    simp only
    by_cases h2 : numD (c :: r) < 2 ^ 63
    · rw [if_neg (by omega), if_neg (by omega), if_pos h2, if_neg (by omega)]
    · rw [if_pos (by omega), if_neg h2]
  · rw [if_neg h1, if_neg (by omega)]
def ErrOk (w : World) : Prop := ∃ ev, w.cell? ⟨6, 0, none⟩ = some ev ∧ (ev = .nilIface ∨ ∃ te pe, ev = .iface te pe)
theorem ErrOk.keep {w w' : World} (h : ErrOk w) (k : Keep [] w w') : ErrOk w' := by
  obtain ⟨ev, h1, h2⟩ := h
  exact ⟨ev, by rw [k.cell (World.block_lt_of_cell? _ _ h1) (by simp)]; exact h1, h2⟩
/-- what ParseInt answers at a numeral -/
def ParseP (w : World) (n : Nat) (e : Ending) (w' : World) : Prop := (∃ (v : Int) (x : Value), e = .returned (.tuple #[.int .i64 v, x]) ∧ ((x = .nilIface ∧ v = n) ∨ ∃ N, x = .iface 161 (.pointer (some ⟨N, 0, none⟩)) ∧ 576460752303423487 < n)) ∧ Keep [] w w'
theorem p_parse (s : ByteArray) (w : World) (he : ErrOk w) (h0 : s.data.toList ≠ []) (hd : ∀ x ∈ s.data.toList, digitB x = true) (hs : s.size ≤ 20000) : Calls Tryz.prog 112 #[.string s, .int .i64 10, .int .i64 64] w (ParseP w (numD s.data.toList)) := by
  have hp := parse_digits h0 hd
  by_cases hn : numD s.data.toList < 2 ^ 63
  · rw [if_pos hn] at hp
    refine (Tryz.strconv_ParseInt_10_at64_ok s (by omega) _ hp w).mono (fun e w' h => ?_)
    refine ⟨⟨_, _, h.1, .inl ⟨rfl, rfl⟩⟩, ?_⟩
    rcases h.2 with h | ⟨t, h⟩
    · rw [h]; exact Keep.refl _ _
    · rw [h]; exact ⟨rfl, rfl, rfl, by rw [Lib.bytesWorld_size]; omega, fun b hb _ => Lib.bytesWorld_at_old w _ _ b hb⟩
  · rw [if_neg hn] at hp
    obtain ⟨ev, h1, h2⟩ := he
    refine (Tryz.strconv_ParseInt_10_at64_range s (by omega) hp ev w h1 h2).mono (fun e w' h => ?_)
    obtain ⟨N, h3, -, -, h4⟩ := h
    exact ⟨⟨_, _, h3, .inr ⟨N, rfl, by omega⟩⟩, Keep.of_below h4⟩
end Go.Proofs.YtdmmhfbafinkpaaGreatDoor
