/- Terms: the order is one (plain). -/
import Derived.Test.YtcegdomfmamonaaDoorTmQ
namespace Go.Emb
open Go.RowKit

/-- what the order's three answers are to each other -/
def T3 (x y z : Int) : Prop := (x ≤ 0 → y ≤ 0 → z ≤ 0 ∧ (z = 0 → x = 0 ∧ y = 0)) ∧ (x = 0 → y = 0 → z = 0)
theorem T3.or0 {x y z x' y' z' : Int} (h : T3 x y z) (h' : x = 0 → y = 0 → T3 x' y' z') : T3 (or0 x x') (or0 y y') (or0 z z') := by
  obtain ⟨h1, h2⟩ := h
  unfold Go.Emb.or0
  by_cases hx : x = 0
  · by_cases hy : y = 0
    · rw [if_pos hx, if_pos hy, if_pos (h2 hx hy)]; exact h' hx hy
    · rw [if_pos hx, if_neg hy]
      by_cases hn : y ≤ 0
      · have h3 := h1 (by omega) hn
        have hz : ¬ z = 0 := fun hz => hy (h3.2 hz).2
        rw [if_neg hz]
        exact ⟨fun _ _ => ⟨h3.1, fun h => absurd h hz⟩, fun _ h => absurd h hy⟩
      · exact ⟨fun _ h => absurd h hn, fun _ h => absurd h hy⟩
  · rw [if_neg hx]
    by_cases hn : x ≤ 0
    · by_cases hm : y ≤ 0
      · have h3 := h1 hn hm
        have hz : ¬ z = 0 := fun hz => hx (h3.2 hz).1
        rw [if_neg hz]
        exact ⟨fun _ _ => ⟨h3.1, fun h => absurd h hz⟩, fun h => absurd h hx⟩
      · rw [if_neg (by omega : ¬ y = 0)]
        exact ⟨fun _ h => absurd h hm, fun h => absurd h hx⟩
    · exact ⟨fun h => absurd h hn, fun h => absurd h hx⟩
theorem compareInt_T3 (a b c : Int) : T3 (Lib.compareInt a b) (Lib.compareInt b c) (Lib.compareInt a c) := by
  unfold T3 Lib.compareInt
  by_cases h1 : a < b <;> by_cases h2 : a > b <;> by_cases h3 : b < c <;> by_cases h4 : b > c <;> by_cases h5 : a < c <;> by_cases h6 : a > c <;> simp [h1, h2, h3, h4, h5, h6] <;> omega
theorem compareInt_neg (a b : Int) : Lib.compareInt b a = - Lib.compareInt a b := by
  unfold Lib.compareInt
  by_cases h1 : a < b <;> by_cases h2 : b < a <;> simp [h1, h2] <;> omega
theorem compareInt_bd (a b : Int) : -1 ≤ Lib.compareInt a b ∧ Lib.compareInt a b ≤ 1 := by
  unfold Lib.compareInt
  by_cases h1 : a < b <;> by_cases h2 : a > b <;> simp [h1, h2]
theorem compareInt_eq (a b : Int) : Lib.compareInt a b = 0 ↔ a = b := by
  unfold Lib.compareInt
  by_cases h1 : a < b <;> by_cases h2 : a > b <;> simp [h1, h2] <;> omega
theorem compareBytes_cons (a b : UInt8) (as bs : List UInt8) : Lib.compareBytes (a :: as) (b :: bs) = or0 (Lib.compareInt a.toNat b.toNat) (Lib.compareBytes as bs) := by
  simp only [Lib.compareBytes, Lib.compareInt, or0, UInt8.lt_iff_toNat_lt, Int.ofNat_lt, gt_iff_lt]
  by_cases h1 : a.toNat < b.toNat
  · simp [h1]
  · by_cases h2 : b.toNat < a.toNat <;> simp [h1, h2]
theorem compareBytes_T3 : ∀ a b c : List UInt8, T3 (Lib.compareBytes a b) (Lib.compareBytes b c) (Lib.compareBytes a c)
  | [], [], [] => by simp [Lib.compareBytes, T3]
  | [], [], _ :: _ => by simp [Lib.compareBytes, T3]
  | [], _ :: _, [] => by simp [Lib.compareBytes, T3]
  | [], _ :: _, _ :: _ => by simp [Lib.compareBytes, T3]
  | _ :: _, [], [] => by simp [Lib.compareBytes, T3]
  | _ :: _, [], _ :: _ => by simp [Lib.compareBytes, T3]
  | _ :: _, _ :: _, [] => by simp [Lib.compareBytes, T3]
  | a :: as, b :: bs, c :: cs => by
    rw [compareBytes_cons, compareBytes_cons, compareBytes_cons]
    exact (compareInt_T3 _ _ _).or0 fun _ _ => compareBytes_T3 as bs cs
theorem or0_neg {x y x' y' : Int} (h : y = -x) (h' : x = 0 → y' = -x') : or0 y y' = - or0 x x' := by
  unfold or0
  by_cases hx : x = 0
  · rw [if_pos (by omega), if_pos hx, h' hx]
  · rw [if_neg (by omega), if_neg hx, h]
theorem or0_bd {x x' : Int} (h : -1 ≤ x ∧ x ≤ 1) (h' : -1 ≤ x' ∧ x' ≤ 1) : -1 ≤ or0 x x' ∧ or0 x x' ≤ 1 := by
  unfold or0; split <;> assumption
theorem or0_zero {x x' : Int} : or0 x x' = 0 ↔ x = 0 ∧ x' = 0 := by
  unfold or0
  by_cases hx : x = 0
  · rw [if_pos hx]; simp [hx]
  · rw [if_neg hx]; simp [hx]
theorem compareBytes_neg : ∀ a b : List UInt8, Lib.compareBytes b a = - Lib.compareBytes a b
  | [], [] => by simp [Lib.compareBytes]
  | [], _ :: _ => by simp [Lib.compareBytes]
  | _ :: _, [] => by simp [Lib.compareBytes]
  | a :: as, b :: bs => by
    rw [compareBytes_cons, compareBytes_cons]
    exact or0_neg (compareInt_neg _ _) fun _ => compareBytes_neg as bs
theorem compareBytes_bd : ∀ a b : List UInt8, -1 ≤ Lib.compareBytes a b ∧ Lib.compareBytes a b ≤ 1
  | [], [] => by simp [Lib.compareBytes]
  | [], _ :: _ => by simp [Lib.compareBytes]
  | _ :: _, [] => by simp [Lib.compareBytes]
  | a :: as, b :: bs => by
    rw [compareBytes_cons]
    exact or0_bd (compareInt_bd _ _) (compareBytes_bd as bs)
theorem compareBytes_eq : ∀ a b : List UInt8, Lib.compareBytes a b = 0 ↔ a = b
  | [], [] => by simp [Lib.compareBytes]
  | [], _ :: _ => by simp [Lib.compareBytes]
  | _ :: _, [] => by simp [Lib.compareBytes]
  | a :: as, b :: bs => by
    rw [compareBytes_cons, or0_zero, compareInt_eq, compareBytes_eq as bs, List.cons.injEq]
    refine ⟨fun h => ⟨UInt8.toNat_inj.1 (by omega), h.2⟩, fun h => ⟨by rw [h.1], h.2⟩⟩
theorem cmpTm_eq (s t : Tm) : cmpTm s t = or0 (Lib.compareInt s.kind t.kind) (or0 (Lib.compareInt s.num t.num) (or0 (Lib.compareBytes s.name.data.toList t.name.data.toList) (or0 (Lib.compareInt s.items.length t.items.length) (cmpTms s.items t.items)))) := by
  cases s; cases t; rw [cmpTm]; rfl
theorem cmpTms_cons (x y : Tm) (l r : List Tm) : cmpTms (x :: l) (y :: r) = or0 (cmpTm x y) (cmpTms l r) := by rw [cmpTms]
theorem cmpTms_nil (l : List Tm) : cmpTms [] l = 0 := by rw [cmpTms]
theorem cmpTms_T3 {N : Nat} (IH : ∀ a b c : Tm, a.sz ≤ N → T3 (cmpTm a b) (cmpTm b c) (cmpTm a c)) : ∀ l l' l'' : List Tm, szL l ≤ N → l.length = l'.length → l'.length = l''.length → T3 (cmpTms l l') (cmpTms l' l'') (cmpTms l l'')
  | [], [], [], _, _, _ => by simp [cmpTms_nil, T3]
  | [], [], _ :: _, _, _, h => by simp at h
  | [], _ :: _, _, _, h, _ => by simp at h
  | _ :: _, [], _, _, h, _ => by simp at h
  | _ :: _, _ :: _, [], _, _, h => by simp at h
  | a :: l, b :: l', c :: l'', hs, h1, h2 => by
    rw [szL_cons] at hs
    rw [cmpTms_cons, cmpTms_cons, cmpTms_cons]
    exact (IH a b c (by omega)).or0 fun _ _ => cmpTms_T3 IH l l' l'' (by omega) (by simpa using h1) (by simpa using h2)
theorem tm_sz (t : Tm) : t.sz = szL t.items + 1 := by cases t; simp only [Tm.sz, Tm.items]
theorem cmpTm_T3N : ∀ (N : Nat) (a b c : Tm), a.sz ≤ N → T3 (cmpTm a b) (cmpTm b c) (cmpTm a c)
  | 0, a, _, _, h => by have := a.sz_pos; omega
  | N + 1, a, b, c, h => by
    have hs := tm_sz a
    rw [cmpTm_eq a b, cmpTm_eq b c, cmpTm_eq a c]
    refine (compareInt_T3 _ _ _).or0 fun _ _ => (compareInt_T3 _ _ _).or0 fun _ _ => (compareBytes_T3 _ _ _).or0 fun _ _ => (compareInt_T3 _ _ _).or0 fun h1 h2 => ?_
    rw [compareInt_eq] at h1 h2
    exact cmpTms_T3 (cmpTm_T3N N) _ _ _ (by omega) (by omega) (by omega)
theorem cmpTm_T3 (a b c : Tm) : T3 (cmpTm a b) (cmpTm b c) (cmpTm a c) := cmpTm_T3N a.sz a b c (Nat.le_refl _)
theorem cmpTms_neg {N : Nat} (IH : ∀ a b : Tm, a.sz ≤ N → cmpTm b a = - cmpTm a b) : ∀ l l' : List Tm, szL l ≤ N → l.length = l'.length → cmpTms l' l = - cmpTms l l'
  | [], [], _, _ => by simp [cmpTms_nil]
  | [], _ :: _, _, h => by simp at h
  | _ :: _, [], _, h => by simp at h
  | a :: l, b :: l', hs, h1 => by
    rw [szL_cons] at hs
    rw [cmpTms_cons, cmpTms_cons]
    exact or0_neg (IH a b (by omega)) fun _ => cmpTms_neg IH l l' (by omega) (by simpa using h1)
theorem cmpTm_negN : ∀ (N : Nat) (a b : Tm), a.sz ≤ N → cmpTm b a = - cmpTm a b
  | 0, a, _, h => by have := a.sz_pos; omega
  | N + 1, a, b, h => by
    have hs := tm_sz a
    rw [cmpTm_eq a b, cmpTm_eq b a]
    refine or0_neg (compareInt_neg _ _) fun _ => or0_neg (compareInt_neg _ _) fun _ => or0_neg (compareBytes_neg _ _) fun _ => or0_neg (compareInt_neg _ _) fun h1 => ?_
    rw [compareInt_eq] at h1
    exact cmpTms_neg (cmpTm_negN N) _ _ (by omega) (by omega)
theorem cmpTm_neg (a b : Tm) : cmpTm b a = - cmpTm a b := cmpTm_negN a.sz a b (Nat.le_refl _)
theorem cmpTm_self (a : Tm) : cmpTm a a = 0 := by have := cmpTm_neg a a; omega
theorem cmpTms_bd {N : Nat} (IH : ∀ a b : Tm, a.sz ≤ N → -1 ≤ cmpTm a b ∧ cmpTm a b ≤ 1) : ∀ l l' : List Tm, szL l ≤ N → -1 ≤ cmpTms l l' ∧ cmpTms l l' ≤ 1
  | [], _, _ => by simp [cmpTms_nil]
  | _ :: _, [], _ => by rw [cmpTms]; omega
  | a :: l, b :: l', hs => by
    rw [szL_cons] at hs
    rw [cmpTms_cons]
    exact or0_bd (IH a b (by omega)) (cmpTms_bd IH l l' (by omega))
theorem cmpTm_bdN : ∀ (N : Nat) (a b : Tm), a.sz ≤ N → -1 ≤ cmpTm a b ∧ cmpTm a b ≤ 1
  | 0, a, _, h => by have := a.sz_pos; omega
  | N + 1, a, b, h => by
    have hs := tm_sz a
    rw [cmpTm_eq a b]
    exact or0_bd (compareInt_bd _ _) (or0_bd (compareInt_bd _ _) (or0_bd (compareBytes_bd _ _) (or0_bd (compareInt_bd _ _) (cmpTms_bd (cmpTm_bdN N) _ _ (by omega)))))
theorem cmpTm_bd (a b : Tm) : -1 ≤ cmpTm a b ∧ cmpTm a b ≤ 1 := cmpTm_bdN a.sz a b (Nat.le_refl _)
end Go.Emb
