/- Terms: their texts (plain). -/
import Derived.Test.YtiiklakfelbjfaaDoorTmP
namespace Go.Emb
open Go.RowKit

abbrev lettersL : List UInt8 := [97, 98, 99, 100, 101, 102, 103, 104, 105, 106, 107, 108, 109, 110, 111, 112, 113, 114, 115, 116, 117, 118, 119, 120, 121, 122, 65, 66, 67, 68, 69, 70, 71, 72, 73, 74, 75, 76, 77, 78, 79, 80, 81, 82, 83, 84, 85, 86, 87, 88, 89, 90, 48, 49, 50, 51, 52, 53, 54, 55, 56, 57, 95, 64]
/-- after, and, case, catch, div, end, fun, not, of, or, receive, rem, try, when -/
abbrev wordsL : List (List UInt8) := [[97, 102, 116, 101, 114], [97, 110, 100], [99, 97, 115, 101], [99, 97, 116, 99, 104], [100, 105, 118], [101, 110, 100], [102, 117, 110], [110, 111, 116], [111, 102], [111, 114], [114, 101, 99, 101, 105, 118, 101], [114, 101, 109], [116, 114, 121], [119, 104, 101, 110]]
def letterB (c : UInt8) : Bool := lettersL.contains c
def bareL (s : List UInt8) : Bool := s.all letterB && (match s with | [] => false | c :: _ => decide (97 ≤ c) && decide (c ≤ 122)) && !wordsL.contains s
abbrev hexL : List UInt8 := [48, 49, 50, 51, 52, 53, 54, 55, 56, 57, 97, 98, 99, 100, 101, 102]
/-- a byte of a name in quotes -/
def escL (c : UInt8) : List UInt8 :=
  if c = 39 ∨ c = 92 then [92, c] else if c < 32 ∨ 126 < c then [92, 120, hexL.getD (c.toNat / 16) 0, hexL.getD (c.toNat % 16) 0] else [c]
def quoteL (s : List UInt8) : List UInt8 := 39 :: (s.flatMap escL ++ [39])
def nameL (s : List UInt8) : List UInt8 := if bareL s then s else quoteL s
/-- a term that is no list, its items' texts in r -/
def flatL (k n : Int) (s : List UInt8) (r : List UInt8) : List UInt8 :=
  if k = 1 then Lib.itoa n
  else if k = 2 then nameL s
  else if k = 3 then 35 :: Lib.itoa n
  else if k = 5 then 60 :: (Lib.itoa n ++ [62])
  else if k = 4 then [102, 117, 110, 64] ++ Lib.itoa n ++ [40] ++ r ++ [41]
  else if k = 6 then 123 :: (r ++ [125])
  else []
mutual
def printTm : Tm → List UInt8
  | .mk k n s _ l => if k = 8 then 91 :: (restOf true l ++ [93]) else if k = 7 then [91, 93] else flatL k n s.data.toList (rowTms l)
/-- what a list's loop writes from a cons with these items on -/
def restOf : Bool → List Tm → List UInt8
  | b, [h, t] => (if b then [] else [44]) ++ printTm h ++ restTm false t
  | _, _ => []
def restTm : Bool → Tm → List UInt8
  | b, .mk k n s _ l => if k = 8 then restOf b l else if k = 7 then [] else 124 :: flatL k n s.data.toList (rowTms l)
def rowTms : List Tm → List UInt8
  | [] => []
  | [x] => printTm x
  | x :: y :: r => printTm x ++ 44 :: rowTms (y :: r)
end
theorem printTm_eq (t : Tm) : printTm t = if t.kind = 8 then 91 :: (restOf true t.items ++ [93]) else if t.kind = 7 then [91, 93] else flatL t.kind t.num t.name.data.toList (rowTms t.items) := by
  cases t; rw [printTm]; rfl
theorem restTm_eq (b : Bool) (t : Tm) : restTm b t = if t.kind = 8 then restOf b t.items else if t.kind = 7 then [] else 124 :: flatL t.kind t.num t.name.data.toList (rowTms t.items) := by
  cases t; rw [restTm]; rfl
theorem rowTms_snoc (l : List Tm) (x : Tm) : rowTms (l ++ [x]) = rowTms l ++ (if l = [] then [] else [44]) ++ printTm x := by
  induction l with
  | nil => simp [rowTms]
  | cons y l ih =>
    cases l with
    | nil => simp [rowTms]
    | cons z l =>
      simp only [List.cons_append, rowTms] at ih ⊢
      rw [ih]
      simp
theorem decDigits_le (n : Nat) : ∀ u, u < 10 ^ n → 0 < n → (Lib.decDigits u).length ≤ n := by
  induction n with
  | zero => intro u _ h; omega
  | succ n ih =>
    intro u hu _
    rw [Lib.decDigits]
    split
    · simp
    · rename_i h10
      rw [List.length_append, List.length_singleton]
      have hn : 0 < n := by
        rcases Nat.eq_zero_or_pos n with rfl | h
        · simp at hu; omega
        · exact h
      have := ih (u / 10) (by rw [Nat.pow_succ] at hu; omega) hn
      omega
theorem decDigits_pos (u : Nat) : 0 < (Lib.decDigits u).length := by
  rw [Lib.decDigits]
  split <;> simp
theorem itoa_le (n : Int) (h0 : -9223372036854775808 ≤ n) (h1 : n ≤ 9223372036854775807) : (Lib.itoa n).length ≤ 20 ∧ 0 < (Lib.itoa n).length := by
  unfold Lib.itoa
  split
  · have := decDigits_le 19 n.natAbs (by omega) (by omega)
    have := decDigits_pos n.natAbs
    simp; omega
  · have := decDigits_le 19 n.toNat (by omega) (by omega)
    have := decDigits_pos n.toNat
    omega
theorem escL_le (c : UInt8) : (escL c).length ≤ 4 := by unfold escL; split <;> (try split) <;> simp
theorem flatEscL_le (l : List UInt8) : (l.flatMap escL).length ≤ 4 * l.length := by
  induction l with
  | nil => simp
  | cons c l ih => rw [List.flatMap_cons, List.length_append, List.length_cons]; have := escL_le c; omega
theorem nameL_le (s : List UInt8) (h : s.length ≤ 255) : (nameL s).length ≤ 1022 := by
  unfold nameL quoteL
  split
  · omega
  · have := flatEscL_le s
    rw [List.length_cons, List.length_append, List.length_singleton]; omega
theorem isTm_split {t : Tm} (h : isTm t = true) : HeadOk t.kind t.num t.name t.items.length ∧ ∀ x ∈ t.items, isTm x = true := by
  cases t with
  | mk k n s v l =>
    simp only [isTm, Bool.and_eq_true, headOk, decide_eq_true_eq, isTms_iff, List.all_eq_true] at h
    exact h
theorem isTm_bd {t : Tm} (h : isTm t = true) : -9223372036854775808 ≤ t.num ∧ t.num ≤ 9223372036854775807 ∧ t.name.size ≤ 255 := by
  have h1 := (isTm_split h).1
  unfold HeadOk at h1
  simp only [toList_nil_iff] at h1
  omega
theorem flatL_le (k n : Int) (s : List UInt8) (r : List UInt8) (h0 : -9223372036854775808 ≤ n) (h1 : n ≤ 9223372036854775807) (hs : s.length ≤ 255) : (flatL k n s r).length ≤ 1100 + r.length := by
  have hi := (itoa_le n h0 h1).1
  have hn := nameL_le s hs
  unfold flatL
  split
  · omega
  split
  · omega
  split
  · rw [List.length_cons]; omega
  split
  · rw [List.length_cons, List.length_append]; simp; omega
  split
  · simp only [List.length_append, List.length_cons, List.length_nil]; omega
  split
  · rw [List.length_cons, List.length_append]; simp; omega
  · simp
theorem print_le : ∀ (N : Nat) (t : Tm), t.sz ≤ N → isTm t = true → (printTm t).length + 50 ≤ 1200 * t.sz ∧ ∀ b, (restTm b t).length + 49 ≤ 1200 * t.sz
  | 0, t, h, _ => by have := t.sz_pos; omega
  | N + 1, t, h, ht => by
    have hb := isTm_bd ht
    have hsp := (isTm_split ht).2
    have hsz : t.sz = szL t.items + 1 := by cases t; simp only [Tm.sz, Tm.items]
    have hrow : ∀ l : List Tm, (∀ x ∈ l, x ∈ t.items) → (rowTms l).length ≤ 1200 * szL l := by
      intro l
      induction l with
      | nil => intro _; simp [rowTms]
      | cons x l ih =>
        intro hl
        have hx := (print_le N x (by have := sz_mem_lt (hl x (by simp)); omega) (hsp x (hl x (by simp)))).1
        have hr := ih (fun y hy => hl y (by simp [hy]))
        rw [szL_cons]
        cases l with
        | nil => simp only [rowTms]; omega
        | cons y l => simp only [rowTms, List.length_append, List.length_cons] at hr ⊢; omega
    have hrow1 := hrow t.items (fun _ h => h)
    have hro : ∀ b, (restOf b t.items).length + 60 ≤ 1200 * t.sz := by
      intro b
      match hl : t.items with
      | [] => simp [restOf]; omega
      | [_] => simp [restOf]; omega
      | x :: y :: z :: r => simp [restOf]; omega
      | [x, y] =>
        have hx := (print_le N x (by have := sz_mem_lt (t := t) (x := x) (by simp [hl]); omega) (hsp x (by simp [hl]))).1
        have hy := (print_le N y (by have := sz_mem_lt (t := t) (x := y) (by simp [hl]); omega) (hsp y (by simp [hl]))).2 false
        rw [hl] at hsz
        simp only [szL_cons, szL_nil] at hsz
        simp only [restOf, List.length_append]
        cases b <;> simp <;> omega
    have hfl := flatL_le t.kind t.num t.name.data.toList (rowTms t.items) hb.1 hb.2.1 (by have := hb.2.2; simpa using this)
    refine ⟨?_, fun b => ?_⟩
    · rw [printTm_eq]
      split
      · have := hro true; simp; omega
      split
      · simp; omega
      · omega
    · rw [restTm_eq]
      split
      · have := hro b; omega
      split
      · simp; omega
      · simp; omega
theorem row_le (l : List Tm) (h : ∀ x ∈ l, isTm x = true) : (rowTms l).length ≤ 1200 * szL l := by
  induction l with
  | nil => simp [rowTms]
  | cons x l ih =>
    have hx := (print_le x.sz x (Nat.le_refl _) (h x (by simp))).1
    have hr := ih (fun y hy => h y (by simp [hy]))
    rw [szL_cons]
    cases l with
    | nil => simp only [rowTms]; omega
    | cons y l => simp only [rowTms, List.length_append, List.length_cons] at hr ⊢; omega
theorem print_ne {t : Tm} (h : isTm t = true) : printTm t ≠ [] := by
  have hb := isTm_bd h
  have h1 := (isTm_split h).1
  have hi := (itoa_le t.num hb.1 hb.2.1).2
  rw [printTm_eq]
  unfold HeadOk at h1
  intro he
  have hl := congrArg List.length he
  unfold flatL at hl
  rcases h1 with h1 | h1 | h1 | h1 | h1 | h1 | h1
  · rw [if_neg (by omega), if_neg (by omega), if_pos h1.1] at hl; simp at hl; simp [hl] at hi
  · rw [if_neg (by omega), if_neg (by omega), if_neg (by omega), if_pos h1.1] at hl
    unfold nameL quoteL at hl
    split at hl
    · have := h1.2.2.1
      rw [Go.ByteArray.toList_eq] at this
      exact this (List.eq_nil_of_length_eq_zero hl)
    · simp at hl
  · rcases h1.1 with h2 | h2
    · rw [if_neg (by omega), if_neg (by omega), if_neg (by omega), if_neg (by omega), if_pos h2] at hl; simp at hl
    · rw [if_neg (by omega), if_neg (by omega), if_neg (by omega), if_neg (by omega), if_neg (by omega), if_pos h2] at hl; simp at hl
  · rw [if_neg (by omega), if_neg (by omega), if_neg (by omega), if_neg (by omega), if_neg (by omega), if_neg (by omega), if_pos h1.1] at hl; simp at hl
  · rw [if_neg (by omega), if_neg (by omega), if_neg (by omega), if_neg (by omega), if_neg (by omega), if_neg (by omega), if_neg (by omega), if_pos h1.1] at hl; simp at hl
  · rw [if_neg (by omega), if_pos h1.1] at hl; simp at hl
  · rw [if_pos h1.1] at hl; simp at hl
end Go.Emb
