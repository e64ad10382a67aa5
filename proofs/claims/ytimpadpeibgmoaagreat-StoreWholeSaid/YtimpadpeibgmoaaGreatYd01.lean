/- A part of the proof (MnP, Base2, BaseApp, MnB), joined by squeeze2.py. -/
import Derived.Test.YtimpadpeibgmoaaGreatYd00
import Derived.Test.YtimpadpeibgmoaaGreatProg
import Derived.WalkKit
import Derived.Lib.BitFns
import Derived.Lib.ItoaNum
import Derived.Lib.AppendIntMem
import Derived.Laws.IdiomStrings
set_option maxHeartbeats 8000000
set_option maxRecDepth 100000
namespace Go.Proofs.YtimpadpeibgmoaaGreat
def valL (l : List UInt8) : Nat := l.foldl (fun a c => a * 256 + c.toNat) 0
theorem valL_snoc (l : List UInt8) (c : UInt8) : valL (l ++ [c]) = valL l * 256 + c.toNat := by simp [valL]
theorem valL_ltN : ∀ (n : Nat) (l : List UInt8), l.length = n → valL l < 256 ^ n
 | 0, l, h => by
  obtain rfl := List.length_eq_zero_iff.1 h
  simp [valL]
 | n + 1, l, h => by
  rcases List.eq_nil_or_concat l with rfl | ⟨l', c, rfl⟩
  ·simp at h
  ·rw [List.concat_eq_append] at h ⊢
   have := valL_ltN n l' (by simp at h; omega)
   have := c.toNat_lt
   rw [valL_snoc, Nat.pow_succ]
   omega
theorem valL_lt (l : List UInt8) : valL l < 256 ^ l.length := valL_ltN _ l rfl
def beF : Nat → Nat → List UInt8
 | 0, _ => []
 | k + 1, n => if n = 0 then [] else beF k (n / 256) ++ [UInt8.ofNat (n % 256)]
def beL (n : Nat) : List UInt8 := beF 8 n
theorem valL_beF : ∀ (k n : Nat), n < 256 ^ k → valL (beF k n) = n
 | 0, n, h => by simp at h; subst h; rfl
 | k + 1, n, h => by
  unfold beF
  by_cases h0 : n = 0
  ·rw [if_pos h0, h0]; rfl
  ·rw [if_neg h0, valL_snoc, valL_beF k (n / 256) (by rw [Nat.pow_succ] at h; omega), UInt8.toNat_ofNat']
   omega
theorem beF_length : ∀ (k n : Nat), (beF k n).length ≤ k
 | 0, _ => Nat.le_refl _
 | k + 1, n => by
  unfold beF
  split
  ·simp
  ·have := beF_length k (n / 256); simp; omega
theorem beF_head : ∀ (k n : Nat), n < 256 ^ k → (beF k n).head? ≠ some 0
 | 0, _, _ => by simp [beF]
 | k + 1, n, h => by
  unfold beF
  by_cases h0 : n = 0
  ·rw [if_pos h0]; simp
  ·rw [if_neg h0]
   have ih := beF_head k (n / 256) (by rw [Nat.pow_succ] at h; omega)
   cases hm : beF k (n / 256) with
   | cons a r => rw [hm] at ih; simpa using ih
   | nil =>
    have hv := valL_beF k (n / 256) (by rw [Nat.pow_succ] at h; omega)
    rw [hm] at hv
    have h1 : n / 256 = 0 := hv.symm
    simp only [List.nil_append, List.head?_cons, ne_eq, Option.some.injEq]
    intro he
    have := congrArg UInt8.toNat he
    rw [UInt8.toNat_ofNat'] at this
    simp at this
    omega
theorem beF_valL : ∀ (k : Nat) (l : List UInt8), l.length ≤ k → l.head? ≠ some 0 → beF k (valL l) = l := by
 intro k
 induction k with
 | zero => intro l h _; simp at h; subst h; rfl
 | succ k ih =>
  intro l h hh
  rcases List.eq_nil_or_concat l with rfl | ⟨l', c, rfl⟩
  ·rfl
  ·rw [List.concat_eq_append] at h hh ⊢
   have hv := valL_snoc l' c
   have hc := c.toNat_lt
   have hl' : l'.head? ≠ some 0 := by
    cases l' with
    | nil => simp
    | cons a r => simpa using hh
   have hne : valL (l' ++ [c]) ≠ 0 := by
    intro h0
    rw [hv] at h0
    have h1 : valL l' = 0 := by omega
    have h2 : l' = [] := by
     have := ih l' (by simp at h; omega) hl'
     rw [h1] at this
     rw [← this]
     cases k <;> rfl
    subst h2
    simp at hh
    apply hh
    apply UInt8.toNat.inj
    simp; omega
   unfold beF
   rw [if_neg hne, hv]
   have hd : (valL l' * 256 + c.toNat) / 256 = valL l' := by omega
   have hm : (valL l' * 256 + c.toNat) % 256 = c.toNat := by omega
   rw [hd, hm, ih l' (by simp at h; omega) hl', UInt8.ofNat_toNat]
theorem pow64 : (256 : Nat) ^ 8 = 18446744073709551616 := by decide
theorem valL_beL {n : Nat} (h : n < 18446744073709551616) : valL (beL n) = n := valL_beF 8 n (by rw [pow64]; exact h)
theorem beL_length (n : Nat) : (beL n).length ≤ 8 := beF_length 8 n
theorem beL_head {n : Nat} (h : n < 18446744073709551616) : (beL n).head? ≠ some 0 := beF_head 8 n (by rw [pow64]; exact h)
theorem beL_valL {l : List UInt8} (h : l.length ≤ 8) (hh : l.head? ≠ some 0) : beL (valL l) = l := beF_valL 8 l h hh
theorem valL_lt8 {l : List UInt8} (h : l.length ≤ 8) : valL l < 18446744073709551616 := by
 rw [← pow64]
 exact Nat.lt_of_lt_of_le (valL_lt l) (Nat.pow_le_pow_right (by omega) h)
def numL (n flag : Nat) : List UInt8 := UInt8.ofNat (flag + (beL n).length) :: beL n
def intL (n : Int) : List UInt8 := if n < 0 then numL (-(n + 1)).toNat 128 else numL n.toNat 0
def strL (s : List UInt8) : List UInt8 := numL s.length 0 ++ s
def pNum (more : Bool) : List UInt8 → Option (Nat × Bool × List UInt8)
 | [] => none
 | c :: r =>
  let is := more && decide (128 ≤ c.toNat)
  let k := if is then c.toNat - 128 else c.toNat
  if 8 < k ∨ r.length < k ∨ (r.take k).head? = some 0 then none else some (valL (r.take k), is, r.drop k)
def kOf (more : Bool) (c : UInt8) : Nat := if (more && decide (128 ≤ c.toNat)) = true then c.toNat - 128 else c.toNat
theorem pNum_cons (more : Bool) (c : UInt8) (r : List UInt8) : pNum more (c :: r) = if 8 < kOf more c ∨ r.length < kOf more c ∨ (r.take (kOf more c)).head? = some 0 then none else some (valL (r.take (kOf more c)), more && decide (128 ≤ c.toNat), r.drop (kOf more c)) := rfl
theorem pNum_num (more is : Bool) (n : Nat) (r : List UInt8) (h : n < 18446744073709551616) (hm : is = true → more = true) : pNum more (numL n (if is then 128 else 0) ++ r) = some (n, is, r) := by
 have hl := beL_length n
 have hc : (UInt8.ofNat ((if is then 128 else 0) + (beL n).length)).toNat = (if is then 128 else 0) + (beL n).length := by
  rw [UInt8.toNat_ofNat']; cases is <;> simp <;> omega
 have his : (more && decide (128 ≤ (if is then 128 else 0) + (beL n).length)) = is := by
  cases is with
  | true => simp [hm rfl]
  | false => simp; omega
 have hk : (if is = true then (if is = true then 128 else 0) + (beL n).length - 128 else (if is = true then 128 else 0) + (beL n).length) = (beL n).length := by cases is <;> simp
 unfold numL
 rw [List.cons_append, pNum]
 simp only [hc, his, hk]
 rw [if_neg (by simp only [List.length_append, List.take_left]; have := beL_head h; simp only [not_or]; refine ⟨by omega, by omega, this⟩)]
 simp only [List.take_left, List.drop_left, valL_beL h]
theorem pNum_inv {more is : Bool} {n : Nat} {l r : List UInt8} (h : pNum more l = some (n, is, r)) : l = numL n (if is then 128 else 0) ++ r ∧ n < 18446744073709551616 ∧ (is = true → more = true) := by
 cases l with
 | nil => simp [pNum] at h
 | cons c q =>
  rw [pNum_cons] at h
  by_cases hn : 8 < kOf more c ∨ q.length < kOf more c ∨ (q.take (kOf more c)).head? = some 0
  ·rw [if_pos hn] at h; cases h
  ·rw [if_neg hn] at h
   simp only [not_or, Nat.not_lt] at hn
   obtain ⟨h1, h2, h3⟩ := hn
   simp only [Option.some.injEq, Prod.mk.injEq] at h
   obtain ⟨rfl, rfl, rfl⟩ := h
   generalize hk : kOf more c = k at *
   unfold kOf at hk
   have hlen : (q.take k).length = k := by rw [List.length_take]; omega
   refine ⟨?_, valL_lt8 (by omega), ?_⟩
   ·unfold numL
    rw [beL_valL (by omega) h3, hlen, List.cons_append, List.take_append_drop]
    congr 1
    refine (UInt8.ofNat_toNat (x := c)).symm.trans (congrArg UInt8.ofNat ?_)
    by_cases hb : (more && decide (128 ≤ c.toNat)) = true
    ·have h128 : more = true ∧ 128 ≤ c.toNat := by simpa using hb
     rw [if_pos hb] at hk ⊢
     omega
    ·rw [if_neg hb] at hk ⊢
     omega
   ·intro hb
    simp at hb
    exact hb.1
theorem numL_length (n f : Nat) : (numL n f).length ≤ 9 ∧ 1 ≤ (numL n f).length := by
 have := beL_length n
 unfold numL; simp; omega
def pInt (l : List UInt8) : Option (Int × List UInt8) :=
 match pNum true l with
 | none => none
 | some (n, is, r) => if 9223372036854775808 ≤ n then none else some (if is then -1 - (n : Int) else n, r)
theorem pInt_int {n : Int} (r : List UInt8) (h0 : -9223372036854775808 ≤ n) (h1 : n ≤ 9223372036854775807) : pInt (intL n ++ r) = some (n, r) := by
 unfold pInt intL
 by_cases hn : n < 0
 ·have := pNum_num true true (-(n + 1)).toNat r (by omega) (fun h => h)
  rw [if_pos rfl] at this
  rw [if_pos hn, this]
  dsimp only
  rw [if_neg (by omega), if_pos rfl]
  congr 2
  omega
 ·have := pNum_num true false n.toNat r (by omega) (fun h => by cases h)
  rw [if_neg (by simp)] at this
  rw [if_neg hn, this]
  dsimp only
  rw [if_neg (by omega), if_neg (by simp)]
  congr 2
  omega
theorem pInt_inv {l r : List UInt8} {n : Int} (h : pInt l = some (n, r)) : l = intL n ++ r ∧ -9223372036854775808 ≤ n ∧ n ≤ 9223372036854775807 := by
 unfold pInt at h
 split at h
 ·cases h
 ·rename_i m is q hm
  obtain ⟨h1, h2, -⟩ := pNum_inv hm
  split at h
  ·cases h
  ·rename_i h3
   simp only [Option.some.injEq, Prod.mk.injEq] at h
   obtain ⟨h4, rfl⟩ := h
   cases is with
   | true =>
    simp at h4
    subst h4
    refine ⟨?_, by omega, by omega⟩
    unfold intL
    rw [if_pos (by omega), h1]
    congr 2
    omega
   | false =>
    simp at h4
    subst h4
    refine ⟨?_, by omega, by omega⟩
    unfold intL
    rw [if_neg (by omega), h1]
    simp
def pStr (l : List UInt8) : Option (List UInt8 × List UInt8) :=
 match pNum false l with
 | none => none
 | some (n, _, r) => if r.length < n then none else some (r.take n, r.drop n)
theorem pStr_str (s r : List UInt8) (h : s.length < 18446744073709551616) : pStr (strL s ++ r) = some (s, r) := by
 unfold pStr strL
 have := pNum_num false false s.length (s ++ r) h (fun h => h)
 rw [if_neg (by simp)] at this
 rw [List.append_assoc, this]
 dsimp only
 rw [if_neg (by simp), List.take_left, List.drop_left]
theorem pStr_inv {l s r : List UInt8} (h : pStr l = some (s, r)) : l = strL s ++ r := by
 unfold pStr at h
 split at h
 ·cases h
 ·rename_i n is q hm
  obtain ⟨h1, h2, h3⟩ := pNum_inv hm
  have : is = false := by cases is with | false => rfl | true => exact absurd (h3 rfl) (by simp)
  subst this
  split at h
  ·cases h
  ·rename_i h4
   simp only [Option.some.injEq, Prod.mk.injEq] at h
   obtain ⟨rfl, rfl⟩ := h
   unfold strL
   have hl : (q.take n).length = n := by rw [List.length_take]; omega
   rw [hl, List.append_assoc, List.take_append_drop, h1]
   simp
structure Plc where
 pid : Int
 len : Int
 pieces : List (Int × Int)
structure Man where
 source : List UInt8
 area : Int × Int
 rest : List UInt8
 places : List Plc
def extL (x : Int × Int) : List UInt8 := intL x.1 ++ intL x.2
def plcL (p : Plc) : List UInt8 := intL p.pid ++ intL p.len ++ numL p.pieces.length 0 ++ p.pieces.flatMap extL
def manL (m : Man) : List UInt8 := strL m.source ++ extL m.area ++ strL m.rest ++ numL m.places.length 0 ++ m.places.flatMap plcL
def pExt (l : List UInt8) : Option ((Int × Int) × List UInt8) :=
 match pInt l with
 | none => none
 | some (a, r) => match pInt r with
  | none => none
  | some (b, q) => some ((a, b), q)
def pMany {α : Type} (p : List UInt8 → Option (α × List UInt8)) : Nat → List UInt8 → Option (List α × List UInt8)
 | 0, l => some ([], l)
 | n + 1, l => match p l with
  | none => none
  | some (x, r) => match pMany p n r with
   | none => none
   | some (xs, q) => some (x :: xs, q)
def pPlc (l : List UInt8) : Option (Plc × List UInt8) :=
 match pInt l with
 | none => none
 | some (a, r) => match pInt r with
  | none => none
  | some (b, q) => match pNum false q with
   | none => none
   | some (n, _, s) => match pMany pExt n s with
    | none => none
    | some (xs, t) => some (⟨a, b, xs⟩, t)
def pManR (l : List UInt8) : Option (Man × List UInt8) :=
 match pStr l with
 | none => none
 | some (s, l1) => match pExt l1 with
  | none => none
  | some (x, l2) => match pStr l2 with
   | none => none
   | some (t, l3) => match pNum false l3 with
    | none => none
    | some (n, _, l4) => match pMany pPlc n l4 with
     | none => none
     | some (ps, l5) => some (⟨s, x, t, ps⟩, l5)
def pMan (l : List UInt8) : Option Man :=
 match pManR l with
 | none => none
 | some (m, r) => if r = [] then some m else none
def I64 (n : Int) : Prop := -9223372036854775808 ≤ n ∧ n ≤ 9223372036854775807
def ExtOk (x : Int × Int) : Prop := I64 x.1 ∧ I64 x.2
def PlcOk (p : Plc) : Prop := I64 p.pid ∧ I64 p.len ∧ p.pieces.length < 18446744073709551616 ∧ ∀ x ∈ p.pieces, ExtOk x
def ManOk (m : Man) : Prop := m.source.length < 18446744073709551616 ∧ ExtOk m.area ∧ m.rest.length < 18446744073709551616 ∧ m.places.length < 18446744073709551616 ∧ ∀ p ∈ m.places, PlcOk p
theorem pExt_ext {x : Int × Int} (r : List UInt8) (h : ExtOk x) : pExt (extL x ++ r) = some (x, r) := by
 unfold pExt extL
 rw [List.append_assoc, pInt_int _ h.1.1 h.1.2]
 dsimp only
 rw [pInt_int _ h.2.1 h.2.2]
theorem pExt_inv {l r : List UInt8} {x : Int × Int} (h : pExt l = some (x, r)) : l = extL x ++ r ∧ ExtOk x := by
 unfold pExt at h
 split at h
 ·cases h
 ·rename_i a q hq
  split at h
  ·cases h
  ·rename_i b s hs
   cases h
   obtain ⟨h1, h2, h3⟩ := pInt_inv hq
   obtain ⟨h4, h5, h6⟩ := pInt_inv hs
   exact ⟨by rw [h1, h4]; simp [extL], ⟨h2, h3⟩, h5, h6⟩
theorem pMany_many {α : Type} {p : List UInt8 → Option (α × List UInt8)} {e : α → List UInt8} {Ok : α → Prop} (hp : ∀ x r, Ok x → p (e x ++ r) = some (x, r)) : ∀ (xs : List α) (r : List UInt8), (∀ x ∈ xs, Ok x) → pMany p xs.length (xs.flatMap e ++ r) = some (xs, r)
 | [], r, _ => rfl
 | x :: xs, r, h => by
  have ih := pMany_many hp xs r (fun y hy => h y (by simp [hy]))
  rw [List.length_cons, pMany, List.flatMap_cons, List.append_assoc, hp x _ (h x (by simp))]
  dsimp only
  rw [ih]
theorem pMany_inv {α : Type} {p : List UInt8 → Option (α × List UInt8)} {e : α → List UInt8} {Ok : α → Prop} (hp : ∀ l x r, p l = some (x, r) → l = e x ++ r ∧ Ok x) : ∀ (n : Nat) (l : List UInt8) (xs : List α) (r : List UInt8), pMany p n l = some (xs, r) → l = xs.flatMap e ++ r ∧ xs.length = n ∧ ∀ x ∈ xs, Ok x
 | 0, l, xs, r, h => by
  simp only [pMany, Option.some.injEq, Prod.mk.injEq] at h
  obtain ⟨rfl, rfl⟩ := h
  exact ⟨rfl, rfl, fun x hx => by simp at hx⟩
 | n + 1, l, xs, r, h => by
  rw [pMany] at h
  split at h
  ·cases h
  ·rename_i x q hq
   split at h
   ·cases h
   ·rename_i ys s hs
    cases h
    obtain ⟨h1, h2⟩ := hp _ _ _ hq
    obtain ⟨h3, h4, h5⟩ := pMany_inv hp n q ys r hs
    refine ⟨by rw [h1, h3]; simp, by simp [h4], fun y hy => ?_⟩
    rcases List.mem_cons.1 hy with rfl | hy
    ·exact h2
    ·exact h5 y hy
theorem pPlc_plc (p : Plc) (r : List UInt8) (h : PlcOk p) : pPlc (plcL p ++ r) = some (p, r) := by
 unfold pPlc plcL
 have hn := pNum_num false false p.pieces.length (p.pieces.flatMap extL ++ r) h.2.2.1 (fun h => h)
 rw [if_neg (by simp)] at hn
 simp only [List.append_assoc]
 rw [pInt_int _ h.1.1 h.1.2]
 dsimp only
 rw [pInt_int _ h.2.1.1 h.2.1.2]
 dsimp only
 rw [hn]
 dsimp only
 rw [pMany_many (fun x r hx => pExt_ext r hx) p.pieces r h.2.2.2]
theorem flag_false {more is : Bool} (h : is = true → more = true) (hm : more = false) : is = false := by
 cases is with
 | false => rfl
 | true => rw [h rfl] at hm; cases hm
theorem pPlc_inv (l : List UInt8) (p : Plc) (r : List UInt8) (h : pPlc l = some (p, r)) : l = plcL p ++ r ∧ PlcOk p := by
 unfold pPlc at h
 split at h
 ·cases h
 rename_i a q hq
 split at h
 ·cases h
 rename_i b q2 hq2
 split at h
 ·cases h
 rename_i n is s hs
 split at h
 ·cases h
 rename_i xs t ht
 cases h
 obtain ⟨h1, h2, h3⟩ := pInt_inv hq
 obtain ⟨h4, h5, h6⟩ := pInt_inv hq2
 obtain ⟨h7, h8, h9⟩ := pNum_inv hs
 obtain rfl := flag_false h9 rfl
 obtain ⟨h10, h11, h12⟩ := pMany_inv (fun l x r => pExt_inv) n s xs r ht
 refine ⟨?_, ⟨h2, h3⟩, ⟨h5, h6⟩, by simp only [h11]; exact h8, h12⟩
 rw [h1, h4, h7, h10]
 simp [plcL, h11]
theorem pStr_len {l s r : List UInt8} (h : pStr l = some (s, r)) : s.length < 18446744073709551616 := by
 unfold pStr at h
 split at h
 ·cases h
 ·rename_i n is q hm
  have h2 := (pNum_inv hm).2.1
  split at h
  ·cases h
  ·simp only [Option.some.injEq, Prod.mk.injEq] at h
   obtain ⟨rfl, rfl⟩ := h
   rw [List.length_take]; omega
theorem pManR_man (m : Man) (r : List UInt8) (h : ManOk m) : pManR (manL m ++ r) = some (m, r) := by
 obtain ⟨h1, h2, h3, h4, h5⟩ := h
 unfold pManR manL
 have hn := pNum_num false false m.places.length (m.places.flatMap plcL ++ r) h4 (fun h => h)
 rw [if_neg (by simp)] at hn
 simp only [List.append_assoc]
 rw [pStr_str _ _ h1]
 dsimp only
 rw [pExt_ext _ h2]
 dsimp only
 rw [pStr_str _ _ h3]
 dsimp only
 rw [hn]
 dsimp only
 rw [pMany_many pPlc_plc m.places r h5]
theorem pManR_inv {l r : List UInt8} {m : Man} (h : pManR l = some (m, r)) : l = manL m ++ r ∧ ManOk m := by
 unfold pManR at h
 split at h
 ·cases h
 rename_i s l1 hs
 split at h
 ·cases h
 rename_i x l2 hx
 split at h
 ·cases h
 rename_i t l3 ht
 split at h
 ·cases h
 rename_i n is l4 hn
 split at h
 ·cases h
 rename_i ps l5 hp
 cases h
 have h1 := pStr_inv hs
 obtain ⟨h2, h3⟩ := pExt_inv hx
 have h4 := pStr_inv ht
 obtain ⟨h6, h7, h8⟩ := pNum_inv hn
 obtain rfl := flag_false h8 rfl
 obtain ⟨h9, h10, h11⟩ := pMany_inv pPlc_inv n l4 ps r hp
 refine ⟨?_, pStr_len hs, h3, pStr_len ht, by simp only [h10]; exact h7, h11⟩
 rw [h1, h2, h4, h6, h9]
 simp [manL, h10]
theorem pMan_man (m : Man) (h : ManOk m) : pMan (manL m) = some m := by
 have := pManR_man m [] h
 rw [List.append_nil] at this
 unfold pMan
 rw [this]
 rfl
theorem pMan_inv {l : List UInt8} {m : Man} (h : pMan l = some m) : l = manL m ∧ ManOk m := by
 unfold pMan at h
 split at h
 ·cases h
 rename_i m' r hr
 split at h
 ·rename_i h5
  subst h5
  cases h
  obtain ⟨h1, h2⟩ := pManR_inv hr
  exact ⟨by rw [h1, List.append_nil], h2⟩
 ·cases h
end Go.Proofs.YtimpadpeibgmoaaGreat

namespace Go.Emb
open Go.RowKit
theorem cells3 {w : World} {q : Nat} {x y z : Value} {t : TypeId} (h : w.heap[q]? = some (.cells #[x, y, z] t (0, 0))) :
  w.cell? ⟨q, 0, none⟩ = some x ∧ w.cell? ⟨q, 1, none⟩ = some y ∧ w.cell? ⟨q, 2, none⟩ = some z ∧ w.frozen? ⟨q, 0, none⟩ = false := by
 refine ⟨?_, ?_, ?_, ?_⟩ <;> simp [World.cell?, World.frozen?, h]
theorem heap_setCell_at {w : World} {b i : Nat} {cs : Array Value} {t : TypeId} {f : Nat × Nat} (h : w.heap[b]? = some (.cells cs t f)) (u : Value) : (w.setCell ⟨b, i, none⟩ u).heap[b]? = some (.cells (cs.setIfInBounds i u) t f) := by
 have hlt := (Array.getElem?_eq_some_iff.1 h).1
 simp [World.setCell, Array.getElem?_modify, h]
def sliceOff (off cap lo k : Nat) : Nat := if cap = lo then off else off + lo * k
theorem Row.drop {w : World} {E k b off n cap : Nat} {xs : List Value} (h : Row w E k (.slice (some ⟨b, off, none⟩) n cap) n xs (some b)) (lo : Nat) (hlo : lo ≤ n) :
  Row w E k (.slice (some ⟨b, sliceOff off cap lo k, none⟩) (n - lo) (cap - lo)) (n - lo) (xs.drop (lo * k)) (some b) := by
 obtain ⟨hl, h⟩ := h
 rcases h with ⟨h, _⟩ | ⟨b', off', cap', cs, e1, e2, hb, h1, h2, h3, h5⟩
 ·cases h
 cases e1
 cases e2
 have hk1 : lo * k ≤ n * k := Nat.mul_le_mul_right _ hlo
 have hk2 : n * k ≤ cap * k := Nat.mul_le_mul_right _ h1
 refine ⟨by rw [List.length_drop, hl, Nat.sub_mul], .inr ⟨b, _, cap - lo, cs, rfl, rfl, hb, by omega, by omega, ?_, ?_⟩⟩
 ·unfold sliceOff
  rw [Nat.sub_mul]
  split <;> omega
 ·intro i hi
  rw [Nat.sub_mul] at hi
  unfold sliceOff
  by_cases hc : cap = lo
  ·obtain rfl : lo = n := by omega
   omega
  ·rw [if_neg hc, List.getElem?_drop, Nat.add_assoc]
   exact h5 (lo * k + i) (by omega)
section
variable {P : Program} (w : World)
theorem run_slice_lo {T E : TypeId} {k : Nat} (ht : P.underlying T = some (.slice E)) (hk : ∀ w, (sizeOf E).run P w = .ok k w) (b off n cap lo : Nat) (h : lo ≤ n) :
  (Instr.slice T (.slice (some ⟨b, off, none⟩) n cap) (some (.int .i64 (lo : Int))) none none).run P w = .ok (.slice (some ⟨b, sliceOff off cap lo k, none⟩) (n - lo) (cap - lo)) w := by
 have h1 : (0 : Int) ≤ (lo : Int) := by omega
 have h2 : (lo : Int) ≤ (n : Int) := by omega
 have hb := run_sliceBound (P := P) w .i64 (lo : Int) n .sliceB h1 h2
 unfold Instr.slice Instr.sliceBounds sliceOff
 simp [run_underlying ht, hb, hk, Result.andThen]
 by_cases hc : cap = lo
 ·simp [hc]
 ·simp [hc, Addr.add]
end
open Go.RowKit
theorem run_append_rd {P : Program} {w : World} {T tx ty E e' : TypeId} {i : TypeInfo} {z : Value} {k bytes : Nat} (ht : P.underlying T = some (.slice E)) (htx : P.underlying tx = some (.slice e')) (hi : P.info? E = some i) (hz : i.zero = some z) (hik : i.size = k) (hib : i.bytes = bytes)
  (hzs : z.cells.size = k) {b off n cap : Nat} {xs : List Value} (h : Row w E k (.slice (some ⟨b, off, none⟩) n cap) n xs (some b)) {x : Value} {m : Nat} {news : List Value} {ox : Option Nat} (hx : Rd w k x m news ox) (h1 : ∀ u ∈ news, u.oneCell' = true)
  (h63 : n + m ≤ maxLen) (hbytes : (n + m) * bytes ≤ 140737488355328) :
  ∃ g off' cap' w', (Builtin.append_ #[T, tx] ty #[.slice (some ⟨b, off, none⟩) n cap, x]).run P w = .ok (.slice (some ⟨g, off', none⟩) (n + m) cap') w' ∧ Row w' E k (.slice (some ⟨g, off', none⟩) (n + m) cap') (n + m) (xs ++ news) (some g) ∧ Keep [b] w w' ∧ (b = g ∨ w.heap.size ≤ g) := by
 by_cases hm : m = 0
 ·subst hm
  have hn : news = [] := List.eq_nil_of_length_eq_zero (by simpa using hx.1)
  subst hn
  refine ⟨b, off, cap, w, ?_, by simpa using h, Keep.refl _ _, .inl rfl⟩
  obtain ⟨_, a, c, rfl, _⟩ := hx
  obtain ⟨_, h⟩ := h
  rcases h with ⟨h, _⟩ | ⟨b', off', cap', cs, e1, e2, hb, hc1, hc2, _⟩
  ·cases h
  cases e1; cases e2
  cases a with
  | none => simp [Builtin.append_, run_underlying ht, run_underlying htx, sizeOf, typeInfo, hi, Builtin.lenOf, Builtin.firstCells, hc1, storeCells]
  | some a => simp [Builtin.append_, run_underlying ht, run_underlying htx, sizeOf, typeInfo, hi, Builtin.lenOf, Builtin.firstCells, loadCells, loadCellsFrom, hc1, storeCells]
 ·obtain ⟨g, off', cap', w', r1, r2, r3, r4⟩ := run_append_row (P := P) (w := w) (ty := ty) ht hi hz hik hib hzs h (hx.src htx (by omega) h1) (by omega) h63 hbytes
  exact ⟨g, off', cap', w', r1, r2, r3, r4.imp (fun h => by cases h; rfl) id⟩
section
variable {P : Program} (w : World)
theorem wpList_append_rd {ops : Array Oper} {rest : List Oper} {o : Oper} {a : Act} {Q : Exit → Act → World → Prop} (hgd : o.guard = none) (s x : Operand) (T tx : TypeId) (ho : o.op = .call { callee := .builtin .append, args := #[s, x], argTypes := #[T, tx] })
  (E e' : TypeId) (i : TypeInfo) (z : Value) (k bytes : Nat) (ht : P.underlying T = some (.slice E)) (htx : P.underlying tx = some (.slice e')) (hi : P.info? E = some i) (hz : i.zero = some z) (hik : i.size = k) (hib : i.bytes = bytes) (hzs : z.cells.size = k)
  (b off n cap : Nat) (xs : List Value) (hs : a.eval s = .slice (some ⟨b, off, none⟩) n cap) (hown : Row w E k (.slice (some ⟨b, off, none⟩) n cap) n xs (some b)) (xv : Value) (hx : a.eval x = xv) (m : Nat) (news : List Value) (ox : Option Nat) (hrd : Rd w k xv m news ox) (h1 : ∀ u ∈ news, u.oneCell' = true) (h63 : n + m ≤ maxLen) (hbytes : (n + m) * bytes ≤ 140737488355328)
  (h : ∀ g off' cap' w', Row w' E k (.slice (some ⟨g, off', none⟩) (n + m) cap') (n + m) (xs ++ news) (some g) → Keep [b] w w' → (b = g ∨ w.heap.size ≤ g) → wpList P ops Q rest (a.put o.dst (.slice (some ⟨g, off', none⟩) (n + m) cap')) w') : wpList P ops Q (o :: rest) a w := by
 refine wpList_plain hgd fun K' hK' => ?_
 obtain ⟨g, off', cap', w', hr, h2, h3, h4⟩ := run_append_rd (P := P) (w := w) (ty := o.type) ht htx hi hz hik hib hzs hown hrd h1 h63 hbytes
 unfold Oper.wp execOp
 simp only [ho, resolve, invoke, builtin, Sem.run_bind, Sem.run_pure, Result.andThen_ok, List.map_toArray, List.map_cons, List.map_nil, hs, hx, hr]
 exact hK' _ _ (h g off' cap' w' h2 h3 h4)
end
theorem Row.made0 (w : World) (E k : Nat) : Row (w.alloc (.cells #[] E)) E k (.slice (some ⟨w.heap.size, 0, none⟩) 0 0) 0 [] (some w.heap.size) :=
 ⟨by simp, .inr ⟨w.heap.size, 0, 0, #[], rfl, rfl, heap_alloc_new w _, Nat.le_refl _, by simp, by simp, by simp⟩⟩
end Go.Emb

namespace Go.Proofs.YtimpadpeibgmoaaGreat
open Go.RowKit Go.Emb
theorem valL_div : ∀ (m : Nat) (l : List UInt8), l.length = m → ∀ i (h : i < l.length), valL l / 256 ^ (l.length - 1 - i) % 256 = l[i].toNat := by
 intro m
 induction m with
 | zero => intro l hm i h; omega
 | succ m ih =>
  intro l hm i h
  rcases List.eq_nil_or_concat l with rfl | ⟨l', c, rfl⟩
  ·simp at hm
  ·simp only [List.concat_eq_append] at hm h ⊢
   have hc := c.toNat_lt
   simp only [List.length_append, List.length_singleton] at hm h
   by_cases hi : i = l'.length
   ·subst hi
    have e : (l' ++ [c])[l'.length]'(by simp) = c := by simp
    rw [e, valL_snoc, List.length_append, List.length_singleton, show l'.length + 1 - 1 - l'.length = 0 from by omega, Nat.pow_zero, Nat.div_one]
    omega
   ·have hi2 : i < l'.length := by omega
    have e : (l' ++ [c])[i]'(by simp; omega) = l'[i] := List.getElem_append_left hi2
    rw [e, ← ih l' (by omega) i hi2, valL_snoc, List.length_append, List.length_singleton, show l'.length + 1 - 1 - i = (l'.length - 1 - i) + 1 from by omega, Nat.pow_succ, Nat.mul_comm (256 ^ _) 256, ← Nat.div_div_eq_div_mul]
    congr 2
    omega
theorem beL_get {n : Nat} (hn : n < 18446744073709551616) (i : Nat) (h : i < (beL n).length) : (beL n)[i] = UInt8.ofNat (n / 256 ^ ((beL n).length - 1 - i)) := by
 have := valL_div _ (beL n) rfl i h
 rw [valL_beL hn] at this
 apply UInt8.toNat.inj
 rw [UInt8.toNat_ofNat', ← this]
theorem bitLen_pos {n : Nat} (h : n ≠ 0) (hn : n < 18446744073709551616) : 1 ≤ Lib.bitLen n := (Lib.bitLenAux_bounds 64 n (by simpa using hn) h).1
theorem bitLen_bytes : ∀ (k n : Nat), k ≤ 8 → n < 256 ^ k → (Lib.bitLen n + 7) / 8 = (beF k n).length
 | 0, n, _, h => by
  obtain rfl : n = 0 := by simpa using h
  rfl
 | k + 1, n, hk, h => by
  have hn : n < 18446744073709551616 := by
   rw [← pow64]
   exact Nat.lt_of_lt_of_le h (Nat.pow_le_pow_right (by omega) hk)
  unfold beF
  by_cases h0 : n = 0
  ·subst h0; rfl
  ·rw [if_neg h0, List.length_append, List.length_singleton, ← bitLen_bytes k (n / 256) (by omega) (by rw [Nat.pow_succ] at h; omega)]
   by_cases h1 : n < 256
   ·have h2 := bitLen_pos h0 hn
    have h3 := Lib.bitLen_le n 8 (by omega) h1
    have h4 : n / 256 = 0 := by omega
    rw [h4, show Lib.bitLen 0 = 0 from rfl]
    omega
   ·rw [Lib.bitLen_shift8 n (by omega) hn]
    omega
theorem bitLen_beL {n : Nat} (hn : n < 18446744073709551616) : (Lib.bitLen n + 7) / 8 = (beL n).length := bitLen_bytes 8 n (Nat.le_refl _) (by rw [pow64]; exact hn)
def RB (w : World) (v : Value) (bs : List UInt8) (o : Option Nat) : Prop := Row w 5 1 v bs.length (Lib.byteCells bs) o
def GrewP (o : Option Nat) (w : World) (bs : List UInt8) (e : Ending) (w' : World) : Prop := ∃ v' o', e = .returned v' ∧ RB w' v' bs o' ∧ Keep o.toList w w' ∧ (o' = o ∨ ∀ b, o' = some b → w.heap.size ≤ b)
theorem byte_info : (Tryz.prog.info? 5).map (fun i => (i.zero, i.size, i.bytes)) = some (some (.int .u8 0), 1, 1) := by kernel_rfl
theorem keep_cellF {F : List Nat} {w w' : World} (h : Keep F w w') {p : Addr} {v : Value} (hc : w.cell? p = some v) (hn : p.block ∉ F) : w'.cell? p = some v := by
 rw [h.cell (World.block_lt_of_cell? _ _ hc) hn]; exact hc
theorem RB.nil (w : World) : RB w (.slice none 0 0) [] none := Row.nil _ _ _
theorem RB.form {w : World} {v : Value} {bs : List UInt8} {o : Option Nat} (h : RB w v bs o) : ∃ a c, v = .slice a bs.length c ∧ bs.length ≤ c ∧ c ≤ maxLen := by
 obtain ⟨-, ⟨-, rfl, h0⟩ | ⟨b, off, cap, cs, rfl, rfl, h1, h2, h3, -⟩⟩ := h
 ·exact ⟨none, 0, by rw [h0], by omega, by simp [maxLen]⟩
 ·exact ⟨_, _, rfl, h2, h3⟩
theorem RB.keep {w w' : World} {v : Value} {bs : List UInt8} {o : Option Nat} {F : List Nat} (h : RB w v bs o) (hk : Keep F w w') (hF : ∀ b, o = some b → b ∉ F) : RB w' v bs o := Row.keep h hk hF
theorem RB.lt {w : World} {v : Value} {bs : List UInt8} {o : Option Nat} (h : RB w v bs o) : ∀ b, o = some b → b < w.heap.size := Row.lt h
theorem byteCells_append (a b : List UInt8) : Lib.byteCells a ++ Lib.byteCells b = Lib.byteCells (a ++ b) := by simp [Lib.byteCells]
theorem RB.next {w0 w w2 : World} {bs news : List UInt8} {m : Nat} {cs : List Value} {o o0 : Option Nat} {g off cap : Nat} (hm : news.length = m) (hcs : Lib.byteCells news = cs) (hk0 : Keep o0.toList w0 w) (ho : o = o0 ∨ ∀ b, o = some b → w0.heap.size ≤ b)
  (hr : Row w2 5 1 (.slice (some ⟨g, off, none⟩) (bs.length + m) cap) (bs.length + m) (Lib.byteCells bs ++ cs) (some g)) (hk : Keep o.toList w w2) (hg : o = some g ∨ w.heap.size ≤ g) :
  RB w2 (.slice (some ⟨g, off, none⟩) (bs.length + m) cap) (bs ++ news) (some g) ∧ Keep o0.toList w0 w2 ∧ (some g = o0 ∨ ∀ b, some g = some b → w0.heap.size ≤ b) := by
 subst hm hcs
 refine ⟨by unfold RB; rw [List.length_append, ← byteCells_append]; exact hr, hk0.trans hk (fun x hx => ?_), ?_⟩
 ·rcases ho with rfl | h
  ·exact .inl hx
  ·right
   cases o with
   | none => cases hx
   | some y => simp at hx; subst hx; exact h x rfl
 ·rcases hg with h | h
  ·subst h
   rcases ho with h | h
   ·exact .inl h
   ·exact .inr h
  ·right
   intro b hb
   cases hb
   exact Nat.le_trans hk0.size h
theorem GrewP.trans {o o1 : Option Nat} {w w1 w2 : World} {bs : List UInt8} {e : Ending} (hk : Keep o.toList w w1) (ho : o1 = o ∨ ∀ b, o1 = some b → w.heap.size ≤ b) (h : GrewP o1 w1 bs e w2) : GrewP o w bs e w2 := by
 obtain ⟨v', o', h1, h2, h3, h4⟩ := h
 refine ⟨v', o', h1, h2, hk.trans h3 (fun x hx => ?_), ?_⟩
 ·rcases ho with rfl | h
  ·exact .inl hx
  ·right
   cases o1 with
   | none => cases hx
   | some y => simp at hx; subst hx; exact h x rfl
 ·rcases h4 with rfl | h4
  ·exact ho
  ·right
   intro b hb
   exact Nat.le_trans hk.size (h4 b hb)
end Go.Proofs.YtimpadpeibgmoaaGreat
