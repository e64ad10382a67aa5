/- Numbers and texts on a tape of bytes, manifests: the plain law (lists alone). -/
import Derived.Test.YtdeghoigpcbmcaaBase
namespace Go.Proofs.Ytdeghoigpcbmcaa

/-- the value of bytes, the highest first -/
def valL (l : List UInt8) : Nat := l.foldl (fun a c => a * 256 + c.toNat) 0
theorem valL_snoc (l : List UInt8) (c : UInt8) : valL (l ++ [c]) = valL l * 256 + c.toNat := by simp [valL]
theorem valL_ltN : ∀ (n : Nat) (l : List UInt8), l.length = n → valL l < 256 ^ n
  | 0, l, h => by
    obtain rfl := List.length_eq_zero_iff.1 h
    simp [valL]
  | n + 1, l, h => by
    rcases List.eq_nil_or_concat l with rfl | ⟨l', c, rfl⟩
    · simp at h
    · rw [List.concat_eq_append] at h ⊢
      have := valL_ltN n l' (by simp at h; omega)
      have := c.toNat_lt
      rw [valL_snoc, Nat.pow_succ]
      omega
theorem valL_lt (l : List UInt8) : valL l < 256 ^ l.length := valL_ltN _ l rfl
/-- a number's bytes, at most k of them -/
def beF : Nat → Nat → List UInt8
  | 0, _ => []
  | k + 1, n => if n = 0 then [] else beF k (n / 256) ++ [UInt8.ofNat (n % 256)]
def beL (n : Nat) : List UInt8 := beF 8 n
theorem valL_beF : ∀ (k n : Nat), n < 256 ^ k → valL (beF k n) = n
  | 0, n, h => by simp at h; subst h; rfl
  | k + 1, n, h => by
    unfold beF
    by_cases h0 : n = 0
    · rw [if_pos h0, h0]; rfl
    · rw [if_neg h0, valL_snoc, valL_beF k (n / 256) (by rw [Nat.pow_succ] at h; omega), UInt8.toNat_ofNat']
      omega
theorem beF_length : ∀ (k n : Nat), (beF k n).length ≤ k
  | 0, _ => Nat.le_refl _
  | k + 1, n => by
    unfold beF
    split
    · simp
    · have := beF_length k (n / 256); simp; omega
theorem beF_head : ∀ (k n : Nat), n < 256 ^ k → (beF k n).head? ≠ some 0
  | 0, _, _ => by simp [beF]
  | k + 1, n, h => by
    unfold beF
    by_cases h0 : n = 0
    · rw [if_pos h0]; simp
    · rw [if_neg h0]
      have ih := beF_head k (n / 256) (by rw [Nat.pow_succ] at h; omega)
      cases hm : beF k (n / 256) with
      | cons a r => rw [hm] at ih; simpa using ih
      | nil =>
        have hv := valL_beF k (n / 256) (by rw [Nat.pow_succ] at h; omega)
        rw [hm] at hv
        have h1 : n / 256 = 0 := hv.symm
        simp only [List.nil_append, List.head?_cons, ne_eq, Option.some.injEq]
        intro he
        have := congrArg UInt8.toNat he
        rw [UInt8.toNat_ofNat'] at this
        simp at this
        omega
theorem beF_valL : ∀ (k : Nat) (l : List UInt8), l.length ≤ k → l.head? ≠ some 0 → beF k (valL l) = l := by
  intro k
  induction k with
  | zero => intro l h _; simp at h; subst h; rfl
  | succ k ih =>
    intro l h hh
    rcases List.eq_nil_or_concat l with rfl | ⟨l', c, rfl⟩
    · rfl
    · rw [List.concat_eq_append] at h hh ⊢
      have hv := valL_snoc l' c
      have hc := c.toNat_lt
      have hl' : l'.head? ≠ some 0 := by
        cases l' with
        | nil => simp
        | cons a r => simpa using hh
      have hne : valL (l' ++ [c]) ≠ 0 := by
        intro h0
        rw [hv] at h0
        have h1 : valL l' = 0 := by omega
        have h2 : l' = [] := by
          have := ih l' (by simp at h; omega) hl'
          rw [h1] at this
          rw [← this]
          cases k <;> rfl
        subst h2
        simp at hh
        apply hh
        apply UInt8.toNat.inj
        simp; omega
      unfold beF
      rw [if_neg hne, hv]
      have hd : (valL l' * 256 + c.toNat) / 256 = valL l' := by omega
      have hm : (valL l' * 256 + c.toNat) % 256 = c.toNat := by omega
      rw [hd, hm, ih l' (by simp at h; omega) hl', UInt8.ofNat_toNat]
theorem pow64 : (256 : Nat) ^ 8 = 18446744073709551616 := by decide
theorem valL_beL {n : Nat} (h : n < 18446744073709551616) : valL (beL n) = n := valL_beF 8 n (by rw [pow64]; exact h)
theorem beL_length (n : Nat) : (beL n).length ≤ 8 := beF_length 8 n
theorem beL_head {n : Nat} (h : n < 18446744073709551616) : (beL n).head? ≠ some 0 := beF_head 8 n (by rw [pow64]; exact h)
theorem beL_valL {l : List UInt8} (h : l.length ≤ 8) (hh : l.head? ≠ some 0) : beL (valL l) = l := beF_valL 8 l h hh
theorem valL_lt8 {l : List UInt8} (h : l.length ≤ 8) : valL l < 18446744073709551616 := by
  rw [← pow64]
  exact Nat.lt_of_lt_of_le (valL_lt l) (Nat.pow_le_pow_right (by omega) h)

/-- a number, with so much more in its first byte -/
def numL (n flag : Nat) : List UInt8 := UInt8.ofNat (flag + (beL n).length) :: beL n
def intL (n : Int) : List UInt8 := if n < 0 then numL (-(n + 1)).toNat 128 else numL n.toNat 0
def strL (s : List UInt8) : List UInt8 := numL s.length 0 ++ s
/-- a number is taken: its value, whether it was below nought, what is left -/
def pNum (more : Bool) : List UInt8 → Option (Nat × Bool × List UInt8)
  | [] => none
  | c :: r =>
    let is := more && decide (128 ≤ c.toNat)
    let k := if is then c.toNat - 128 else c.toNat
    if 8 < k ∨ r.length < k ∨ (r.take k).head? = some 0 then none else some (valL (r.take k), is, r.drop k)
def kOf (more : Bool) (c : UInt8) : Nat := if (more && decide (128 ≤ c.toNat)) = true then c.toNat - 128 else c.toNat
theorem pNum_cons (more : Bool) (c : UInt8) (r : List UInt8) : pNum more (c :: r) = if 8 < kOf more c ∨ r.length < kOf more c ∨ (r.take (kOf more c)).head? = some 0 then none else some (valL (r.take (kOf more c)), more && decide (128 ≤ c.toNat), r.drop (kOf more c)) := rfl
theorem pNum_num (more is : Bool) (n : Nat) (r : List UInt8) (h : n < 18446744073709551616) (hm : is = true → more = true) : pNum more (numL n (if is then 128 else 0) ++ r) = some (n, is, r) := by
  have hl := beL_length n
  have hc : (UInt8.ofNat ((if is then 128 else 0) + (beL n).length)).toNat = (if is then 128 else 0) + (beL n).length := by
    rw [UInt8.toNat_ofNat']; cases is <;> simp <;> omega
  have his : (more && decide (128 ≤ (if is then 128 else 0) + (beL n).length)) = is := by
    cases is with
    | true => simp [hm rfl]
    | false => simp; omega
  have hk : (if is = true then (if is = true then 128 else 0) + (beL n).length - 128 else (if is = true then 128 else 0) + (beL n).length) = (beL n).length := by cases is <;> simp
  unfold numL
  rw [List.cons_append, pNum]
  simp only [hc, his, hk]
  rw [if_neg (by simp only [List.length_append, List.take_left]; have := beL_head h; simp only [not_or]; refine ⟨by omega, by omega, this⟩)]
  simp only [List.take_left, List.drop_left, valL_beL h]
theorem pNum_inv {more is : Bool} {n : Nat} {l r : List UInt8} (h : pNum more l = some (n, is, r)) : l = numL n (if is then 128 else 0) ++ r ∧ n < 18446744073709551616 ∧ (is = true → more = true) := by
  cases l with
  | nil => simp [pNum] at h
  | cons c q =>
    rw [pNum_cons] at h
    by_cases hn : 8 < kOf more c ∨ q.length < kOf more c ∨ (q.take (kOf more c)).head? = some 0
    · rw [if_pos hn] at h; cases h
    · rw [if_neg hn] at h
      simp only [not_or, Nat.not_lt] at hn
      obtain ⟨h1, h2, h3⟩ := hn
      simp only [Option.some.injEq, Prod.mk.injEq] at h
      obtain ⟨rfl, rfl, rfl⟩ := h
      generalize hk : kOf more c = k at *
      unfold kOf at hk
      have hlen : (q.take k).length = k := by rw [List.length_take]; omega
      refine ⟨?_, valL_lt8 (by omega), ?_⟩
      · unfold numL
        rw [beL_valL (by omega) h3, hlen, List.cons_append, List.take_append_drop]
        congr 1
        refine (UInt8.ofNat_toNat (x := c)).symm.trans (congrArg UInt8.ofNat ?_)
        by_cases hb : (more && decide (128 ≤ c.toNat)) = true
        · have h128 : more = true ∧ 128 ≤ c.toNat := by simpa using hb
          rw [if_pos hb] at hk ⊢
          omega
        · rw [if_neg hb] at hk ⊢
          omega
      · intro hb
        simp at hb
        exact hb.1
theorem numL_length (n f : Nat) : (numL n f).length ≤ 9 ∧ 1 ≤ (numL n f).length := by
  have := beL_length n
  unfold numL; simp; omega

def pInt (l : List UInt8) : Option (Int × List UInt8) :=
  match pNum true l with
  | none => none
  | some (n, is, r) => if 9223372036854775808 ≤ n then none else some (if is then -1 - (n : Int) else n, r)
theorem pInt_int {n : Int} (r : List UInt8) (h0 : -9223372036854775808 ≤ n) (h1 : n ≤ 9223372036854775807) : pInt (intL n ++ r) = some (n, r) := by
  unfold pInt intL
  by_cases hn : n < 0
  · have := pNum_num true true (-(n + 1)).toNat r (by omega) (fun h => h)
    rw [if_pos rfl] at this
    rw [if_pos hn, this]
    dsimp only
    rw [if_neg (by omega), if_pos rfl]
    congr 2
    omega
  · have := pNum_num true false n.toNat r (by omega) (fun h => by cases h)
    rw [if_neg (by simp)] at this
    rw [if_neg hn, this]
    dsimp only
    rw [if_neg (by omega), if_neg (by simp)]
    congr 2
    omega
theorem pInt_inv {l r : List UInt8} {n : Int} (h : pInt l = some (n, r)) : l = intL n ++ r ∧ -9223372036854775808 ≤ n ∧ n ≤ 9223372036854775807 := by
  unfold pInt at h
  split at h
  · cases h
  · rename_i m is q hm
    obtain ⟨h1, h2, -⟩ := pNum_inv hm
    split at h
    · cases h
    · rename_i h3
      simp only [Option.some.injEq, Prod.mk.injEq] at h
      obtain ⟨h4, rfl⟩ := h
      cases is with
      | true =>
        simp at h4
        subst h4
        refine ⟨?_, by omega, by omega⟩
        unfold intL
        rw [if_pos (by omega), h1]
        congr 2
        omega
      | false =>
        simp at h4
        subst h4
        refine ⟨?_, by omega, by omega⟩
        unfold intL
        rw [if_neg (by omega), h1]
        simp
def pStr (l : List UInt8) : Option (List UInt8 × List UInt8) :=
  match pNum false l with
  | none => none
  | some (n, _, r) => if r.length < n then none else some (r.take n, r.drop n)
theorem pStr_str (s r : List UInt8) (h : s.length < 18446744073709551616) : pStr (strL s ++ r) = some (s, r) := by
  unfold pStr strL
  have := pNum_num false false s.length (s ++ r) h (fun h => h)
  rw [if_neg (by simp)] at this
  rw [List.append_assoc, this]
  dsimp only
  rw [if_neg (by simp), List.take_left, List.drop_left]
theorem pStr_inv {l s r : List UInt8} (h : pStr l = some (s, r)) : l = strL s ++ r := by
  unfold pStr at h
  split at h
  · cases h
  · rename_i n is q hm
    obtain ⟨h1, h2, h3⟩ := pNum_inv hm
    have : is = false := by cases is with | false => rfl | true => exact absurd (h3 rfl) (by simp)
    subst this
    split at h
    · cases h
    · rename_i h4
      simp only [Option.some.injEq, Prod.mk.injEq] at h
      obtain ⟨rfl, rfl⟩ := h
      unfold strL
      have hl : (q.take n).length = n := by rw [List.length_take]; omega
      rw [hl, List.append_assoc, List.take_append_drop, h1]
      simp

/-! ### manifests -/
structure Plc where
  pid : Int
  len : Int
  pieces : List (Int × Int)
structure Man where
  source : List UInt8
  area : Int × Int
  rest : List UInt8
  places : List Plc
def extL (x : Int × Int) : List UInt8 := intL x.1 ++ intL x.2
def plcL (p : Plc) : List UInt8 := intL p.pid ++ intL p.len ++ numL p.pieces.length 0 ++ p.pieces.flatMap extL
def manL (m : Man) : List UInt8 := strL m.source ++ extL m.area ++ strL m.rest ++ numL m.places.length 0 ++ m.places.flatMap plcL
def pExt (l : List UInt8) : Option ((Int × Int) × List UInt8) :=
  match pInt l with
  | none => none
  | some (a, r) => match pInt r with
    | none => none
    | some (b, q) => some ((a, b), q)
def pMany {α : Type} (p : List UInt8 → Option (α × List UInt8)) : Nat → List UInt8 → Option (List α × List UInt8)
  | 0, l => some ([], l)
  | n + 1, l => match p l with
    | none => none
    | some (x, r) => match pMany p n r with
      | none => none
      | some (xs, q) => some (x :: xs, q)
def pPlc (l : List UInt8) : Option (Plc × List UInt8) :=
  match pInt l with
  | none => none
  | some (a, r) => match pInt r with
    | none => none
    | some (b, q) => match pNum false q with
      | none => none
      | some (n, _, s) => match pMany pExt n s with
        | none => none
        | some (xs, t) => some (⟨a, b, xs⟩, t)
def pManR (l : List UInt8) : Option (Man × List UInt8) :=
  match pStr l with
  | none => none
  | some (s, l1) => match pExt l1 with
    | none => none
    | some (x, l2) => match pStr l2 with
      | none => none
      | some (t, l3) => match pNum false l3 with
        | none => none
        | some (n, _, l4) => match pMany pPlc n l4 with
          | none => none
          | some (ps, l5) => some (⟨s, x, t, ps⟩, l5)
def pMan (l : List UInt8) : Option Man :=
  match pManR l with
  | none => none
  | some (m, r) => if r = [] then some m else none
def I64 (n : Int) : Prop := -9223372036854775808 ≤ n ∧ n ≤ 9223372036854775807
def ExtOk (x : Int × Int) : Prop := I64 x.1 ∧ I64 x.2
def PlcOk (p : Plc) : Prop := I64 p.pid ∧ I64 p.len ∧ p.pieces.length < 18446744073709551616 ∧ ∀ x ∈ p.pieces, ExtOk x
def ManOk (m : Man) : Prop := m.source.length < 18446744073709551616 ∧ ExtOk m.area ∧ m.rest.length < 18446744073709551616 ∧ m.places.length < 18446744073709551616 ∧ ∀ p ∈ m.places, PlcOk p
theorem pExt_ext {x : Int × Int} (r : List UInt8) (h : ExtOk x) : pExt (extL x ++ r) = some (x, r) := by
  unfold pExt extL
  rw [List.append_assoc, pInt_int _ h.1.1 h.1.2]
  dsimp only
  rw [pInt_int _ h.2.1 h.2.2]
theorem pExt_inv {l r : List UInt8} {x : Int × Int} (h : pExt l = some (x, r)) : l = extL x ++ r ∧ ExtOk x := by
  unfold pExt at h
  split at h
  · cases h
  · rename_i a q hq
    split at h
    · cases h
    · rename_i b s hs
      cases h
      obtain ⟨h1, h2, h3⟩ := pInt_inv hq
      obtain ⟨h4, h5, h6⟩ := pInt_inv hs
      exact ⟨by rw [h1, h4]; simp [extL], ⟨h2, h3⟩, h5, h6⟩
theorem pMany_many {α : Type} {p : List UInt8 → Option (α × List UInt8)} {e : α → List UInt8} {Ok : α → Prop} (hp : ∀ x r, Ok x → p (e x ++ r) = some (x, r)) : ∀ (xs : List α) (r : List UInt8), (∀ x ∈ xs, Ok x) → pMany p xs.length (xs.flatMap e ++ r) = some (xs, r)
  | [], r, _ => rfl
  | x :: xs, r, h => by
    have ih := pMany_many hp xs r (fun y hy => h y (by simp [hy]))
    rw [List.length_cons, pMany, List.flatMap_cons, List.append_assoc, hp x _ (h x (by simp))]
    dsimp only
    rw [ih]
theorem pMany_inv {α : Type} {p : List UInt8 → Option (α × List UInt8)} {e : α → List UInt8} {Ok : α → Prop} (hp : ∀ l x r, p l = some (x, r) → l = e x ++ r ∧ Ok x) : ∀ (n : Nat) (l : List UInt8) (xs : List α) (r : List UInt8), pMany p n l = some (xs, r) → l = xs.flatMap e ++ r ∧ xs.length = n ∧ ∀ x ∈ xs, Ok x
  | 0, l, xs, r, h => by
    simp only [pMany, Option.some.injEq, Prod.mk.injEq] at h
    obtain ⟨rfl, rfl⟩ := h
    exact ⟨rfl, rfl, fun x hx => by simp at hx⟩
  | n + 1, l, xs, r, h => by
    rw [pMany] at h
    split at h
    · cases h
    · rename_i x q hq
      split at h
      · cases h
      · rename_i ys s hs
        cases h
        obtain ⟨h1, h2⟩ := hp _ _ _ hq
        obtain ⟨h3, h4, h5⟩ := pMany_inv hp n q ys r hs
        refine ⟨by rw [h1, h3]; simp, by simp [h4], fun y hy => ?_⟩
        rcases List.mem_cons.1 hy with rfl | hy
        · exact h2
        · exact h5 y hy
theorem pPlc_plc (p : Plc) (r : List UInt8) (h : PlcOk p) : pPlc (plcL p ++ r) = some (p, r) := by
  unfold pPlc plcL
  have hn := pNum_num false false p.pieces.length (p.pieces.flatMap extL ++ r) h.2.2.1 (fun h => h)
  rw [if_neg (by simp)] at hn
  simp only [List.append_assoc]
  rw [pInt_int _ h.1.1 h.1.2]
  dsimp only
  rw [pInt_int _ h.2.1.1 h.2.1.2]
  dsimp only
  rw [hn]
  dsimp only
  rw [pMany_many (fun x r hx => pExt_ext r hx) p.pieces r h.2.2.2]
theorem flag_false {more is : Bool} (h : is = true → more = true) (hm : more = false) : is = false := by
  cases is with
  | false => rfl
  | true => rw [h rfl] at hm; cases hm
theorem pPlc_inv (l : List UInt8) (p : Plc) (r : List UInt8) (h : pPlc l = some (p, r)) : l = plcL p ++ r ∧ PlcOk p := by
  unfold pPlc at h
  split at h
  · cases h
  rename_i a q hq
  split at h
  · cases h
  rename_i b q2 hq2
  split at h
  · cases h
  rename_i n is s hs
  split at h
  · cases h
  rename_i xs t ht
  cases h
  obtain ⟨h1, h2, h3⟩ := pInt_inv hq
  obtain ⟨h4, h5, h6⟩ := pInt_inv hq2
  obtain ⟨h7, h8, h9⟩ := pNum_inv hs
  obtain rfl := flag_false h9 rfl
  obtain ⟨h10, h11, h12⟩ := pMany_inv (fun l x r => pExt_inv) n s xs r ht
  refine ⟨?_, ⟨h2, h3⟩, ⟨h5, h6⟩, by simp only [h11]; exact h8, h12⟩
  rw [h1, h4, h7, h10]
  simp [plcL, h11]
theorem pStr_len {l s r : List UInt8} (h : pStr l = some (s, r)) : s.length < 18446744073709551616 := by
  unfold pStr at h
  split at h
  · cases h
  · rename_i n is q hm
    have h2 := (pNum_inv hm).2.1
    split at h
    · cases h
    · simp only [Option.some.injEq, Prod.mk.injEq] at h
      obtain ⟨rfl, rfl⟩ := h
      rw [List.length_take]; omega
theorem pManR_man (m : Man) (r : List UInt8) (h : ManOk m) : pManR (manL m ++ r) = some (m, r) := by
  obtain ⟨h1, h2, h3, h4, h5⟩ := h
  unfold pManR manL
  have hn := pNum_num false false m.places.length (m.places.flatMap plcL ++ r) h4 (fun h => h)
  rw [if_neg (by simp)] at hn
  simp only [List.append_assoc]
  rw [pStr_str _ _ h1]
  dsimp only
  rw [pExt_ext _ h2]
  dsimp only
  rw [pStr_str _ _ h3]
  dsimp only
  rw [hn]
  dsimp only
  rw [pMany_many pPlc_plc m.places r h5]
theorem pManR_inv {l r : List UInt8} {m : Man} (h : pManR l = some (m, r)) : l = manL m ++ r ∧ ManOk m := by
  unfold pManR at h
  split at h
  · cases h
  rename_i s l1 hs
  split at h
  · cases h
  rename_i x l2 hx
  split at h
  · cases h
  rename_i t l3 ht
  split at h
  · cases h
  rename_i n is l4 hn
  split at h
  · cases h
  rename_i ps l5 hp
  cases h
  have h1 := pStr_inv hs
  obtain ⟨h2, h3⟩ := pExt_inv hx
  have h4 := pStr_inv ht
  obtain ⟨h6, h7, h8⟩ := pNum_inv hn
  obtain rfl := flag_false h8 rfl
  obtain ⟨h9, h10, h11⟩ := pMany_inv pPlc_inv n l4 ps r hp
  refine ⟨?_, pStr_len hs, h3, pStr_len ht, by simp only [h10]; exact h7, h11⟩
  rw [h1, h2, h4, h6, h9]
  simp [manL, h10]
theorem pMan_man (m : Man) (h : ManOk m) : pMan (manL m) = some m := by
  have := pManR_man m [] h
  rw [List.append_nil] at this
  unfold pMan
  rw [this]
  rfl
theorem pMan_inv {l : List UInt8} {m : Man} (h : pMan l = some m) : l = manL m ∧ ManOk m := by
  unfold pMan at h
  split at h
  · cases h
  rename_i m' r hr
  split at h
  · rename_i h5
    subst h5
    cases h
    obtain ⟨h1, h2⟩ := pManR_inv hr
    exact ⟨by rw [h1, List.append_nil], h2⟩
  · cases h
/-- bytes that are longer are none; nor those that are cut off -/
theorem man_apart {m m' : Man} {x : List UInt8} (h : ManOk m) (h' : ManOk m') (e : manL m ++ x = manL m') : x = [] := by
  have h1 := pManR_man m x h
  have h2 := pManR_man m' [] h'
  rw [List.append_nil, ← e, h1] at h2
  simp only [Option.some.injEq, Prod.mk.injEq] at h2
  exact h2.2
theorem pMan_longer {m : Man} (h : ManOk m) (x : UInt8) : pMan (manL m ++ [x]) = none := by
  cases hp : pMan (manL m ++ [x]) with
  | none => rfl
  | some m' =>
    obtain ⟨h1, h2⟩ := pMan_inv hp
    have := man_apart h h2 h1
    simp at this
theorem pMan_cut {m : Man} (h : ManOk m) (k : Nat) (hk : k < (manL m).length) : pMan ((manL m).take k) = none := by
  cases hp : pMan ((manL m).take k) with
  | none => rfl
  | some m' =>
    obtain ⟨h1, h2⟩ := pMan_inv hp
    have := man_apart (x := (manL m).drop k) h2 h (by rw [← h1, List.take_append_drop])
    have hl := congrArg List.length this
    rw [List.length_drop, List.length_nil] at hl
    omega
end Go.Proofs.Ytdeghoigpcbmcaa
