/- Super: sums of bytes, numbers in bytes, sealed blocks (plain). -/
namespace Go.Emb
/-! ## sums of bytes (CRC-32C) -/
def crcStep (s : Nat) : Nat := (s / 2) ^^^ (2197175160 * (s % 2))
def crcByte (s : Nat) (c : UInt8) : Nat := Nat.repeat crcStep 8 (s ^^^ c.toNat)
def crcFrom (s : Nat) (l : List UInt8) : Nat := l.foldl crcByte s
/-- the sum of bytes -/
def crcL (l : List UInt8) : Nat := 4294967295 - crcFrom 4294967295 l
theorem xor_cancel_r {a b c : Nat} (h : a ^^^ c = b ^^^ c) : a = b := by
  have h1 := congrArg (· ^^^ c) h
  simpa [Nat.xor_assoc] using h1
theorem xor_cancel_l {a b c : Nat} (h : c ^^^ a = c ^^^ b) : a = b := xor_cancel_r (c := c) (by rw [Nat.xor_comm a c, Nat.xor_comm b c]; exact h)
theorem crcStep_lt {s : Nat} (h : s < 4294967296) : crcStep s < 4294967296 := by
  unfold crcStep
  have h1 : s / 2 < 2 ^ 32 := by omega
  have h2 : 2197175160 * (s % 2) < 2 ^ 32 := by have := Nat.mod_lt s (show 0 < 2 by decide); omega
  exact Nat.xor_lt_two_pow h1 h2
theorem crcStep_inj {s t : Nat} (hs : s < 4294967296) (ht : t < 4294967296) (h : crcStep s = crcStep t) : s = t := by
  have top : ∀ s, s < 4294967296 → (crcStep s).testBit 31 = decide (s % 2 = 1) := by
    intro s hs
    unfold crcStep
    rw [Nat.testBit_xor]
    have h1 : (s / 2).testBit 31 = false := Nat.testBit_lt_two_pow (by omega)
    rw [h1]
    rcases Nat.mod_two_eq_zero_or_one s with h | h <;> rw [h] <;> decide
  have e := congrArg (fun x => x.testBit 31) h
  simp only [top s hs, top t ht] at e
  have hm : s % 2 = t % 2 := by
    rcases Nat.mod_two_eq_zero_or_one s with h1 | h1 <;> rcases Nat.mod_two_eq_zero_or_one t with h2 | h2 <;> rw [h1, h2] at e ⊢ <;> simp at e
  unfold crcStep at h
  rw [hm] at h
  have h3 : s / 2 = t / 2 := xor_cancel_r h
  omega
theorem rep_lt (n : Nat) {s : Nat} (h : s < 4294967296) : Nat.repeat crcStep n s < 4294967296 := by
  induction n with
  | zero => exact h
  | succ n ih => exact crcStep_lt ih
theorem rep_inj (n : Nat) {s t : Nat} (hs : s < 4294967296) (ht : t < 4294967296) (h : Nat.repeat crcStep n s = Nat.repeat crcStep n t) : s = t := by
  induction n with
  | zero => exact h
  | succ n ih => exact ih (crcStep_inj (rep_lt n hs) (rep_lt n ht) h)
theorem xor_lt32 {s : Nat} (h : s < 4294967296) (c : UInt8) : s ^^^ c.toNat < 4294967296 := Nat.xor_lt_two_pow (n := 32) h (by have := c.toNat_lt; omega)
theorem crcByte_lt {s : Nat} (h : s < 4294967296) (c : UInt8) : crcByte s c < 4294967296 := rep_lt 8 (xor_lt32 h c)
theorem crcByte_inj {s t : Nat} (hs : s < 4294967296) (ht : t < 4294967296) (c : UInt8) (h : crcByte s c = crcByte t c) : s = t :=
  xor_cancel_r (rep_inj 8 (xor_lt32 hs c) (xor_lt32 ht c) h)
theorem crcByte_inj2 {s : Nat} (hs : s < 4294967296) {c d : UInt8} (h : crcByte s c = crcByte s d) : c = d :=
  UInt8.toNat.inj (xor_cancel_l (rep_inj 8 (xor_lt32 hs c) (xor_lt32 hs d) h))
theorem crcFrom_lt (l : List UInt8) : ∀ {s : Nat}, s < 4294967296 → crcFrom s l < 4294967296 := by
  induction l with
  | nil => intro s h; exact h
  | cons c l ih => intro s h; exact ih (crcByte_lt h c)
theorem crcFrom_inj (l : List UInt8) : ∀ {s t : Nat}, s < 4294967296 → t < 4294967296 → crcFrom s l = crcFrom t l → s = t := by
  induction l with
  | nil => intro s t _ _ h; exact h
  | cons c l ih => intro s t hs ht h; exact crcByte_inj hs ht c (ih (crcByte_lt hs c) (crcByte_lt ht c) h)
/-- lists that part in one byte have other sums -/
theorem crc_flip {a b : List UInt8} {c d : UInt8} (h : crcL (a ++ c :: b) = crcL (a ++ d :: b)) : c = d := by
  have h1 := crcFrom_lt (a ++ c :: b) (s := 4294967295) (by decide)
  have h2 := crcFrom_lt (a ++ d :: b) (s := 4294967295) (by decide)
  have h3 : crcFrom 4294967295 (a ++ c :: b) = crcFrom 4294967295 (a ++ d :: b) := by unfold crcL at h; omega
  unfold crcFrom at h3
  rw [List.foldl_append, List.foldl_append, List.foldl_cons, List.foldl_cons] at h3
  have ha := crcFrom_lt a (s := 4294967295) (by decide)
  exact crcByte_inj2 ha (crcFrom_inj b (crcByte_lt ha c) (crcByte_lt ha d) h3)
/-! ## numbers in bytes, the highest first -/
def hiL : Nat → Nat → List UInt8
  | 0, _ => []
  | k + 1, n => hiL k (n / 256) ++ [UInt8.ofNat n]
def hiN (l : List UInt8) : Nat := l.foldl (fun a c => a * 256 + c.toNat) 0
theorem hiL_len (k n : Nat) : (hiL k n).length = k := by
  induction k generalizing n with
  | zero => rfl
  | succ k ih => simp [hiL, ih]
theorem hiN_snoc (l : List UInt8) (c : UInt8) : hiN (l ++ [c]) = hiN l * 256 + c.toNat := by simp [hiN]
theorem hiN_hiL (k n : Nat) (h : n < 256 ^ k) : hiN (hiL k n) = n := by
  induction k generalizing n with
  | zero => simp at h; subst h; rfl
  | succ k ih =>
    simp only [hiL]
    rw [hiN_snoc, ih (n / 256) (by rw [Nat.pow_succ] at h; omega)]
    rw [UInt8.toNat_ofNat']
    omega
theorem hiN_lt (l : List UInt8) : hiN l < 256 ^ l.length := by
  suffices h : ∀ (l : List UInt8) (k : Nat), l.length = k → hiN l < 256 ^ k from h l _ rfl
  intro l k
  induction k generalizing l with
  | zero => intro h; have : l = [] := List.length_eq_zero_iff.1 h; subst this; simp [hiN]
  | succ k ih =>
    intro h
    obtain ⟨r, c, rfl⟩ : ∃ r c, l = r ++ [c] := ⟨l.dropLast, l.getLast (by intro e; rw [e] at h; simp at h), (List.dropLast_concat_getLast _).symm⟩
    have h1 := ih r (by simp at h; exact h)
    have h2 := c.toNat_lt
    rw [hiN_snoc, Nat.pow_succ]
    omega
/-! ## sealed blocks -/
structure Seal where
  kind : UInt8
  num : Nat
  load : List UInt8
def sealHead (size : Nat) (x : Seal) : List UInt8 := x.kind :: hiL 8 x.num ++ hiL 2 x.load.length ++ x.load ++ List.replicate (size - 15 - x.load.length) 0
def sealL (size : Nat) (x : Seal) : List UInt8 := sealHead size x ++ hiL 4 (crcL (sealHead size x))
def roomN (n : Nat) : Nat := if n < 64 ∨ 4096 < n then 0 else n - 15
/-- may be sealed -/
def SealOk (size : Nat) (x : Seal) : Prop := roomN size ≠ 0 ∧ x.kind ≠ 0 ∧ x.load.length ≤ roomN size ∧ x.num < 18446744073709551616
theorem sealHead_len {size : Nat} {x : Seal} (h : SealOk size x) : (sealHead size x).length = size - 4 := by
  obtain ⟨h1, -, h3, -⟩ := h
  unfold roomN at h1 h3
  split at h1
  · exact absurd rfl h1
  · rename_i hn
    rw [if_neg hn] at h3
    unfold sealHead
    simp only [List.cons_append, List.length_cons, List.length_append, hiL_len, List.length_replicate]
    omega
theorem sealL_len {size : Nat} {x : Seal} (h : SealOk size x) : (sealL size x).length = size := by
  have h1 := sealHead_len h
  obtain ⟨h2, -⟩ := h
  unfold roomN at h2
  unfold sealL
  rw [List.length_append, h1, hiL_len]
  split at h2
  · exact absurd rfl h2
  · omega
def sealKind (b : List UInt8) : UInt8 := b.headD 0
def sealNum (b : List UInt8) : Nat := hiN ((b.drop 1).take 8)
def sealLoad (b : List UInt8) : List UInt8 := (b.drop 11).take (hiN ((b.drop 9).take 2))
def sealOf (b : List UInt8) : Seal := ⟨sealKind b, sealNum b, sealLoad b⟩
/-- what a sealed block holds -/
noncomputable def openS (b : List UInt8) : Option Seal :=
  @ite _ (roomN b.length ≠ 0 ∧ hiN ((b.drop 9).take 2) ≤ roomN b.length ∧ sealKind b ≠ 0 ∧ sealL b.length (sealOf b) = b) (Classical.propDecidable _) (some (sealOf b)) none
theorem sealOf_sealL {size : Nat} {x : Seal} (h : SealOk size x) : sealOf (sealL size x) = x ∧ hiN (((sealL size x).drop 9).take 2) = x.load.length := by
  have hb : ∀ (A B C D : List UInt8) (k : UInt8), A.length = 8 → B.length = 2 → (((k :: A ++ B ++ C ++ D).drop 1).take 8 = A ∧ ((k :: A ++ B ++ C ++ D).drop 9).take 2 = B ∧ (k :: A ++ B ++ C ++ D).drop 11 = C ++ D) := by
    intro A B C D k hA hB
    match A, hA with
    | [a1, a2, a3, a4, a5, a6, a7, a8], _ =>
      match B, hB with
      | [b1, b2], _ => exact ⟨rfl, rfl, rfl⟩
  have hl : x.load.length < 65536 := by
    obtain ⟨h1, -, h3, -⟩ := h
    unfold roomN at h1 h3
    split at h1
    · exact absurd rfl h1
    · rename_i hn; rw [if_neg hn] at h3; omega
  obtain ⟨e1, e2, e3⟩ := hb (hiL 8 x.num) (hiL 2 x.load.length) x.load (List.replicate (size - 15 - x.load.length) 0 ++ hiL 4 (crcL (sealHead size x))) x.kind (hiL_len _ _) (hiL_len _ _)
  have e : sealL size x = x.kind :: hiL 8 x.num ++ hiL 2 x.load.length ++ x.load ++ (List.replicate (size - 15 - x.load.length) 0 ++ hiL 4 (crcL (sealHead size x))) := by
    conv => lhs; unfold sealL
    conv => lhs; arg 1; unfold sealHead
    simp only [List.append_assoc]
  have hn : hiN (hiL 2 x.load.length) = x.load.length := hiN_hiL 2 _ (by omega)
  refine ⟨?_, by rw [e, e2, hn]⟩
  unfold sealOf sealNum sealLoad sealKind
  rw [e, e1, e2, e3, hn]
  rw [hiN_hiL 8 _ (by have := h.2.2.2; omega)]
  cases x
  simp
theorem openS_sealL {size : Nat} {x : Seal} (h : SealOk size x) : openS (sealL size x) = some x := by
  obtain ⟨h1, h2⟩ := sealOf_sealL h
  unfold openS
  rw [h1, h2, sealL_len h]
  rw [if_pos ⟨h.1, h.2.2.1, by have := congrArg Seal.kind h1; simp only [sealOf] at this; rw [this]; exact h.2.1, rfl⟩]
/-- a block with one byte changed ahead of its sum is none -/
theorem openS_flip {size : Nat} {x : Seal} (h : SealOk size x) {i : Nat} (hi : i < size - 4) {c d : UInt8} (hc : (sealL size x)[i]? = some c) (hd : d ≠ c) : openS ((sealL size x).set i d) = none := by
  have hl := sealL_len h
  have hh := sealHead_len h
  unfold openS
  refine if_neg ?_
  rintro ⟨g1, g2, g3, g4⟩
  rw [List.length_set, hl] at g1 g2 g4
  obtain ⟨y, hy⟩ : ∃ y, y = sealOf ((sealL size x).set i d) := ⟨_, rfl⟩
  rw [← hy] at g4
  have hyl : y.load.length ≤ roomN size := by
    rw [hy]
    simp only [sealOf, sealLoad, List.length_take]
    omega
  have hyo : SealOk size y := ⟨g1, by rw [hy]; exact g3, hyl, by
    rw [hy]
    simp only [sealOf, sealNum]
    have := hiN_lt ((((sealL size x).set i d).drop 1).take 8)
    have h8 : ((((sealL size x).set i d).drop 1).take 8).length ≤ 8 := by rw [List.length_take]; omega
    have : 256 ^ ((((sealL size x).set i d).drop 1).take 8).length ≤ 256 ^ 8 := Nat.pow_le_pow_right (by decide) h8
    omega⟩
  have hyh := sealHead_len hyo
  unfold sealL at g4
  have hs : (sealHead size x ++ hiL 4 (crcL (sealHead size x))).set i d = (sealHead size x).set i d ++ hiL 4 (crcL (sealHead size x)) := by
    rw [List.set_append_left _ _ (by omega)]
  rw [hs] at g4
  have h1 := List.append_inj g4 (by rw [List.length_set, hh, hyh])
  have hcl : ∀ l : List UInt8, crcL l < 256 ^ 4 := fun l => by unfold crcL; omega
  have h2 : crcL (sealHead size y) = crcL (sealHead size x) := by
    have := congrArg hiN h1.2
    rwa [hiN_hiL 4 _ (hcl _), hiN_hiL 4 _ (hcl _)] at this
  rw [h1.1] at h2
  have hi' : i < (sealHead size x).length := by omega
  have hci : (sealHead size x)[i] = c := by
    unfold sealL at hc
    rw [List.getElem?_append_left hi', List.getElem?_eq_getElem hi'] at hc
    exact Option.some.inj hc
  have ha : sealHead size x = (sealHead size x).take i ++ c :: (sealHead size x).drop (i + 1) := by
    rw [← hci, ← List.drop_eq_getElem_cons hi', List.take_append_drop]
  have hb : (sealHead size x).set i d = (sealHead size x).take i ++ d :: (sealHead size x).drop (i + 1) := List.set_eq_take_append_cons_drop.trans (by rw [if_pos hi'])
  rw [hb] at h2
  conv at h2 => rhs; rw [ha]
  exact hd (crc_flip h2)
end Go.Emb
