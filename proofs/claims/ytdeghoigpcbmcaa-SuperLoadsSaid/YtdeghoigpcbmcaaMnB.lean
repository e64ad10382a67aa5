/- Rows of bytes that grow: the laws that every writer of bytes uses; the numbers' bytes one by one. -/
import Derived.Test.YtdeghoigpcbmcaaMnP
import Derived.Test.YtdeghoigpcbmcaaBaseApp
import Derived.Test.YtdeghoigpcbmcaaProg
import Derived.WalkKit
import Derived.Lib.BitFns
import Derived.Lib.ItoaNum
import Derived.Lib.AppendIntMem
import Derived.Laws.IdiomStrings
namespace Go.Proofs.Ytdeghoigpcbmcaa
open Go.RowKit Go.Emb

/-! ### the bytes of a number, one by one -/
theorem valL_div : ∀ (m : Nat) (l : List UInt8), l.length = m → ∀ i (h : i < l.length), valL l / 256 ^ (l.length - 1 - i) % 256 = l[i].toNat := by
  intro m
  induction m with
  | zero => intro l hm i h; omega
  | succ m ih =>
    intro l hm i h
    rcases List.eq_nil_or_concat l with rfl | ⟨l', c, rfl⟩
    · simp at hm
    · simp only [List.concat_eq_append] at hm h ⊢
      have hc := c.toNat_lt
      simp only [List.length_append, List.length_singleton] at hm h
      by_cases hi : i = l'.length
      · subst hi
        have e : (l' ++ [c])[l'.length]'(by simp) = c := by simp
        rw [e, valL_snoc, List.length_append, List.length_singleton, show l'.length + 1 - 1 - l'.length = 0 from by omega, Nat.pow_zero, Nat.div_one]
        omega
      · have hi2 : i < l'.length := by omega
        have e : (l' ++ [c])[i]'(by simp; omega) = l'[i] := List.getElem_append_left hi2
        rw [e, ← ih l' (by omega) i hi2, valL_snoc, List.length_append, List.length_singleton, show l'.length + 1 - 1 - i = (l'.length - 1 - i) + 1 from by omega, Nat.pow_succ, Nat.mul_comm (256 ^ _) 256, ← Nat.div_div_eq_div_mul]
        congr 2
        omega
theorem beL_get {n : Nat} (hn : n < 18446744073709551616) (i : Nat) (h : i < (beL n).length) : (beL n)[i] = UInt8.ofNat (n / 256 ^ ((beL n).length - 1 - i)) := by
  have := valL_div _ (beL n) rfl i h
  rw [valL_beL hn] at this
  apply UInt8.toNat.inj
  rw [UInt8.toNat_ofNat', ← this]
theorem bitLen_pos {n : Nat} (h : n ≠ 0) (hn : n < 18446744073709551616) : 1 ≤ Lib.bitLen n := (Lib.bitLenAux_bounds 64 n (by simpa using hn) h).1
theorem bitLen_bytes : ∀ (k n : Nat), k ≤ 8 → n < 256 ^ k → (Lib.bitLen n + 7) / 8 = (beF k n).length
  | 0, n, _, h => by
    obtain rfl : n = 0 := by simpa using h
    rfl
  | k + 1, n, hk, h => by
    have hn : n < 18446744073709551616 := by
      rw [← pow64]
      exact Nat.lt_of_lt_of_le h (Nat.pow_le_pow_right (by omega) hk)
    unfold beF
    by_cases h0 : n = 0
    · subst h0; rfl
    · rw [if_neg h0, List.length_append, List.length_singleton, ← bitLen_bytes k (n / 256) (by omega) (by rw [Nat.pow_succ] at h; omega)]
      by_cases h1 : n < 256
      · have h2 := bitLen_pos h0 hn
        have h3 := Lib.bitLen_le n 8 (by omega) h1
        have h4 : n / 256 = 0 := by omega
        rw [h4, show Lib.bitLen 0 = 0 from rfl]
        omega
      · rw [Lib.bitLen_shift8 n (by omega) hn]
        omega
theorem bitLen_beL {n : Nat} (hn : n < 18446744073709551616) : (Lib.bitLen n + 7) / 8 = (beL n).length := bitLen_bytes 8 n (Nat.le_refl _) (by rw [pow64]; exact hn)
theorem beL_div (n : Nat) (h0 : n ≠ 0) (hn : n < 18446744073709551616) : (beL n).length = (beL (n / 256)).length + 1 := by
  have h1 : (beF 8 n).length = (beF 7 (n / 256)).length + 1 := by
    rw [beF, if_neg h0]; simp
  have h2 := bitLen_bytes 7 (n / 256) (by omega) (by have := pow64; rw [Nat.pow_succ] at this; omega)
  have h3 := bitLen_bytes 8 (n / 256) (Nat.le_refl _) (by rw [pow64]; omega)
  show (beF 8 n).length = (beF 8 (n / 256)).length + 1
  omega

/-! ### a row of bytes that is owned -/
def RB (w : World) (v : Value) (bs : List UInt8) (o : Option Nat) : Prop := Row w 5 1 v bs.length (Lib.byteCells bs) o
/-- a call's answer: a row that has grown in place, or lies anew -/
def GrewP (o : Option Nat) (w : World) (bs : List UInt8) (e : Ending) (w' : World) : Prop := ∃ v' o', e = .returned v' ∧ RB w' v' bs o' ∧ Keep o.toList w w' ∧ (o' = o ∨ ∀ b, o' = some b → w.heap.size ≤ b)
theorem byte_info : (Try.prog.info? 5).map (fun i => (i.zero, i.size, i.bytes)) = some (some (.int .u8 0), 1, 1) := by kernel_rfl
theorem keep_cellF {F : List Nat} {w w' : World} (h : Keep F w w') {p : Addr} {v : Value} (hc : w.cell? p = some v) (hn : p.block ∉ F) : w'.cell? p = some v := by
  rw [h.cell (World.block_lt_of_cell? _ _ hc) hn]; exact hc
theorem RB.nil (w : World) : RB w (.slice none 0 0) [] none := Row.nil _ _ _
theorem RB.form {w : World} {v : Value} {bs : List UInt8} {o : Option Nat} (h : RB w v bs o) : ∃ a c, v = .slice a bs.length c ∧ bs.length ≤ c ∧ c ≤ maxLen := by
  obtain ⟨-, ⟨-, rfl, h0⟩ | ⟨b, off, cap, cs, rfl, rfl, h1, h2, h3, -⟩⟩ := h
  · exact ⟨none, 0, by rw [h0], by omega, by simp [maxLen]⟩
  · exact ⟨_, _, rfl, h2, h3⟩
theorem RB.keep {w w' : World} {v : Value} {bs : List UInt8} {o : Option Nat} {F : List Nat} (h : RB w v bs o) (hk : Keep F w w') (hF : ∀ b, o = some b → b ∉ F) : RB w' v bs o := Row.keep h hk hF
theorem RB.lt {w : World} {v : Value} {bs : List UInt8} {o : Option Nat} (h : RB w v bs o) : ∀ b, o = some b → b < w.heap.size := Row.lt h
theorem byteCells_append (a b : List UInt8) : Lib.byteCells a ++ Lib.byteCells b = Lib.byteCells (a ++ b) := by simp [Lib.byteCells]
/-- what an append of bytes leaves; o0: the block of the row at the call's begin (world w0) -/
theorem RB.next {w0 w w2 : World} {bs news : List UInt8} {m : Nat} {cs : List Value} {o o0 : Option Nat} {g off cap : Nat} (hm : news.length = m) (hcs : Lib.byteCells news = cs) (hk0 : Keep o0.toList w0 w) (ho : o = o0 ∨ ∀ b, o = some b → w0.heap.size ≤ b)
    (hr : Row w2 5 1 (.slice (some ⟨g, off, none⟩) (bs.length + m) cap) (bs.length + m) (Lib.byteCells bs ++ cs) (some g)) (hk : Keep o.toList w w2) (hg : o = some g ∨ w.heap.size ≤ g) :
    RB w2 (.slice (some ⟨g, off, none⟩) (bs.length + m) cap) (bs ++ news) (some g) ∧ Keep o0.toList w0 w2 ∧ (some g = o0 ∨ ∀ b, some g = some b → w0.heap.size ≤ b) := by
  subst hm hcs
  refine ⟨by unfold RB; rw [List.length_append, ← byteCells_append]; exact hr, hk0.trans hk (fun x hx => ?_), ?_⟩
  · rcases ho with rfl | h
    · exact .inl hx
    · right
      cases o with
      | none => cases hx
      | some y => simp at hx; subst hx; exact h x rfl
  · rcases hg with h | h
    · subst h
      rcases ho with h | h
      · exact .inl h
      · exact .inr h
    · right
      intro b hb
      cases hb
      exact Nat.le_trans hk0.size h
theorem GrewP.trans {o o1 : Option Nat} {w w1 w2 : World} {bs : List UInt8} {e : Ending} (hk : Keep o.toList w w1) (ho : o1 = o ∨ ∀ b, o1 = some b → w.heap.size ≤ b) (h : GrewP o1 w1 bs e w2) : GrewP o w bs e w2 := by
  obtain ⟨v', o', h1, h2, h3, h4⟩ := h
  refine ⟨v', o', h1, h2, hk.trans h3 (fun x hx => ?_), ?_⟩
  · rcases ho with rfl | h
    · exact .inl hx
    · right
      cases o1 with
      | none => cases hx
      | some y => simp at hx; subst hx; exact h x rfl
  · rcases h4 with rfl | h4
    · exact ho
    · right
      intro b hb
      exact Nat.le_trans hk.size (h4 b hb)
end Go.Proofs.Ytdeghoigpcbmcaa
