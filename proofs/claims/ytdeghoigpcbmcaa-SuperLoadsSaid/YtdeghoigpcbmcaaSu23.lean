/- Super: what fits a block; reading, cutting, raw writes on a disk that is on. -/
import Derived.Test.YtdeghoigpcbmcaaSuOpen
namespace Go.Proofs.Ytdeghoigpcbmcaa
open Go.RowKit Go.Emb Go.Emb.Ext

theorem beF_small : ∀ (k j n : Nat), n < 256 ^ j → (beF k n).length ≤ j
  | 0, _, _, _ => by simp [beF]
  | k + 1, 0, n, h => by
    have : n = 0 := by simpa using h
    subst this
    simp [beF]
  | k + 1, j + 1, n, h => by
    unfold beF
    by_cases h0 : n = 0
    · rw [if_pos h0]; simp
    · rw [if_neg h0, List.length_append]
      have := beF_small k j (n / 256) (by rw [Nat.pow_succ] at h; omega)
      simpa using this
theorem numL_small {n j : Nat} (h : n < 256 ^ j) : (numL n 0).length ≤ j + 1 := by
  unfold numL
  have := beF_small 8 j n h
  unfold beL
  simpa using this
theorem flat_small {n : Nat} (hn : n ≤ 256) (l : List E) (h : ∀ e ∈ l, okE n e) : (l.flatMap extU).length ≤ l.length * 5 := by
  induction l with
  | nil => simp
  | cons x l ih =>
    have hx := h x (by simp)
    unfold okE at hx
    rw [List.flatMap_cons, List.length_append, List.length_cons, Nat.succ_mul]
    have h1 := numL_small (n := x.1.toNat) (j := 1) (by omega)
    have h2 := numL_small (n := x.2.toNat) (j := 1) (by omega)
    have h3 : (extU x).length ≤ 4 := by unfold extU; rw [List.length_append]; omega
    have := ih (fun e he => h e (by simp [he]))
    omega
theorem loadL_fits {n : Nat} (hn : n ≤ 256) {x : Sup} (h : okS n x) : (loadL x).length ≤ 50 := by
  obtain ⟨⟨-, h2, h3, h4, h5, h6⟩, h7, -⟩ := h
  have h1 := flat_small hn x.ps h7
  have g1 := numL_small (n := x.ps.length) (j := 1) (by omega)
  have g2 := numL_small (n := x.len.toNat) (j := 3) (by omega)
  have g3 := numL_small (n := x.ep.toNat) (j := 3) (by omega)
  unfold loadL
  simp only [List.length_append]
  omega
theorem bkN2 (ox : Nat → Option Sup) : bkN ox 2 = stepB (stepB zSup (ox 0)) (ox 1) := rfl
theorem stepB0 {x : Sup} (h : x.gen ≠ 0) : stepB zSup (some x) = x := if_pos (Nat.pos_of_ne_zero h)
/-- one slot alone holds something -/
theorem best_one {ox : Nat → Option Sup} {x : Sup} (hg : x.gen ≠ 0) (h1 : ox (x.gen % 2) = some x) (h2 : ox (1 - x.gen % 2) = none) : bkN ox 2 = x := by
  rw [bkN2]
  rcases Nat.mod_two_eq_zero_or_one x.gen with h | h <;> rw [h] at h1 h2 <;> simp only [Nat.sub_zero, Nat.sub_self] at h2
  · rw [h1, h2, stepB0 hg]; rfl
  · rw [h1, h2]; exact stepB0 hg
/-- both slots hold something: the one with the greater number -/
theorem best_two {ox : Nat → Option Sup} {x y : Sup} (hx : x.gen ≠ 0) (hy : y.gen ≠ 0) (hxy : x.gen < y.gen) (hm : x.gen % 2 ≠ y.gen % 2) (h1 : ox (x.gen % 2) = some x) (h2 : ox (y.gen % 2) = some y) : bkN ox 2 = y := by
  rw [bkN2]
  rcases Nat.mod_two_eq_zero_or_one x.gen with h | h
  · have h' : y.gen % 2 = 1 := by omega
    rw [h] at h1
    rw [h'] at h2
    rw [h1, h2, stepB0 hx]
    exact if_pos hxy
  · have h' : y.gen % 2 = 0 := by omega
    rw [h] at h1
    rw [h'] at h2
    rw [h1, h2, stepB0 hy]
    exact if_neg (by omega)
theorem updS_same (ox : Nat → Option Sup) (x : Sup) : updS ox x (x.gen % 2) = some x := if_pos rfl
theorem updS_other (ox : Nat → Option Sup) {x : Sup} {k : Nat} (h : k ≠ x.gen % 2) : updS ox x k = ox k := if_neg h
/-- what Read answers -/
theorem LD.read {w0 w : World} {q m n sz : Nat} {ox : Nat → Option Sup} (h : LD w0 w q m n sz ox) {k : Nat} (hk : k < n) :
    Calls Try.prog 15 #[.pointer (some ⟨q, 0, none⟩), .int .i64 k] w fun e w' => (∃ v o b, e = .returned (.tuple #[v, .int .i64 0]) ∧ RB w' v b o ∧ (∀ c, o = some c → w.heap.size ≤ c) ∧ b.length = sz ∧ (∀ x, k < 2 → ox k = some x → openS b = some ⟨83, x.gen, loadL x⟩ )) ∧ Keep [] w w' := by
  obtain ⟨⟨D, d, h1, ⟨rfl, rfl, e3, e4, e5⟩, h3⟩, h4⟩ := h
  refine (p_read h1 k).mono ?_
  rintro e w' ⟨(⟨g, -⟩ | ⟨-, g, -⟩ | ⟨-, -, v, o, rfl, hr, ho⟩), hk'⟩
  · exact absurd (show (0 : Int) ≤ k ∧ (k : Int) < d.n by omega) g
  · rw [e3] at g; cases g
  · rw [Int.toNat_natCast] at hr
    refine ⟨⟨v, o, _, rfl, hr, ho, blkOf_len h1.isok hk, fun x hk2 hx => ?_⟩, hk'⟩
    have := (e5 k hk2).1
    rw [hx] at this
    exact this
/-- a block is written that holds no super -/
theorem LD.raw {w0 w : World} {q m n sz : Nat} {ox : Nat → Option Sup} (h : LD w0 w q m n sz ox) (hn : 2 ≤ n) (hm : m ≤ 1000000) {k lb lo' lc : Nat} (hk : k < 2) {bv : Value} {p : List UInt8} {o : Option Nat} (hcell : w.cell? ⟨lb, lo', none⟩ = some bv) (hr : Rd w 1 bv p.length (Lib.byteCells p) o) (hp : p.length = sz) (hop : openS p = none) :
    Calls Try.prog 16 #[.pointer (some ⟨q, 0, none⟩), .int .i64 k, .slice (some ⟨lb, lo', none⟩) 1 lc] w fun e w' => e = .returned (.int .i64 0) ∧ LD w0 w' q (m + 1) n sz (fun j => if j = k then none else ox j) ∧ ∃ D, (∀ b ∈ D, w0.heap.size ≤ b) ∧ Keep D w w' ∧ ∃ d, DK w q m D d := by
  obtain ⟨⟨D, d, h1, ⟨rfl, rfl, e3, e4, e5⟩, h3⟩, h4⟩ := h
  have hok := h1.isok
  have hsz4 := hok.2.2.2.1
  have hwd : writeD d k p = (0, { d with left := if 0 < d.left then d.left - 1 else d.left, L := putB d k p }) := by
    unfold writeD
    rw [if_neg (by omega), if_neg (by omega), if_neg (by rw [e3]; simp), if_neg (by rw [e4]; decide), Int.toNat_natCast]
  refine (d_write h1 hm hcell hr (by omega) k).mono ?_
  rintro e w' ⟨D', rfl, hd', hD', hk'⟩
  rw [hwd] at hd' ⊢
  refine ⟨rfl, ⟨⟨D', _, hd', ⟨rfl, rfl, e3, ?_, fun j hj => ?_⟩, fun b hb => ?_⟩, h4.trans hk' (fun b hb => .inr (h3 b hb))⟩, D, h3, hk', d, h1⟩
  · show (if 0 < d.left then d.left - 1 else d.left) = -1
    rw [e4]; rfl
  · by_cases he : j = k
    · subst he
      show SlotIs _ _ (if j = j then none else ox j)
      rw [if_pos rfl]
      refine ⟨?_, fun x hx => by cases hx⟩
      rw [blk_put_same hok (by omega) hp, hop]
      rfl
    · show SlotIs _ _ (if j = k then none else ox j)
      rw [if_neg he]
      refine ⟨?_, (e5 j hj).2⟩
      rw [blk_put_other hok (by omega) (by omega) he (by omega)]
      exact (e5 j hj).1
  · rcases hD' b hb with h | h
    · exact h3 b h
    · exact Nat.le_trans h4.size h
end Go.Proofs.Ytdeghoigpcbmcaa
