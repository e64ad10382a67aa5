/- Super: a disk whose power may go off: cut, write, restore. -/
import Derived.Test.YtdeghoigpcbmcaaSuBetter
namespace Go.Proofs.Ytdeghoigpcbmcaa
open Go.RowKit Go.Emb Go.Emb.Ext

/-- such a disk, on or off -/
structure LDo (w0 w : World) (q m n sz : Nat) (ox : Nat → Option Sup) : Prop where
  ex : ∃ D d, DK w q m D d ∧ d.n = n ∧ d.sz = sz ∧ (∀ k, k < 2 → SlotIs d k (ox k)) ∧ ∀ b ∈ D, w0.heap.size ≤ b
  keep : Keep [] w0 w
/-- what is not the disk's stays -/
def Turn (w0 w w' : World) (q : Nat) : Prop := ∃ D m d, DK w q m D d ∧ (∀ b ∈ D, w0.heap.size ≤ b) ∧ Keep D w w'
theorem Turn.blk {w0 w w' : World} {q : Nat} (h : Turn w0 w w' q) {b : Nat} {cs : Array Value} (hb : w.heap[b]? = some (.cells cs 25 (0, 0))) : w'.heap[b]? = some (.cells cs 25 (0, 0)) := by
  obtain ⟨D, m, d, h1, h2, h3⟩ := h
  exact blkk hb h3 (h1.notin hb (by decide) (by decide) (by decide))
theorem Turn.row {w0 w w' : World} {q : Nat} (h : Turn w0 w w' q) {v : Value} {l : List E} {o : Option Nat} (hr : RowE w v l o) : RowE w' v l o := by
  obtain ⟨D, m, d, h1, h2, h3⟩ := h
  refine hr.keep h3 (fun b hb => ?_)
  subst hb
  obtain ⟨cs, hcs⟩ := row_blk (show Row _ _ _ _ _ _ (some b) from hr)
  exact h1.notin hcs (by decide) (by decide) (by decide)
theorem LD.o {w0 w : World} {q m n sz : Nat} {ox : Nat → Option Sup} (h : LD w0 w q m n sz ox) : LDo w0 w q m n sz ox := by
  obtain ⟨⟨D, d, h1, ⟨e1, e2, e3, e4, e5⟩, h3⟩, h4⟩ := h
  exact ⟨⟨D, d, h1, e1, e2, e5, h3⟩, h4⟩
theorem LDo.keep0 {w0 w w' : World} {q m n sz : Nat} {ox : Nat → Option Sup} (h : LDo w0 w q m n sz ox) (hk : Keep [] w w') : LDo w0 w' q m n sz ox := by
  obtain ⟨⟨D, d, h1, e1, e2, h2, h3⟩, h4⟩ := h
  exact ⟨⟨D, d, h1.keep0 hk, e1, e2, h2, h3⟩, h4.trans hk (by simp)⟩
theorem LDo.cut {w0 w : World} {q m n sz : Nat} {ox : Nat → Option Sup} (h : LDo w0 w q m n sz ox) (a : Int) (ha : a ≤ 9223372036854775807) :
    Calls Try.prog 17 #[.pointer (some ⟨q, 0, none⟩), .int .i64 a] w fun e w' => e = .returned (.tuple #[]) ∧ LDo w0 w' q m n sz ox ∧ Turn w0 w w' q := by
  obtain ⟨⟨D, d, h1, e1, e2, h2, h3⟩, h4⟩ := h
  refine (d_cut h1 a ha).mono ?_
  rintro e w' ⟨rfl, hd, hk⟩
  refine ⟨rfl, ⟨⟨D, _, hd, ?_, ?_, fun k hk => ?_, h3⟩, h4.trans hk (fun b hb => .inr (h3 b hb))⟩, D, m, d, h1, h3, hk⟩
  · unfold cutD; split <;> exact e1
  · unfold cutD; split <;> exact e2
  · have := h2 k hk
    unfold cutD
    split <;> exact this
theorem LDo.rest {w0 w : World} {q m n sz : Nat} {ox : Nat → Option Sup} (h : LDo w0 w q m n sz ox) :
    Calls Try.prog 18 #[.pointer (some ⟨q, 0, none⟩)] w fun e w' => e = .returned (.tuple #[]) ∧ LD w0 w' q m n sz ox ∧ Turn w0 w w' q := by
  obtain ⟨⟨D, d, h1, e1, e2, h2, h3⟩, h4⟩ := h
  refine (d_rest h1).mono ?_
  rintro e w' ⟨D', rfl, hd, hD, hk⟩
  exact ⟨rfl, ⟨⟨D', _, hd, ⟨e1, e2, rfl, rfl, h2⟩, fun b hb => by
    rcases hD b hb with h | h
    · exact h3 b h
    · exact Nat.le_trans h4.size h⟩, h4.trans hk (fun b hb => .inr (h3 b hb))⟩, D, m, d, h1, h3, hk⟩
/-- a write answers: it is there, or nothing was changed -/
def PutO (w0 w : World) (q m n sz : Nat) (ox : Nat → Option Sup) (x : Sup) (e : Ending) (w' : World) : Prop :=
  ∃ (c : Int) (ox' : Nat → Option Sup), e = .returned (.int .i64 c) ∧ LDo w0 w' q (m + 1) n sz ox' ∧ (c = 0 ∧ okS n x ∧ ox' = updS ox x ∨ (c = 2 ∨ c = 20) ∧ ox' = ox) ∧ Turn w0 w w' q
theorem LDo.put {w0 w : World} {q m n sz : Nat} {ox : Nat → Option Sup} (h : LDo w0 w q m n sz ox) (hn : 2 ≤ n) (hn2 : n ≤ 256) (hsz : 65 ≤ sz) (hm : m ≤ 1000000) {x : Sup} {pv : Value} {o : Option Nat} (hr : RdE w pv x.ps o) (ho : ∀ b, o = some b → b < w.heap.size) (hps : x.ps.length ≤ 1000000) (hg : x.gen < 18446744073709551616) :
    Calls Try.prog 11 #[.pointer (some ⟨q, 0, none⟩), aggS x pv] w (PutO w0 w q m n sz ox x) := by
  obtain ⟨⟨D, d, h1, rfl, rfl, e5, h3⟩, h4⟩ := h
  have hok := h1.isok
  refine (s_write h1 hm hr ho hps hg).mono ?_
  rintro e w' ⟨D', rfl, hd', hD', hk⟩
  have hT : Turn w0 w w' q := ⟨D, m, d, h1, h3, hk⟩
  have hfr : ∀ b ∈ D', w0.heap.size ≤ b := fun b hb => by
    rcases hD' b hb with h | h
    · exact h3 b h
    · exact Nat.le_trans h4.size h
  have hkk : Keep [] w0 w' := h4.trans hk (fun b hb => .inr (h3 b hb))
  by_cases hx : okS d.n x
  · have hfit : (loadL x).length ≤ roomN d.sz := by
      have := loadL_fits hn2 hx
      have h2 := hok.2.2.2.1
      unfold roomN
      rw [if_neg (by omega)]
      omega
    have hsl := slot_put hok hn hg hx hfit
    have hsw : swrite d x = writeD d ((x.gen % 2 : Nat) : Int) (sealL d.sz ⟨83, x.gen, loadL x⟩) := by
      unfold swrite
      rw [if_neg (not_not_intro hx), if_neg (by omega)]
    rw [hsw] at hd' ⊢
    have hwd := writeD.eq_1 d ((x.gen % 2 : Nat) : Int) (sealL d.sz ⟨83, x.gen, loadL x⟩)
    rw [if_neg (by omega), if_neg (by rw [sealL_len (sealOkS hok hg hfit)]; omega)] at hwd
    by_cases hoff : d.off = true
    · rw [if_pos hoff] at hwd
      rw [hwd] at hd' ⊢
      exact ⟨20, ox, rfl, ⟨⟨D', d, hd', rfl, rfl, e5, hfr⟩, hkk⟩, .inr ⟨.inr rfl, rfl⟩, hT⟩
    · rw [if_neg hoff] at hwd
      by_cases hl : d.left = 0
      · rw [if_pos hl] at hwd
        rw [hwd] at hd' ⊢
        exact ⟨20, ox, rfl, ⟨⟨D', _, hd', rfl, rfl, e5, hfr⟩, hkk⟩, .inr ⟨.inr rfl, rfl⟩, hT⟩
      · rw [if_neg hl, Int.toNat_natCast] at hwd
        rw [hwd] at hd' ⊢
        refine ⟨0, updS ox x, rfl, ⟨⟨D', _, hd', rfl, rfl, fun k hk2 => ?_, hfr⟩, hkk⟩, .inl ⟨rfl, hx, rfl⟩, hT⟩
        unfold updS
        by_cases he : k = x.gen % 2
        · rw [if_pos he, he]; exact (hsl _).1
        · rw [if_neg he]; exact (hsl _).2 k _ hk2 he (e5 k hk2)
  · have hsw : swrite d x = (2, d) := by unfold swrite; rw [if_pos hx]
    rw [hsw] at hd' ⊢
    exact ⟨2, ox, rfl, ⟨⟨D', d, hd', rfl, rfl, e5, hfr⟩, hkk⟩, .inr ⟨.inl rfl, rfl⟩, hT⟩
/-- x is the better one; the other slot holds nothing, or an elder one -/
def Top (ox : Nat → Option Sup) (x : Sup) : Prop := x.gen ≠ 0 ∧ ox (x.gen % 2) = some x ∧ (ox (1 - x.gen % 2) = none ∨ ∃ y, ox (1 - x.gen % 2) = some y ∧ y.gen < x.gen ∧ y.gen ≠ 0 ∧ y.gen % 2 = 1 - x.gen % 2)
theorem Top.best {ox : Nat → Option Sup} {x : Sup} (h : Top ox x) : bkN ox 2 = x := by
  obtain ⟨h1, h2, h3 | ⟨y, h3, h4, h5, h6⟩⟩ := h
  · exact best_one h1 h2 h3
  · exact best_two h5 h1 h4 (by omega) (by rw [h6]; exact h3) h2
theorem Top.next {ox : Nat → Option Sup} {x y : Sup} (h : Top ox x) (hy : y.gen = x.gen + 1) : Top (updS ox y) y := by
  obtain ⟨h1, h2, h3⟩ := h
  refine ⟨by omega, updS_same _ _, .inr ⟨x, ?_, by omega, h1, by omega⟩⟩
  rw [updS_other _ (by omega), ← h2]
  congr 1
  omega
end Go.Proofs.Ytdeghoigpcbmcaa
