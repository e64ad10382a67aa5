/- Extents: the plain laws behind the statements. -/
import Derived.Test.YtlfhnbdeadiedaaExt12
namespace Go.Emb.Ext
theorem JoinRes.uniq {l a b : List E} {e e' : Int} (h : JoinRes l a e) (h' : JoinRes l b e') : a = b ∧ e = e' := by
  have no1 : (∃ x ∈ l, right x = false) → ¬ (∀ x ∈ l, right x = true) := by
    rintro ⟨x, hx, h1⟩ h2; rw [h2 x hx] at h1; cases h1
  rcases h with ⟨h0, h1, h2⟩ | ⟨h0, h1, h2, h3⟩ | ⟨h0, h1, h2, h3⟩ <;> rcases h' with ⟨g0, g1, g2⟩ | ⟨g0, g1, g2, g3⟩ | ⟨g0, g1, g2, g3⟩
  · exact ⟨by rw [h1, g1], by rw [h0, g0]⟩
  · exact absurd g2 (no1 h2)
  · exact absurd g1 (no1 h2)
  · exact absurd h2 (no1 g2)
  · exact ⟨by rw [h1, g1], by rw [h0, g0]⟩
  · exact absurd g2.disj h3
  · exact absurd h1 (no1 g2)
  · exact absurd h2.disj g3
  · exact ⟨h2.uniq g2 (fun _ => Iff.rfl), by rw [h0, g0]⟩
/-- one that is right, alone -/
theorem JoinRes.one {x : E} {a : List E} {e : Int} (hx : right x = true) (h : JoinRes [x] a e) : e = 0 ∧ a = [x] :=
  JoinRes.sorted (by simp) (by simpa using hx) (by simp [joinS, joinR, jstep]) h
theorem le_sumL {l : List E} (h : ∀ x ∈ l, 1 ≤ x.2) {x : E} (hx : x ∈ l) : x.2 ≤ sumL l := by
  induction l with
  | nil => simp at hx
  | cons y l ih =>
    have h1 := (sumL_pos (l := l) (fun z hz => h z (by simp [hz]))).1
    have h2 := h y (by simp)
    rw [sumL_cons]
    rcases List.mem_cons.1 hx with rfl | hx
    · omega
    · have := ih (fun z hz => h z (by simp [hz])) hx
      omega
theorem chooseI_first {l : List E} {n : Int} {k : Nat} (hk : k < l.length) (h1 : n ≤ l[k].2) (h2 : ∀ j (hj : j < k), (l[j]'(by omega)).2 < n) : chooseI l n = k := by
  unfold chooseI
  rw [show l.findIdx? (fun x => decide (n ≤ x.2)) = some k from ?_]
  rw [List.findIdx?_eq_some_iff_getElem]
  exact ⟨hk, by simpa using h1, fun j hj => by have := h2 j hj; simp; omega⟩

theorem take_one {p : List E} {n : Int} (hn : 1 ≤ n) {k : Nat} (hk : k < p.length) (h1 : n ≤ p[k].2) (h2 : ∀ j (hj : j < k), (p[j]'(by omega)).2 < n) :
    takeL 1 n p [] = some ([(p[k].1, n)], updI p k n) := by
  have hx : p[k]? = some p[k] := List.getElem?_eq_getElem hk
  unfold takeL
  rw [if_neg (by omega)]
  simp only [chooseI_first hk h1 h2, hx]
  have hm : min p[k].2 n = n := by omega
  rw [hm, Int.sub_self]
  unfold takeL
  simp
theorem take_one_none {p : List E} {n : Int} (hn : 1 ≤ n) (h : ∀ x ∈ p, x.2 < n) : takeL 1 n p [] = none := by
  unfold takeL
  rw [if_neg (by omega)]
  simp only
  cases hx : p[chooseI p n]? with
  | none => rfl
  | some x =>
    simp only
    have := h x (List.mem_of_getElem? hx)
    have hm : min x.2 n = x.2 := by omega
    rw [hm]
    unfold takeL
    rw [if_neg (by omega)]
end Go.Emb.Ext
namespace Go.Proofs.Ytlfhnbdeadiedaa
open Go.RowKit Go.Emb Go.Lib Go.Emb.Ext Go.Shelf Go.Sort

theorem first_law {n : Int} {l p got left : List E} {f : Int} (hn : 1 ≤ n) (hn2 : n ≤ 16384) (hp : JoinRes l p 0) (ht : TakeRes n 1 l got left f) :
    (∀ k (hk : k < p.length), n ≤ p[k].2 → (∀ j (hj : j < k), (p[j]'(by omega)).2 < n) → f = 0 ∧ got = [(p[k].1, n)] ∧ countE left = countE p - n ∧ left.length ≤ l.length) ∧
    ((∀ x ∈ p, x.2 < n) → f = 5 ∧ got = [] ∧ left = []) := by
  obtain ⟨hlr, hok, hpr⟩ := hp.ok
  rcases ht with ⟨h, _⟩ | ⟨_, a, e1, hj, h⟩
  · omega
  obtain ⟨rfl, rfl⟩ := hp.uniq hj
  constructor
  · intro k hk h1 h2
    have hsum : n ≤ sumL p := by
      have := le_sumL hok.plain.pos (List.getElem_mem hk)
      omega
    have ht := take_one hn hk h1 h2
    rw [show (1 : Int).toNat = 1 from rfl, ht] at h
    rcases h with ⟨h, _⟩ | ⟨_, h, _⟩ | ⟨_, _, g, h3, h4, h5⟩
    · exact absurd rfl h
    · rcases h with h | ⟨_, h⟩
      · omega
      · cases h
    · simp only [Option.some.injEq, Prod.mk.injEq] at h3
      obtain ⟨rfl, rfl⟩ := h3
      obtain ⟨rfl, rfl⟩ := JoinRes.one (h4 _ (by simp)) h5
      have hx : p[k]? = some p[k] := List.getElem?_eq_getElem hk
      have hs := (TInv.start hok.plain n).step hx (k := n) hn h1
      have hsum2 := hs.sum
      refine ⟨rfl, rfl, ?_, Nat.le_trans (updI_len hx n) hok.len⟩
      rw [countE_right (updI_right hx hn hpr), countE_right hpr]
      simp [sumL] at hsum2
      unfold sumL
      omega
  · intro hall
    have ht := take_one_none hn hall
    rw [show (1 : Int).toNat = 1 from rfl, ht] at h
    rcases h with ⟨h, _⟩ | ⟨_, h, h1, h2, h3⟩ | ⟨_, _, g, h3, _⟩
    · exact absurd rfl h
    · exact ⟨h1, h2, h3⟩
    · cases h3
end Go.Proofs.Ytlfhnbdeadiedaa
