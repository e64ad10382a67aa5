/- A part of the proof (ExtP, Mx1), joined by squeeze2.py. -/
import Derived.Test.YtimpadpeibgmoaaGreatYd01
import Derived.Test.YtimpadpeibgmoaaGreatProg
import Derived.Deep.RegionHeld3
import Derived.Deep.QuietTactic
import Derived.BigQuiet
import Derived.Deep.LoopGhost
import Derived.Shelf.Abstract
set_option maxHeartbeats 8000000
set_option maxRecDepth 100000
namespace Go.Emb.Ext
abbrev E := Int × Int
def right (x : E) : Bool := decide (0 ≤ x.1) && decide (x.1 ≤ 16384) && decide (1 ≤ x.2) && decide (x.2 ≤ 16384 - x.1)
theorem right_iff (x : E) : right x = true ↔ 0 ≤ x.1 ∧ x.1 ≤ 16384 ∧ 1 ≤ x.2 ∧ x.2 ≤ 16384 - x.1 := by
 unfold right; simp [and_assoc]
def covers (x : E) (i : Int) : Prop := x.1 ≤ i ∧ i < x.1 + x.2
def cov (l : List E) (i : Int) : Prop := ∃ x ∈ l, covers x i
def apartE (x y : E) : Prop := ∀ i, covers x i → ¬ covers y i
def Disj (l : List E) : Prop := l.Pairwise apartE
theorem apartE_symm {x y : E} (h : apartE x y) : apartE y x := fun i h1 h2 => h i h2 h1
theorem cov_cons (x : E) (l : List E) (i : Int) : cov (x :: l) i ↔ covers x i ∨ cov l i := by simp [cov]
theorem cov_nil (i : Int) : ¬ cov [] i := by simp [cov]
theorem cov_append (a b : List E) (i : Int) : cov (a ++ b) i ↔ cov a i ∨ cov b i := by
 simp only [cov, List.mem_append]
 constructor
 ·rintro ⟨x, h | h, hx⟩
  ·exact .inl ⟨x, h, hx⟩
  ·exact .inr ⟨x, h, hx⟩
 ·rintro (⟨x, h, hx⟩ | ⟨x, h, hx⟩)
  ·exact ⟨x, .inl h, hx⟩
  ·exact ⟨x, .inr h, hx⟩
theorem cov_perm {a b : List E} (h : a.Perm b) (i : Int) : cov a i ↔ cov b i := by
 simp only [cov, h.mem_iff]
theorem Disj.perm {a b : List E} (h : a.Perm b) (d : Disj a) : Disj b := (h.pairwise_iff (fun {_ _} h => apartE_symm h)).1 d
def sumL (l : List E) : Int := (l.map (·.2)).sum
theorem sumL_perm {a b : List E} (h : a.Perm b) : sumL a = sumL b := by
 unfold sumL
 induction h with
 | nil => rfl
 | cons x _ ih => simp [ih]
 | swap x y l => simp; omega
 | trans _ _ i1 i2 => exact i1.trans i2
theorem sumL_append (a b : List E) : sumL (a ++ b) = sumL a + sumL b := by simp [sumL]
theorem sumL_cons (x : E) (b : List E) : sumL (x :: b) = x.2 + sumL b := by simp [sumL]
theorem sumL_nil : sumL [] = 0 := rfl
theorem sumL_reverse (l : List E) : sumL l.reverse = sumL l := sumL_perm (List.reverse_perm l)
structure Plain (l : List E) : Prop where
 pos : ∀ x ∈ l, 1 ≤ x.2
 gap : l.Pairwise fun x y => x.1 + x.2 < y.1
theorem Plain.nil : Plain [] := ⟨by simp, by simp⟩
theorem Plain.tail {x : E} {l : List E} (h : Plain (x :: l)) : Plain l := ⟨fun y hy => h.pos y (by simp [hy]), (List.pairwise_cons.1 h.gap).2⟩
theorem Plain.disj {l : List E} (h : Plain l) : Disj l := h.gap.imp (fun {x y} hxy i h1 h2 => by unfold covers at *; omega)
theorem Plain.eq : ∀ {a b : List E}, Plain a → Plain b → (∀ i, cov a i ↔ cov b i) → a = b
 | [], [], _, _, _ => rfl
 | [], y :: b, _, hb, h => by
  have := (h y.1).2 ((cov_cons _ _ _).2 (.inl ⟨Int.le_refl _, by have := hb.pos y (by simp); omega⟩))
  exact (cov_nil _ this).elim
 | x :: a, [], ha, _, h => by
  have := (h x.1).1 ((cov_cons _ _ _).2 (.inl ⟨Int.le_refl _, by have := ha.pos x (by simp); omega⟩))
  exact (cov_nil _ this).elim
 | x :: a, y :: b, ha, hb, h => by
  have px := ha.pos x (by simp)
  have py := hb.pos y (by simp)
  have ga := (List.pairwise_cons.1 ha.gap).1
  have gb := (List.pairwise_cons.1 hb.gap).1
  have lowA : ∀ i, cov (x :: a) i → x.1 ≤ i := by
   rintro i ⟨z, hz, h1, h2⟩
   rcases List.mem_cons.1 hz with rfl | hz
   ·exact h1
   ·have := ga z hz; omega
  have lowB : ∀ i, cov (y :: b) i → y.1 ≤ i := by
   rintro i ⟨z, hz, h1, h2⟩
   rcases List.mem_cons.1 hz with rfl | hz
   ·exact h1
   ·have := gb z hz; omega
  have e1 : y.1 ≤ x.1 := lowB _ ((h x.1).1 ((cov_cons _ _ _).2 (.inl ⟨Int.le_refl _, by omega⟩)))
  have e2 : x.1 ≤ y.1 := lowA _ ((h y.1).2 ((cov_cons _ _ _).2 (.inl ⟨Int.le_refl _, by omega⟩)))
  have e3 : ¬ x.1 + x.2 < y.1 + y.2 := by
   intro hlt
   have := (h (x.1 + x.2)).2 ((cov_cons _ _ _).2 (.inl ⟨by omega, by omega⟩))
   rcases (cov_cons _ _ _).1 this with h1 | ⟨z, hz, h1, h2⟩
   ·unfold covers at h1; omega
   ·have := ga z hz; omega
  have e4 : ¬ y.1 + y.2 < x.1 + x.2 := by
   intro hlt
   have := (h (y.1 + y.2)).1 ((cov_cons _ _ _).2 (.inl ⟨by omega, by omega⟩))
   rcases (cov_cons _ _ _).1 this with h1 | ⟨z, hz, h1, h2⟩
   ·unfold covers at h1; omega
   ·have := gb z hz; omega
  have exy : x = y := Prod.ext (by omega) (by omega)
  subst exy
  congr 1
  refine Plain.eq ha.tail hb.tail fun i => ?_
  have hi := h i
  rw [cov_cons, cov_cons] at hi
  constructor
  ·intro hc
   have hn : ¬ covers x i := by
    obtain ⟨z, hz, h1, h2⟩ := hc
    have := ga z hz
    unfold covers; omega
   exact (hi.1 (.inr hc)).resolve_left hn
  ·intro hc
   have hn : ¬ covers x i := by
    obtain ⟨z, hz, h1, h2⟩ := hc
    have := gb z hz
    unfold covers; omega
   exact (hi.2 (.inr hc)).resolve_left hn
def jstep : List E → E → Option (List E)
 | [], x => some [x]
 | y :: r, x => if x.1 < y.1 + y.2 then none else if y.1 + y.2 = x.1 then some ((y.1, y.2 + x.2) :: r) else some (x :: y :: r)
def joinR : List E → List E → Option (List E)
 | r, [] => some r
 | r, x :: s => match jstep r x with | none => none | some r' => joinR r' s
structure JInv (r s : List E) : Prop where
 pos : ∀ z ∈ s, 1 ≤ z.2
 plain : Plain r.reverse
 same : ∀ i, cov r i ↔ cov s i
 sum : sumL r = sumL s
 low : ∀ y ∈ r.head?, ∀ z ∈ s, z.1 + z.2 ≤ y.1 + y.2
 last : ∀ y ∈ r.head?, cov s (y.1 + y.2 - 1)
 disj : Disj s
 len : r.length ≤ s.length
theorem plain_rev_cons {y : E} {r : List E} : Plain (y :: r).reverse ↔ 1 ≤ y.2 ∧ Plain r.reverse ∧ ∀ z ∈ r, z.1 + z.2 < y.1 := by
 constructor
 ·intro h
  have hg := h.gap
  simp only [List.reverse_cons, List.pairwise_append] at hg
  refine ⟨h.pos y (by simp), ⟨fun z hz => h.pos z (by simp at hz ⊢; exact .inl hz), hg.1⟩, fun z hz => hg.2.2 z (by simpa using hz) y (by simp)⟩
 ·rintro ⟨h1, h2, h3⟩
  refine ⟨?_, ?_⟩
  ·intro z hz
   simp only [List.reverse_cons, List.mem_append, List.mem_reverse, List.mem_singleton] at hz
   rcases hz with hz | rfl
   ·exact h2.pos z (by simpa using hz)
   ·exact h1
  ·simp only [List.reverse_cons, List.pairwise_append]
   refine ⟨h2.gap, by simp, fun a ha b hb => ?_⟩
   simp only [List.mem_singleton] at hb
   subst hb
   exact h3 a (by simpa using ha)
theorem JInv.nil : JInv [] [] := ⟨by simp, Plain.nil, fun _ => Iff.rfl, rfl, by simp, by simp, by simp [Disj], by simp⟩
theorem JInv.step {r s : List E} (h : JInv r s) {x : E} (hx : 1 ≤ x.2) (hs : ∀ z ∈ s, z.1 ≤ x.1) :
  (∀ r', jstep r x = some r' → JInv r' (s ++ [x])) ∧ (jstep r x = none → ¬ Disj (s ++ [x])) := by
 have hpos : ∀ z ∈ s ++ [x], 1 ≤ z.2 := by
  intro z hz
  rcases List.mem_append.1 hz with hz | hz
  ·exact h.pos z hz
  ·simp at hz; subst hz; exact hx
 have hdisj : (∀ z ∈ s, z.1 + z.2 ≤ x.1) → Disj (s ++ [x]) := by
  intro hz
  refine List.pairwise_append.2 ⟨h.disj, by simp, fun a ha b hb => ?_⟩
  simp only [List.mem_singleton] at hb
  subst hb
  intro i h1 h2
  have := hz a ha
  unfold covers at *
  omega
 have hcx : ∀ i, cov [x] i ↔ covers x i := fun i => by simp [cov]
 cases r with
 | nil =>
  have hse : s = [] := by
   cases s with
   | nil => rfl
   | cons z s =>
    have := (h.same z.1).2 ((cov_cons _ _ _).2 (.inl ⟨Int.le_refl _, by have := h.pos z (by simp); omega⟩))
    exact (cov_nil _ this).elim
  subst hse
  refine ⟨?_, by simp [jstep]⟩
  intro r' hr
  simp only [jstep, Option.some.injEq] at hr
  subst hr
  refine ⟨hpos, ⟨by simpa using hx, by simp⟩, fun _ => Iff.rfl, rfl, ?_, ?_, by simp [Disj], by simp⟩
  ·intro y hy z hz; simp at hy hz; subst hy hz; omega
  ·intro y hy; simp at hy; subst hy; exact ⟨x, by simp, by unfold covers; omega⟩
 | cons y r =>
  have hp := plain_rev_cons.1 h.plain
  have hlow := h.low y (by simp)
  obtain ⟨z0, hz0, hc0⟩ := h.last y (by simp)
  simp only [jstep]
  by_cases h1 : x.1 < y.1 + y.2
  ·rw [if_pos h1]
   refine ⟨(by simp), fun _ hd => ?_⟩
   have h2 := (List.pairwise_append.1 hd).2.2 z0 hz0 x (by simp) x.1
   have h3 := hs z0 hz0
   unfold covers at *
   exact h2 ⟨h3, by omega⟩ ⟨Int.le_refl _, by omega⟩
  ·rw [if_neg h1]
   have hd := hdisj (fun z hz => by have := hlow z hz; omega)
   by_cases h2 : y.1 + y.2 = x.1
   ·rw [if_pos h2]
    refine ⟨?_, by simp⟩
    intro r' hr
    simp only [Option.some.injEq] at hr
    subst hr
    refine ⟨hpos, plain_rev_cons.2 ⟨by simp; omega, hp.2.1, hp.2.2⟩, fun i => ?_, ?_, ?_, ?_, hd, by have := h.len; simp at this ⊢; omega⟩
    ·rw [cov_append, ← h.same, cov_cons, cov_cons, hcx]
     have := hp.1
     unfold covers
     by_cases hc : cov r i
     ·simp [hc]
     ·simp only [hc, or_false]
      omega
    ·rw [sumL_append, ← h.sum, sumL_cons, sumL_cons, sumL_cons, sumL_nil]; simp; omega
    ·intro y' hy' z hz
     simp at hy'; subst hy'
     rcases List.mem_append.1 hz with hz | hz
     ·have := hlow z hz; simp; omega
     ·simp at hz; subst hz; simp; omega
    ·intro y' hy'
     simp at hy'; subst hy'
     exact ⟨x, by simp, by unfold covers; simp; omega⟩
   ·rw [if_neg h2]
    refine ⟨?_, by simp⟩
    intro r' hr
    simp only [Option.some.injEq] at hr
    subst hr
    refine ⟨hpos, plain_rev_cons.2 ⟨hx, h.plain, ?_⟩, fun i => ?_, ?_, ?_, ?_, hd, by have := h.len; simp at this ⊢; omega⟩
    ·intro z hz
     rcases List.mem_cons.1 hz with rfl | hz
     ·omega
     ·have := hp.2.2 z hz; omega
    ·rw [cov_append, ← h.same, cov_cons, hcx]
     exact Or.comm
    ·rw [sumL_append, ← h.sum, sumL_cons, sumL_cons, sumL_cons, sumL_nil]; omega
    ·intro y' hy' z hz
     simp at hy'; subst hy'
     rcases List.mem_append.1 hz with hz | hz
     ·have := hlow z hz; omega
     ·simp at hz; subst hz; omega
    ·intro y' hy'
     simp at hy'; subst hy'
     exact ⟨x, by simp, by unfold covers; omega⟩
theorem joinR_inv : ∀ (t : List E) {r s : List E}, JInv r s → (∀ x ∈ t, 1 ≤ x.2) → (s ++ t).Pairwise (fun x y => x.1 ≤ y.1) →
  (∀ r', joinR r t = some r' → JInv r' (s ++ t)) ∧ (joinR r t = none → ¬ Disj (s ++ t))
 | [], r, s, h, _, _ => by simp [joinR]; exact h
 | x :: t, r, s, h, hp, hs => by
  have hs' : (s ++ [x] ++ t).Pairwise (fun x y => x.1 ≤ y.1) := by simpa using hs
  have hst := h.step (x := x) (hp x (by simp)) (fun z hz => (List.pairwise_append.1 hs).2.2 z hz x (by simp))
  unfold joinR
  cases hj : jstep r x with
  | none =>
   simp only
   refine ⟨by simp, fun _ hd => hst.2 hj ?_⟩
   have : Disj (s ++ [x] ++ t) := by simpa using hd
   exact (List.pairwise_append.1 this).1
  | some r1 =>
   simp only
   have := joinR_inv t (hst.1 r1 hj) (fun y hy => hp y (by simp [hy])) hs'
   simpa using this
def joinS (s : List E) : Option (List E) := (joinR [] s).map List.reverse
structure JoinOk (l out : List E) : Prop where
 pos : ∀ z ∈ l, 1 ≤ z.2
 plain : Plain out
 same : ∀ i, cov out i ↔ cov l i
 sum : sumL out = sumL l
 disj : Disj l
 len : out.length ≤ l.length
theorem joinS_some {s out l : List E} (hs : s.Pairwise (fun x y => x.1 ≤ y.1)) (hp : s.Perm l) (hl : ∀ x ∈ l, 1 ≤ x.2) (h : joinS s = some out) : JoinOk l out := by
 unfold joinS at h
 cases hj : joinR [] s with
 | none => rw [hj] at h; cases h
 | some r =>
  rw [hj] at h
  simp only [Option.map_some, Option.some.injEq] at h
  subst h
  have hi := (joinR_inv s JInv.nil (fun x hx => hl x (hp.mem_iff.1 hx)) (by simpa using hs)).1 r hj
  simp only [List.nil_append] at hi
  refine ⟨hl, hi.plain, fun i => ?_, ?_, hi.disj.perm hp, by rw [List.length_reverse, ← hp.length_eq]; exact hi.len⟩
  ·rw [cov_perm (List.reverse_perm r), hi.same, cov_perm hp]
  ·rw [sumL_reverse, hi.sum, sumL_perm hp]
theorem joinS_none {s l : List E} (hs : s.Pairwise (fun x y => x.1 ≤ y.1)) (hp : s.Perm l) (hl : ∀ x ∈ l, 1 ≤ x.2) (h : joinS s = none) : ¬ Disj l := by
 unfold joinS at h
 have hj : joinR [] s = none := by
  cases hj : joinR [] s with
  | none => rfl
  | some r => rw [hj] at h; cases h
 have hi := (joinR_inv s JInv.nil (fun x hx => hl x (hp.mem_iff.1 hx)) (by simpa using hs)).2 hj
 intro hd
 exact hi (by simpa using hd.perm hp.symm)
theorem JoinOk.uniq {l l' a b : List E} (h : JoinOk l a) (h' : JoinOk l' b) (hc : ∀ i, cov l i ↔ cov l' i) : a = b :=
 Plain.eq h.plain h'.plain fun i => by rw [h.same, h'.same]; exact hc i
def freeFrom (blocks : Int) : Int → List E → List E
 | at', [] => if at' < blocks then [(at', blocks - at')] else []
 | at', x :: l => (if at' < x.1 then [(at', x.1 - at')] else []) ++ freeFrom blocks (x.1 + x.2) l
theorem freeFrom_ok (blocks : Int) : ∀ (l : List E) (p : Int), Plain l → (∀ x ∈ l, p ≤ x.1 ∧ x.1 + x.2 ≤ blocks) → p ≤ blocks →
  Plain (freeFrom blocks p l) ∧ (∀ i, cov (freeFrom blocks p l) i ↔ (p ≤ i ∧ i < blocks) ∧ ¬ cov l i) ∧ sumL (freeFrom blocks p l) + sumL l = blocks - p ∧ (∀ x ∈ freeFrom blocks p l, p ≤ x.1 ∧ x.1 + x.2 ≤ blocks)
 | [], p, _, _, hp => by
  unfold freeFrom
  by_cases h : p < blocks
  ·rw [if_pos h]
   refine ⟨⟨by simp; omega, by simp⟩, fun i => ?_, ?_, ?_⟩
   ·simp [cov, covers]; omega
   ·simp [sumL]
   ·simp; omega
  ·rw [if_neg h]
   refine ⟨Plain.nil, fun i => ?_, ?_, by simp⟩
   ·simp [cov]; omega
   ·simp [sumL]; omega
 | x :: l, p, hl, hb, hp => by
  have hx := hb x (by simp)
  have hpx := hl.pos x (by simp)
  have hg := (List.pairwise_cons.1 hl.gap).1
  obtain ⟨i1, i2, i3, i4⟩ := freeFrom_ok blocks l (x.1 + x.2) hl.tail (fun y hy => ⟨by have := hg y hy; omega, (hb y (by simp [hy])).2⟩) hx.2
  have hcl : ∀ i, cov l i → x.1 + x.2 ≤ i := by
   rintro i ⟨z, hz, h1, h2⟩
   have := hg z hz; omega
  unfold freeFrom
  by_cases h : p < x.1
  ·rw [if_pos h]
   refine ⟨⟨?_, ?_⟩, fun i => ?_, ?_, ?_⟩
   ·intro y hy
    rcases List.mem_append.1 hy with hy | hy
    ·simp at hy; subst hy; simp; omega
    ·exact i1.pos y hy
   ·refine List.pairwise_append.2 ⟨by simp, i1.gap, fun a ha b hb' => ?_⟩
    simp at ha; subst ha
    have := (i4 b hb').1
    simp; omega
   ·have hcs : cov [(p, x.1 - p)] i ↔ p ≤ i ∧ i < x.1 := by simp [cov, covers]; omega
    rw [cov_append, i2, hcs, cov_cons]
    have := hcl i
    unfold covers
    by_cases hc : cov l i
    ·have := hcl i hc
     simp only [hc, not_true_eq_false, and_false, or_false, or_true, iff_false]
     omega
    ·simp only [hc, not_false_eq_true, and_true, or_false]
     omega
   ·rw [sumL_append, sumL_cons, sumL_cons, sumL_nil]; simp; omega
   ·intro y hy
    rcases List.mem_append.1 hy with hy | hy
    ·simp at hy; subst hy; simp; omega
    ·have := i4 y hy; omega
  ·rw [if_neg h, List.nil_append]
   refine ⟨i1, fun i => ?_, ?_, ?_⟩
   ·rw [i2, cov_cons]
    unfold covers at *
    by_cases hc : cov l i
    ·have := hcl i hc
     simp [hc]
    ·simp [hc]; omega
   ·rw [sumL_cons]; omega
   ·intro y hy
    have := i4 y hy; omega
def maxI (l : List E) : Nat := l.findIdx fun x => l.all fun y => decide (y.2 ≤ x.2)
def chooseI (l : List E) (n : Int) : Nat := match l.findIdx? (fun x => decide (n ≤ x.2)) with | some i => i | none => maxI l
def restAt (x : E) (k : Int) : List E := if k < x.2 then [(x.1 + k, x.2 - k)] else []
def updI (l : List E) (i : Nat) (k : Int) : List E := match l[i]? with | some x => l.take i ++ restAt x k ++ l.drop (i + 1) | none => l
def takeL : Nat → Int → List E → List E → Option (List E × List E)
 | most, n, left, got => if n ≤ 0 then some (got, left) else match most with
  | 0 => none
  | m + 1 => match left[chooseI left n]? with
   | none => none
   | some x => takeL m (n - min x.2 n) (updI left (chooseI left n) (min x.2 n)) (got ++ [(x.1, min x.2 n)])
theorem maxI_lt {l : List E} (h : l ≠ []) : maxI l < l.length := by
 unfold maxI
 rw [List.findIdx_lt_length]
 have : ∀ l : List E, l ≠ [] → ∃ x ∈ l, ∀ y ∈ l, y.2 ≤ x.2 := by
  intro l
  induction l with
  | nil => simp
  | cons a l ih =>
   intro _
   by_cases hl : l = []
   ·subst hl; exact ⟨a, by simp, by simp⟩
   ·obtain ⟨x, hx, hm⟩ := ih hl
    by_cases h : x.2 ≤ a.2
    ·refine ⟨a, by simp, fun y hy => ?_⟩
     rcases List.mem_cons.1 hy with rfl | hy
     ·omega
     ·have := hm y hy; omega
    ·refine ⟨x, by simp [hx], fun y hy => ?_⟩
     rcases List.mem_cons.1 hy with rfl | hy
     ·omega
     ·exact hm y hy
 obtain ⟨x, hx, hm⟩ := this l h
 exact ⟨x, hx, by simpa using fun a b hab => hm (a, b) hab⟩
theorem chooseI_lt {l : List E} (h : l ≠ []) (n : Int) : chooseI l n < l.length := by
 unfold chooseI
 cases hf : l.findIdx? (fun x => decide (n ≤ x.2)) with
 | none => exact maxI_lt h
 | some i => exact (List.findIdx?_eq_some_iff_getElem.1 hf).1
theorem split_at {l : List E} {i : Nat} {x : E} (h : l[i]? = some x) : l = l.take i ++ x :: l.drop (i + 1) := by
 obtain ⟨hi, rfl⟩ := List.getElem?_eq_some_iff.1 h
 conv => lhs; rw [← List.take_append_drop i l, List.drop_eq_getElem_cons hi]
theorem updI_eq {l : List E} {i : Nat} {x : E} (h : l[i]? = some x) (k : Int) : updI l i k = l.take i ++ restAt x k ++ l.drop (i + 1) := by
 unfold updI; rw [h]
structure TInv (f : List E) (n0 n : Int) (left got : List E) : Prop where
 plain : Plain left
 posG : ∀ x ∈ got, 1 ≤ x.2
 disj : Disj (got ++ left)
 same : ∀ i, cov (got ++ left) i ↔ cov f i
 sumG : sumL got = n0 - n
 sum : sumL got + sumL left = sumL f
theorem TInv.start {f : List E} (h : Plain f) (n : Int) : TInv f n n f [] := ⟨h, by simp, by simpa using h.disj, fun _ => by simp, by simp [sumL], by simp [sumL]⟩
theorem cov_one (x : E) (i : Int) : cov [x] i ↔ covers x i := by simp [cov]
theorem TInv.step {f : List E} {n0 n : Int} {left got : List E} (h : TInv f n0 n left got) {i : Nat} {x : E} (hx : left[i]? = some x) {k : Int} (hk : 1 ≤ k) (hkx : k ≤ x.2) :
  TInv f n0 (n - k) (updI left i k) (got ++ [(x.1, k)]) := by
 have hxm : x ∈ left := List.mem_of_getElem? hx
 have hsp := split_at hx
 have hu := updI_eq hx k
 generalize left.take i = A at *
 generalize left.drop (i + 1) = B at *
 rw [hu]
 subst hsp
 have hcov : ∀ j, cov [(x.1, k)] j ∨ cov (restAt x k) j ↔ covers x j := by
  intro j
  unfold restAt
  rw [cov_one]
  split
  ·rw [cov_one]; unfold covers; simp; omega
  ·simp only [cov_nil, or_false]; unfold covers; simp; omega
 have hrs : k + sumL (restAt x k) = x.2 := by
  unfold restAt
  split
  ·simp [sumL]; omega
  ·simp [sumL]; omega
 have hp := h.plain
 have hrp : ∀ y ∈ restAt x k, 1 ≤ y.2 ∧ x.1 + k ≤ y.1 ∧ y.1 + y.2 = x.1 + x.2 := by
  unfold restAt
  intro y hy
  split at hy
  ·simp at hy; subst hy; simp; omega
  ·simp at hy
 have hrap : Disj (restAt x k) := by
  unfold restAt
  split <;> simp [Disj]
 obtain ⟨g1, g2, g3⟩ := List.pairwise_append.1 hp.gap
 obtain ⟨g4, g5⟩ := List.pairwise_cons.1 g2
 have hplain : Plain (A ++ restAt x k ++ B) := by
  refine ⟨?_, ?_⟩
  ·intro y hy
   rcases List.mem_append.1 hy with hy | hy
   ·rcases List.mem_append.1 hy with hy | hy
    ·exact hp.pos y (by simp [hy])
    ·exact (hrp y hy).1
   ·exact hp.pos y (by simp [hy])
  ·rw [List.append_assoc]
   refine List.pairwise_append.2 ⟨g1, List.pairwise_append.2 ⟨?_, g5, ?_⟩, ?_⟩
   ·unfold restAt; split <;> simp
   ·intro a ha b hb
    have := hrp a ha
    have := g4 b hb
    omega
   ·intro a ha b hb
    rcases List.mem_append.1 hb with hb | hb
    ·have := hrp b hb
     have := g3 a ha x (by simp)
     omega
    ·exact g3 a ha b (by simp [hb])
 have hsame : ∀ j, cov (got ++ [(x.1, k)] ++ (A ++ restAt x k ++ B)) j ↔ cov (got ++ (A ++ x :: B)) j := by
  intro j
  have := hcov j
  simp only [cov_append, cov_cons]
  rw [← this]
  rw [cov_one]
  constructor
  ·rintro ((h | h) | (h | h) | h)
   ·exact .inl h
   ·exact .inr (.inr (.inl (.inl (h.resolve_right (cov_nil _)))))
   ·exact .inr (.inl h)
   ·exact .inr (.inr (.inl (.inr h)))
   ·exact .inr (.inr (.inr h))
  ·rintro (h | h | (h | h) | h)
   ·exact .inl (.inl h)
   ·exact .inr (.inl (.inl h))
   ·exact .inl (.inr (.inl h))
   ·exact .inr (.inl (.inr h))
   ·exact .inr (.inr h)
 refine ⟨hplain, ?_, ?_, fun j => (hsame j).trans (h.same j), ?_, ?_⟩
 ·intro y hy
  rcases List.mem_append.1 hy with hy | hy
  ·exact h.posG y hy
  ·simp at hy; subst hy; exact hk
 ·obtain ⟨d1, d2, d3⟩ := List.pairwise_append.1 h.disj
  have hc1 : ∀ j, covers (x.1, k) j → covers x j := fun j hj => (hcov j).1 (.inl ((cov_one _ _).2 hj))
  refine List.pairwise_append.2 ⟨List.pairwise_append.2 ⟨d1, by simp, ?_⟩, hplain.disj, ?_⟩
  ·intro a ha b hb j hja hjb
   simp at hb; subst hb
   exact d3 a ha x (by simp) j hja (hc1 j hjb)
  ·intro a ha b hb j hja hjb
   rcases List.mem_append.1 ha with ha | ha
   ·rcases List.mem_append.1 hb with hb | hb
    ·rcases List.mem_append.1 hb with hb | hb
     ·exact d3 a ha b (by simp [hb]) j hja hjb
     ·exact d3 a ha x (by simp) j hja ((hcov j).1 (.inr ⟨b, hb, hjb⟩))
    ·exact d3 a ha b (by simp [hb]) j hja hjb
   ·simp at ha; subst ha
    have hjx := hc1 j hja
    rcases List.mem_append.1 hb with hb | hb
    ·rcases List.mem_append.1 hb with hb | hb
     ·have := g3 b hb x (by simp)
      unfold covers at *; omega
     ·have := hrp b hb
      unfold covers at *; simp at hja; omega
    ·have := g4 b hb
     unfold covers at *; omega
 ·rw [sumL_append, h.sumG, sumL_cons, sumL_nil]; simp; omega
 ·rw [← h.sum]
  simp only [sumL_append, sumL_cons, sumL_nil]
  omega
theorem sumL_pos {l : List E} (h : ∀ x ∈ l, 1 ≤ x.2) : 0 ≤ sumL l ∧ (sumL l = 0 → l = []) := by
 induction l with
 | nil => simp [sumL]
 | cons x l ih =>
  have h1 := ih (fun y hy => h y (by simp [hy]))
  have h2 := h x (by simp)
  rw [sumL_cons]
  exact ⟨by omega, fun h => by omega⟩
theorem takeL_inv : ∀ (most : Nat) {f : List E} {n0 n : Int} {left got : List E}, TInv f n0 n left got → n ≤ sumL left → 0 ≤ n → ∀ {g l : List E}, takeL most n left got = some (g, l) →
  TInv f n0 0 l g ∧ g.length ≤ got.length + most
 | most, f, n0, n, left, got, h, hn, h0, g, l, hr => by
  unfold takeL at hr
  by_cases hz : n ≤ 0
  ·rw [if_pos hz] at hr
   simp only [Option.some.injEq, Prod.mk.injEq] at hr
   obtain ⟨rfl, rfl⟩ := hr
   obtain rfl : n = 0 := by omega
   exact ⟨h, by omega⟩
  ·rw [if_neg hz] at hr
   cases most with
   | zero => cases hr
   | succ m =>
    simp only at hr
    have hne : left ≠ [] := by rintro rfl; simp [sumL] at hn; omega
    have hlt := chooseI_lt hne n
    rw [List.getElem?_eq_getElem hlt] at hr
    simp only at hr
    have hx : left[chooseI left n]? = some left[chooseI left n] := List.getElem?_eq_getElem hlt
    have hpx := h.plain.pos _ (List.getElem_mem hlt)
    generalize left[chooseI left n] = x at *
    have hs := h.step hx (k := min x.2 n) (by omega) (by omega)
    have hsum := hs.sum
    have hsum0 := h.sum
    have hg0 := h.sumG
    have hg1 := hs.sumG
    have := takeL_inv m hs (by omega) (by omega) hr
    refine ⟨this.1, ?_⟩
    have h2 := this.2
    simp at h2
    omega
end Go.Emb.Ext

namespace Go.Proofs.YtimpadpeibgmoaaGreat
open Go.RowKit Go.Emb Go.Lib Go.Emb.Ext
def encE (x : E) : List Value := [.int .i64 x.1, .int .i64 x.2]
def aggE (x : E) : Value := .agg #[.int .i64 x.1, .int .i64 x.2]
def RdE (w : World) (v : Value) (l : List E) (o : Option Nat) : Prop := Rd w 2 v l.length (l.flatMap encE) o
theorem RdE.keep {F : List Nat} {w w' : World} {v : Value} {l : List E} {o : Option Nat} (h : RdE w v l o) (hk : Keep F w w') (hn : ∀ b, o = some b → b ∉ F) : RdE w' v l o := Rd.keep h hk hn
theorem flatE (l : List E) (k : Nat) (h : k < l.length) : (l.flatMap encE)[k * 2]? = some (.int .i64 l[k].1) ∧ (l.flatMap encE)[k * 2 + 1]? = some (.int .i64 l[k].2) := by
 induction l generalizing k with
 | nil => simp at h
 | cons x l ih =>
  cases k with
  | zero => simp [encE]
  | succ k =>
   have := ih k (by simpa using h)
   rw [List.flatMap_cons]
   have e : (encE x).length = 2 := rfl
   rw [List.getElem?_append_right (by rw [e]; omega), List.getElem?_append_right (by rw [e]; omega), e, show (k + 1) * 2 - 2 = k * 2 by omega, show (k + 1) * 2 + 1 - 2 = k * 2 + 1 by omega]
   simpa using this
theorem RdE.at {w : World} {a : Option Addr} {c n : Nat} {l : List E} {o : Option Nat} (h : RdE w (.slice a n c) l o) {k : Nat} (hk : k < l.length) :
  ∃ b off, a = some ⟨b, off, none⟩ ∧ o = some b ∧ w.cell? ⟨b, off + k * 2, none⟩ = some (.int .i64 l[k].1) ∧ w.cell? ⟨b, off + k * 2 + 1, none⟩ = some (.int .i64 l[k].2) := by
 obtain ⟨hl, a', c', hv, _, _, h3⟩ := h
 cases hv
 rcases h3 with ⟨h3, _⟩ | ⟨b, off, rfl, rfl, h3⟩
 ·omega
 ·obtain ⟨e1, e2⟩ := flatE l k hk
  refine ⟨b, off, rfl, rfl, ?_, ?_⟩
  ·rw [h3 (k * 2) (by omega), e1]
  ·rw [Nat.add_assoc, h3 (k * 2 + 1) (by omega), e2]
theorem right_any (x : E) (w : World) : Calls Tryz.prog 75 #[aggE x] w fun e w' => e = .returned (.bool (right x)) ∧ Keep [] w w' := by
 obtain ⟨f, n⟩ := x
 unfold right aggE
 simp only
 by_cases h1 : 0 ≤ f
 ·by_cases h2 : f ≤ 16384
  ·by_cases h3 : 1 ≤ n
   ·go_enter Tryz.func75, Tryz.ntmps75
    go_wp2_with fail
    go_ret
    exact ⟨by simp [h1, h2, h3], (Keep.refl _ _).alloc _⟩
   ·go_enter Tryz.func75, Tryz.ntmps75
    go_wp2_with fail
    go_ret
    exact ⟨by simp; omega, (Keep.refl _ _).alloc _⟩
  ·go_enter Tryz.func75, Tryz.ntmps75
   go_wp2_with fail
   go_ret
   exact ⟨by simp; omega, (Keep.refl _ _).alloc _⟩
 ·go_enter Tryz.func75, Tryz.ntmps75
  go_wp2_with fail
  go_ret
  exact ⟨by simp; omega, (Keep.refl _ _).alloc _⟩
theorem notRight_any (x : E) (w : World) : Calls Tryz.prog 74 #[aggE x] w fun e w' => e = .returned (.bool (!right x)) ∧ Keep [] w w' := by
 have hr := fun W => right_any x W
 unfold aggE at *
 go_enter Tryz.func74, Tryz.ntmps74
 go_wp2_with (go_at_call 75; refine (hr _).mono ?_; rintro e w' ⟨rfl, hk⟩)
 go_ret
 exact ⟨rfl, ((Keep.refl _ _).alloc _).trans hk (by simp)⟩
def idxP (l : List E) (p : E → Bool) : Int := match l.findIdx? p with | some i => i | none => -1
theorem idxP_at {l : List E} {p : E → Bool} {k : Nat} (hk : k < l.length) (h : p l[k] = true) (hb : ∀ j (hj : j < k), p (l[j]'(by omega)) = false) : idxP l p = k := by
 unfold idxP
 rw [show l.findIdx? p = some k from ?_]
 rw [List.findIdx?_eq_some_iff_getElem]
 exact ⟨hk, h, fun j hj => by simp [hb j hj]⟩
theorem idxP_none {l : List E} {p : E → Bool} (h : ∀ j (hj : j < l.length), p l[j] = false) : idxP l p = -1 := by
 unfold idxP
 rw [show l.findIdx? p = none from ?_]
 rw [List.findIdx?_eq_none_iff]
 intro x hx
 obtain ⟨j, hj, rfl⟩ := List.getElem_of_mem hx
 exact h j hj
theorem idxP_any (l : List E) (p : E → Bool) : decide (0 ≤ idxP l p) = l.any p := by
 unfold idxP
 cases h : l.findIdx? p with
 | none =>
  rw [List.findIdx?_eq_none_iff] at h
  rw [List.any_eq_false.2 (fun x hx => by simp [h x hx])]
  simp
 | some i =>
  obtain ⟨hi, hp, _⟩ := List.findIdx?_eq_some_iff_getElem.1 h
  rw [List.any_eq_true.2 ⟨_, List.getElem_mem hi, hp⟩]
  simp
def NoBefore (l : List E) (p : E → Bool) (k : Nat) : Prop := ∀ j, j < k → ∀ x, l[j]? = some x → p x = false
theorem indexFunc_any {w : World} {v : Value} {l : List E} {o : Option Nat} (hr : RdE w v l o) (hsz : l.length ≤ 1000000000) (ho : ∀ b, o = some b → b < w.heap.size) (g : Nat) (cb : Array Value) (p : E → Bool) (eg : ∀ args w, (callFunc g args).run Tryz.prog w = .ok (.enter g args) w)
  (hf : ∀ x W, Keep [] w W → Calls Tryz.prog g (#[aggE x] ++ cb) W fun e w' => e = .returned (.bool (p x)) ∧ Keep [] W w') :
  Calls Tryz.prog 111 #[v, .func (.func g) #[] cb] w fun e w' => e = .returned (.int .i64 (idxP l p)) ∧ Keep [] w w' := by
 obtain ⟨a, c, rfl⟩ : ∃ a c, v = .slice a l.length c := by obtain ⟨_, a, c, h, _⟩ := hr; exact ⟨a, c, h⟩
 unfold aggE at hf
 have HF := hyd hf
 have HR := hyd hr
 have HO := hyd ho
 clear hf hr ho
 go_enter Tryz.func111, Tryz.ntmps111
 go_wp2_with fail
 go_loopw [5, 8] (fun _ i wr => ∃ k : Nat, k ≤ l.length ∧ i = .int .i64 k ∧ Keep [] w wr ∧ NoBefore l p k) (fun _ i _ => l.length - (intOf i).toNat)
 case atStart => exact ⟨0, Nat.zero_le _, rfl, Keep.refl _ _, fun j hj => absurd hj (Nat.not_lt_zero _)⟩
 case round =>
  obtain ⟨k, hk, rfl, hK, hno⟩ := hrel
  have HK := hyd hK
  have HNO := hyd hno
  clear hK hno
  by_cases hlt : k < l.length
  ·obtain ⟨b, off, rfl, rfl, g0, g1⟩ := HR.o.at hlt
   have c0 : wr.cell? ⟨b, off + k * 2, none⟩ = some (.int .i64 l[k].1) := (HK.o.cell (p := ⟨b, off + k * 2, none⟩) (HO.o b rfl) (by simp)).trans g0
   have c1 : wr.cell? ⟨b, off + k * 2 + 1, none⟩ = some (.int .i64 l[k].2) := (HK.o.cell (p := ⟨b, off + k * 2 + 1, none⟩) (HO.o b rfl) (by simp)).trans g1
   clear g0 g1
   have hcall := HF.o l[k] wr HK.o
   have hx : l[k]? = some l[k] := List.getElem?_eq_getElem hlt
   generalize l[k] = x at *
   have HX := hyd hx
   clear hx
   have i0 : (0 : Int) ≤ (k : Int) := by omega
   have i1 : (k : Int) < (l.length : Int) := by omega
   cases hq : p x with
   | true =>
    rw [hq] at hcall
    have HQ := hyd hq
    clear hq
    go_wp2_with (go_at_fn g; refine hcall.mono ?_; rintro e w' ⟨rfl, hk'⟩)
    go_ret
    refine ⟨?_, HK.o.trans hk' (by simp)⟩
    have := HX.o
    rw [idxP_at hlt (by rw [List.getElem?_eq_getElem hlt] at this; cases this; exact HQ.o) (fun j hj => HNO.o j hj _ (List.getElem?_eq_getElem (by omega)))]
    rfl
   | false =>
    rw [hq] at hcall
    have HQ := hyd hq
    clear hq
    go_wp2_with (go_at_fn g; refine hcall.mono ?_; rintro e w' ⟨rfl, hk'⟩)
    go_roundw
    case rel =>
     refine ⟨k + 1, by omega, by go_num, HK.o.trans hk' (by simp), fun j hj y hy => ?_⟩
     by_cases e : j = k
     ·subst e; rw [HX.o] at hy; cases hy; exact HQ.o
     ·exact HNO.o j (by omega) y hy
    case measure => simp [intOf]; omega
  ·go_wp2_with fail
   go_ret
   refine ⟨?_, HK.o⟩
   rw [idxP_none (fun j hj => HNO.o j (by omega) _ (List.getElem?_eq_getElem hj))]
   rfl
theorem containsFunc_any {w : World} {v : Value} {l : List E} {o : Option Nat} (hr : RdE w v l o) (hsz : l.length ≤ 1000000000) (ho : ∀ b, o = some b → b < w.heap.size) (g : Nat) (cb : Array Value) (p : E → Bool) (eg : ∀ args w, (callFunc g args).run Tryz.prog w = .ok (.enter g args) w)
  (hf : ∀ x W, Keep [] w W → Calls Tryz.prog g (#[aggE x] ++ cb) W fun e w' => e = .returned (.bool (p x)) ∧ Keep [] W w') :
  Calls Tryz.prog 73 #[v, .func (.func g) #[] cb] w fun e w' => e = .returned (.bool (l.any p)) ∧ Keep [] w w' := by
 have h := indexFunc_any hr hsz ho g cb p eg hf
 have hd := idxP_any l p
 have HD := hyd hd
 clear hd hf hr ho
 generalize idxP l p = i at *
 go_enter Tryz.func73, Tryz.ntmps73
 go_wp2_with (go_at_call 111; refine h.mono ?_; rintro e w' ⟨rfl, hk⟩)
 go_ret
 exact ⟨by rw [← HD.o]; rfl, hk⟩
def countE (l : List E) : Int := sumL (l.filter right)
theorem countE_snoc (l : List E) (x : E) : countE (l ++ [x]) = countE l + if right x then x.2 else 0 := by
 unfold countE
 rw [List.filter_append, sumL_append]
 by_cases h : right x = true
 ·simp [List.filter_cons, h, sumL]
 ·simp [List.filter_cons, h, sumL]
theorem countE_bd (l : List E) : 0 ≤ countE l ∧ countE l ≤ l.length * 16384 := by
 induction l with
 | nil => simp [countE, sumL]
 | cons x l ih =>
  have e : countE (x :: l) = (if right x then x.2 else 0) + countE l := by
   unfold countE
   by_cases h : right x = true
   ·simp [List.filter_cons, h, sumL]
   ·simp [List.filter_cons, h, sumL]
  rw [e]
  by_cases h : right x = true
  ·have := (right_iff x).1 h
   rw [if_pos h, List.length_cons]
   omega
  ·rw [if_neg h, List.length_cons]
   omega
theorem countE_right {l : List E} (h : ∀ x ∈ l, right x = true) : countE l = sumL l := by
 unfold countE
 rw [List.filter_eq_self.2 h]
theorem count_any {w : World} {v : Value} {l : List E} {o : Option Nat} (hr : RdE w v l o) (hsz : l.length ≤ 1000000000) (ho : ∀ b, o = some b → b < w.heap.size) :
  Calls Tryz.prog 85 #[v] w fun e w' => e = .returned (.int .i64 (countE l)) ∧ Keep [] w w' := by
 obtain ⟨a, c, rfl⟩ : ∃ a c, v = .slice a l.length c := by obtain ⟨_, a, c, h, _⟩ := hr; exact ⟨a, c, h⟩
 have HR := hyd hr
 have HO := hyd ho
 clear hr ho
 go_enter Tryz.func85, Tryz.ntmps85
 go_wp2_with fail
 go_loopw [2, 7] (fun n i wr => ∃ k : Nat, k ≤ l.length ∧ i = .int .i64 k ∧ Keep [] w wr ∧ n = .int .i64 (countE (l.take k))) (fun _ i _ => l.length - (intOf i).toNat)
 case atStart => exact ⟨0, Nat.zero_le _, rfl, Keep.refl _ _, by simp [countE, sumL]⟩
 case round =>
  obtain ⟨k, hk, rfl, hK, rfl⟩ := hrel
  have HK := hyd hK
  clear hK
  have hbd := countE_bd (l.take k)
  have hll : (l.take k).length ≤ 1000000000 := by simp; omega
  by_cases hlt : k < l.length
  ·obtain ⟨b, off, rfl, rfl, g0, g1⟩ := HR.o.at hlt
   have c0 : wr.cell? ⟨b, off + k * 2, none⟩ = some (.int .i64 l[k].1) := (HK.o.cell (p := ⟨b, off + k * 2, none⟩) (HO.o b rfl) (by simp)).trans g0
   have c1 : wr.cell? ⟨b, off + k * 2 + 1, none⟩ = some (.int .i64 l[k].2) := (HK.o.cell (p := ⟨b, off + k * 2 + 1, none⟩) (HO.o b rfl) (by simp)).trans g1
   clear g0 g1
   have hs : countE (l.take (k + 1)) = countE (l.take k) + if right l[k] then l[k].2 else 0 := by
    rw [List.take_succ_eq_append_getElem hlt, countE_snoc]
   have HS := hyd hs
   clear hs
   generalize countE (l.take k) = s at *
   generalize l[k] = x at *
   have i0 : (0 : Int) ≤ (k : Int) := by omega
   have i1 : (k : Int) < (l.length : Int) := by omega
   have hcall := fun W => right_any x W
   obtain ⟨f, n⟩ := x
   unfold aggE at hcall
   cases hq : right (f, n) with
   | true =>
    have hb := (right_iff _).1 hq
    simp only at hb
    rw [hq] at hcall
    have hs2 : countE (l.take (k + 1)) = s + n := by rw [HS.o, if_pos hq]
    have HS2 := hyd hs2
    clear hs2 HS hq
    go_wp2_with (go_at_call 75; refine (hcall _).mono ?_; rintro e w' ⟨rfl, hk'⟩; have hc1 := (hk'.cell (p := ⟨wr.heap.size, 1, none⟩) (by simp) (by simp)))
    go_roundw
    case rel => exact ⟨k + 1, by omega, by go_num, (HK.o.alloc _).trans hk' (by simp), by rw [HS2.o]⟩
    case measure => simp [intOf]; omega
   | false =>
    rw [hq] at hcall
    have hs2 : countE (l.take (k + 1)) = s := by rw [HS.o, if_neg (by simp [hq])]; omega
    have HS2 := hyd hs2
    clear hs2 HS hq
    go_wp2_with (go_at_call 75; refine (hcall _).mono ?_; rintro e w' ⟨rfl, hk'⟩)
    go_roundw
    case rel => exact ⟨k + 1, by omega, by go_num, (HK.o.alloc _).trans hk' (by simp), by rw [HS2.o]⟩
    case measure => simp [intOf]; omega
  ·go_wp2_with fail
   go_ret
   exact ⟨by rw [List.take_of_length_le (by omega)]; rfl, HK.o⟩
end Go.Proofs.YtimpadpeibgmoaaGreat
