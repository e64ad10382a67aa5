/- Extents: the plain laws behind the statements, continued. -/
import Derived.Test.YtlfhnbdeadiedaaExtLaws
namespace Go.Emb.Ext
theorem JoinRes.to {l a out : List E} {e : Int} (hr : ∀ x ∈ l, right x = true) (hd : Disj l) (hp : Plain out) (hc : ∀ i, cov out i ↔ cov l i) (h : JoinRes l a e) : e = 0 ∧ a = out := by
  rcases h with ⟨_, _, x, hx, hn⟩ | ⟨_, _, _, hn⟩ | ⟨h0, _, hok, _⟩
  · rw [hr x hx] at hn; cases hn
  · exact absurd hd hn
  · exact ⟨h0, Plain.eq hok.plain hp fun i => by rw [hok.same, hc]⟩
theorem JoinRes.perm {l l' a : List E} {e : Int} (hp : l.Perm l') (h : JoinRes l a e) : JoinRes l' a e := by
  rcases h with ⟨h0, h1, x, hx, hn⟩ | ⟨h0, h1, h2, h3⟩ | ⟨h0, h1, h2, h3⟩
  · exact .inl ⟨h0, h1, x, hp.mem_iff.1 hx, hn⟩
  · exact .inr (.inl ⟨h0, h1, fun x hx => h2 x (hp.mem_iff.2 hx), fun hd => h3 (hd.perm hp.symm)⟩)
  · exact .inr (.inr ⟨h0, fun x hx => h1 x (hp.mem_iff.2 hx), ⟨fun x hx => h2.pos x (hp.mem_iff.2 hx), h2.plain, fun i => (h2.same i).trans (cov_perm hp i), h2.sum.trans (sumL_perm hp), h2.disj.perm hp, by rw [← hp.length_eq]; exact h2.len⟩, h3⟩)
theorem JoinRes.plain {l a : List E} {e : Int} (hp : Plain l) (hr : ∀ x ∈ l, right x = true) (h : JoinRes l a e) : e = 0 ∧ a = l := JoinRes.to hr hp.disj hp (fun _ => Iff.rfl) h
theorem JoinRes.nil {l a : List E} {e : Int} (h : JoinRes l a e) (he : e ≠ 0) : a = [] := by
  rcases h with ⟨_, h, _⟩ | ⟨_, h, _⟩ | ⟨h0, _⟩
  · exact h
  · exact h
  · exact absurd h0 he
theorem FreeRes.nil {blocks : Int} {l a : List E} {e : Int} (h : FreeRes blocks l a e) (he : e ≠ 0) : a = [] := by
  rcases h with ⟨_, _, h⟩ | ⟨_, _, _, _, h⟩
  · exact h
  · rcases h with ⟨_, _, h⟩ | ⟨_, _, _, h⟩ | ⟨_, _, h, _⟩
    · exact h
    · exact h
    · exact absurd h he
theorem FreeRes.zero {blocks : Int} {l x : List E} (h : FreeRes blocks l x 0) : (1 ≤ blocks ∧ blocks ≤ 16384) ∧ ∃ a, JoinRes l a 0 ∧ (∀ y ∈ a, y.1 + y.2 ≤ blocks) ∧ x = freeFrom blocks 0 a := by
  rcases h with ⟨_, h, _⟩ | ⟨hb, a, e1, hj, h⟩
  · cases h
  · rcases h with ⟨h1, h2, _⟩ | ⟨_, _, h, _⟩ | ⟨rfl, h1, _, h2⟩
    · exact absurd h2.symm h1
    · cases h
    · exact ⟨hb, a, hj, h1, h2⟩
/-- what is free is plain, right, all that is not used -/
theorem free_facts {blocks : Int} {l x : List E} (h : FreeRes blocks l x 0) : ∃ a, JoinRes l a 0 ∧ (1 ≤ blocks ∧ blocks ≤ 16384) ∧ Plain x ∧ (∀ y ∈ x, right y = true) ∧ (∀ y ∈ x, y.1 + y.2 ≤ blocks) ∧ (∀ y ∈ a, y.1 + y.2 ≤ blocks) ∧
    (∀ i, cov x i ↔ (0 ≤ i ∧ i < blocks) ∧ ¬ cov a i) ∧ sumL x + sumL a = blocks ∧ (∀ i, cov a i → 0 ≤ i ∧ i < blocks) := by
  obtain ⟨hb, a, hj, he, rfl⟩ := h.zero
  obtain ⟨hlr, hok, har⟩ := hj.ok
  obtain ⟨i1, i2, i3, i4⟩ := freeFrom_ok blocks a 0 hok.plain (fun y hy => ⟨((right_iff y).1 (har y hy)).1, he y hy⟩) (by omega)
  refine ⟨a, hj, hb, i1, fun y hy => ?_, fun y hy => (i4 y hy).2, he, i2, by omega, ?_⟩
  · have h1 := i4 y hy
    have h2 := i1.pos y hy
    rw [right_iff]
    omega
  · rintro i ⟨y, hy, h1, h2⟩
    have h3 := (right_iff y).1 (har y hy)
    have h4 := he y hy
    omega
theorem free_free {blocks i : Int} {l x y a : List E} (h : FreeRes blocks l x 0) (hja : JoinRes l a 0) (hy : FreeRes blocks x y i) : i = 0 ∧ y = a := by
  obtain ⟨a', hj, hb, hp, hr, he, hae, hc, hs, ha⟩ := free_facts h
  obtain ⟨rfl, -⟩ := hja.uniq hj
  have hap := hja.ok.2.1.plain
  rcases hy with ⟨h1, _⟩ | ⟨_, x', e1, hj1, h2⟩
  · omega
  obtain ⟨rfl, rfl⟩ := JoinRes.plain hp hr hj1
  rcases h2 with ⟨h2, _⟩ | ⟨_, ⟨z, hz, h2⟩, _⟩ | ⟨_, h2, h3, h4⟩
  · exact absurd rfl h2
  · have := he z hz; omega
  · refine ⟨h3, ?_⟩
    obtain ⟨j1, j2, _, _⟩ := freeFrom_ok blocks x' 0 hp (fun z hz => ⟨((right_iff z).1 (hr z hz)).1, he z hz⟩) (by omega)
    rw [h4]
    refine Plain.eq j1 hap fun k => ?_
    rw [j2, hc]
    constructor
    · rintro ⟨h5, h6⟩
      exact Classical.byContradiction fun h7 => h6 ⟨h5, h7⟩
    · intro h5
      exact ⟨ha k h5, fun h6 => h6.2 h5⟩
theorem len_le_sum {l : List E} (h : ∀ x ∈ l, 1 ≤ x.2) : (l.length : Int) ≤ sumL l := by
  induction l with
  | nil => simp [sumL]
  | cons x l ih =>
    have h1 := ih (fun y hy => h y (by simp [hy]))
    have h2 := h x (by simp)
    rw [sumL_cons, List.length_cons]
    omega
theorem disj_append {a b : List E} (ha : Disj a) (hb : Disj b) (h : ∀ i, cov a i → ¬ cov b i) : Disj (a ++ b) :=
  List.pairwise_append.2 ⟨ha, hb, fun x hx y hy i h1 h2 => h i ⟨x, hx, h1⟩ ⟨y, hy, h2⟩⟩
theorem disj_cov {a b : List E} (h : Disj (a ++ b)) (i : Int) : cov a i → ¬ cov b i := by
  rintro ⟨x, hx, h1⟩ ⟨y, hy, h2⟩
  exact (List.pairwise_append.1 h).2.2 x hx y hy i h1 h2

theorem whole_law1 {blocks : Int} {used f all : List E} {g : Int} (h : FreeRes blocks used f 0) (hall : JoinRes (f ++ used) all g) : g = 0 ∧ all = [(0, blocks)] ∧ sumL f + sumL used = blocks ∧ (∀ x ∈ f, right x = true) ∧ (∀ x ∈ used, right x = true) ∧ Plain f ∧ (f.length : Int) ≤ 16384 := by
  obtain ⟨a, hj, hb, hp, hr, he, hae, hc, hs, ha⟩ := free_facts h
  obtain ⟨hur, hok, har⟩ := hj.ok
  have hlen := len_le_sum hp.pos
  have hle := sumL_le hp hr
  have hps : Plain [((0 : Int), blocks)] := ⟨by simp; omega, by simp⟩
  have := JoinRes.to (out := [(0, blocks)]) (by
    intro x hx
    rcases List.mem_append.1 hx with hx | hx
    · exact hr x hx
    · exact hur x hx) (disj_append hp.disj hok.disj (fun i h1 h2 => ((hc i).1 h1).2 ((hok.same i).2 h2))) hps (fun i => by
    rw [cov_append, hc, ← hok.same, cov_one]
    unfold covers
    simp only [Int.zero_add]
    constructor
    · intro h1
      by_cases h2 : cov a i
      · exact .inr h2
      · exact .inl ⟨h1, h2⟩
    · rintro (⟨h1, _⟩ | h1)
      · exact h1
      · exact ha i h1) hall
  exact ⟨this.1, this.2, by rw [← hok.sum]; exact hs, hr, hur, hp, by omega⟩

theorem whole_law2 {n most h : Int} {f got left : List E} (hp : Plain f) (hr : ∀ x ∈ f, right x = true) (ht : TakeRes n most f got left h) :
    (h ≠ 0 → got = [] ∧ left = []) ∧ (h = 0 → (∀ again i, JoinRes (got ++ left) again i → i = 0 ∧ again = f) ∧ sumL got = n ∧ (∀ x ∈ got, right x = true) ∧ (got.length : Int) ≤ most) ∧ got.length ≤ 16384 ∧ left.length ≤ 16384 := by
  rcases ht with ⟨_, h1, rfl, rfl⟩ | ⟨hnm, a, e1, hj, ht⟩
  · exact ⟨fun _ => ⟨rfl, rfl⟩, (fun h0 => by rw [h1] at h0; cases h0), by simp, by simp⟩
  obtain ⟨rfl, rfl⟩ := JoinRes.plain hp hr hj
  rcases ht with ⟨h1, _⟩ | ⟨_, _, h1, rfl, rfl⟩ | ⟨_, hle, g, htk, hgr, hjg⟩
  · exact absurd rfl h1
  · exact ⟨fun _ => ⟨rfl, rfl⟩, (fun h0 => by rw [h1] at h0; cases h0), by simp, by simp⟩
  · obtain ⟨hinv, hlen⟩ := takeL_inv most.toNat (TInv.start hp n) hle hnm.1 htk
    have hdg : Disj g := (List.pairwise_append.1 hinv.disj).1
    obtain ⟨h0, hok, hgotr⟩ : h = 0 ∧ JoinOk g got ∧ ∀ x ∈ got, right x = true := by
      rcases hjg with ⟨_, _, x, hx, hn⟩ | ⟨_, _, _, hn⟩ | ⟨h0, _, hok, hg⟩
      · rw [hgr x hx] at hn; cases hn
      · exact absurd hdg hn
      · exact ⟨h0, hok, hg⟩
    have hsf := sumL_le hp hr
    have hleft : ∀ x ∈ left, right x = true := by
      intro x hx
      have hpx := hinv.plain.pos x hx
      have c1 : cov a x.1 := (hinv.same x.1).1 ((cov_append _ _ _).2 (.inr ⟨x, hx, by unfold covers; omega⟩))
      have c2 : cov a (x.1 + x.2 - 1) := (hinv.same _).1 ((cov_append _ _ _).2 (.inr ⟨x, hx, by unfold covers; omega⟩))
      obtain ⟨y, hy, hy1, hy2⟩ := c1
      obtain ⟨z, hz, hz1, hz2⟩ := c2
      have hyr := (right_iff y).1 (hr y hy)
      have hzr := (right_iff z).1 (hr z hz)
      rw [right_iff]
      omega
    have hgs := hinv.sumG
    have hss := hinv.sum
    have hgl := len_le_sum hok.plain.pos
    have hll := len_le_sum hinv.plain.pos
    have hlp := (sumL_pos hinv.plain.pos).1
    have hgp := (sumL_pos hinv.posG).1
    have hgsum := hok.sum
    refine ⟨fun hne => absurd h0 hne, fun _ => ⟨fun again i hag => ?_, by rw [hok.sum, hgs]; omega, hgotr, ?_⟩, by omega, by omega⟩
    · refine JoinRes.to (fun x hx => ?_) (disj_append hok.plain.disj hinv.plain.disj (fun j h1 h2 => disj_cov hinv.disj j ((hok.same j).1 h1) h2)) hp (fun j => ?_) hag
      · rcases List.mem_append.1 hx with hx | hx
        · exact hgotr x hx
        · exact hleft x hx
      · rw [← hinv.same, cov_append, cov_append, hok.same]
    · have := hok.len
      simp at hlen
      omega
end Go.Emb.Ext
namespace Go.Emb.Ext
theorem JoinRes.len {l a : List E} {e : Int} (h : JoinRes l a e) : a.length ≤ l.length := by
  rcases h with ⟨_, rfl, _⟩ | ⟨_, rfl, _⟩ | ⟨_, _, hok, _⟩
  · simp
  · simp
  · exact hok.len
theorem FreeRes.len {blocks : Int} {l a : List E} {e : Int} (h : FreeRes blocks l a e) : a.length ≤ 16384 := by
  by_cases he : e = 0
  · subst he
    obtain ⟨_, _, _, hp, hr, _⟩ := free_facts h
    have h1 := len_le_sum hp.pos
    have h2 := sumL_le hp hr
    omega
  · rw [h.nil he]; simp
end Go.Emb.Ext
