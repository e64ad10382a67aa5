/- Extents, the document's: Join, Free. -/
import Derived.Test.YtlfhnbdeadiedaaExtR3
namespace Go.Emb.Ext
theorem join_exists {l : List E} (hr : ∀ x ∈ l, right x = true) (hd : Disj l) : ∃ a, JoinRes l a 0 := by
  have hp : (l.mergeSort (fun x y => decide (x.1 ≤ y.1))).Perm l := List.mergeSort_perm _ _
  have hs : (l.mergeSort (fun x y => decide (x.1 ≤ y.1))).Pairwise (fun x y => x.1 ≤ y.1) := by
    have := List.pairwise_mergeSort (le := fun (x y : E) => decide (x.1 ≤ y.1)) (fun a b c h1 h2 => by simp at *; omega) (fun a b => by simp; omega) l
    exact this.imp (fun h => by simpa using h)
  have hpos : ∀ x ∈ l, 1 ≤ x.2 := fun x hx => ((right_iff x).1 (hr x hx)).2.2.1
  cases hj : joinS (l.mergeSort (fun x y => decide (x.1 ≤ y.1))) with
  | none => exact absurd hd (joinS_none hs hp hpos hj)
  | some out =>
    have hok := joinS_some hs hp hpos hj
    refine ⟨out, .inr (.inr ⟨rfl, hr, hok, fun x hx => ?_⟩)⟩
    have hpx := hok.plain.pos x hx
    have c1 : cov l x.1 := (hok.same x.1).1 ⟨x, hx, by unfold covers; omega⟩
    have c2 : cov l (x.1 + x.2 - 1) := (hok.same _).1 ⟨x, hx, by unfold covers; omega⟩
    obtain ⟨y, hy, hy1, hy2⟩ := c1
    obtain ⟨z, hz, hz1, hz2⟩ := c2
    have hyr := (right_iff y).1 (hr y hy)
    have hzr := (right_iff z).1 (hr z hz)
    rw [right_iff]
    omega
theorem JoinRes.of {l out : List E} (hr : ∀ x ∈ l, right x = true) (hd : Disj l) (hp : Plain out) (hc : ∀ i, cov out i ↔ cov l i) : JoinRes l out 0 := by
  obtain ⟨a, ha⟩ := join_exists hr hd
  obtain ⟨_, rfl⟩ := JoinRes.to hr hd hp hc ha
  exact ha
theorem cov_range {l : List E} (hr : ∀ x ∈ l, right x = true) {t : Int} (h : cov l t) : 0 ≤ t ∧ t < 16384 := by
  obtain ⟨x, hx, h1, h2⟩ := h
  have := (right_iff x).1 (hr x hx)
  omega
end Go.Emb.Ext
namespace Go.Proofs.Ytlfhnbdeadiedaa
open Go.RowKit Go.Emb Go.Lib Go.Emb.Ext Go.Shelf Go.Sort

set_option maxHeartbeats 1000000 in
theorem r_join {w : World} {v : Value} {l : List E} (hr : HasE w v l) (hsz : l.length ≤ 1000000) : Calls Try.prog 17 #[v] w (JoinH w l) := by
  obtain ⟨a, c, rfl⟩ := hr.slice
  have HR := Lib.hid hr
  clear hr
  by_cases h0 : l = []
  · subst h0
    simp only [List.length_nil]
    go_enter Try.func17, Try.ntmps17
    go_wp2_with fail
    go_ret2
    exact ⟨_, [], 0, rfl, JoinRes.of (by simp) (by simp [Disj]) Plain.nil (fun _ => Iff.rfl), RowE.has (Row.nil _ _ _), Keep.refl _ _⟩
  · have hl0 : ((l.length : Int) == 0) = false := by
      have := List.length_pos_iff.2 h0
      simp; omega
    clear h0
    go_enter Try.func17, Try.ntmps17
    go_wp2_with fail
    refine (marks_any HR.out hsz).mono ?_
    rintro e w1 ⟨vm, err, rfl, hk1, hcase⟩
    have K1 := Lib.hid hk1
    clear hk1
    rcases hcase with ⟨rfl, h⟩ | ⟨rfl, h1, h2⟩ | ⟨rfl, h1, h2, b, xs, rfl, -, hrow, hmk⟩
    · have H := Lib.hid h
      clear h
      go_wp2_with fail
      go_ret2
      exact ⟨_, [], 2, rfl, .inl ⟨rfl, rfl, H.out⟩, RowE.has (Row.nil _ _ _), K1.out⟩
    · have H1 := Lib.hid h1
      have H2 := Lib.hid h2
      clear h1 h2
      go_wp2_with fail
      go_ret2
      exact ⟨_, [], 8, rfl, .inr (.inl ⟨rfl, rfl, H1.out, H2.out⟩), RowE.has (Row.nil _ _ _), K1.out⟩
    · obtain ⟨o', hrd, -⟩ := Row.rd hrow.2
      have hpl := plain_any hrd (Nat.le_refl _) true
      have H1 := Lib.hid h1
      have H2 := Lib.hid h2
      have HMK := Lib.hid hmk
      clear h1 h2 hmk hrow hrd
      go_wp2_with fail
      refine hpl.mono ?_
      rintro e w2 ⟨vo, out, rfl, ho, hk2, hp, hbd, hc, hlen⟩
      have HO := Lib.hid ho
      have HP := Lib.hid hp
      have HC := Lib.hid hc
      have K2 := Lib.hid (K1.out.trans hk2 (by simp))
      clear ho hp hc hk2 hpl hbd hlen
      go_wp2_with fail
      go_ret2
      refine ⟨vo, out, 0, rfl, JoinRes.of H1.out H2.out HP.out (fun t => ?_), HO.out, K2.out⟩
      rw [HC.out]
      constructor
      · rintro ⟨t1, t2, t3⟩
        have : cov l ((t.toNat : Nat) : Int) := (HMK.out t.toNat (by omega)).1 t3
        rwa [show ((t.toNat : Nat) : Int) = t by omega] at this
      · intro h
        have h5 := cov_range H1.out h
        refine ⟨h5.1, by omega, (HMK.out t.toNat (by omega)).2 ?_⟩
        show cov l ((t.toNat : Nat) : Int)
        rwa [show ((t.toNat : Nat) : Int) = t by omega]
end Go.Proofs.Ytlfhnbdeadiedaa
