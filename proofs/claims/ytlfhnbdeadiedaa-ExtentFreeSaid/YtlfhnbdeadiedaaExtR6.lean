/- Extents, the document's: Free. -/
import Derived.Test.YtlfhnbdeadiedaaExtR4
import Derived.Test.YtlfhnbdeadiedaaBaseApp2
namespace Go.Emb.Ext
theorem FreeRes.uniq {blocks : Int} {l a b : List E} {e e' : Int} (h : FreeRes blocks l a e) (h' : FreeRes blocks l b e') : a = b ∧ e = e' := by
  rcases h with ⟨h0, h1, h2⟩ | ⟨h0, x, e1, hj, h⟩ <;> rcases h' with ⟨k0, k1, k2⟩ | ⟨k0, y, e1', hj', h'⟩
  · exact ⟨by rw [h2, k2], by rw [h1, k1]⟩
  · omega
  · omega
  · obtain ⟨rfl, rfl⟩ := hj.uniq hj'
    rcases h with ⟨h1, h2, h3⟩ | ⟨h1, ⟨z, hz, hz2⟩, h3, h4⟩ | ⟨h1, h2, h3, h4⟩ <;> rcases h' with ⟨k1, k2, k3⟩ | ⟨k1, ⟨u, hu, hu2⟩, k3, k4⟩ | ⟨k1, k2, k3, k4⟩
    · exact ⟨by rw [h3, k3], by rw [h2, k2]⟩
    · exact absurd k1 h1
    · exact absurd k1 h1
    · exact absurd h1 k1
    · exact ⟨by rw [h4, k4], by rw [h3, k3]⟩
    · have := k2 z hz; omega
    · exact absurd h1 k1
    · have := h2 u hu; omega
    · exact ⟨by rw [h4, k4], by rw [h3, k3]⟩
end Go.Emb.Ext
namespace Go.Proofs.Ytlfhnbdeadiedaa
open Go.RowKit Go.Emb Go.Lib Go.Emb.Ext Go.Shelf Go.Sort

/-- what is marked from blocks on -/
theorem mark_over {l a : List E} {xs : List Bool} (hj : JoinRes l a 0) (hmk : Marked xs (fun t => cov l t)) {blocks : Nat} (_ : blocks ≤ 16384) :
    (∀ t, blocks ≤ t → t < 32769 → xs[t]? = some true → ∃ x ∈ a, (blocks : Int) < x.1 + x.2) ∧ ((∀ t, blocks ≤ t → t < 32769 → ¬ xs[t]? = some true) → ∀ x ∈ a, x.1 + x.2 ≤ (blocks : Int)) := by
  obtain ⟨hlr, hok, har⟩ := hj.ok
  constructor
  · intro t h1 h2 h3
    have hc : cov l (t : Int) := (hmk t h2).1 h3
    obtain ⟨x, hx, h4, h5⟩ := (hok.same t).2 hc
    exact ⟨x, hx, by omega⟩
  · intro h x hx
    refine Classical.byContradiction fun hn => ?_
    have hxr := (right_iff x).1 (har x hx)
    have hc : cov l (((x.1 + x.2 - 1).toNat : Nat) : Int) := (hok.same _).1 ⟨x, hx, by unfold covers; omega⟩
    exact h (x.1 + x.2 - 1).toNat (by omega) (by omega) ((hmk _ (by omega)).2 hc)

set_option maxRecDepth 100000 in
set_option maxHeartbeats 1000000 in
theorem r_free {w : World} {v : Value} {l : List E} (blocks : Int) (hr : HasE w v l) (hsz : l.length ≤ 1000000) : Calls Try.prog 18 #[.int .i64 blocks, v] w (FreeH w blocks l) := by
  obtain ⟨a, c, rfl⟩ := hr.slice
  have HR := Lib.hid hr
  clear hr
  by_cases hb1 : blocks < 1
  · go_enter Try.func18, Try.ntmps18
    go_wp2_with fail
    go_ret2
    exact ⟨_, [], 2, rfl, .inl ⟨.inl hb1, rfl, rfl⟩, RowE.has (Row.nil _ _ _), Keep.refl _ _⟩
  by_cases hb2 : 16384 < blocks
  · go_enter Try.func18, Try.ntmps18
    go_wp2_with fail
    go_ret2
    exact ⟨_, [], 2, rfl, .inl ⟨.inr hb2, rfl, rfl⟩, RowE.has (Row.nil _ _ _), Keep.refl _ _⟩
  obtain ⟨nb, rfl⟩ := Int.eq_ofNat_of_zero_le (show 0 ≤ blocks by omega)
  have hb3 : 1 ≤ nb := by omega
  have hb4 : nb ≤ 16384 := by omega
  go_enter Try.func18, Try.ntmps18
  go_wp2_with fail
  refine (marks_any HR.out hsz).mono ?_
  rintro e w1 ⟨vm, err, rfl, hk1, hcase⟩
  have K1 := Lib.hid hk1
  clear hk1
  rcases hcase with ⟨rfl, h⟩ | ⟨rfl, h1, h2⟩ | ⟨rfl, h1, h2, b, xs, rfl, -, hrow, hmk⟩
  · have H := Lib.hid h
    clear h
    go_wp2_with fail
    go_ret2
    exact ⟨_, [], 2, rfl, .inr ⟨⟨by omega, by omega⟩, [], 2, .inl ⟨rfl, rfl, H.out⟩, .inl ⟨by omega, rfl, rfl⟩⟩, RowE.has (Row.nil _ _ _), K1.out⟩
  · have H1 := Lib.hid h1
    have H2 := Lib.hid h2
    clear h1 h2
    go_wp2_with fail
    go_ret2
    exact ⟨_, [], 8, rfl, .inr ⟨⟨by omega, by omega⟩, [], 8, .inr (.inl ⟨rfl, rfl, H1.out, H2.out⟩), .inl ⟨by omega, rfl, rfl⟩⟩, RowE.has (Row.nil _ _ _), K1.out⟩
  · obtain ⟨A, hA⟩ := join_exists h1 h2
    obtain ⟨hov1, hov2⟩ := mark_over hA hmk hb4
    have HA := Lib.hid hA
    have HROW := Lib.hid hrow
    have HMK := Lib.hid hmk
    have HOV1 := Lib.hid hov1
    have HOV2 := Lib.hid hov2
    clear h1 h2 hA hrow hmk hov1 hov2
    go_wp2_with fail
    go_loopw [8] (fun i wr => ∃ k : Nat, nb ≤ k ∧ k ≤ 32769 ∧ i = .int .i64 k ∧ (∀ t, nb ≤ t → t < k → ¬ xs[t]? = some true) ∧ wr = w1) (fun i _ => 32769 - (intOf i).toNat)
    case atStart => exact ⟨nb, Nat.le_refl _, by omega, rfl, fun t h1 h2 => by omega, rfl⟩
    case round =>
      obtain ⟨k, hk1, hk2, rfl, hno, rfl⟩ := hrel
      have HNO := Lib.hid hno
      clear hno
      by_cases hlt : k < 32769
      · obtain ⟨x, hx, hc, -⟩ := HROW.out.cell hlt
        have q0 : (0 : Int) ≤ (k : Int) := by omega
        have q1 : (k : Int) < 32769 := by omega
        cases x with
        | true =>
          obtain ⟨y, hy, hy2⟩ := HOV1.out k hk1 hlt hx
          have HY := Lib.hid hy
          clear hx hy
          go_wp2_with fail
          go_ret2
          exact ⟨_, [], 2, rfl, .inr ⟨⟨by omega, by omega⟩, A, 0, HA.out, .inr (.inl ⟨rfl, ⟨y, HY.out, hy2⟩, rfl, rfl⟩)⟩, RowE.has (Row.nil _ _ _), K1.out⟩
        | false =>
          have hno2 : ∀ t, nb ≤ t → t < k + 1 → ¬ xs[t]? = some true := by
            intro t h1 h2 h3
            by_cases e : t = k
            · subst e; rw [hx] at h3; cases h3
            · exact HNO.out t h1 (by omega) h3
          have HNO2 := Lib.hid hno2
          clear hno2 hx
          go_wp2_with fail
          go_roundw
          case rel => exact ⟨k + 1, by omega, by omega, by go_num, HNO2.out, by trivial⟩
          case measure => simp [intOf]; omega
      · have q1 : ¬ (k : Int) < 32769 := by omega
        have hall := HOV2.out (fun t h1 h2 => HNO.out t h1 (by omega))
        have hsl : ∀ W, (Instr.slice 56 (.slice (some ⟨b, 0, none⟩) 32769 32769) none (some (.int .i64 (nb : Int))) none).run Try.prog W = .ok (.slice (some ⟨b, 0, none⟩) nb 32769) W := fun W => run_sliceHi W Try.underlying56 Try.sizeOf4 b 0 32769 32769 nb (by omega)
        have hcut := Row.cut HROW.out.2 nb (by omega)
        obtain ⟨o', hrd, -⟩ := Row.rd hcut
        rw [Nat.mul_one, ← List.map_take] at hrd
        have hpl := plain_any hrd (by omega) false
        have HALL := Lib.hid hall
        clear hall hcut hrd
        go_wp2_with fail
        refine hpl.mono ?_
        rintro e w2 ⟨vo, out, rfl, ho, hk2', hp, hbd, hc, hlen⟩
        have HO := Lib.hid ho
        have HP := Lib.hid hp
        have HC := Lib.hid hc
        have K2 := Lib.hid (K1.out.trans hk2' (by simp))
        clear ho hp hc hk2' hpl hbd hlen hsl
        go_wp2_with fail
        go_ret2
        obtain ⟨hlr, hok, har⟩ := HA.out.ok
        obtain ⟨i1, i2, _, _⟩ := freeFrom_ok (nb : Int) A 0 hok.plain (fun y hy => ⟨((right_iff y).1 (har y hy)).1, HALL.out y hy⟩) (by omega)
        have heq : out = freeFrom (nb : Int) 0 A := Plain.eq HP.out i1 (fun t => by
          rw [HC.out, i2, hok.same]
          constructor
          · rintro ⟨t1, t2, t3⟩
            refine ⟨⟨t1, t2⟩, fun hcov => ?_⟩
            rw [List.getElem?_take_of_lt (by omega)] at t3
            have : xs[t.toNat]? = some true := (HMK.out t.toNat (by omega)).2 (by show cov l ((t.toNat : Nat) : Int); rwa [show ((t.toNat : Nat) : Int) = t by omega])
            rw [this] at t3
            cases t3
          · rintro ⟨⟨t1, t2⟩, t3⟩
            refine ⟨t1, t2, ?_⟩
            rw [List.getElem?_take_of_lt (by omega)]
            have hxl := HROW.out.1
            cases hx : xs[t.toNat]? with
            | none => rw [List.getElem?_eq_none_iff] at hx; omega
            | some x =>
              cases x with
              | false => rfl
              | true =>
                have : cov l ((t.toNat : Nat) : Int) := (HMK.out t.toNat (by omega)).1 hx
                rw [show ((t.toNat : Nat) : Int) = t by omega] at this
                exact absurd this t3)
        exact ⟨vo, out, 0, rfl, .inr ⟨⟨by omega, by omega⟩, A, 0, HA.out, .inr (.inr ⟨rfl, HALL.out, rfl, heq⟩)⟩, HO.out, K2.out⟩
end Go.Proofs.Ytlfhnbdeadiedaa
