/- Extents: slices.Delete of one. -/
import Derived.Test.YtlfhnbdeadiedaaExt8
import Derived.Test.YtlfhnbdeadiedaaBaseDel
namespace Go.Proofs.Ytlfhnbdeadiedaa
open Go.RowKit Go.Emb Go.Lib Go.Emb.Ext Go.Shelf Go.Sort

theorem encE_one (l : List E) : ∀ u ∈ l.flatMap encE, u.oneCell' = true := by
  intro u hu
  obtain ⟨t, _, ht⟩ := List.mem_flatMap.1 hu
  simp [encE] at ht
  rcases ht with rfl | rfl <;> rfl
theorem flat_take (D : List E) (m : Nat) : (D.flatMap encE).take (m * 2) = (D.take m).flatMap encE := by
  induction D generalizing m with
  | nil => simp
  | cons t D ih =>
    cases m with
    | zero => simp
    | succ m =>
      rw [List.flatMap_cons, List.take_succ_cons, List.flatMap_cons, List.take_append]
      have h1 : (encE t).length = 2 := rfl
      rw [List.take_of_length_le (by rw [h1]; omega), h1, show (m + 1) * 2 - 2 = m * 2 by omega, ih]
theorem flat_drop (D : List E) (m : Nat) : (D.flatMap encE).drop (m * 2) = (D.drop m).flatMap encE := by
  induction D generalizing m with
  | nil => simp
  | cons t D ih =>
    cases m with
    | zero => simp
    | succ m =>
      have h1 : (encE t).length = 2 := rfl
      rw [List.flatMap_cons, List.drop_succ_cons, List.drop_append, List.drop_of_length_le (by rw [h1]; omega), h1, show (m + 1) * 2 - 2 = m * 2 by omega, ih, List.nil_append]
end Go.Proofs.Ytlfhnbdeadiedaa
namespace Go.Emb
open Go.RowKit
theorem Row.cut {w : World} {E k b off n cap : Nat} {xs : List Value} (h : Row w E k (.slice (some ⟨b, off, none⟩) n cap) n xs (some b)) (m : Nat) (hm : m ≤ n) :
    Row w E k (.slice (some ⟨b, off, none⟩) m cap) m (xs.take (m * k)) (some b) := by
  obtain ⟨hl, h⟩ := h
  rcases h with ⟨h, _⟩ | ⟨b', off', cap', cs, e1, e2, hb, h1, h2, h3, h5⟩
  · cases h
  cases e1; cases e2
  have hk1 : m * k ≤ n * k := Nat.mul_le_mul_right _ hm
  refine ⟨by rw [List.length_take, hl]; omega, .inr ⟨b, off, cap, cs, rfl, rfl, hb, by omega, h2, h3, fun i hi => ?_⟩⟩
  rw [List.getElem?_take_of_lt hi]
  exact h5 i (by omega)
theorem Row.capacity {w : World} {E k b off n cap : Nat} {xs : List Value} (h : Row w E k (.slice (some ⟨b, off, none⟩) n cap) n xs (some b)) : n ≤ cap ∧ cap ≤ maxLen := by
  obtain ⟨hl, h⟩ := h
  rcases h with ⟨h, _⟩ | ⟨b', off', cap', cs, e1, e2, hb, h1, h2, h3, h5⟩
  · cases h
  cases e1; cases e2
  exact ⟨h1, h2⟩
end Go.Emb
namespace Go.Proofs.Ytlfhnbdeadiedaa
open Go.RowKit Go.Emb Go.Lib Go.Emb.Ext Go.Shelf Go.Sort

set_option maxHeartbeats 1000000 in
theorem delete_any {w : World} {b off cap : Nat} {l : List E} {i : Nat} (h : RowE w (.slice (some ⟨b, off, none⟩) l.length cap) l (some b)) (hi : i < l.length) (hsz : l.length ≤ 1000000) :
    Calls Try.prog 25 #[.slice (some ⟨b, off, none⟩) l.length cap, .int .i64 i, .int .i64 ((i : Int) + 1)] w fun e w' =>
      e = .returned (.slice (some ⟨b, off, none⟩) (l.length - 1) cap) ∧ RowE w' (.slice (some ⟨b, off, none⟩) (l.length - 1) cap) (l.eraseIdx i) (some b) ∧ Keep [b] w w' := by
  obtain ⟨i0, hif, hz0, hz1, hz2⟩ := info_parts ext_info
  obtain ⟨hcap, hcm⟩ := Row.capacity h
  unfold maxLen at hcm
  have hsk : ∀ w, (sizeOf 36).run Try.prog w = .ok 2 w := Try.sizeOf36
  have hu := Try.underlying22
  have s1 : ∀ W, (Instr.slice 22 (.slice (some ⟨b, off, none⟩) l.length cap) (some (.int .i64 (i : Int))) (some (.int .i64 ((i : Int) + 1))) (some (.int .i64 (l.length : Int)))).run Try.prog W = .ok (.slice (some ⟨b, sliceOff off l.length i 2, none⟩) (i + 1 - i) (l.length - i)) W := fun W => by
    have := run_slice3I W hu hsk b off l.length cap i (i + 1) l.length (by omega) (by omega) (by omega)
    simpa using this
  have s2 : ∀ W, (Instr.slice 22 (.slice (some ⟨b, off, none⟩) l.length cap) none (some (.int .i64 (i : Int))) none).run Try.prog W = .ok (.slice (some ⟨b, off, none⟩) i cap) W := fun W =>
    run_sliceHi W hu hsk b off l.length cap i (by omega)
  have s3 : ∀ W, (Instr.slice 22 (.slice (some ⟨b, off, none⟩) l.length cap) (some (.int .i64 ((i : Int) + 1))) none none).run Try.prog W = .ok (.slice (some ⟨b, sliceOff off cap (i + 1) 2, none⟩) (l.length - (i + 1)) (cap - (i + 1))) W := fun W => by
    have := run_slice_lo W hu hsk b off l.length cap (i + 1) (by omega)
    simpa using this
  have s4 : ∀ W, (Instr.slice 22 (.slice (some ⟨b, off, none⟩) (l.length - 1) cap) (some (.int .i64 ((l.length - 1 : Nat) : Int))) (some (.int .i64 (l.length : Int))) none).run Try.prog W = .ok (.slice (some ⟨b, off + (l.length - 1) * 2, none⟩) 1 (cap - (l.length - 1))) W := fun W => by
    have := run_sliceLH W hu hsk b off (l.length - 1) cap (l.length - 1) l.length (by omega) (by omega)
    rw [this]
    unfold sliceOff
    rw [if_neg (by omega), show l.length - (l.length - 1) = 1 by omega]
  have hcut := Row.cut h i (by omega)
  obtain ⟨o2, hrd, _⟩ := Row.rd (Row.drop h (i + 1) (by omega))
  rw [flat_take] at hcut
  rw [flat_drop] at hrd
  have hne : ((i : Int) == (i : Int) + 1) = false := by simp; omega
  have hlist : (l.take i).flatMap encE ++ (l.drop (i + 1)).flatMap encE = (l.eraseIdx i).flatMap encE := by rw [← List.flatMap_append, List.eraseIdx_eq_take_drop_succ]
  have HIF := Lib.hid hif
  have HCUT := Lib.hid hcut
  have HRD := Lib.hid hrd
  have HLIST := Lib.hid hlist
  clear hif hcut hrd h hsk hlist
  generalize hN : l.length - 1 = N at *
  have hN2 : i + (l.length - (i + 1)) = N := by omega
  have hN3 : N + 1 ≤ cap := by omega
  have HN := Lib.hid hN
  have HN2 := Lib.hid hN2
  clear hN hN2
  go_enter Try.func25, Try.ntmps25
  go_wp2_with fail
  go_region_held3 (fun _ => True) (trivial)
    ((refine step_append_in _ (by rfl) _ _ 22 22 (by rfl) 36 36 i0 2 Try.underlying22 Try.underlying22 HIF.out hz1 b off i cap _ (by rfl) (HCUT.out.keep (Keep.refl [] w).drew (by simp)) (.slice (some ⟨b, sliceOff off cap (i + 1) 2, none⟩) (l.length - (i + 1)) (cap - (i + 1))) (by rfl) (l.length - (i + 1)) _ o2 (HRD.out.keep0 (Keep.refl [] w).drew) (encE_one _) (by omega) N HN2.out ?_; intro w2 hrow2 hk2))
  have HROW2 := Lib.hid hrow2
  have HK2 := Lib.hid hk2
  clear hrow2 hk2
  go_wp2_with (with_reducible refine wpList_clear_behind _ rfl (.tmp 31) 22 rfl 36 _ 2 Try.underlying22 Try.zeroValue36 rfl (by simp [Value.cells, Value.oneCell']) b off N cap _ _ rfl HROW2.out hN3 ?_; intro w3 hrow3 hk3)
  go_ret
  refine ⟨rfl, ?_, ?_⟩
  · unfold RowE
    have := hrow3
    rw [HLIST.out] at this
    rw [List.length_eraseIdx_of_lt hi, HN.out]
    exact this
  · exact ((Keep.refl [b] w).drew.trans HK2.out (fun x hx => .inl hx)).trans hk3 (fun x hx => .inl hx)
end Go.Proofs.Ytlfhnbdeadiedaa
