import Derived.Test.YtdmmhfbafinkpaaGreatDoorPa22
/- Parse: the document's SameAll of equal programs. Printed by gen-pa23.py. -/
namespace Go.Proofs.YtdmmhfbafinkpaaGreatDoor
open Go.RowKit Go.Emb Go.Shelf

theorem FsR.at1 {S : Nat → Prop} {w : World} {a : Option Addr} {n c : Nat} {l : List (List Nd)} (h : FsR S w (.slice a n c) l) {i : Nat} (hi : i < l.length) :
    ∃ b off v, a = some ⟨b, off, none⟩ ∧ S b ∧ NsR S w true v l[i] ∧ w.cell? ⟨b, off + i, none⟩ = some v := by
  obtain ⟨es, o, ⟨-, a', c', e, h1, h2, h3⟩, hs, hl, ht⟩ := h
  cases e
  rcases h3 with ⟨h3, _⟩ | ⟨b, off, rfl, ho, h3⟩
  · rw [h3] at hi; simp at hi
  · exact ⟨b, off, es[i], rfl, hs b ho, ht i (by omega) hi, by rw [h3 i (by omega)]; simp [hl, hi]⟩
set_option maxRecDepth 100000 in
set_option maxHeartbeats 4000000 in
theorem p_sameAll {w : World} {S S' : Nat → Prop} {v v' : Value} {l : List (List Nd)} (h : FsR S w v l) (h' : FsR S' w v' l) :
    Calls Tryz.prog 14 #[v, v', .bool false] w (YesP w) := by
  obtain ⟨q1, r1, rfl⟩ := h.form
  obtain ⟨q2, r2, rfl⟩ := h'.form
  have hlm : l.length ≤ 9223372036854775807 := by obtain ⟨es, o, ⟨-, a, c, e, h1, h2, -⟩, -⟩ := h; cases e; unfold maxLen at h2; omega
  have H1 := Lib.hid h
  have H2 := Lib.hid h'
  clear h h'
  go_enter Tryz.func14, Tryz.ntmps14
  go_wp2_with fail
  go_loopw [7] (fun v wr => ∃ k : Nat, k ≤ l.length ∧ v = .int .i64 k ∧ Keep [] w wr) (fun v _ => l.length - (RowKit.intOf v).toNat)
  case atStart => exact ⟨0, Nat.zero_le _, rfl, Keep.refl _ _⟩
  case round =>
    obtain ⟨i, hk, rfl, hkw⟩ := hrel
    have HKW := Lib.hid hkw
    by_cases hi : i < l.length
    · have hlt : (i : Int) < (l.length : Int) := by omega
      have hge : (0 : Int) ≤ (i : Int) := by omega
      have hw2 : IntKind.i64.wrap ((i : Int) + 1) = (i : Int) + 1 := IntWalk.i64_in _ (by omega)
      obtain ⟨ab, aoff, va, rfl, -, hna, hca⟩ := (H1.out.keep hkw (by simp)).at1 hi
      obtain ⟨bb, boff, vb, rfl, -, hnb, hcb⟩ := (H2.out.keep hkw (by simp)).at1 hi
      have HAC := Lib.hid hca
      have HBC := Lib.hid hcb
      have HAL := Lib.hid (World.block_lt_of_cell? _ _ hca)
      have HBL := Lib.hid (World.block_lt_of_cell? _ _ hcb)
      have HCALL := Lib.hid (fun (W : World) (hk : Keep [] wr W) => (sameC _).clauses (hna.keep hk (by simp)) (hnb.keep hk (by simp)) (Nat.lt_succ_self _))
      obtain ⟨a1, z1, rfl⟩ := hna.form
      obtain ⟨b1, y1, rfl⟩ := hnb.form
      clear hkw hna hnb hca hcb
      go_wp2_with fail
      refine wp_regionB [9] (fun w' => Keep [] wr w') (by kernel_rfl) ?_
      refine wpAnyB_takeY (i := 0) (v := ?vA0) rfl (by kernel_rfl) (by kernel_rfl) (by kernel_rfl) (by kernel_rfl) (fun _ _ _ h => h) (Or.inl ⟨by kernel_rfl, ?runA0⟩) ?_
      case runA0 => (intro w9 _; go_simp; try exact rfl)
      try simp only [Act.put, List.setIfInBounds_toArray, List.set_cons_zero, List.set_cons_succ]
      refine wpAnyB_takeY (i := 1) (v := ?vA1) rfl (by kernel_rfl) (by kernel_rfl) (by kernel_rfl) (by kernel_rfl) (fun _ _ _ h => h) (Or.inl ⟨by kernel_rfl, ?runA1⟩) ?_
      case runA1 => (intro w9 _; go_simp; try exact rfl)
      try simp only [Act.put, List.setIfInBounds_toArray, List.set_cons_zero, List.set_cons_succ]
      refine wpAnyB_takeY (i := 2) (v := ?vA2) rfl (by kernel_rfl) (by kernel_rfl) (by kernel_rfl) (by kernel_rfl) (fun _ _ _ h => h) (Or.inl ⟨by kernel_rfl, ?runA2⟩) ?_
      case runA2 => (intro w9 _; go_simp; try exact rfl)
      try simp only [Act.put, List.setIfInBounds_toArray, List.set_cons_zero, List.set_cons_succ]
      refine wpAnyB_takeY (i := 3) (v := ?vA3) rfl (by kernel_rfl) (by kernel_rfl) (by kernel_rfl) (by kernel_rfl) (fun _ _ _ h => h) (Or.inl ⟨by kernel_rfl, ?runA3⟩) ?_
      case runA3 => (intro w9 _; go_simp; try exact rfl)
      try simp only [Act.put, List.setIfInBounds_toArray, List.set_cons_zero, List.set_cons_succ]
      refine wpAnyB_takeY (i := 5) (v := ?vA5) rfl (by kernel_rfl) (by kernel_rfl) (by kernel_rfl) (by kernel_rfl) (fun _ _ _ h => h) (Or.inl ⟨by kernel_rfl, ?runA5⟩) ?_
      case runA5 => (intro w9 _; go_simp; try exact rfl)
      try simp only [Act.put, List.setIfInBounds_toArray, List.set_cons_zero, List.set_cons_succ]
      refine wpAnyB_takeY (i := 6) (v := ?vA6) rfl (by kernel_rfl) (by kernel_rfl) (by kernel_rfl) (by kernel_rfl) (fun _ _ _ h => h) (Or.inl ⟨by kernel_rfl, ?runA6⟩) ?_
      case runA6 => (intro w9 _; go_simp; try exact rfl)
      try simp only [Act.put, List.setIfInBounds_toArray, List.set_cons_zero, List.set_cons_succ]
      refine wpAnyB_takeY (i := 7) (v := ?vA7) rfl (by kernel_rfl) (by kernel_rfl) (by kernel_rfl) (by kernel_rfl) (fun _ _ _ h => h) (Or.inl ⟨by kernel_rfl, ?runA7⟩) ?_
      case runA7 => (intro w9 _; go_simp; try exact rfl)
      try simp only [Act.put, List.setIfInBounds_toArray, List.set_cons_zero, List.set_cons_succ]
      refine wpAnyB_takeY (i := 8) (v := ?vA8) rfl (by kernel_rfl) (by kernel_rfl) (by kernel_rfl) (by kernel_rfl) (fun _ _ _ h => h) (Or.inl ⟨by kernel_rfl, ?runA8⟩) ?_
      case runA8 => (intro w9 _; go_simp; try exact rfl)
      try simp only [Act.put, List.setIfInBounds_toArray, List.set_cons_zero, List.set_cons_succ]
      refine wpAnyB_takeY (i := 10) (v := ?vA10) rfl (by kernel_rfl) (by kernel_rfl) (by kernel_rfl) (by kernel_rfl) (fun _ _ _ h => h) (Or.inl ⟨by kernel_rfl, ?runA10⟩) ?_
      case runA10 => (intro w9 _; go_simp; try exact rfl)
      try simp only [Act.put, List.setIfInBounds_toArray, List.set_cons_zero, List.set_cons_succ]
      refine wpAnyB_take [9] (i := 4) (v := ?vA4) rfl (by kernel_rfl) (by kernel_rfl) (by kernel_rfl) (by kernel_rfl) (by kernel_rfl) (fun _ _ _ h => h) (Or.inl ⟨by kernel_rfl, ?runA4⟩) ((Keep.refl [] wr).drew) ?_
      case runA4 => (intro w9 hS9; obtain ⟨x0, y0⟩ := And.intro (hS9.cell (p := ⟨ab, aoff + i, none⟩) HAL.out (by simp) |>.trans HAC.out) (hS9.cell (p := ⟨bb, boff + i, none⟩) HBL.out (by simp) |>.trans HBC.out); go_simp; try exact rfl)
      try simp only [Act.put, List.setIfInBounds_toArray, List.set_cons_zero, List.set_cons_succ]
      refine wpAnyB_take [] (i := 9) (v := ?vA9) rfl (by kernel_rfl) (by kernel_rfl) (by kernel_rfl) (by kernel_rfl) (by kernel_rfl) (fun _ _ _ h => h) (Or.inl ⟨by kernel_rfl, ?runA9⟩) ((Keep.refl [] wr).drew) ?_
      case runA9 => (intro w9 hS9; obtain ⟨x0, y0⟩ := And.intro (hS9.cell (p := ⟨ab, aoff + i, none⟩) HAL.out (by simp) |>.trans HAC.out) (hS9.cell (p := ⟨bb, boff + i, none⟩) HBL.out (by simp) |>.trans HBC.out); go_simp; try exact rfl)
      try simp only [Act.put, List.setIfInBounds_toArray, List.set_cons_zero, List.set_cons_succ]
      refine wpAnyB_ready (rs := [11]) (by kernel_rfl) (by simp) ?_
      refine AllReadyB.cons rfl (fun K hK => ?_) AllReadyB.nil
      go_simp
      refine (HCALL.out _ (Keep.refl [] wr).drew).mono ?_
      rintro e w4 ⟨rfl, hk4⟩
      have HK4 := Lib.hid ((HKW.out.trans (Keep.refl [] wr).drew (by simp)).trans hk4 (by simp))
      clear hk4
      go_wp2_with fail
      refine hK.out _ _ (fun h => (nomatch h)) ?_
      clear hK K
      try simp only [Act.put, List.setIfInBounds_toArray, List.set_cons_zero, List.set_cons_succ]
      refine wpAnyB_takeY (i := 12) (v := ?vA12) rfl (by kernel_rfl) (by kernel_rfl) (by kernel_rfl) (by kernel_rfl) (fun _ _ _ h => h) (Or.inl ⟨by kernel_rfl, ?runA12⟩) ?_
      case runA12 => (intro w9 _; go_simp; try exact rfl)
      try simp only [Act.put, List.setIfInBounds_toArray, List.set_cons_zero, List.set_cons_succ]
      refine wpAnyB_done (by kernel_rfl) ?_ _
      go_wp2_with fail
      go_roundw
      case rel => exact ⟨i + 1, by omega, by go_num, HK4.out⟩
      case measure => simp [RowKit.intOf]; omega
    · obtain rfl : i = l.length := by omega
      clear hkw hi
      go_wp2_with fail
      go_ret
      exact ⟨rfl, HKW.out⟩
end Go.Proofs.YtdmmhfbafinkpaaGreatDoor
