import Derived.Test.YtdmmhfbafinkpaaGreatDoorPa23
import Derived.Test.YtdmmhfbafinkpaaGreatDoorPaY
/- Parse: the statements' live. -/
namespace Go.Proofs.YtdmmhfbafinkpaaGreatDoor
open Go.RowKit Go.Emb Go.Shelf

theorem num_any (n : Int) (w : World) : Calls Tryz.prog 13 #[.int .i64 n] w fun e w' => e = .returned (.int .i64 n) ∧ w = w' := by
  go_enter Tryz.func13, Tryz.ntmps13
  go_wp2_with fail
  go_ret
  exact ⟨rfl, rfl⟩
/-- the variables that the walks need -/
structure VarOk (w : World) : Prop where
  err : ErrOk w
  lv : LvT w.heap.size w
theorem VarOk.keep {w w' : World} (h : VarOk w) (hk : Keep [] w w') : VarOk w' := ⟨h.err.keep hk, (h.lv.keep hk (by simp)).lt hk.size⟩
theorem NsR.two {S : Nat → Prop} {w : World} {v : Value} {x y : Nd} (h : NsR S w false v [x, y]) :
    ∃ b off c csx csy, v = .slice (some ⟨b, off, none⟩) 2 c ∧ NdR S w false csx x ∧ NdR S w false csy y ∧ (∀ j, j < 7 → w.cell? ⟨b, off + j, none⟩ = csx[j]?) ∧ ∀ j, j < 7 → w.cell? ⟨b, off + 7 + j, none⟩ = csy[j]? := by
  obtain ⟨a, c, rfl⟩ := h.form
  obtain ⟨b, off, csx, rfl, -, hx, hcx⟩ := h.at7 (i := 0) (by simp)
  obtain ⟨b', off', csy, e, -, hy, hcy⟩ := h.at7 (i := 1) (by simp)
  cases e
  exact ⟨b, off, c, csx, csy, rfl, hx, hy, fun j hj => by simpa using hcx j hj, fun j hj => by simpa using hcy j hj⟩
set_option maxRecDepth 100000 in
set_option maxHeartbeats 4000000 in
theorem p_live {w : World} (hv : VarOk w) : Calls Tryz.prog 5 #[] w (YesP w) := by
  have HV := Lib.hid hv
  clear hv
  go_enter Tryz.func5, Tryz.ntmps5
  go_wp2_with fail
  refine (p_expression ⟨#[49, 32, 43, 32, 50, 32, 42, 32, 88]⟩ w HV.out.err (by decide) HV.out.lv).mono ?_
  rintro e w1 ⟨n, s', hex, hk1, hres⟩
  obtain ⟨he1, rfl⟩ := live1 hex
  rcases hres with ⟨-, csa, rfl, hnda⟩ | ⟨h, -⟩
  · obtain ⟨kind, num, at1, name, a, b, c, va, vb, vc, rfl, e, g1, g2, g3⟩ := hnda.un7
    injection e with e1 e2 e3 e4 e5 e6
    subst e1 e2 e3 e4 e5 e6
    obtain ⟨ab, aoff, ac, csx, csy, rfl, -, hy, -, hcy⟩ := g1.two
    obtain ⟨ky, ny, aty, nmy, y1, y2, y3, vy1, vy2, vy3, rfl, e, -, -, -⟩ := hy.un7
    injection e with e1 e2 e3 e4 e5 e6
    subst e1 e2 e3 e4 e5 e6
    have hc1 := hcy 2 (by decide)
    simp only [List.getElem?_cons_succ, List.getElem?_cons_zero] at hc1
    obtain ⟨q2, r2, rfl⟩ := g2.form
    obtain ⟨q3, r3, rfl⟩ := g3.form
    have hkA := (Keep.refl [] w1).alloc (.cells #[.int .i64 9, .int .i64 0, .string ⟨#[43]⟩, .int .i64 at1, .slice (some ⟨ab, aoff, none⟩) 2 ac, .slice q2 0 r2, .slice q3 0 r3] 29)
    have hA := heap_alloc_new w1 (.cells #[.int .i64 9, .int .i64 0, .string ⟨#[43]⟩, .int .i64 at1, .slice (some ⟨ab, aoff, none⟩) 2 ac, .slice q2 0 r2, .slice q3 0 r3] 29)
    have HKA := Lib.hid (hk1.trans hkA (by simp))
    have HA := Lib.hid hA
    have HC1 := Lib.hid (hkA.cell (p := ⟨ab, aoff + 7 + 2, none⟩) (World.block_lt_of_cell? _ _ hc1) (by simp) |>.trans hc1)
    clear hnda g1 g2 g3 hy hcy hc1 hkA hA hk1 he1 hex
    go_wp2_with fail
    generalize w1.alloc (.cells #[.int .i64 9, .int .i64 0, .string ⟨#[43]⟩, .int .i64 at1, .slice (some ⟨ab, aoff, none⟩) 2 ac, .slice q2 0 r2, .slice q3 0 r3] 29) = w2 at *
    have HV2 := Lib.hid (HV.out.keep HKA.out)
    refine (p_expression ⟨#[102, 40, 49, 41, 40, 50, 41]⟩ w2 HV2.out.err (by decide) HV2.out.lv).mono ?_
    rintro e w3 ⟨n, s', hex, hk3, hres⟩
    obtain ⟨he1, rfl⟩ := live2 hex
    rcases hres with ⟨-, csb, rfl, hndb⟩ | ⟨h, -⟩
    · obtain ⟨kind, num, at2, name, a, b, c, va, vb, vc, rfl, e, g1, g2, g3⟩ := hndb.un7
      injection e with e1 e2 e3 e4 e5 e6
      subst e1 e2 e3 e4 e5 e6
      obtain ⟨bb, boff, bc, csx, csy, rfl, hy, -, hcy, -⟩ := g1.two
      obtain ⟨ky, ny, aty, nmy, y1, y2, y3, vy1, vy2, vy3, rfl, e, -, -, -⟩ := hy.un7
      injection e with e1 e2 e3 e4 e5 e6
      subst e1 e2 e3 e4 e5 e6
      have hc2 := hcy 0 (by decide)
      simp only [List.getElem?_cons_succ, List.getElem?_cons_zero, Nat.add_zero] at hc2
      obtain ⟨q5, r5, rfl⟩ := g2.form
      obtain ⟨q6, r6, rfl⟩ := g3.form
      have hkB := (Keep.refl [] w3).alloc (.cells #[.int .i64 8, .int .i64 0, .string ⟨#[]⟩, .int .i64 at2, .slice (some ⟨bb, boff, none⟩) 2 bc, .slice q5 0 r5, .slice q6 0 r6] 29)
      have hB := heap_alloc_new w3 (.cells #[.int .i64 8, .int .i64 0, .string ⟨#[]⟩, .int .i64 at2, .slice (some ⟨bb, boff, none⟩) 2 bc, .slice q5 0 r5, .slice q6 0 r6] 29)
      have HKB := Lib.hid (hk3.trans hkB (by simp))
      have HB := Lib.hid hB
      have HC2 := Lib.hid (hkB.cell (p := ⟨bb, boff, none⟩) (World.block_lt_of_cell? _ _ hc2) (by simp) |>.trans hc2)
      clear hndb g1 g2 g3 hy hcy hc2 hkB hB hk3 he1 hex
      go_wp2_with fail
      generalize w3.alloc (.cells #[.int .i64 8, .int .i64 0, .string ⟨#[]⟩, .int .i64 at2, .slice (some ⟨bb, boff, none⟩) 2 bc, .slice q5 0 r5, .slice q6 0 r6] 29) = w4 at *
      have HV4 := Lib.hid (HV2.out.keep HKB.out)
      refine (p_program ⟨#[102, 40, 41, 32, 45, 62, 32, 49]⟩ w4 HV4.out.err (by decide) HV4.out.lv).mono ?_
      rintro e w5 ⟨l, s', hev, hk5, hres⟩
      obtain ⟨he3, he4⟩ := live3 hev
      rw [he3, he4] at hres
      rcases hres with ⟨h, -⟩ | ⟨-, rfl⟩
      · exact absurd h (by decide)
      · have hA5 := blkK (blkK HA.out HKB.out (by simp)) hk5 (by simp)
        have hB5 := blkK HB.out hk5 (by simp)
        obtain ⟨c0, c1, c2, c3, c4, c5, c6⟩ := cells7 hA5
        obtain ⟨d0, d1, d2, d3, d4, d5, d6⟩ := cells7 hB5
        have hx1 := ((HKB.out.trans hk5 (by simp)).cell (p := ⟨ab, aoff + 7 + 2, none⟩) (World.block_lt_of_cell? _ _ HC1.out) (by simp)).trans HC1.out
        have hx2 := (hk5.cell (p := ⟨bb, boff, none⟩) (World.block_lt_of_cell? _ _ HC2.out) (by simp)).trans HC2.out
        have HK5 := Lib.hid ((HKA.out.trans HKB.out (by simp)).trans hk5 (by simp))
        clear hk5 hev hA5 hB5 he3 he4
        go_wp2_with (go_at_call 13; refine (num_any _ _).mono ?_; rintro e w' ⟨rfl, rfl⟩)
        go_ret
        exact ⟨rfl, HK5.out⟩
    · exact absurd he1 h
  · exact absurd he1 h
end Go.Proofs.YtdmmhfbafinkpaaGreatDoor
