import Derived.Test.YtdmmhfbafinkpaaDoorPa15
/- Parse: function. Printed by gen-pa16.py. -/
namespace Go.Proofs.YtdmmhfbafinkpaaDoor
open Go.RowKit Go.Emb Go.Shelf

set_option maxRecDepth 100000 in
set_option maxHeartbeats 4000000 in
theorem w_fun2 {lo pb M : Nat} {w : World} {s : St} {cb b2 : Nat} {at_ : Int} (ih : AllC lo pb M) (hM : 32 * s.toks.length + 12 < M) (h : PS lo w pb s) (hlo : lo ≤ w.heap.size) (hd : s.toks.length ≤ 1000000) (hcb : lo ≤ cb)
    (hb : w.heap[cb]? = some (.cells #[.slice none 0 0, .slice none 0 0, .slice none 0 0, .string ⟨#[]⟩, .int .i64 at_] 40 (0, 0)))
    (h2 : w.cell? ⟨b2, 0, none⟩ = some (.pointer (some ⟨pb, 0, none⟩))) (n2 : lo ≤ b2 ∧ b2 ≠ cb) :
    Calls Tryd.prog 24 #[.pointer (some ⟨cb, 0, none⟩), .pointer (some ⟨b2, 0, none⟩)] w (OneP lo w pb cb (fun n => oneC n 2 0) s) := by
  have hplo := h.plo
  have hne : cb ≠ pb := by omega
  have hl2 := World.block_lt_of_cell? _ _ h2
  have HPS := Lib.hid h
  have HB := Lib.hid hb
  have HN := Lib.hid (And.intro hplo (And.intro hlo (And.intro hcb (And.intro hne (And.intro hl2 (And.intro n2.1 n2.2))))))
  have IH := Lib.hid ih
  have HD := Lib.hid (And.intro hM hd)
  have HF := Lib.hid (p_fails h 110)
  have hfail : ∀ w' : World, PS lo w' pb (failS 110 s) → Keep [pb] w w' → Ev (fun n => oneC n 2 0) s nd0 (failS 110 s) → OneP lo w pb cb (fun n => oneC n 2 0) s (.returned (.tuple #[])) w' := fun w' hps hk hev =>
    ⟨_, nd0, _, rfl, hev, blkK hb hk (by simp; exact hne), NdR.mk5 (name := []) (NsR.nil _ _ false) (NsR.nil _ _ false) (NsR.nil _ _ false), hps, failS_len 110 s, hk.mono (by simp)⟩
  have HFAIL := Lib.hid hfail
  obtain ⟨v, o, hpb, hrd, ho⟩ := h.blk
  obtain ⟨s0, s1, s2, s3⟩ := cells4p hpb
  have f0 := frozenP hpb
  have HPB := Lib.hid hpb
  have HO := Lib.hid ho
  clear ih hM h hlo hd hcb hb n2 hplo hne hl2 hfail hpb ho
  obtain ⟨toks, en, err, at0⟩ := s
  cases toks with
  | nil =>
    obtain ⟨a, c, rfl⟩ := toks_nil hrd
    clear hrd
    simp only at s0 s1 s2 s3
    go_enter Tryd.func24, Tryd.ntmps24
    go_wp2_with fail
    refine HF.out.mono ?_
    rintro e w2 ⟨rfl, hps2, hk2⟩
    have HR := Lib.hid (HFAIL.out w2 hps2 hk2 (Ev.of_one_2_nil rfl))
    clear hps2 hk2
    go_wp2_with fail
    go_end0
    exact HR.out
  | cons x r =>
    obtain ⟨tb, toff, tc, rfl, rfl, htc, c0, c1, c2, c3, hrd2⟩ := toks_at hrd
    have HRD2 := Lib.hid hrd2
    clear hrd hrd2
    simp only at s0 s1 s2 s3
    by_cases hk : x.1.kind = 2
    · have hk' : (x.1.kind != 2) = false := by simp [hk]
      obtain ⟨hb1, hk1⟩ := set5a (i := 3) HB.out (.string ⟨x.1.text.toArray⟩)
      have hb1' : (w.setCell ⟨cb, 3, none⟩ (.string ⟨x.1.text.toArray⟩)).heap[cb]? = some (.cells #[.slice none 0 0, .slice none 0 0, .slice none 0 0, .string ⟨x.1.text.toArray⟩, .int .i64 at_] 40 (0, 0)) := by simpa using hb1
      obtain ⟨hplo, hlo, hcb, hne, hl2, n2, n2'⟩ := HN.out
      have hpb1 := blkK HPB.out hk1 (by simp; omega)
      have h21 : (w.setCell ⟨cb, 3, none⟩ (.string ⟨x.1.text.toArray⟩)).cell? ⟨b2, 0, none⟩ = some (.pointer (some ⟨pb, 0, none⟩)) := by rw [hk1.cell (p := ⟨b2, 0, none⟩) hl2 (by simpa using n2')]; exact h2
      have hps1 := HPS.out.keep hk1 (by simp; exact hcb)
      have hrd1 := HRD2.out.keep hk1 (fun b hb => by have := (HO.out b hb).1; simp; omega)
      obtain ⟨d0, d1, d2, d3, d4⟩ := cells5 HB.out
      have fd := frozenP HB.out
      have hsl : ∀ W, (Instr.slice 44 (.slice (some ⟨tb, toff, none⟩) (r.length + 1) tc) (some (.int .i64 1)) none none).run Tryd.prog W = .ok (.slice (some ⟨tb, sliceOff toff tc 1 5, none⟩) r.length (tc - 1)) W := by
        intro W
        exact run_slice_lo W Tryd.underlying44 (fun _ => by kernel_rfl) tb toff (r.length + 1) tc 1 (by omega)
      have HB1 := Lib.hid hb1'
      have HPB1 := Lib.hid hpb1
      have H21 := Lib.hid h21
      have HPS1 := Lib.hid hps1
      have HRD1 := Lib.hid hrd1
      have HK1 := Lib.hid hk1
      have HK := Lib.hid hk
      clear hk hb1 hb1' hpb1 h21 hps1 hrd1 hk1 hplo hlo hcb hne hl2 n2 n2' htc
      go_enter Tryd.func24, Tryd.ntmps24
      go_wp2_with fail
      clear s0 s1 s2 s3 f0 d0 d1 d2 d3 d4 fd c0 c1 c2 c3 h2
      generalize (w.setCell ⟨cb, 3, none⟩ (.string ⟨x.1.text.toArray⟩)) = w1 at *
      refine wp_regionB [0] (fun w' => Keep [] w1 w') (by kernel_rfl) ?_
      refine wpAnyB_take [0] (i := 1) (v := ?vA1) rfl (by kernel_rfl) (by kernel_rfl) (by kernel_rfl) (by kernel_rfl) (by kernel_rfl) (fun _ _ _ h => h) (Or.inl ⟨by kernel_rfl, ?runA1⟩) ((Keep.refl [] w1).drew) ?_
      case runA1 => (intro w9 hS9; obtain ⟨x0, y0, y1, y2, y3⟩ := And.intro (hS9.cell (p := ⟨b2, 0, none⟩) (World.block_lt_of_cell? _ _ H21.out) (by simp) |>.trans H21.out) (cells4p (blkK HPB1.out hS9 (by simp))); go_simp; try exact rfl)
      try simp only [Act.put, List.setIfInBounds_toArray, List.set_cons_zero, List.set_cons_succ]
      refine wpAnyB_takeY (i := 2) (v := ?vA2) rfl (by kernel_rfl) (by kernel_rfl) (by kernel_rfl) (by kernel_rfl) (fun _ _ _ h => h) (Or.inl ⟨by kernel_rfl, ?runA2⟩) ?_
      case runA2 => (intro w9 _; go_simp; try exact rfl)
      try simp only [Act.put, List.setIfInBounds_toArray, List.set_cons_zero, List.set_cons_succ]
      refine wpAnyB_takeY (i := 3) (v := ?vA3) rfl (by kernel_rfl) (by kernel_rfl) (by kernel_rfl) (by kernel_rfl) (fun _ _ _ h => h) (Or.inl ⟨by kernel_rfl, ?runA3⟩) ?_
      case runA3 => (intro w9 _; go_simp; try exact rfl)
      try simp only [Act.put, List.setIfInBounds_toArray, List.set_cons_zero, List.set_cons_succ]
      refine wpAnyB_take [0] (i := 4) (v := ?vA4) rfl (by kernel_rfl) (by kernel_rfl) (by kernel_rfl) (by kernel_rfl) (by kernel_rfl) (fun _ _ _ h => h) (Or.inl ⟨by kernel_rfl, ?runA4⟩) ((Keep.refl [] w1).drew) ?_
      case runA4 => (intro w9 hS9; obtain ⟨x0, y0, y1, y2, y3⟩ := And.intro (hS9.cell (p := ⟨b2, 0, none⟩) (World.block_lt_of_cell? _ _ H21.out) (by simp) |>.trans H21.out) (cells4p (blkK HPB1.out hS9 (by simp))); go_simp; try exact rfl)
      try simp only [Act.put, List.setIfInBounds_toArray, List.set_cons_zero, List.set_cons_succ]
      refine wpAnyB_takeY (i := 5) (v := ?vA5) rfl (by kernel_rfl) (by kernel_rfl) (by kernel_rfl) (by kernel_rfl) (fun _ _ _ h => h) (Or.inl ⟨by kernel_rfl, ?runA5⟩) ?_
      case runA5 => (intro w9 _; go_simp; try exact rfl)
      try simp only [Act.put, List.setIfInBounds_toArray, List.set_cons_zero, List.set_cons_succ]
      refine wpAnyB_take [] (i := 0) (v := ?vA0) rfl (by kernel_rfl) (by kernel_rfl) (by kernel_rfl) (by kernel_rfl) (by kernel_rfl) (fun _ _ _ h => h) (Or.inl ⟨by kernel_rfl, ?runA0⟩) ((Keep.refl [] w1).drew) ?_
      case runA0 => (intro w9 hS9; obtain ⟨x0, y0, y1, y2, y3⟩ := And.intro (hS9.cell (p := ⟨b2, 0, none⟩) (World.block_lt_of_cell? _ _ H21.out) (by simp) |>.trans H21.out) (cells4p (blkK HPB1.out hS9 (by simp))); go_simp; try exact rfl)
      try simp only [Act.put, List.setIfInBounds_toArray, List.set_cons_zero, List.set_cons_succ]
      refine wpAnyB_takeY (i := 6) (v := ?vA6) rfl (by kernel_rfl) (by kernel_rfl) (by kernel_rfl) (by kernel_rfl) (fun _ _ _ h => h) (Or.inl ⟨by kernel_rfl, ?runA6⟩) ?_
      case runA6 => (intro w9 _; go_simp; try exact rfl)
      try simp only [Act.put, List.setIfInBounds_toArray, List.set_cons_zero, List.set_cons_succ]
      refine wpAnyB_takeY (i := 7) (v := ?vA7) rfl (by kernel_rfl) (by kernel_rfl) (by kernel_rfl) (by kernel_rfl) (fun _ _ _ h => h) (Or.inl ⟨by kernel_rfl, ?runA7⟩) ?_
      case runA7 => (intro w9 _; go_simp; try exact rfl)
      try simp only [Act.put, List.setIfInBounds_toArray, List.set_cons_zero, List.set_cons_succ]
      refine wpAnyB_ready (rs := [8]) (by kernel_rfl) (by simp) ?_
      refine AllReadyB.cons rfl (fun K hK => ?_) AllReadyB.nil
      have hk9 := (Keep.refl [] w1).drew
      have hp9 := blkK HPB1.out hk9 (by simp)
      obtain ⟨e0, e1, e2, e3⟩ := cells4p hp9
      have f9 := frozenP hp9
      go_simp
      refine hK.out _ _ (fun h => (nomatch h)) ?_
      clear hK K
      try simp only [Act.put, List.setIfInBounds_toArray, List.set_cons_zero, List.set_cons_succ]
      refine wpAnyB_done (by kernel_rfl) ?_ _
      clear e0 e1 e2 e3 f9 hp9 hk9
      have hko : Keep [pb] w1 (w1.setCell ⟨pb, 0, none⟩ (.slice (some ⟨tb, sliceOff toff tc 1 5, none⟩) r.length (tc - 1))) := Keep.set1 w1 ⟨pb, 0, none⟩ _
      have hps2 := HPS1.out.written (s' := ⟨r, en, err, at0⟩) hko (by simpa using heap_setCell_at (i := 0) HPB1.out (.slice (some ⟨tb, sliceOff toff tc 1 5, none⟩) r.length (tc - 1))) HRD1.out HO.out
      have hps3 := hps2.keep0 ((Keep.refl [] _).drew)
      have hk3 := hko.trans (Keep.refl [] _).drew (by simp)
      obtain ⟨hplo, hlo, hcb, hne, hl2, n2, n2'⟩ := HN.out
      have hb3 := blkK HB1.out hk3 (by simp; exact hne)
      have h23 := (hk3.cell (p := ⟨b2, 0, none⟩) (World.block_lt_of_cell? _ _ H21.out) (by simp; omega)).trans H21.out
      have hkw := (HK1.out.mono (G := [pb, cb]) (by simp)).trans hk3 (by simp)
      generalize (w1.setCell ⟨pb, 0, none⟩ (.slice (some ⟨tb, sliceOff toff tc 1 5, none⟩) r.length (tc - 1))).drew = w2 at *
      have hcall := IH.out.headP (nm := x.1.text) (d := 0) hps3 (Nat.le_trans hlo hkw.size) (by have := HD.out.2; simp at this ⊢; omega) (by have := HD.out.1; simp at this ⊢; omega) hcb hb3
      have HCALL := Lib.hid hcall
      have HKW := Lib.hid hkw
      clear hcall hkw hb3 hk3 hps3 hps2 hko hplo hlo hcb hne hl2 n2 n2'
      go_wp2_with fail
      refine HCALL.out.mono ?_
      rintro e w3 ⟨cs, n, s', rfl, hev, hb4, hnd, hps4, hle, hk4⟩
      have hres : OneP lo w pb cb (fun n => oneC n 2 0) ⟨x :: r, en, err, at0⟩ (.returned (.tuple #[])) w3 := ⟨cs, n, s', rfl, Ev.of_one_2 (s := ⟨x :: r, en, err, at0⟩) rfl HK.out hev, hb4, hnd.mono (fun b h => ⟨Nat.le_trans HKW.out.size h.1, h.2⟩), hps4, by simp at hle ⊢; omega, HKW.out.trans hk4 (by simp)⟩
      have HRES := Lib.hid hres
      clear hev hb4 hnd hps4 hle hk4 hres
      go_wp2_with fail
      go_end0
      exact HRES.out
    · have hk' : (x.1.kind != 2) = true := by simp [hk]
      have HK := Lib.hid hk
      clear hk
      go_enter Tryd.func24, Tryd.ntmps24
      go_wp2_with fail
      refine HF.out.mono ?_
      rintro e w2 ⟨rfl, hps2, hk2⟩
      have HR := Lib.hid (HFAIL.out w2 hps2 hk2 (Ev.of_one_2_no rfl HK.out))
      clear hps2 hk2
      go_wp2_with fail
      go_end0
      exact HR.out
end Go.Proofs.YtdmmhfbafinkpaaDoor
