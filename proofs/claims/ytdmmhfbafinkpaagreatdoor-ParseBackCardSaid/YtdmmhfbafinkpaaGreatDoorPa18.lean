import Derived.Test.YtdmmhfbafinkpaaGreatDoorPa15
import Derived.Test.YtdmmhfbafinkpaaGreatDoorSc9
import Derived.Test.YtdmmhfbafinkpaaGreatDoorScB
/- Parse: function. Printed by gen-pa16.py. -/
namespace Go.Proofs.YtdmmhfbafinkpaaGreatDoor
open Go.RowKit Go.Emb Go.Shelf

set_option maxRecDepth 100000 in
set_option maxHeartbeats 4000000 in
theorem w_fun2 {lo pb M : Nat} {w : World} {s : St} {cb b2 : Nat} {at_ : Int} (ih : AllC lo pb M) (hM : 32 * s.toks.length + 12 < M) (h : PS lo w pb s) (hlo : lo ≤ w.heap.size) (hd : s.toks.length ≤ 1000000) (hcb : lo ≤ cb)
    (hb : w.heap[cb]? = some (.cells #[.slice none 0 0, .slice none 0 0, .slice none 0 0, .string ⟨#[]⟩, .int .i64 at_] 52 (0, 0)))
    (h2 : w.cell? ⟨b2, 0, none⟩ = some (.pointer (some ⟨pb, 0, none⟩))) (n2 : lo ≤ b2 ∧ b2 ≠ cb) :
    Calls Tryz.prog 61 #[.pointer (some ⟨cb, 0, none⟩), .pointer (some ⟨b2, 0, none⟩)] w (OneP lo w pb cb (fun n => oneC n 2 0) s) := by
  have hplo := h.plo
  have hne : cb ≠ pb := by omega
  have hl2 := World.block_lt_of_cell? _ _ h2
  have HPS := Lib.hid h
  have HB := Lib.hid hb
  have HN := Lib.hid (And.intro hplo (And.intro hlo (And.intro hcb (And.intro hne (And.intro hl2 (And.intro n2.1 n2.2))))))
  have IH := Lib.hid ih
  have HD := Lib.hid (And.intro hM hd)
  have HF := Lib.hid (p_fails h 110)
  have hfail : ∀ w' : World, PS lo w' pb (failS 110 s) → Keep [pb] w w' → Ev (fun n => oneC n 2 0) s nd0 (failS 110 s) → OneP lo w pb cb (fun n => oneC n 2 0) s (.returned (.tuple #[])) w' := fun w' hps hk hev =>
    ⟨_, nd0, _, rfl, hev, blkK hb hk (by simp; exact hne), NdR.mk5 (name := []) (NsR.nil _ _ false) (NsR.nil _ _ false) (NsR.nil _ _ false), hps, failS_len 110 s, hk.mono (by simp)⟩
  have HFAIL := Lib.hid hfail
  obtain ⟨v, o, hpb, hrd, ho⟩ := h.blk
  obtain ⟨s0, s1, s2, s3⟩ := cells4p hpb
  have f0 := frozenP hpb
  have HPB := Lib.hid hpb
  have HO := Lib.hid ho
  clear ih hM h hlo hd hcb hb n2 hplo hne hl2 hfail hpb ho
  obtain ⟨toks, en, err, at0⟩ := s
  cases toks with
  | nil =>
    obtain ⟨a, c, rfl⟩ := toks_nil hrd
    clear hrd
    simp only at s0 s1 s2 s3
    go_enter Tryz.func61, Tryz.ntmps61
    go_wp2_with fail
    refine HF.out.mono ?_
    rintro e w2 ⟨rfl, hps2, hk2⟩
    have HR := Lib.hid (HFAIL.out w2 hps2 hk2 (Ev.of_one_2_nil rfl))
    clear hps2 hk2
    go_wp2_with fail
    go_end0
    exact HR.out
  | cons x r =>
    obtain ⟨tb, toff, tc, rfl, rfl, htc, c0, c1, c2, c3, hrd2⟩ := toks_at hrd
    have HRD2 := Lib.hid hrd2
    clear hrd hrd2
    simp only at s0 s1 s2 s3
    by_cases hk : x.1.kind = 2
    · have hk' : (x.1.kind != 2) = false := by simp [hk]
      obtain ⟨hb1, hk1⟩ := set5a (i := 3) HB.out (.string ⟨x.1.text.toArray⟩)
      have hb1' : (w.setCell ⟨cb, 3, none⟩ (.string ⟨x.1.text.toArray⟩)).heap[cb]? = some (.cells #[.slice none 0 0, .slice none 0 0, .slice none 0 0, .string ⟨x.1.text.toArray⟩, .int .i64 at_] 52 (0, 0)) := by simpa using hb1
      obtain ⟨hplo, hlo, hcb, hne, hl2, n2, n2'⟩ := HN.out
      have hpb1 := blkK HPB.out hk1 (by simp; omega)
      have h21 : (w.setCell ⟨cb, 3, none⟩ (.string ⟨x.1.text.toArray⟩)).cell? ⟨b2, 0, none⟩ = some (.pointer (some ⟨pb, 0, none⟩)) := by rw [hk1.cell (p := ⟨b2, 0, none⟩) hl2 (by simpa using n2')]; exact h2
      have hps1 := HPS.out.keep hk1 (by simp; exact hcb)
      have hrd1 := HRD2.out.keep hk1 (fun b hb => by have := (HO.out b hb).1; simp; omega)
      obtain ⟨d0, d1, d2, d3, d4⟩ := cells5 HB.out
      have fd := frozenP HB.out
      have hsl : ∀ W, (Instr.slice 46 (.slice (some ⟨tb, toff, none⟩) (r.length + 1) tc) (some (.int .i64 1)) none none).run Tryz.prog W = .ok (.slice (some ⟨tb, sliceOff toff tc 1 5, none⟩) r.length (tc - 1)) W := by
        intro W
        exact run_slice_lo W Tryz.underlying46 (fun _ => by kernel_rfl) tb toff (r.length + 1) tc 1 (by omega)
      have HB1 := Lib.hid hb1'
      have HPB1 := Lib.hid hpb1
      have H21 := Lib.hid h21
      have HPS1 := Lib.hid hps1
      have HRD1 := Lib.hid hrd1
      have HK1 := Lib.hid hk1
      have HK := Lib.hid hk
      clear hk hb1 hb1' hpb1 h21 hps1 hrd1 hk1 hplo hlo hcb hne hl2 n2 n2' htc
      go_enter Tryz.func61, Tryz.ntmps61
      go_wp2_with fail
      clear s0 s1 s2 s3 f0 d0 d1 d2 d3 d4 fd c0 c1 c2 c3 h2
      generalize (w.setCell ⟨cb, 3, none⟩ (.string ⟨x.1.text.toArray⟩)) = w1 at *
      refine wp_regionB [0] (fun w' => Keep [] w1 w') (by kernel_rfl) ?_
      refine wpAnyB_take [0] (i := 1) (v := ?vA1) rfl (by kernel_rfl) (by kernel_rfl) (by kernel_rfl) (by kernel_rfl) (by kernel_rfl) (fun _ _ _ h => h) (Or.inl ⟨by kernel_rfl, ?runA1⟩) ((Keep.refl [] w1).drew) ?_
      case runA1 => (intro w9 hS9; obtain ⟨x0, y0, y1, y2, y3⟩ := And.intro (hS9.cell (p := ⟨b2, 0, none⟩) (World.block_lt_of_cell? _ _ H21.out) (by simp) |>.trans H21.out) (cells4p (blkK HPB1.out hS9 (by simp))); go_simp; try exact rfl)
      try simp only [Act.put, List.setIfInBounds_toArray, List.set_cons_zero, List.set_cons_succ]
      refine wpAnyB_takeY (i := 2) (v := ?vA2) rfl (by kernel_rfl) (by kernel_rfl) (by kernel_rfl) (by kernel_rfl) (fun _ _ _ h => h) (Or.inl ⟨by kernel_rfl, ?runA2⟩) ?_
      case runA2 => (intro w9 _; go_simp; try exact rfl)
      try simp only [Act.put, List.setIfInBounds_toArray, List.set_cons_zero, List.set_cons_succ]
      refine wpAnyB_takeY (i := 3) (v := ?vA3) rfl (by kernel_rfl) (by kernel_rfl) (by kernel_rfl) (by kernel_rfl) (fun _ _ _ h => h) (Or.inl ⟨by kernel_rfl, ?runA3⟩) ?_
      case runA3 => (intro w9 _; go_simp; try exact rfl)
      try simp only [Act.put, List.setIfInBounds_toArray, List.set_cons_zero, List.set_cons_succ]
      refine wpAnyB_take [0] (i := 4) (v := ?vA4) rfl (by kernel_rfl) (by kernel_rfl) (by kernel_rfl) (by kernel_rfl) (by kernel_rfl) (fun _ _ _ h => h) (Or.inl ⟨by kernel_rfl, ?runA4⟩) ((Keep.refl [] w1).drew) ?_
      case runA4 => (intro w9 hS9; obtain ⟨x0, y0, y1, y2, y3⟩ := And.intro (hS9.cell (p := ⟨b2, 0, none⟩) (World.block_lt_of_cell? _ _ H21.out) (by simp) |>.trans H21.out) (cells4p (blkK HPB1.out hS9 (by simp))); go_simp; try exact rfl)
      try simp only [Act.put, List.setIfInBounds_toArray, List.set_cons_zero, List.set_cons_succ]
      refine wpAnyB_takeY (i := 5) (v := ?vA5) rfl (by kernel_rfl) (by kernel_rfl) (by kernel_rfl) (by kernel_rfl) (fun _ _ _ h => h) (Or.inl ⟨by kernel_rfl, ?runA5⟩) ?_
      case runA5 => (intro w9 _; go_simp; try exact rfl)
      try simp only [Act.put, List.setIfInBounds_toArray, List.set_cons_zero, List.set_cons_succ]
      refine wpAnyB_take [] (i := 0) (v := ?vA0) rfl (by kernel_rfl) (by kernel_rfl) (by kernel_rfl) (by kernel_rfl) (by kernel_rfl) (fun _ _ _ h => h) (Or.inl ⟨by kernel_rfl, ?runA0⟩) ((Keep.refl [] w1).drew) ?_
      case runA0 => (intro w9 hS9; obtain ⟨x0, y0, y1, y2, y3⟩ := And.intro (hS9.cell (p := ⟨b2, 0, none⟩) (World.block_lt_of_cell? _ _ H21.out) (by simp) |>.trans H21.out) (cells4p (blkK HPB1.out hS9 (by simp))); go_simp; try exact rfl)
      try simp only [Act.put, List.setIfInBounds_toArray, List.set_cons_zero, List.set_cons_succ]
      refine wpAnyB_takeY (i := 6) (v := ?vA6) rfl (by kernel_rfl) (by kernel_rfl) (by kernel_rfl) (by kernel_rfl) (fun _ _ _ h => h) (Or.inl ⟨by kernel_rfl, ?runA6⟩) ?_
      case runA6 => (intro w9 _; go_simp; try exact rfl)
      try simp only [Act.put, List.setIfInBounds_toArray, List.set_cons_zero, List.set_cons_succ]
      refine wpAnyB_takeY (i := 7) (v := ?vA7) rfl (by kernel_rfl) (by kernel_rfl) (by kernel_rfl) (by kernel_rfl) (fun _ _ _ h => h) (Or.inl ⟨by kernel_rfl, ?runA7⟩) ?_
      case runA7 => (intro w9 _; go_simp; try exact rfl)
      try simp only [Act.put, List.setIfInBounds_toArray, List.set_cons_zero, List.set_cons_succ]
      refine wpAnyB_ready (rs := [8]) (by kernel_rfl) (by simp) ?_
      refine AllReadyB.cons rfl (fun K hK => ?_) AllReadyB.nil
      have hk9 := (Keep.refl [] w1).drew
      have hp9 := blkK HPB1.out hk9 (by simp)
      obtain ⟨e0, e1, e2, e3⟩ := cells4p hp9
      have f9 := frozenP hp9
      go_simp
      refine hK.out _ _ (fun h => (nomatch h)) ?_
      clear hK K
      try simp only [Act.put, List.setIfInBounds_toArray, List.set_cons_zero, List.set_cons_succ]
      refine wpAnyB_done (by kernel_rfl) ?_ _
      clear e0 e1 e2 e3 f9 hp9 hk9
      have hko : Keep [pb] w1 (w1.setCell ⟨pb, 0, none⟩ (.slice (some ⟨tb, sliceOff toff tc 1 5, none⟩) r.length (tc - 1))) := Keep.set1 w1 ⟨pb, 0, none⟩ _
      have hps2 := HPS1.out.written (s' := ⟨r, en, err, at0⟩) hko (by simpa using heap_setCell_at (i := 0) HPB1.out (.slice (some ⟨tb, sliceOff toff tc 1 5, none⟩) r.length (tc - 1))) HRD1.out HO.out
      have hps3 := hps2.keep0 ((Keep.refl [] _).drew)
      have hk3 := hko.trans (Keep.refl [] _).drew (by simp)
      obtain ⟨hplo, hlo, hcb, hne, hl2, n2, n2'⟩ := HN.out
      have hb3 := blkK HB1.out hk3 (by simp; exact hne)
      have h23 := (hk3.cell (p := ⟨b2, 0, none⟩) (World.block_lt_of_cell? _ _ H21.out) (by simp; omega)).trans H21.out
      have hkw := (HK1.out.mono (G := [pb, cb]) (by simp)).trans hk3 (by simp)
      generalize (w1.setCell ⟨pb, 0, none⟩ (.slice (some ⟨tb, sliceOff toff tc 1 5, none⟩) r.length (tc - 1))).drew = w2 at *
      have hcall := IH.out.headP (nm := x.1.text) (d := 0) hps3 (Nat.le_trans hlo hkw.size) (by have := HD.out.2; simp at this ⊢; omega) (by have := HD.out.1; simp at this ⊢; omega) hcb hb3
      have HCALL := Lib.hid hcall
      have HKW := Lib.hid hkw
      clear hcall hkw hb3 hk3 hps3 hps2 hko hplo hlo hcb hne hl2 n2 n2'
      go_wp2_with fail
      refine HCALL.out.mono ?_
      rintro e w3 ⟨cs, n, s', rfl, hev, hb4, hnd, hps4, hle, hk4⟩
      have hres : OneP lo w pb cb (fun n => oneC n 2 0) ⟨x :: r, en, err, at0⟩ (.returned (.tuple #[])) w3 := ⟨cs, n, s', rfl, Ev.of_one_2 (s := ⟨x :: r, en, err, at0⟩) rfl HK.out hev, hb4, hnd.mono (fun b h => ⟨Nat.le_trans HKW.out.size h.1, h.2⟩), hps4, by simp at hle ⊢; omega, HKW.out.trans hk4 (by simp)⟩
      have HRES := Lib.hid hres
      clear hev hb4 hnd hps4 hle hk4 hres
      go_wp2_with fail
      go_end0
      exact HRES.out
    · have hk' : (x.1.kind != 2) = true := by simp [hk]
      have HK := Lib.hid hk
      clear hk
      go_enter Tryz.func61, Tryz.ntmps61
      go_wp2_with fail
      refine HF.out.mono ?_
      rintro e w2 ⟨rfl, hps2, hk2⟩
      have HR := Lib.hid (HFAIL.out w2 hps2 hk2 (Ev.of_one_2_no rfl HK.out))
      clear hps2 hk2
      go_wp2_with fail
      go_end0
      exact HR.out
end Go.Proofs.YtdmmhfbafinkpaaGreatDoor

/- Parse: a function; the beginning. -/
namespace Go.Proofs.YtdmmhfbafinkpaaGreatDoor
open Go.RowKit Go.Emb Go.Shelf

theorem fun_size : (Tryz.prog.info? 50).map (·.size) = some 1 := by kernel_rfl
def FuncP (lo : Nat) (w : World) (pb : Nat) (s : St) (e : Ending) (w' : World) : Prop :=
  ∃ v l s', e = .returned (.agg #[v]) ∧ Ev funP s l s' ∧ NsR (Frs w.heap.size w') w' true v l ∧ PS lo w' pb s' ∧ s'.toks.length ≤ s.toks.length ∧ Keep [pb] w w'
theorem Ev.of_fun {s s1 : St} {l : List Nd} (h1 : Ev (fun n => clausesL n 2 0) s l s1) : Ev funP s l (mustS sDot s1) := by
  obtain ⟨N, h1⟩ := h1
  refine ⟨N, fun n hn => ?_⟩
  have h1 : clausesL n 2 0 s = (l, s1) := h1 n hn
  show funP n s = (l, mustS sDot s1)
  unfold funP
  simp [doS, bnd, ret, h1]
theorem cells1 {w : World} {q : Nat} {a : Value} {t : TypeId} (h : w.heap[q]? = some (.cells #[a] t (0, 0))) : w.cell? ⟨q, 0, none⟩ = some a := by simp [World.cell?, h]
set_option maxRecDepth 100000 in
set_option maxHeartbeats 4000000 in
theorem p_function {lo pb : Nat} {w : World} {s : St} (h : PS lo w pb s) (hlo : lo ≤ w.heap.size) (hd : s.toks.length ≤ 1000000) :
    Calls Tryz.prog 41 #[.pointer (some ⟨pb, 0, none⟩)] w (FuncP lo w pb s) := by
  have hplo := h.plo
  have hkA := (Keep.refl [] w).alloc (.cells #[.pointer (some ⟨pb, 0, none⟩)] 76)
  have hpA := heap_alloc_new w (.cells #[.pointer (some ⟨pb, 0, none⟩)] 76)
  have hk1 := hkA.alloc (.cells #[.slice none 0 0] 50)
  have hp1 := blkK hpA ((Keep.refl [] _).alloc (.cells #[.slice none 0 0] 50)) (by simp)
  have hr1 := heap_alloc_new (w.alloc (.cells #[.pointer (some ⟨pb, 0, none⟩)] 76)) (.cells #[.slice none 0 0] 50)
  rw [size_alloc] at hr1
  have hs1 : ((w.alloc (.cells #[.pointer (some ⟨pb, 0, none⟩)] 76)).alloc (.cells #[.slice none 0 0] 50)).heap.size = w.heap.size + 2 := by rw [size_alloc, size_alloc]
  have c1 := cells1 hp1
  have hps1 := h.keep0 hk1
  have eg : ∀ args w, (callFunc 61 args).run Tryz.prog w = .ok (.enter 61 args) w := enters_of Tryz.func61 (by kernel_rfl) rfl
  have hcl := p_clauses (k := 2) (d := 0) 61 #[.pointer (some ⟨w.heap.size, 0, none⟩)] eg (fun W2 si cb at_ hk2 hps2 hl2 hle2 hcb2 hb2 => by
    have hp2 := blkK hp1 hk2 (by simp; omega)
    exact w_fun2 (allC lo pb (32 * s.toks.length + 13)) (by omega) hps2 hl2 (by omega) (by omega) hb2 (cells1 hp2) ⟨hlo, by omega⟩) hps1 (Nat.le_trans hlo hk1.size) hd
  have HCL := Lib.hid hcl
  have HP1 := Lib.hid hp1
  have HR1 := Lib.hid hr1
  have HK1 := Lib.hid hk1
  have HS1 := Lib.hid hs1
  have HN := Lib.hid (And.intro hplo hlo)
  clear h hplo hlo hd hkA hpA hk1 hp1 hr1 hs1 hps1 eg hcl
  go_enter Tryz.func41, Tryz.ntmps41
  go_wp2_with fail
  refine HCL.out.mono ?_
  rintro e w2 ⟨v, l, s2, rfl, hev, hns, hps2, hle, hk2⟩
  obtain ⟨q1, q2, rfl⟩ := hns.form
  obtain ⟨hplo, hlo⟩ := HN.out
  have hs1 := HS1.out
  have hr2 := blkK HR1.out hk2 (by simp; omega)
  have hp2 := blkK HP1.out hk2 (by simp; omega)
  have hr3 : (w2.setCell ⟨w.heap.size + 1, 0, none⟩ (.slice q1 l.length q2)).heap[w.heap.size + 1]? = some (.cells #[.slice q1 l.length q2] 50 (0, 0)) := by simpa using heap_setCell_at (i := 0) hr2 (.slice q1 l.length q2)
  have hk3 := Keep.set1 w2 ⟨w.heap.size + 1, 0, none⟩ (.slice q1 l.length q2)
  have hp3 := blkK hp2 hk3 (by simp)
  have hps3 := hps2.keep hk3 (by simp; omega)
  rw [hs1] at hns
  have hns3 := hns.up hk3 (by simp) (Nat.le_refl _)
  have hkw3 : Keep [pb] w _ := keepB (lo := w.heap.size) (((HK1.out.mono (G := [pb, w.heap.size + 1]) (by simp)).trans hk2 (by simp)).trans hk3 (by simp)) (by simp) (Nat.le_refl _)
  have hl3 := Nat.le_trans hlo hkw3.size
  have HM := Lib.hid (p_must hps3 hl3 sDot)
  have g2 := cells1 hr2
  have f2 := frozenP hr2
  have p2 := cells1 hp2
  have g3 := cells1 hr3
  have p3 := cells1 hp3
  have HR3 := Lib.hid hr3
  have HNS3 := Lib.hid hns3
  have HKW3 := Lib.hid hkw3
  have HEV := Lib.hid hev
  have HLE := Lib.hid hle
  clear hplo hlo hs1 hr2 hp2 hr3 hk3 hp3 hps3 hns3 hkw3 hl3 hev hns hps2 hle hk2 c1
  go_wp2_with fail
  refine HM.out.mono ?_
  rintro e w4 ⟨rfl, hps4, hk4⟩
  obtain ⟨hplo, hlo⟩ := HN.out
  have hr4 := blkK HR3.out hk4 (by simp; omega)
  have hns4 := HNS3.out.up hk4 (by simp; omega) (Nat.le_refl _)
  have hkw4 := HKW3.out.trans hk4 (by simp)
  have g4 := cells1 hr4
  have f4 := frozenP hr4
  have HR4 := Lib.hid hr4
  have HNS4 := Lib.hid hns4
  have HKW4 := Lib.hid hkw4
  have HPS4 := Lib.hid hps4
  clear hplo hlo hr4 hns4 hkw4 hps4 hk4 g2 f2 p2 g3 p3
  go_wp2_with fail
  have hr5 : (w4.setCell ⟨w.heap.size + 1, 0, none⟩ (.slice q1 l.length q2)).heap[w.heap.size + 1]? = some (.cells #[.slice q1 l.length q2] 50 (0, 0)) := by simpa using heap_setCell_at (i := 0) HR4.out (.slice q1 l.length q2)
  have hk5 := Keep.set1 w4 ⟨w.heap.size + 1, 0, none⟩ (.slice q1 l.length q2)
  refine bodyPost_ret (results_cell_row (ty := 50) rfl _ _ (w.heap.size + 1) _ _ _ _ rfl hr5 Tryz.underlying50 rfl fun_size) rfl ?_
  obtain ⟨hplo, hlo⟩ := HN.out
  exact ⟨_, l, _, rfl, Ev.of_fun HEV.out, HNS4.out.up hk5 (by simp) (by omega), HPS4.out.keep hk5 (by simp; omega), Nat.le_trans (must_len sDot s2) HLE.out, keepB (lo := w.heap.size) ((HKW4.out.mono (G := [pb, w.heap.size + 1]) (by simp)).trans hk5 (by simp)) (by simp) (Nat.le_refl _)⟩
/-- where a parser begins -/
def beginS (l : List UInt8) : St := match scanL l 0 with
  | .ok ts => ⟨ts, l.length, 0, 0⟩
  | .error p => ⟨[], l.length, p.1, p.2⟩
def BeginP (w : World) (l : List UInt8) (e : Ending) (w' : World) : Prop :=
  ∃ q, e = .returned (.pointer (some ⟨q, 0, none⟩)) ∧ PS (q + 1) w' q (beginS l) ∧ w.heap.size ≤ q ∧ q + 1 = w'.heap.size ∧ Keep [] w w'
theorem LvT.lt {B C : Nat} {w : World} (h : LvT B w) (hBC : B ≤ C) : LvT C w := fun v hv => by
  obtain ⟨sv, o, h1, h2, h3, h4⟩ := h v hv
  exact ⟨sv, o, h1, h2, Nat.lt_of_lt_of_le h3 hBC, fun b hb => Nat.lt_of_lt_of_le (h4 b hb) hBC⟩
set_option maxRecDepth 100000 in
set_option maxHeartbeats 4000000 in
theorem p_begin (s : ByteArray) (w : World) (he : ErrOk w) (hs : s.size ≤ 16384) (hlv : LvT w.heap.size w) :
    Calls Tryz.prog 40 #[.string s] w (BeginP w s.data.toList) := by
  have hsc := p_scan s w he (by omega)
  rw [decide_eq_false (show ¬ 16384 < s.size by omega)] at hsc
  have HSC := Lib.hid hsc
  have HLV := Lib.hid hlv
  have hlen : s.data.toList.length = s.size := by simp
  have HLEN := Lib.hid hlen
  clear he hlv hsc hlen
  go_enter Tryz.func40, Tryz.ntmps40
  go_wp2_with fail
  refine HSC.out.mono ?_
  rintro e w2 ⟨hsc, hk2⟩
  rw [if_neg (by decide)] at hsc
  have hlv2 := (HLV.out.keep hk2 (by simp)).lt hk2.size
  rcases hR : scanL s.data.toList 0 with p | ts
  · rw [hR] at hsc
    simp only at hsc
    subst hsc
    have hps : PS (w2.heap.size + 1) (w2.alloc (.cells #[.slice none 0 0, .int .i64 s.size, .int .i64 p.1, .int .i64 (p.2 : Nat)] 79)) w2.heap.size (beginS s.data.toList) := by
      unfold beginS
      rw [hR]
      simp only
      rw [HLEN.out]
      exact ⟨⟨_, none, heap_alloc_new w2 _, ⟨rfl, none, 0, rfl, Nat.le_refl _, by simp [maxLen], .inl ⟨rfl, rfl⟩⟩, by simp⟩, by omega, hlv2.keep ((Keep.refl [] w2).alloc _) (by simp)⟩
    have HFIN := Lib.hid (show BeginP w s.data.toList (.returned (.pointer (some ⟨w2.heap.size, 0, none⟩))) (w2.alloc (.cells #[.slice none 0 0, .int .i64 s.size, .int .i64 p.1, .int .i64 (p.2 : Nat)] 79)) from ⟨_, rfl, hps, hk2.size, by rw [size_alloc], hk2.alloc _⟩)
    clear hps hlv2 hk2 hR
    go_wp2_with fail
    go_ret
    exact HFIN.out
  · rw [hR] at hsc
    simp only at hsc
    obtain ⟨v, o, rfl, hrow, ho⟩ := hsc
    obtain ⟨a, c, rfl⟩ := hrow.slice
    obtain ⟨o', hrd, ho'⟩ := Row.rd hrow
    have hlt := Row.lt hrow
    have hk3 := (Keep.refl [] w2).alloc (.cells #[.slice a ts.length c, .int .i64 s.size, .int .i64 0, .int .i64 0] 79)
    have hps : PS (w2.heap.size + 1) (w2.alloc (.cells #[.slice a ts.length c, .int .i64 s.size, .int .i64 0, .int .i64 0] 79)) w2.heap.size (beginS s.data.toList) := by
      unfold beginS
      rw [hR]
      simp only
      rw [HLEN.out]
      exact ⟨⟨_, o', heap_alloc_new w2 _, hrd.keep0 hk3, fun b hb => by
        rcases ho' with h | h
        · rw [h] at hb; cases hb
        · rw [h] at hb; have := hlt b hb; omega⟩, by omega, hlv2.keep hk3 (by simp)⟩
    have HFIN := Lib.hid (show BeginP w s.data.toList (.returned (.pointer (some ⟨w2.heap.size, 0, none⟩))) (w2.alloc (.cells #[.slice a ts.length c, .int .i64 s.size, .int .i64 0, .int .i64 0] 79)) from ⟨_, rfl, hps, hk2.size, by rw [size_alloc], hk2.alloc _⟩)
    clear hps hlv2 hk2 hR hk3 hlt ho' hrd ho hrow
    go_wp2_with fail
    go_ret
    exact HFIN.out
end Go.Proofs.YtdmmhfbafinkpaaGreatDoor

/- Parse: rows of functions; the plain law of many functions. -/
namespace Go.Proofs.YtdmmhfbafinkpaaGreatDoor
open Go.RowKit Go.Emb Go.Shelf

/-- functions, one behind the other -/
def funsL : Nat → Bool → P (List (List Nd))
  | 0, _ => fun s => ([], failS 999 s)
  | n + 1, b => fun s => if s.err = 0 ∧ (b = true ∨ s.toks ≠ []) then bnd (funP n) (fun f => bnd (funsL n false) fun l => ret (f :: l)) s else ([], s)
theorem Ev.of_funs_stop {b : Bool} {s : St} (h : ¬ (s.err = 0 ∧ (b = true ∨ s.toks ≠ []))) : Ev (fun n => funsL n b) s [] s := by
  refine ⟨1, fun n hn => ?_⟩
  obtain ⟨m, rfl⟩ : ∃ m, n = m + 1 := ⟨n - 1, by omega⟩
  show funsL (m + 1) b s = ([], s)
  rw [funsL]
  simp only [if_neg h]
theorem Ev.of_funs_go {b : Bool} {s s1 s2 : St} {f : List Nd} {l : List (List Nd)} (h : s.err = 0 ∧ (b = true ∨ s.toks ≠ [])) (h1 : Ev funP s f s1) (h2 : Ev (fun n => funsL n false) s1 l s2) : Ev (fun n => funsL n b) s (f :: l) s2 := by
  obtain ⟨N0, h1⟩ := h1
  obtain ⟨N1, h2⟩ := h2
  refine ⟨N0 + N1 + 1, fun n hn => ?_⟩
  obtain ⟨m, rfl⟩ : ∃ m, n = m + 1 := ⟨n - 1, by omega⟩
  have h1 : funP m s = (f, s1) := h1 m (by omega)
  have h2 : funsL m false s1 = (l, s2) := h2 m (by omega)
  show funsL (m + 1) b s = (f :: l, s2)
  rw [funsL]
  simp only [if_pos h]
  simp [bnd, ret, h1, h2]
theorem Good.fun (n : Nat) : Good (funP n) := .bnd ((allG n).clausesL _ _) fun _ => .doS (.must _) (.ret _)
/-- a function takes a token, or fails -/
theorem Ev.fun_less {s s1 : St} {f : List Nd} (h : Ev funP s f s1) (he : s1.err = 0) : s1.toks.length + 1 ≤ s.toks.length := by
  obtain ⟨N, h⟩ := h
  have h0 := h N (Nat.le_refl _)
  unfold funP bnd doS ret at h0
  simp only [Prod.mk.injEq] at h0
  obtain ⟨-, h2⟩ := h0
  have h3 := ((allG N).clausesL 2 0 s).1
  rw [← h2] at he ⊢
  obtain ⟨h4, h5, h6⟩ := must_ok he
  rw [h6]
  have := has_lt h5
  omega
theorem placed_len (z : Nat) : ∀ (ts : List (Tk × Nat)) (a : Nat), a ≤ z → Placed z a ts → a + ts.length ≤ z := by
  intro ts
  induction ts with
  | nil => intro a ha _; simpa using ha
  | cons x r ih =>
    intro a _ h
    obtain ⟨t, p⟩ := x
    simp only [Placed] at h
    have := ih _ h.2.2.1 h.2.2.2
    simp only [List.length_cons]
    omega
theorem begin_len (l : List UInt8) : (beginS l).toks.length ≤ l.length := by
  unfold beginS
  rcases hR : scanL l 0 with p | ts
  · simp
  · have := placed_len _ ts 0 (by omega) (scan_placed ts l 0 hR)
    simp at this ⊢
    omega
/-- a slice of functions -/
def FsR (S : Nat → Prop) (w : World) (v : Value) (l : List (List Nd)) : Prop :=
  ∃ (es : List Value) (o : Option Nat), Rd w 1 v l.length es o ∧ (∀ x, o = some x → S x) ∧ es.length = l.length ∧ ∀ i (h : i < es.length) (h' : i < l.length), NsR S w true es[i] l[i]
def RowF (lo : Nat) (w : World) (v : Value) (l : List (List Nd)) (o : Option Nat) : Prop :=
  ∃ (es : List Value), Row w 50 1 v l.length es o ∧ es.length = l.length ∧ (∀ i (h : i < es.length) (h' : i < l.length), NsR (FrsX lo w o) w true es[i] l[i]) ∧ ∀ b, o = some b → lo ≤ b
theorem RowF.nil (lo : Nat) (w : World) : RowF lo w (.slice none 0 0) [] none := ⟨[], Row.nil _ _ _, rfl, fun i h => by simp at h, by simp⟩
theorem RowF.lt {lo : Nat} {w : World} {v : Value} {l : List (List Nd)} {o : Option Nat} (h : RowF lo w v l o) : ∀ b, o = some b → b < w.heap.size := by
  obtain ⟨es, h1, -⟩ := h; exact Row.lt h1
theorem RowF.keep {lo : Nat} {w w' : World} {v : Value} {l : List (List Nd)} {o : Option Nat} {F : List Nat} (h : RowF lo w v l o) (hk : Keep F w w') (hF : ∀ b ∈ F, b < lo) : RowF lo w' v l o := by
  obtain ⟨es, h1, h2, h3, h4⟩ := h
  exact ⟨es, h1.keep hk (fun b hb hf => absurd (h4 b hb) (by have := hF b hf; omega)), h2, fun i h h' => ((h3 i h h').keep hk (fun b hb h => absurd h.1 (by have := hF b hb; omega))).mono (fun b h => ⟨h.1, Nat.lt_of_lt_of_le h.2.1 hk.size, h.2.2⟩), h4⟩
theorem RowF.form {lo : Nat} {w : World} {v : Value} {l : List (List Nd)} {o : Option Nat} (h : RowF lo w v l o) : ∃ a c, v = .slice a l.length c := by
  obtain ⟨es, h1, -⟩ := h
  obtain ⟨o', ⟨-, a, c, hv, -⟩, -⟩ := Row.rd h1
  exact ⟨a, c, hv⟩
theorem RowF.push {lo lo' : Nat} {w w' : World} {v' : Value} {l : List (List Nd)} {o : Option Nat} {g : Nat} {cs : Value} {n : List Nd} {es : List Value}
    (he : es.length = l.length) (ht : ∀ i (h : i < es.length) (h' : i < l.length), NsR (FrsX lo w o) w true es[i] l[i]) (ho : ∀ b, o = some b → lo ≤ b) (hx : NsR (Frs lo' w) w true cs n) (hlo : lo ≤ lo') (hlo2 : lo' ≤ w.heap.size) (hol : ∀ b, o = some b → b < lo')
    (hk : Keep o.toList w w') (hg : o = some g ∨ w.heap.size ≤ g) (hr : Row w' 50 1 v' (l.length + 1) (es ++ [cs]) (some g)) : RowF lo w' v' (l ++ [n]) (some g) := by
  have hS : ∀ b, FrsX lo w o b → FrsX lo w' (some g) b := fun b h => ⟨h.1, Nat.lt_of_lt_of_le h.2.1 hk.size, fun e => by
    cases e
    rcases hg with hg | hg
    · exact h.2.2 hg
    · have := h.2.1; omega⟩
  have hX : ∀ b, Frs lo' w b → FrsX lo w' (some g) b := fun b h => ⟨Nat.le_trans hlo h.1, Nat.lt_of_lt_of_le h.2 hk.size, fun e => by
    cases e
    rcases hg with hg | hg
    · have := hol _ hg; have := h.1; omega
    · have := h.2; omega⟩
  refine ⟨es ++ [cs], by simpa using hr, by simp [he], fun i h h' => ?_, fun b hb => ?_⟩
  · by_cases hi : i < es.length
    · rw [List.getElem_append_left hi, List.getElem_append_left (by omega)]
      exact ((ht i hi (by omega)).keep hk (fun b hb h => by simp at hb; exact h.2.2 hb)).mono hS
    · obtain rfl : i = es.length := by simp at h; omega
      have e1 : (es ++ [cs])[es.length]'h = cs := by simp
      have e2 : (l ++ [n])[es.length]'h' = n := by rw [List.getElem_append_right (by omega)]; simp [he]
      rw [e1, e2]
      exact (hx.keep hk (fun b hb h => by simp at hb; have := hol _ hb; have := h.1; omega)).mono hX
  · cases hb
    rcases hg with hg | hg
    · exact ho _ hg
    · omega
theorem RowF.fs {lo : Nat} {w : World} {v : Value} {l : List (List Nd)} {o : Option Nat} (h : RowF lo w v l o) : FsR (Frs lo w) w v l := by
  have hlt := h.lt
  obtain ⟨es, h1, h2, h3, h4⟩ := h
  obtain ⟨o', h5, h6⟩ := Row.rd h1
  refine ⟨es, o', h5, fun x hx => ?_, h2, fun i h h' => (h3 i h h').mono (fun b hb => ⟨hb.1, hb.2.1⟩)⟩
  rcases h6 with h6 | h6
  · rw [h6] at hx; cases hx
  · rw [h6] at hx; exact ⟨h4 x hx, hlt x hx⟩
theorem RowF.app {lo lo' : Nat} {w : World} {v : Value} {l : List (List Nd)} {o : Option Nat} {cs : Value} {n : List Nd} (h : RowF lo w v l o) (hx : NsR (Frs lo' w) w true cs n) (hlo : lo ≤ lo') (hlo2 : lo' ≤ w.heap.size) (hol : ∀ b, o = some b → b < lo') (ar : Array Value) (t : TypeId) :
    ∃ es : List Value, Row (w.alloc (.cells ar t)) 50 1 v l.length es o ∧ ∀ g v' w4, Row w4 50 1 v' (l.length + 1) (es ++ [cs]) (some g) → Keep o.toList (w.alloc (.cells ar t)) w4 → (o = some g ∨ (w.alloc (.cells ar t)).heap.size ≤ g) → RowF lo w4 v' (l ++ [n]) (some g) := by
  have hk := (Keep.refl [] w).alloc (.cells ar t)
  obtain ⟨es, h1, h2, h3, h4⟩ := h.keep hk (by simp)
  exact ⟨es, h1, fun g v' w4 hr hk4 hg => RowF.push h2 h3 h4 (hx.up hk (by simp) (Nat.le_refl _)) hlo (Nat.le_trans hlo2 hk.size) hol hk4 hg hr⟩
theorem fun_info : (Tryz.prog.info? 50).map (fun i => (i.zero, i.size, i.bytes)) = some (some (.agg #[.slice none 0 0]), 1, 24) := by kernel_rfl
/-- what is left to do: nothing, behind an error -/
def perr (w : World) (pb : Nat) : Int := RowKit.intOf ((w.cell? ⟨pb, 2, none⟩).getD undef)
def pmeas (w : World) (pb : Nat) : Nat := if perr w pb = 0 then plen w pb + 1 else 0
theorem PS.meas {lo : Nat} {w : World} {pb : Nat} {s : St} (h : PS lo w pb s) : pmeas w pb = if s.err = 0 then s.toks.length + 1 else 0 := by
  have h1 := h.len
  obtain ⟨v, o, h2, -⟩ := h.blk
  unfold pmeas perr
  rw [(cells4p h2).2.2.1, h1]
  rfl
end Go.Proofs.YtdmmhfbafinkpaaGreatDoor
