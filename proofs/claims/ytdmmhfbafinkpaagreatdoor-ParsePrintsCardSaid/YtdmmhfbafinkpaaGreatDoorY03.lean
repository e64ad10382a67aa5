/- ParsePrints: a part of the proof (Pa16), squeezed by squeeze.py. -/
import Derived.Test.YtdmmhfbafinkpaaGreatDoorY02
set_option maxRecDepth 100000
set_option maxHeartbeats 8000000
namespace Go.Proofs.YtdmmhfbafinkpaaGreatDoor
open Go.RowKit Go.Emb Go.Shelf
theorem w_fun2 {lo pb M : Nat} {w : World} {s : St} {cb b2 : Nat} {at_ : Int} (ih : AllC lo pb M) (hM : 32 * s.toks.length + 12 < M) (h : PS lo w pb s) (hlo : lo ≤ w.heap.size) (hd : s.toks.length ≤ 1000000) (hcb : lo ≤ cb)
  (hb : w.heap[cb]? = some (.cells #[.slice none 0 0, .slice none 0 0, .slice none 0 0, .string ⟨#[]⟩, .int .i64 at_] 52 (0, 0)))
  (h2 : w.cell? ⟨b2, 0, none⟩ = some (.pointer (some ⟨pb, 0, none⟩))) (n2 : lo ≤ b2 ∧ b2 ≠ cb) :
  Calls Tryz.prog 61 #[.pointer (some ⟨cb, 0, none⟩), .pointer (some ⟨b2, 0, none⟩)] w (OneP lo w pb cb (fun n => oneC n 2 0) s) := by
 have hplo := h.plo; have hne : cb ≠ pb := by omega
 have hl2 := World.block_lt_of_cell? _ _ h2; have HPS := hyd h; have HB := hyd hb; have HN := hyd (And.intro hplo (And.intro hlo (And.intro hcb (And.intro hne (And.intro hl2 (And.intro n2.1 n2.2)))))); have IH := hyd ih; have HD := hyd (And.intro hM hd); have HF := hyd (p_fails h 110)
 have hfail : ∀ w' : World, PS lo w' pb (failS 110 s) → Keep [pb] w w' → Ev (fun n => oneC n 2 0) s nd0 (failS 110 s) → OneP lo w pb cb (fun n => oneC n 2 0) s (.returned (.tuple #[])) w' := fun w' hps hk hev =>
  ⟨_, nd0, _, rfl, hev, blkK hb hk (by simp; exact hne), NdR.mk5 (name := []) (NsR.nil _ _ false) (NsR.nil _ _ false) (NsR.nil _ _ false), hps, failS_len 110 s, hk.mono (by simp)⟩
 have HFAIL := hyd hfail; obtain ⟨v, o, hpb, hrd, ho⟩ := h.blk; obtain ⟨s0, s1, s2, s3⟩ := cells4p hpb; have f0 := frozenP hpb; have HPB := hyd hpb; have HO := hyd ho; clear ih hM h hlo hd hcb hb n2 hplo hne hl2 hfail hpb ho; obtain ⟨toks, en, err, at0⟩ := s
 cases toks with
 | nil =>
  obtain ⟨a, c, rfl⟩ := toks_nil hrd; clear hrd; simp only at s0 s1 s2 s3; go_enter Tryz.func61, Tryz.ntmps61; go_wp2_with fail; refine HF.o.mono ?_; rintro e w2 ⟨rfl, hps2, hk2⟩; have HR := hyd (HFAIL.o w2 hps2 hk2 (Ev.of_one_2_nil rfl)); clear hps2 hk2; go_wp2_with fail
  go_end0
  exact HR.o
 | cons x r =>
  obtain ⟨tb, toff, tc, rfl, rfl, htc, c0, c1, c2, c3, hrd2⟩ := toks_at hrd; have HRD2 := hyd hrd2; clear hrd hrd2; simp only at s0 s1 s2 s3
  by_cases hk : x.1.kind = 2
  ·have hk' : (x.1.kind != 2) = false := by simp [hk]
   obtain ⟨hb1, hk1⟩ := set5a (i := 3) HB.o (.string ⟨x.1.text.toArray⟩); have hb1' : (w.setCell ⟨cb, 3, none⟩ (.string ⟨x.1.text.toArray⟩)).heap[cb]? = some (.cells #[.slice none 0 0, .slice none 0 0, .slice none 0 0, .string ⟨x.1.text.toArray⟩, .int .i64 at_] 52 (0, 0)) := by simpa using hb1
   obtain ⟨hplo, hlo, hcb, hne, hl2, n2, n2'⟩ := HN.o; have hpb1 := blkK HPB.o hk1 (by simp; omega); have h21 : (w.setCell ⟨cb, 3, none⟩ (.string ⟨x.1.text.toArray⟩)).cell? ⟨b2, 0, none⟩ = some (.pointer (some ⟨pb, 0, none⟩)) := by rw [hk1.cell (p := ⟨b2, 0, none⟩) hl2 (by simpa using n2')]; exact h2
   have hps1 := HPS.o.keep hk1 (by simp; exact hcb); have hrd1 := HRD2.o.keep hk1 (fun b hb => by have := (HO.o b hb).1; simp; omega); obtain ⟨d0, d1, d2, d3, d4⟩ := cells5 HB.o; have fd := frozenP HB.o
   have hsl : ∀ W, (Instr.slice 46 (.slice (some ⟨tb, toff, none⟩) (r.length + 1) tc) (some (.int .i64 1)) none none).run Tryz.prog W = .ok (.slice (some ⟨tb, sliceOff toff tc 1 5, none⟩) r.length (tc - 1)) W := by
    intro W; exact run_slice_lo W Tryz.underlying46 (fun _ => by kernel_rfl) tb toff (r.length + 1) tc 1 (by omega)
   have HB1 := hyd hb1'; have HPB1 := hyd hpb1; have H21 := hyd h21; have HPS1 := hyd hps1; have HRD1 := hyd hrd1; have HK1 := hyd hk1; have HK := hyd hk; clear hk hb1 hb1' hpb1 h21 hps1 hrd1 hk1 hplo hlo hcb hne hl2 n2 n2' htc; go_enter Tryz.func61, Tryz.ntmps61; go_wp2_with fail; clear s0 s1 s2 s3 f0 d0 d1 d2 d3 d4 fd c0 c1 c2 c3 h2; generalize (w.setCell ⟨cb, 3, none⟩ (.string ⟨x.1.text.toArray⟩)) = w1 at *; refine wp_regionB [0] (fun w' => Keep [] w1 w') (by kernel_rfl) ?_; refine tkB [0] 1 ?vA1 rfl ?runA1 ((Keep.refl [] w1).drew) ?_
   case runA1 => (intro w9 hS9; obtain ⟨x0, y0, y1, y2, y3⟩ := And.intro (hS9.cell (p := ⟨b2, 0, none⟩) (World.block_lt_of_cell? _ _ H21.o) (by simp) |>.trans H21.o) (cells4p (blkK HPB1.o hS9 (by simp))); go_simp; try exact rfl)
   try simp only [Act.put, lA, lZ, lS]
   refine tkY 2 ?vA2 rfl ?runA2 ?_
   case runA2 => (intro w9 _; go_simp; try exact rfl)
   try simp only [Act.put, lA, lZ, lS]
   refine tkY 3 ?vA3 rfl ?runA3 ?_
   case runA3 => (intro w9 _; go_simp; try exact rfl)
   try simp only [Act.put, lA, lZ, lS]
   refine tkB [0] 4 ?vA4 rfl ?runA4 ((Keep.refl [] w1).drew) ?_
   case runA4 => (intro w9 hS9; obtain ⟨x0, y0, y1, y2, y3⟩ := And.intro (hS9.cell (p := ⟨b2, 0, none⟩) (World.block_lt_of_cell? _ _ H21.o) (by simp) |>.trans H21.o) (cells4p (blkK HPB1.o hS9 (by simp))); go_simp; try exact rfl)
   try simp only [Act.put, lA, lZ, lS]
   refine tkY 5 ?vA5 rfl ?runA5 ?_
   case runA5 => (intro w9 _; go_simp; try exact rfl)
   try simp only [Act.put, lA, lZ, lS]
   refine tkB [] 0 ?vA0 rfl ?runA0 ((Keep.refl [] w1).drew) ?_
   case runA0 => (intro w9 hS9; obtain ⟨x0, y0, y1, y2, y3⟩ := And.intro (hS9.cell (p := ⟨b2, 0, none⟩) (World.block_lt_of_cell? _ _ H21.o) (by simp) |>.trans H21.o) (cells4p (blkK HPB1.o hS9 (by simp))); go_simp; try exact rfl)
   try simp only [Act.put, lA, lZ, lS]
   refine tkY 6 ?vA6 rfl ?runA6 ?_
   case runA6 => (intro w9 _; go_simp; try exact rfl)
   try simp only [Act.put, lA, lZ, lS]
   refine tkY 7 ?vA7 rfl ?runA7 ?_
   case runA7 => (intro w9 _; go_simp; try exact rfl)
   try simp only [Act.put, lA, lZ, lS]
   refine rdB 8 rfl (fun K hK => ?_); have hk9 := (Keep.refl [] w1).drew; have hp9 := blkK HPB1.o hk9 (by simp); obtain ⟨e0, e1, e2, e3⟩ := cells4p hp9; have f9 := frozenP hp9; go_simp; refine hK.out _ _ (fun h => (nomatch h)) ?_; clear hK K
   try simp only [Act.put, lA, lZ, lS]
   refine wpAnyB_done (by kernel_rfl) ?_ _; clear e0 e1 e2 e3 f9 hp9 hk9; have hko : Keep [pb] w1 (w1.setCell ⟨pb, 0, none⟩ (.slice (some ⟨tb, sliceOff toff tc 1 5, none⟩) r.length (tc - 1))) := Keep.set1 w1 ⟨pb, 0, none⟩ _; have hps2 := HPS1.o.written (s' := ⟨r, en, err, at0⟩) hko (by simpa using heap_setCell_at (i := 0) HPB1.o (.slice (some ⟨tb, sliceOff toff tc 1 5, none⟩) r.length (tc - 1))) HRD1.o HO.o; have hps3 := hps2.keep0 ((Keep.refl [] _).drew); have hk3 := hko.trans (Keep.refl [] _).drew (by simp); obtain ⟨hplo, hlo, hcb, hne, hl2, n2, n2'⟩ := HN.o; have hb3 := blkK HB1.o hk3 (by simp; exact hne); have h23 := (hk3.cell (p := ⟨b2, 0, none⟩) (World.block_lt_of_cell? _ _ H21.o) (by simp; omega)).trans H21.o; have hkw := (HK1.o.mono (G := [pb, cb]) (by simp)).trans hk3 (by simp); generalize (w1.setCell ⟨pb, 0, none⟩ (.slice (some ⟨tb, sliceOff toff tc 1 5, none⟩) r.length (tc - 1))).drew = w2 at *; have hcall := IH.o.headP (nm := x.1.text) (d := 0) hps3 (Nat.le_trans hlo hkw.size) (by have := HD.o.2; simp at this ⊢; omega) (by have := HD.o.1; simp at this ⊢; omega) hcb hb3; have HCALL := hyd hcall; have HKW := hyd hkw; clear hcall hkw hb3 hk3 hps3 hps2 hko hplo hlo hcb hne hl2 n2 n2'; go_wp2_with fail; refine HCALL.o.mono ?_; rintro e w3 ⟨cs, n, s', rfl, hev, hb4, hnd, hps4, hle, hk4⟩; have hres : OneP lo w pb cb (fun n => oneC n 2 0) ⟨x :: r, en, err, at0⟩ (.returned (.tuple #[])) w3 := ⟨cs, n, s', rfl, Ev.of_one_2 (s := ⟨x :: r, en, err, at0⟩) rfl HK.o hev, hb4, hnd.mono (fun b h => ⟨Nat.le_trans HKW.o.size h.1, h.2⟩), hps4, by simp at hle ⊢; omega, HKW.o.trans hk4 (by simp)⟩; have HRES := hyd hres; clear hev hb4 hnd hps4 hle hk4 hres; go_wp2_with fail
   go_end0
   exact HRES.o
  ·have hk' : (x.1.kind != 2) = true := by simp [hk]
   have HK := hyd hk; clear hk; go_enter Tryz.func61, Tryz.ntmps61; go_wp2_with fail; refine HF.o.mono ?_; rintro e w2 ⟨rfl, hps2, hk2⟩; have HR := hyd (HFAIL.o w2 hps2 hk2 (Ev.of_one_2_no rfl HK.o)); clear hps2 hk2; go_wp2_with fail
   go_end0
   exact HR.o
end Go.Proofs.YtdmmhfbafinkpaaGreatDoor
