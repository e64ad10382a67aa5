/- ParsePrints: a part of the proof (PaV, PaW, PaX, PaY, Pa24, PaLaid, Sc12, Sc13, PbLaid, Sc16, Sc17, Sc18, Sd1, BaseIn, BaseAny), squeezed by squeeze.py. -/
import Derived.Test.YtdmmhfbafinkpaaGreatDoorY06
import Derived.WalkKit
import Derived.Test.YtdmmhfbafinkpaaGreatDoorRows
import Derived.ProofKit
import Derived.LaidMore
import Derived.OpenShut
import Derived.Stop.Joined
import Derived.Lib.LaidTab
import Derived.Test.YtdmmhfbafinkpaaGreatDoorY05
import Derived.Deep.RegionHeld3
import Derived.Deep.DrawnRows
import Derived.Test.YtdmmhfbafinkpaaGreatDoorY01
import Derived.Deep.CutBlock
import Derived.WalkSmall
import Derived.Laws.IdiomStrings
import Derived.Test.YtdmmhfbafinkpaaGreatDoorY00
import Derived.RangeFuncNested
import Derived.RangeFuncBound
import Derived.RangeFuncCalls
import Derived.RangeFuncLeaves
import Derived.Shelf.Abstract
import Derived.Shelf.RegionOpen
import Derived.OwnWalkIn
import Derived.TacticsInMore
import Derived.LoopNIn
import Derived.LoopIn
set_option maxRecDepth 100000
set_option maxHeartbeats 8000000
namespace Go.Proofs.YtdmmhfbafinkpaaGreatDoor
open Go.Emb
theorem tok_sign {c : UInt8} (v : List UInt8) (h : (digitB c || smallB c || greatB c || decide (c.toNat = 39)) = false) (hs : signsL.contains c = true) (h2 : ∀ d, sign2 c d = false) : tokL (c :: v) = .ok ⟨5, 0, [c], 1⟩ := by
 simp only [Bool.or_eq_false_iff] at h; obtain ⟨⟨⟨h3, h4⟩, h5⟩, h6⟩ := h; have h6' : ¬ c.toNat = 39 := by simpa using h6
 have hn : signN (c :: v) = 1 := by
  cases v with
  | nil => simp only [signN]; rw [if_pos hs]
  | cons d r => simp only [signN]; rw [h2 d, if_neg (by simp), if_pos hs]
 unfold tokL; simp only [h3, h4, h5, Bool.or_self, Bool.false_eq_true, if_false, if_neg h6', hn, if_neg (show ¬ (1 : Nat) = 0 by decide)]
 rfl
abbrev tSign (c : UInt8) : Tk := ⟨5, 0, [c], 1⟩
abbrev tTo : Tk := ⟨5, 0, [45, 62], 2⟩
abbrev tAtom (c : UInt8) : Tk := ⟨2, 0, [c], 1⟩
abbrev tVar (c : UInt8) : Tk := ⟨3, 0, [c], 1⟩
abbrev tNum (n : Int) : Tk := ⟨1, n, [], 1⟩
theorem s2_of {c : UInt8} (h : c ≠ 45 ∧ c ≠ 61 ∧ c ≠ 47 ∧ c ≠ 62) (d : UInt8) : sign2 c d = false := by
 obtain ⟨h1, h2, h3, h4⟩ := h; simp [sign2, h1, h2, h3, h4]
section
variable {a : Nat} {ts : List (Tk × Nat)} {v : List UInt8}
theorem scan_sign {c : UInt8} (hc : c ∈ [40, 41, 123, 125, 44, 46]) (h : scanL v (a + 1) = .ok ts) : scanL (c :: v) a = .ok ((tSign c, a) :: ts) := by
 have hk : blankB c = false ∧ c.toNat ≠ 37 ∧ (digitB c || smallB c || greatB c || decide (c.toNat = 39)) = false ∧ signsL.contains c = true ∧ c ≠ 45 ∧ c ≠ 61 ∧ c ≠ 47 ∧ c ≠ 62 := by
  simp at hc; rcases hc with rfl | rfl | rfl | rfl | rfl | rfl <;> decide
 exact scan_one hk.1 hk.2.1 (tok_sign v hk.2.2.1 hk.2.2.2.1 (s2_of hk.2.2.2.2)) (by simpa using h)
theorem scan_blk {c : UInt8} (hc : blankB c = true) (h : scanL v (a + 1) = .ok ts) : scanL (c :: v) a = .ok ts := by rw [scanL_blank v a hc]; exact h
theorem scan_app {c : UInt8} {u w' : List UInt8} {t : Tk} (h1 : tokL (c :: u) = .ok t) (hen : t.en = (c :: u).length) (hb : blankB c = false) (hn : c.toNat ≠ 37) (haf : After [] v) (h : scanL v (a + t.en) = .ok ts) (he : w' = c :: u ++ v) : scanL w' a = .ok ((t, a) :: ts) := by
 subst he; have ht := tokL_app (u := c :: u) (v := []) (v' := v) haf (by simpa using h1) hen; refine scan_one (r := u ++ v) hb hn (by simpa using ht) ?_; rw [show c :: (u ++ v) = (c :: u) ++ v from rfl, hen, List.drop_left]; rw [hen] at h; exact h
theorem after_blank {c : UInt8} {r : List UInt8} (h : blankB c = true) : After [] (c :: r) := .inr (.inr ⟨c, r, rfl, h⟩)
theorem scan_letter {c d : UInt8} {r : List UInt8} {t : Tk} (h1 : tokL [c, d] = .ok t) (hen : t.en = 1) (hb : blankB c = false) (hn : c.toNat ≠ 37) (h : scanL (d :: r) (a + 1) = .ok ts) : scanL (c :: d :: r) a = .ok ((t, a) :: ts) := by
 have ht := tokL_app (u := [c]) (v := [d]) (v' := d :: r) (.inr (.inl ⟨d, [], r, rfl, rfl⟩)) h1 hen; refine scan_one hb hn (by simpa using ht) ?_; rw [hen]; exact h
end
open Go.Emb
theorem scan_l1 : scanL [49, 32, 43, 32, 50, 32, 42, 32, 88] 0 = .ok [(tNum 1, 0), (tSign 43, 2), (tNum 2, 4), (tSign 42, 6), (tVar 88, 8)] :=
 scan_app (c := 49) (u := []) (by rfl) rfl (by decide) (by decide) (after_blank (c := 32) (by decide)) (scan_blk (by decide) (scan_app (c := 43) (u := []) (by rfl) rfl (by decide) (by decide) (after_blank (c := 32) (by decide)) (scan_blk (by decide) (scan_app (c := 50) (u := []) (by rfl) rfl (by decide) (by decide) (after_blank (c := 32) (by decide)) (scan_blk (by decide) (scan_app (c := 42) (u := []) (by rfl) rfl (by decide) (by decide) (after_blank (c := 32) (by decide)) (scan_blk (by decide) (scan_app (c := 88) (u := []) (v := []) (by rfl) rfl (by decide) (by decide) (.inl ⟨rfl, rfl⟩) (scanL_nil _) rfl)) rfl)) rfl)) rfl)) rfl
theorem scan_l2 : scanL [102, 40, 49, 41, 40, 50, 41] 0 = .ok [(tAtom 102, 0), (tSign 40, 1), (tNum 1, 2), (tSign 41, 3), (tSign 40, 4), (tNum 2, 5), (tSign 41, 6)] :=
 scan_letter (by rfl) rfl (by decide) (by decide) (scan_sign (by decide) (scan_letter (by rfl) rfl (by decide) (by decide) (scan_sign (by decide) (scan_sign (by decide) (scan_letter (by rfl) rfl (by decide) (by decide) (scan_sign (by decide) (scanL_nil _)))))))
theorem scan_l3 : scanL [102, 40, 41, 32, 45, 62, 32, 49] 0 = .ok [(tAtom 102, 0), (tSign 40, 1), (tSign 41, 2), (tTo, 4), (tNum 1, 7)] :=
 scan_letter (by rfl) rfl (by decide) (by decide) (scan_sign (by decide) (scan_sign (by decide) (scan_blk (by decide) (scan_app (c := 45) (u := [62]) (by rfl) rfl (by decide) (by decide) (after_blank (by decide)) (scan_blk (by decide) (scan_app (c := 49) (u := []) (v := []) (by rfl) rfl (by decide) (by decide) (.inl ⟨rfl, rfl⟩) (scanL_nil _) rfl)) rfl))))
abbrev n1 : Nd := .mk 1 1 [] [] [] []
abbrev n2 : Nd := .mk 1 2 [] [] [] []
theorem ex_l1 (N : Nat) : expr (N + 40) 0 ⟨[(tNum 1, 0), (tSign 43, 2), (tNum 2, 4), (tSign 42, 6), (tVar 88, 8)], 9, 0, 0⟩ = (.mk 9 0 [43] [n1, .mk 9 0 [42] [n2, .mk 3 0 [88] [] [] []] [] []] [] [], ⟨[], 9, 0, 0⟩) := by
 simp [expr, binary, binLoop, unary, call, callLoop, prim, leafS, takeS, hasS, mustS, enterS, failS, nextS, bnd, ret, doS, levelsL, untilL, someL, bareS, Nd.name]
theorem ex_l2 (N : Nat) : expr (N + 40) 0 ⟨[(tAtom 102, 0), (tSign 40, 1), (tNum 1, 2), (tSign 41, 3), (tSign 40, 4), (tNum 2, 5), (tSign 41, 6)], 7, 0, 0⟩ = (.mk 8 0 [] [.mk 7 0 [102] [n1] [] [], n2] [] [], ⟨[], 7, 0, 0⟩) := by
 simp [expr, binary, binLoop, unary, call, callLoop, prim, leafS, takeS, hasS, mustS, enterS, failS, nextS, bnd, ret, doS, levelsL, untilL, someL, bareS, Nd.name]
theorem ex_l3 (N : Nat) : (funsL (N + 40) true ⟨[(tAtom 102, 0), (tSign 40, 1), (tSign 41, 2), (tTo, 4), (tNum 1, 7)], 8, 0, 0⟩).2 = ⟨[], -1, 110, 8⟩ := by
 simp [expr, binary, binLoop, unary, call, callLoop, prim, leafS, takeS, hasS, mustS, enterS, failS, nextS, bnd, ret, doS, levelsL, untilL, someL, bareS, Nd.name, funsL, funP, clausesL, oneC, headP, bodyP, plc]
theorem live1 {n : Nd} {s' : St} (h : ExR [49, 32, 43, 32, 50, 32, 42, 32, 88] n s') : s'.err = 0 ∧ n = .mk 9 0 [43] [n1, .mk 9 0 [42] [n2, .mk 3 0 [88] [] [] []] [] []] [] [] := by
 obtain ⟨s1, ⟨N, hev⟩, rfl⟩ := h.go scan_l1; have h1 := (ex_l1 N).symm.trans (hev (N + 40) (by omega)); injection h1 with h1 h2; subst h2; exact ⟨rfl, h1.symm⟩
theorem live2 {n : Nd} {s' : St} (h : ExR [102, 40, 49, 41, 40, 50, 41] n s') : s'.err = 0 ∧ n = .mk 8 0 [] [.mk 7 0 [102] [n1] [] [], n2] [] [] := by
 obtain ⟨s1, ⟨N, hev⟩, rfl⟩ := h.go scan_l2; have h1 := (ex_l2 N).symm.trans (hev (N + 40) (by omega)); injection h1 with h1 h2; subst h2; exact ⟨rfl, h1.symm⟩
theorem live3 {l : List (List Nd)} {s' : St} (h : Ev (fun n => funsL n true) (beginS [102, 40, 41, 32, 45, 62, 32, 49]) l s') : s'.err = 110 ∧ s'.at_ = 8 := by
 rw [begin_ok scan_l3] at h; obtain ⟨N, hev⟩ := h; have h1 := (ex_l3 N).symm.trans (congrArg (·.2) (hev (N + 40) (by omega))); simp only at h1; subst h1; exact ⟨rfl, rfl⟩
open Go.RowKit Go.Emb Go.Shelf
theorem num_any (n : Int) (w : World) : Calls Tryz.prog 13 #[.int .i64 n] w fun e w' => e = .returned (.int .i64 n) ∧ w = w' := by
 go_enter Tryz.func13, Tryz.ntmps13; go_wp2_with fail; go_ret; exact ⟨rfl, rfl⟩
structure VarOk (w : World) : Prop where
 err : ErrOk w
 lv : LvT w.heap.size w
theorem VarOk.keep {w w' : World} (h : VarOk w) (hk : Keep [] w w') : VarOk w' := ⟨h.err.keep hk, (h.lv.keep hk (by simp)).lt hk.size⟩
theorem NsR.two {S : Nat → Prop} {w : World} {v : Value} {x y : Nd} (h : NsR S w false v [x, y]) :
  ∃ b off c csx csy, v = .slice (some ⟨b, off, none⟩) 2 c ∧ NdR S w false csx x ∧ NdR S w false csy y ∧ (∀ j, j < 7 → w.cell? ⟨b, off + j, none⟩ = csx[j]?) ∧ ∀ j, j < 7 → w.cell? ⟨b, off + 7 + j, none⟩ = csy[j]? := by
 obtain ⟨a, c, rfl⟩ := h.form; obtain ⟨b, off, csx, rfl, -, hx, hcx⟩ := h.at7 (i := 0) (by simp); obtain ⟨b', off', csy, e, -, hy, hcy⟩ := h.at7 (i := 1) (by simp)
 cases e
 exact ⟨b, off, c, csx, csy, rfl, hx, hy, fun j hj => by simpa using hcx j hj, fun j hj => by simpa using hcy j hj⟩
theorem p_live {w : World} (hv : VarOk w) : Calls Tryz.prog 5 #[] w (YesP w) := by
 have HV := hyd hv; clear hv; go_enter Tryz.func5, Tryz.ntmps5; go_wp2_with fail; refine (p_expression ⟨#[49, 32, 43, 32, 50, 32, 42, 32, 88]⟩ w HV.o.err (by decide) HV.o.lv).mono ?_; rintro e w1 ⟨n, s', hex, hk1, hres⟩; obtain ⟨he1, rfl⟩ := live1 hex; rcases hres with ⟨-, csa, rfl, hnda⟩ | ⟨h, -⟩
 ·obtain ⟨kind, num, at1, name, a, b, c, va, vb, vc, rfl, e, g1, g2, g3⟩ := hnda.un7; injection e with e1 e2 e3 e4 e5 e6; subst e1 e2 e3 e4 e5 e6; obtain ⟨ab, aoff, ac, csx, csy, rfl, -, hy, -, hcy⟩ := g1.two; obtain ⟨ky, ny, aty, nmy, y1, y2, y3, vy1, vy2, vy3, rfl, e, -, -, -⟩ := hy.un7; injection e with e1 e2 e3 e4 e5 e6; subst e1 e2 e3 e4 e5 e6; have hc1 := hcy 2 (by decide); simp only [List.getElem?_cons_succ, List.getElem?_cons_zero] at hc1; obtain ⟨q2, r2, rfl⟩ := g2.form; obtain ⟨q3, r3, rfl⟩ := g3.form; have hkA := (Keep.refl [] w1).alloc (.cells #[.int .i64 9, .int .i64 0, .string ⟨#[43]⟩, .int .i64 at1, .slice (some ⟨ab, aoff, none⟩) 2 ac, .slice q2 0 r2, .slice q3 0 r3] 29); have hA := heap_alloc_new w1 (.cells #[.int .i64 9, .int .i64 0, .string ⟨#[43]⟩, .int .i64 at1, .slice (some ⟨ab, aoff, none⟩) 2 ac, .slice q2 0 r2, .slice q3 0 r3] 29); have HKA := hyd (hk1.trans hkA (by simp)); have HA := hyd hA; have HC1 := hyd (hkA.cell (p := ⟨ab, aoff + 7 + 2, none⟩) (World.block_lt_of_cell? _ _ hc1) (by simp) |>.trans hc1); clear hnda g1 g2 g3 hy hcy hc1 hkA hA hk1 he1 hex; go_wp2_with fail; generalize w1.alloc (.cells #[.int .i64 9, .int .i64 0, .string ⟨#[43]⟩, .int .i64 at1, .slice (some ⟨ab, aoff, none⟩) 2 ac, .slice q2 0 r2, .slice q3 0 r3] 29) = w2 at *; have HV2 := hyd (HV.o.keep HKA.o); refine (p_expression ⟨#[102, 40, 49, 41, 40, 50, 41]⟩ w2 HV2.o.err (by decide) HV2.o.lv).mono ?_; rintro e w3 ⟨n, s', hex, hk3, hres⟩; obtain ⟨he1, rfl⟩ := live2 hex; rcases hres with ⟨-, csb, rfl, hndb⟩ | ⟨h, -⟩
  ·obtain ⟨kind, num, at2, name, a, b, c, va, vb, vc, rfl, e, g1, g2, g3⟩ := hndb.un7; injection e with e1 e2 e3 e4 e5 e6; subst e1 e2 e3 e4 e5 e6; obtain ⟨bb, boff, bc, csx, csy, rfl, hy, -, hcy, -⟩ := g1.two; obtain ⟨ky, ny, aty, nmy, y1, y2, y3, vy1, vy2, vy3, rfl, e, -, -, -⟩ := hy.un7; injection e with e1 e2 e3 e4 e5 e6; subst e1 e2 e3 e4 e5 e6; have hc2 := hcy 0 (by decide); simp only [List.getElem?_cons_succ, List.getElem?_cons_zero, Nat.add_zero] at hc2; obtain ⟨q5, r5, rfl⟩ := g2.form; obtain ⟨q6, r6, rfl⟩ := g3.form; have hkB := (Keep.refl [] w3).alloc (.cells #[.int .i64 8, .int .i64 0, .string ⟨#[]⟩, .int .i64 at2, .slice (some ⟨bb, boff, none⟩) 2 bc, .slice q5 0 r5, .slice q6 0 r6] 29); have hB := heap_alloc_new w3 (.cells #[.int .i64 8, .int .i64 0, .string ⟨#[]⟩, .int .i64 at2, .slice (some ⟨bb, boff, none⟩) 2 bc, .slice q5 0 r5, .slice q6 0 r6] 29); have HKB := hyd (hk3.trans hkB (by simp)); have HB := hyd hB; have HC2 := hyd (hkB.cell (p := ⟨bb, boff, none⟩) (World.block_lt_of_cell? _ _ hc2) (by simp) |>.trans hc2); clear hndb g1 g2 g3 hy hcy hc2 hkB hB hk3 he1 hex; go_wp2_with fail; generalize w3.alloc (.cells #[.int .i64 8, .int .i64 0, .string ⟨#[]⟩, .int .i64 at2, .slice (some ⟨bb, boff, none⟩) 2 bc, .slice q5 0 r5, .slice q6 0 r6] 29) = w4 at *; have HV4 := hyd (HV2.o.keep HKB.o); refine (p_program ⟨#[102, 40, 41, 32, 45, 62, 32, 49]⟩ w4 HV4.o.err (by decide) HV4.o.lv).mono ?_; rintro e w5 ⟨l, s', hev, hk5, hres⟩; obtain ⟨he3, he4⟩ := live3 hev; rw [he3, he4] at hres; rcases hres with ⟨h, -⟩ | ⟨-, rfl⟩
   ·exact absurd h (by decide)
   ·have hA5 := blkK (blkK HA.o HKB.o (by simp)) hk5 (by simp); have hB5 := blkK HB.o hk5 (by simp); obtain ⟨c0, c1, c2, c3, c4, c5, c6⟩ := cells7 hA5; obtain ⟨d0, d1, d2, d3, d4, d5, d6⟩ := cells7 hB5; have hx1 := ((HKB.o.trans hk5 (by simp)).cell (p := ⟨ab, aoff + 7 + 2, none⟩) (World.block_lt_of_cell? _ _ HC1.o) (by simp)).trans HC1.o; have hx2 := (hk5.cell (p := ⟨bb, boff, none⟩) (World.block_lt_of_cell? _ _ HC2.o) (by simp)).trans HC2.o; have HK5 := hyd ((HKA.o.trans HKB.o (by simp)).trans hk5 (by simp)); clear hk5 hev hA5 hB5 he3 he4
    go_wp2_with (go_at_call 13; refine (num_any _ _).mono ?_; rintro e w' ⟨rfl, rfl⟩)
    go_ret; exact ⟨rfl, HK5.o⟩
  ·exact absurd he1 h
 ·exact absurd he1 h
open Go.ChangeShapes Go.WideShapes Go.ChangeAt Go.RowKit Go.Emb
theorem own : ownKnob Tryz.prog.godebug = none := by kernel_rfl
def laid5 : List (String × DataW Unit) := [("math/bits.deBruijn32tab", Rows.laid_math_bits_deBruijn32tab), ("math/bits.deBruijn64tab", Rows.laid_math_bits_deBruijn64tab), ("internal/strconv.uint64pow10", Rows.laid_internal_strconv_uint64pow10), ("strconv.ErrRange", Rows.laid_strconv_ErrRange), ("strconv.ErrSyntax", Rows.laid_strconv_ErrSyntax), ("embers/parse.levels", Rows.laid_embers_parse_levels)]
theorem door_met (os : Os) (args : Array Value) : laidMetH Tryz.prog laid5 ((World.doorLaid Tryz.prog 400 os).forCall (fun _ _ => 0) ⟨#[], args, []⟩).memory :=
 laidMetH_of_parts3 (fuel := 8) (laidMet_of_run' 8 (by kernel_rfl) (by kernel_rfl)) (by kernel_rfl) (by kernel_rfl)
theorem size_listP (S : ByteArray) : S.size = S.data.toList.length := by simp
theorem gErr : Tryz.prog.globalNamed "strconv.ErrRange" = some 6 := by kernel_rfl
theorem tErr : (Tryz.prog.globals[6]?).map (·.type) = some 62 := by kernel_rfl
theorem gLv : Tryz.prog.globalNamed "embers/parse.levels" = some 0 := by kernel_rfl
theorem tLv : (Tryz.prog.globals[0]?).map (·.type) = some 133 := by kernel_rfl
theorem cellsStr : Tryz.prog.cellsOf 9 = 1 := by kernel_rfl
theorem cellsStrs : Tryz.prog.cellsOf 90 = 1 := by kernel_rfl
theorem cells_one {w : World} {b : Nat} {a : Addr} {cs : List Value} (h : w.cells? b a 1 = some cs) : ∃ c, cs = [c] ∧ w.cell? a = some c := by
 have e0 : a.add 0 = a := by simp [Addr.add]
 unfold World.cells? at h
 split at h
 ·simp only [List.range_succ, List.range_zero, List.nil_append, List.mapM_cons, List.mapM_nil, e0] at h
  cases hcc : w.cell? a with
  | none => simp [hcc] at h
  | some c => simp [hcc] at h; exact ⟨c, h.symm, rfl⟩
 ·cases h
section
variable {H : Type} {enc : TypeId × Value → H} {W : World} {base : Nat} {sp : Nat → Bool} {held : Bool}
theorem level_of {fuel : Nat} {c : Value} {L : List (List UInt8)} {q : List MemPlace} (h0 : L ≠ []) (h : DataW.trod enc Tryz.prog W base sp held fuel 90 [c] = some (.slice (L.map fun x => .lit (.string x)) [], q)) :
  ∃ o, Rd W 1 c L.length (L.map strV) o ∧ ∀ b, o = some b → b < W.heap.size := by
 rcases DataW.trod_slice Tryz.underlying90 h with ⟨_, hx⟩ | ⟨a, len, cap, elems, rest, n, hn, hcs, hx, -, hl, hm, hlen, hel, -, -⟩
 ·simp at hx
 ·simp at hcs; subst hcs; simp only [Prod.mk.injEq, DataW.slice.injEq] at hx; obtain ⟨⟨hmap, -⟩, -⟩ := hx; have hLl : L.length = len := by have := congrArg List.length hmap; simp at this; omega
  subst hLl; rw [cellsStr] at hel
  have key : ∀ i (hi : i < L.length), W.cell? (a.add i) = some (strV L[i]) := by
   intro i hi; have h1 := hel i hi; rw [List.getElem?_eq_getElem (by omega), Nat.mul_one] at h1; obtain ⟨cs', h2, h3⟩ := Option.bind_eq_some_iff.1 h1; obtain ⟨x, rfl, hx⟩ := cells_one h2; obtain ⟨s', h4, h5, -⟩ := DataW.trod_string Tryz.underlying9 h3; simp at h4; subst h4
   have h6 : (elems.map (·.1))[i]? = some (.lit (.string s'.data.toList)) := by
    rw [List.getElem?_map, List.getElem?_eq_getElem (by omega)]; simp [h5]
   rw [← hmap, List.getElem?_map, List.getElem?_eq_getElem hi] at h6; simp at h6; rw [hx]; unfold strV; rw [h6]
  obtain ⟨b, off, spot⟩ := a; have hpos : 0 < L.length := List.length_pos_iff.2 h0; have hspot : spot = none := by simpa [Addr.add] using World.cell?_spot (key 0 hpos)
  subst hspot; have hadd : ∀ i, (⟨b, off, none⟩ : Addr).add i = ⟨b, off + i, none⟩ := by intro i; unfold Addr.add; split <;> simp_all
  refine ⟨some b, ⟨by simp, _, cap, rfl, hl, hm, .inr ⟨b, off, rfl, rfl, fun i hi => ?_⟩⟩, ?_⟩
  ·have h1 := key i (by omega); rw [hadd] at h1; rw [h1]; simp [show i < L.length by omega]
  ·rintro b' ⟨⟩; have h1 := World.block_lt_of_cell? _ _ (key 0 hpos); rw [hadd] at h1; exact h1
end
theorem ok_of_laid {W : World} (h : laidMetH Tryz.prog laid5 W) : VarOk W := by
 rw [MakeChecks.laidMetH_plain _ _ _ (by kernel_rfl)] at h; obtain ⟨ps, ⟨g0, t0, cs0, f0, p0, q0, _, _, _, _, ⟨g1, t1, cs1, f1, p1, q1, _, _, _, _, ⟨g2, t2, cs2, f2, p2, q2, _, _, _, _, ⟨g3, t3, cs3, f3, p3, q3, hg3, ht3, hvar3, hd3, ⟨g4, t4, cs4, f4, p4, q4, _, _, _, _, ⟨g5, t5, cs5, f5, p5, q5, hg5, ht5, hvar5, hd5, _, _⟩, _⟩, _⟩, _⟩, _⟩, _⟩, _⟩ := h; refine ⟨?_, ?_⟩
 ·obtain rfl := Option.some.inj (gErr.symm.trans hg3); obtain rfl := Option.some.inj (tErr.symm.trans ht3); obtain ⟨_, u, v, hcs, -, -⟩ := iface_of_trod Tryz.underlying62 hd3; have h0 := World.var?_cell gErr hvar3 0; rw [show cs3 = #[.iface u v] from by cases cs3; simpa using hcs] at h0; exact ⟨.iface u v, by simpa using h0, .inr ⟨u, v, rfl⟩⟩
 ·obtain rfl := Option.some.inj (gLv.symm.trans hg5); obtain rfl := Option.some.inj (tLv.symm.trans ht5); obtain ⟨xs, m, -, hx, hlen, hxl, hf⟩ := DataW.trod_array Tryz.underlying133 hd5; have hlen5 : cs5.toList.length = 5 := hlen.trans (by kernel_rfl); simp only [Prod.mk.injEq] at hx; have hx1 := hx.1; unfold Rows.laid_embers_parse_levels at hx1; simp only [DataW.agg.injEq] at hx1
  have key : ∀ (k : Nat) (L : List (List UInt8)), L ≠ [] → k < 5 → (xs.map (·.1))[k]? = some (.slice (L.map fun x => .lit (.string x)) []) → ∃ sv o, W.cell? ⟨0, k, none⟩ = some sv ∧ Rd W 1 sv L.length (L.map strV) o ∧ 0 < W.heap.size ∧ ∀ b, o = some b → b < W.heap.size := by
   intro k L h0 hk hL; have h1 := hf k hk; rw [cellsStrs, Nat.mul_one] at h1; have hck : k < cs5.toList.length := by omega
   have hdrop : (cs5.toList.drop k).take 1 = [cs5.toList[k]] := by rw [List.drop_eq_getElem_cons hck]; rfl
   rw [hdrop] at h1; rw [List.getElem?_map, List.getElem?_eq_getElem (by omega)] at hL; rw [List.getElem?_eq_getElem (by omega)] at h1
   have h2 : xs[k] = (.slice (L.map fun x => .lit (.string x)) [], xs[k].2) := by
    have : xs[k].1 = .slice (L.map fun x => .lit (.string x)) [] := by simpa using hL
    rw [← this]
   rw [h2] at h1; obtain ⟨o, h3, h4⟩ := level_of h0 h1; have hcell := World.var?_cell gLv hvar5 k; rw [show cs5[k]? = some cs5.toList[k] by simp] at hcell; exact ⟨_, o, hcell, h3, World.block_lt_of_cell? _ _ hcell, h4⟩
  intro v hv
  match v, hv with
  | 0, _ => exact key 0 (levelsL 0) (by decide) (by decide) (by rw [← hx1]; rfl)
  | 1, _ => exact key 1 (levelsL 1) (by decide) (by decide) (by rw [← hx1]; rfl)
  | 2, _ => exact key 2 (levelsL 2) (by decide) (by decide) (by rw [← hx1]; rfl)
  | 3, _ => exact key 3 (levelsL 3) (by decide) (by decide) (by rw [← hx1]; rfl)
  | 4, _ => exact key 4 (levelsL 4) (by decide) (by decide) (by rw [← hx1]; rfl)
open Go.RowKit Go.Emb
theorem esc_le (c : UInt8) : (escL c).length ≤ 4 := by unfold escL; split <;> (try split) <;> simp
theorem flatEsc_snoc (s : ByteArray) (k : Nat) (h : k < s.size) : (s.data.toList.take (k + 1)).flatMap escL = (s.data.toList.take k).flatMap escL ++ escL s[k] := by
 rw [List.take_succ_eq_append_getElem (by simpa using h), List.flatMap_append, index_at s k h]; simp
theorem flatEsc_le (l : List UInt8) : (l.flatMap escL).length ≤ 4 * l.length := by
 induction l with
 | nil => simp
 | cons c l ih => rw [List.flatMap_cons, List.length_append, List.length_cons]; have := esc_le c; omega
theorem and15 (c : UInt8) : bits BinOp.and IntKind.u8 (c.toNat : Int) 15 = (c.toNat : Int) % 16 := by
 have h : ∀ n : Fin 256, bits BinOp.and IntKind.u8 (n.val : Int) 15 = (n.val : Int) % 16 := by decide +kernel
 exact h ⟨c.toNat, c.toNat_lt⟩
theorem hex_at (a : Nat) (h : a < 16) : (⟨#[48, 49, 50, 51, 52, 53, 54, 55, 56, 57, 97, 98, 99, 100, 101, 102]⟩ : ByteArray).extract a (a + 1) = ⟨#[hexL.getD a 0]⟩ := by
 match a, h with
 | 0, _ => rfl
 | 1, _ => rfl
 | 2, _ => rfl
 | 3, _ => rfl
 | 4, _ => rfl
 | 5, _ => rfl
 | 6, _ => rfl
 | 7, _ => rfl
 | 8, _ => rfl
 | 9, _ => rfl
 | 10, _ => rfl
 | 11, _ => rfl
 | 12, _ => rfl
 | 13, _ => rfl
 | 14, _ => rfl
 | 15, _ => rfl
 | n + 16, h => exact absurd h (by omega)
attribute [local go_sem ↓] Go.wp_at_zero Go.wp_at_succ
def QuoteR (w : World) (b : Nat) (F : List Nat) (bs : List UInt8) (wr : World) : Prop := ∃ F', IsB wr b bs F' ∧ (∀ x ∈ F', x ∈ F ∨ w.heap.size ≤ x) ∧ Keep F w wr
theorem QuoteR.next {w wr w2 : World} {b : Nat} {F F1 : List Nat} {bs2 : List UInt8} {r : Value} {e : Ending} (hk : Keep F w wr) (h1 : ∀ x ∈ F1, x ∈ F ∨ w.heap.size ≤ x) (h : BPost wr b bs2 F1 r e w2) : QuoteR w b F bs2 w2 := by
 obtain ⟨-, F', q1, q2, q3⟩ := h; refine ⟨F', q1, fun x hx => ?_, hk.trans q3 h1⟩; rcases q2 x hx with h | h
 ·exact h1 x h
 ·right; have := hk.size; omega
theorem p_quote {w : World} {b : Nat} {bs : List UInt8} {F : List Nat} (h : IsB w b bs F) (s : ByteArray) (hs : s.size ≤ 100000) (hsz : bs.length ≤ 10000000000000) :
  Calls Tryz.prog 88 #[.pointer (some ⟨b, 0, none⟩), .string s] w (BPost w b (bs ++ quoteL s.data.toList) F (.tuple #[])) := by
 have hcall := b_byte h 39 (by omega); have HC := hyd hcall; have HH := hyd h; clear h hcall; go_enter Tryz.func88, Tryz.ntmps88; go_wp2_with fail; refine HC.o.mono ?_; rintro e w1 hp1; obtain rfl := hp1.1; have hq1 := QuoteR.next (Keep.refl F w) (fun x hx => .inl hx) hp1; have HQ1 := hyd hq1; clear hp1 hq1 HC; go_wp2_with fail
 go_loopw [4, 5, 10] (fun _ _ i wr => ∃ k : Nat, k ≤ s.size ∧ i = .int .i64 k ∧ QuoteR w b F (bs ++ 39 :: (s.data.toList.take k).flatMap escL) wr) (fun _ _ i _ => s.size - (RowKit.intOf i).toNat)
 case atStart => exact ⟨0, Nat.zero_le _, rfl, by simpa using HQ1.o⟩
 case round =>
  clear HQ1 HH; obtain ⟨k, hk, rfl, F1, hb1, hf1, hk1⟩ := hrel; have HB := hyd hb1; have HF := hyd hf1; have HK := hyd hk1; clear hb1 hf1 hk1; have hfl := flatEsc_le (s.data.toList.take k); have hfl2 : (s.data.toList.take k).length ≤ 100000 := by rw [List.length_take]; omega
  by_cases hlt : k < s.size
  ·have hsn := flatEsc_snoc s k hlt; have HSN := hyd hsn; clear hsn; have i0 : (0 : Int) ≤ (k : Int) := by omega
   have i1 : (k : Int) < (s.size : Int) := by omega
   go_upto_region 6 with fail; generalize s[k] = c at *; have hc255 : (c.toNat : Int) ≤ 255 := by have := c.toNat_lt; omega
   have hc0 : (0 : Int) ≤ (c.toNat : Int) := by omega
   have hlen : (bs ++ 39 :: (s.data.toList.take k).flatMap escL).length ≤ 20000000000000 := by rw [List.length_append, List.length_cons]; omega
   by_cases h1 : c = 39 ∨ c = 92
   ·have hesc : escL c = [92, c] := by unfold escL; rw [if_pos h1]
    have HESC := hyd hesc; have hcall := b_byte HB.o 92 (by omega); have HC := hyd hcall; clear hesc hcall
    by_cases q1 : (c.toNat : Int) = 39
    ·have q1' : ((c.toNat : Int) == 39) = true := by simpa using q1
     clear h1 q1; go_wp2_with fail; refine HC.o.mono ?_; rintro e w2 hp2; obtain rfl := hp2.1; obtain ⟨F2, hb2, hf2, hk2⟩ := QuoteR.next HK.o HF.o hp2; have hcall2 := b_byte hb2 c (by rw [List.length_append, List.length_singleton]; omega); have HC2 := hyd hcall2; have HF2 := hyd hf2; have HK2 := hyd hk2; clear hp2 hb2 hf2 hk2 hcall2; go_wp2_with fail; refine HC2.o.mono ?_; rintro e w3 hp3; obtain rfl := hp3.1; have hq3 := QuoteR.next HK2.o HF2.o hp3; have HQ3 := hyd hq3; clear hp3 hq3; go_wp2_with fail; go_roundw
     case rel => exact ⟨k + 1, by omega, by go_num, by rw [HSN.o, HESC.o]; simpa using HQ3.o⟩
     case measure => simp [RowKit.intOf]; omega
    ·have q2 : (c.toNat : Int) = 92 := by
      rcases h1 with rfl | rfl
      ·exact absurd rfl q1
      ·rfl
     have q1' : ((c.toNat : Int) == 39) = false := by simpa using q1
     have q2' : ((c.toNat : Int) == 92) = true := by simpa using q2
     clear h1 q1 q2; go_wp2_with fail; refine HC.o.mono ?_; rintro e w2 hp2; obtain rfl := hp2.1; obtain ⟨F2, hb2, hf2, hk2⟩ := QuoteR.next HK.o HF.o hp2; have hcall2 := b_byte hb2 c (by rw [List.length_append, List.length_singleton]; omega); have HC2 := hyd hcall2; have HF2 := hyd hf2; have HK2 := hyd hk2; clear hp2 hb2 hf2 hk2 hcall2; go_wp2_with fail; refine HC2.o.mono ?_; rintro e w3 hp3; obtain rfl := hp3.1; have hq3 := QuoteR.next HK2.o HF2.o hp3; have HQ3 := hyd hq3; clear hp3 hq3; go_wp2_with fail; go_roundw
     case rel => exact ⟨k + 1, by omega, by go_num, by rw [HSN.o, HESC.o]; simpa using HQ3.o⟩
     case measure => simp [RowKit.intOf]; omega
   ·have q1 : ((c.toNat : Int) == 39) = false := by
     simp only [beq_eq_false_iff_ne, ne_eq]; intro h; apply h1; left; apply UInt8.toNat.inj; simp; omega
    have q2 : ((c.toNat : Int) == 92) = false := by
     simp only [beq_eq_false_iff_ne, ne_eq]; intro h; apply h1; right; apply UInt8.toNat.inj; simp; omega
    by_cases h2 : c < 32 ∨ 126 < c
    ·have w1 : IntKind.u8.wrap ((c.toNat : Int) / 16 + 1) = (c.toNat : Int) / 16 + 1 := IntWalk.u8_in _ (by omega); have w2 : IntKind.u8.wrap ((c.toNat : Int) % 16 + 1) = (c.toNat : Int) % 16 + 1 := IntWalk.u8_in _ (by omega); have r1 : (0 : Int) ≤ (c.toNat : Int) / 16 := by omega
     have r2 : (c.toNat : Int) / 16 + 1 ≤ 16 := by omega
     have r3 : (c.toNat : Int) / 16 ≤ (c.toNat : Int) / 16 + 1 := by omega
     have r4 : (0 : Int) ≤ (c.toNat : Int) % 16 := by omega
     have r5 : (c.toNat : Int) % 16 + 1 ≤ 16 := by omega
     have r6 : (c.toNat : Int) % 16 ≤ (c.toNat : Int) % 16 + 1 := by omega
     have hexA : (⟨#[48, 49, 50, 51, 52, 53, 54, 55, 56, 57, 97, 98, 99, 100, 101, 102]⟩ : ByteArray).extract ((c.toNat : Int) / 16).toNat ((c.toNat : Int) / 16 + 1).toNat = ⟨#[hexL.getD (c.toNat / 16) 0]⟩ := by
      rw [show ((c.toNat : Int) / 16).toNat = c.toNat / 16 by omega, show ((c.toNat : Int) / 16 + 1).toNat = c.toNat / 16 + 1 by omega]; exact hex_at (c.toNat / 16) (by omega)
     have hexB : (⟨#[48, 49, 50, 51, 52, 53, 54, 55, 56, 57, 97, 98, 99, 100, 101, 102]⟩ : ByteArray).extract ((c.toNat : Int) % 16).toNat ((c.toNat : Int) % 16 + 1).toNat = ⟨#[hexL.getD (c.toNat % 16) 0]⟩ := by
      rw [show ((c.toNat : Int) % 16).toNat = c.toNat % 16 by omega, show ((c.toNat : Int) % 16 + 1).toNat = c.toNat % 16 + 1 by omega]; exact hex_at (c.toNat % 16) (by omega)
     have hesc : escL c = [92, 120, hexL.getD (c.toNat / 16) 0, hexL.getD (c.toNat % 16) 0] := by unfold escL; rw [if_neg h1, if_pos h2]
     generalize hexL.getD (c.toNat / 16) 0 = x1 at *; generalize hexL.getD (c.toNat % 16) 0 = x2 at *; have HXA := hyd hexA; have HXB := hyd hexB; have HESC := hyd hesc; have HAND := hyd (and15 c); clear hexA hexB hesc; have hcall := b_string (HB.o.keep (Keep.refl [] wr).drew (by simp)) ⟨#[92, 120, x1, x2]⟩ (by show 0 < 4; omega) (by show _ + 4 ≤ _; omega); have HC := hyd hcall; clear hcall h1
     by_cases h3 : (c.toNat : Int) < 32
     ·as_aux_lemma =>
      clear h2; go_wp2_with fail; refine wp_region_held_drew (S := fun _ => True) (by kernel_rfl) trivial (fun hHeld => ?_); refine tkL 0 ?v0 rfl ?run0 hHeld ?_
      case run0 => (intro w9 hS9; go_simp; try exact rfl)
      try simp only [Act.put, lA, lZ, lS]
      refine tkL 1 ?v1 rfl ?run1 hHeld ?_
      case run1 => (intro w9 hS9; go_simp; try exact rfl)
      try simp only [Act.put, lA, lZ, lS]
      refine tkL 2 ?v2 rfl ?run2 hHeld ?_
      case run2 => (intro w9 hS9; go_simp; try exact rfl)
      try simp only [Act.put, lA, lZ, lS]
      refine tkL 3 ?v3 rfl ?run3 hHeld ?_
      case run3 => (intro w9 hS9; go_simp; try exact rfl)
      try simp only [Act.put, lA, lZ, lS]
      refine tkL 4 ?v4 rfl ?run4 hHeld ?_
      case run4 => (intro w9 hS9; go_simp; try exact rfl)
      try simp only [Act.put, lA, lZ, lS]
      refine tkL 5 ?v5 rfl ?run5 hHeld ?_
      case run5 => (intro w9 hS9; go_simp; try exact rfl)
      try simp only [Act.put, lA, lZ, lS]
      refine tkL 6 (.string ⟨#[x1]⟩) rfl ?run6 hHeld ?_
      case run6 => (intro w9 hS9; go_simp; first | done | (rw [HXA.o]))
      try simp only [Act.put, lA, lZ, lS]
      refine tkL 7 (.string ⟨#[92, 120, x1]⟩) rfl ?run7 hHeld ?_
      case run7 => (intro w9 hS9; go_simp; first | done | (exact rfl))
      try simp only [Act.put, lA, lZ, lS]
      refine tkL 8 ?v8 rfl ?run8 hHeld ?_
      case run8 => (intro w9 hS9; go_simp; try exact rfl)
      try simp only [Act.put, lA, lZ, lS]
      refine tkL 9 (.int .u8 ((c.toNat : Int) % 16)) rfl ?run9 hHeld ?_
      case run9 => (intro w9 hS9; go_simp; first | done | (rw [HAND.o]))
      try simp only [Act.put, lA, lZ, lS]
      refine tkL 10 ?v10 rfl ?run10 hHeld ?_
      case run10 => (intro w9 hS9; go_simp; try exact rfl)
      try simp only [Act.put, lA, lZ, lS]
      refine tkL 11 (.int .u8 ((c.toNat : Int) % 16)) rfl ?run11 hHeld ?_
      case run11 => (intro w9 hS9; go_simp; first | done | (rw [HAND.o]))
      try simp only [Act.put, lA, lZ, lS]
      refine tkL 12 ?v12 rfl ?run12 hHeld ?_
      case run12 => (intro w9 hS9; go_simp; try exact rfl)
      try simp only [Act.put, lA, lZ, lS]
      refine tkL 13 (.string ⟨#[x2]⟩) rfl ?run13 hHeld ?_
      case run13 => (intro w9 hS9; go_simp; first | done | (rw [HXB.o]))
      try simp only [Act.put, lA, lZ, lS]
      refine tkL 14 (.string ⟨#[92, 120, x1, x2]⟩) rfl ?run14 hHeld ?_
      case run14 => (intro w9 hS9; go_simp; first | done | (exact rfl))
      try simp only [Act.put, lA, lZ, lS]
      refine wpAnyH_ready (rs := [15]) (by kernel_rfl) (by simp) ?_; refine AllReadyH.cons rfl (fun K hK => ?_) AllReadyH.nil; go_simp; refine HC.o.mono ?_; rintro e w3 hp3; obtain rfl := hp3.1; have hq3 := QuoteR.next HK.o.drew HF.o hp3; have HQ3 := hyd hq3; clear hp3 hq3; go_wp2_with fail; refine hK.out _ _ trivial (fun hHeld2 => ?_); clear hK K hHeld; refine wpAnyH_done (by kernel_rfl) ?_ _; go_wp2_with fail; go_roundw
      case rel => exact ⟨k + 1, by omega, by go_num, by rw [HSN.o, HESC.o]; simpa using HQ3.o⟩
      case measure => simp [RowKit.intOf]; omega
     ·as_aux_lemma =>
      have h4 : (126 : Int) < (c.toNat : Int) := by
       rcases h2 with h | h
       ·rw [UInt8.lt_iff_toNat_lt] at h; simp at h; omega
       ·rw [UInt8.lt_iff_toNat_lt] at h; simp at h; omega
      clear h2; go_wp2_with fail; refine wp_region_held_drew (S := fun _ => True) (by kernel_rfl) trivial (fun hHeld => ?_); refine tkL 0 ?v0 rfl ?run0 hHeld ?_
      case run0 => (intro w9 hS9; go_simp; try exact rfl)
      try simp only [Act.put, lA, lZ, lS]
      refine tkL 1 ?v1 rfl ?run1 hHeld ?_
      case run1 => (intro w9 hS9; go_simp; try exact rfl)
      try simp only [Act.put, lA, lZ, lS]
      refine tkL 2 ?v2 rfl ?run2 hHeld ?_
      case run2 => (intro w9 hS9; go_simp; try exact rfl)
      try simp only [Act.put, lA, lZ, lS]
      refine tkL 3 ?v3 rfl ?run3 hHeld ?_
      case run3 => (intro w9 hS9; go_simp; try exact rfl)
      try simp only [Act.put, lA, lZ, lS]
      refine tkL 4 ?v4 rfl ?run4 hHeld ?_
      case run4 => (intro w9 hS9; go_simp; try exact rfl)
      try simp only [Act.put, lA, lZ, lS]
      refine tkL 5 ?v5 rfl ?run5 hHeld ?_
      case run5 => (intro w9 hS9; go_simp; try exact rfl)
      try simp only [Act.put, lA, lZ, lS]
      refine tkL 6 (.string ⟨#[x1]⟩) rfl ?run6 hHeld ?_
      case run6 => (intro w9 hS9; go_simp; first | done | (rw [HXA.o]))
      try simp only [Act.put, lA, lZ, lS]
      refine tkL 7 (.string ⟨#[92, 120, x1]⟩) rfl ?run7 hHeld ?_
      case run7 => (intro w9 hS9; go_simp; first | done | (exact rfl))
      try simp only [Act.put, lA, lZ, lS]
      refine tkL 8 ?v8 rfl ?run8 hHeld ?_
      case run8 => (intro w9 hS9; go_simp; try exact rfl)
      try simp only [Act.put, lA, lZ, lS]
      refine tkL 9 (.int .u8 ((c.toNat : Int) % 16)) rfl ?run9 hHeld ?_
      case run9 => (intro w9 hS9; go_simp; first | done | (rw [HAND.o]))
      try simp only [Act.put, lA, lZ, lS]
      refine tkL 10 ?v10 rfl ?run10 hHeld ?_
      case run10 => (intro w9 hS9; go_simp; try exact rfl)
      try simp only [Act.put, lA, lZ, lS]
      refine tkL 11 (.int .u8 ((c.toNat : Int) % 16)) rfl ?run11 hHeld ?_
      case run11 => (intro w9 hS9; go_simp; first | done | (rw [HAND.o]))
      try simp only [Act.put, lA, lZ, lS]
      refine tkL 12 ?v12 rfl ?run12 hHeld ?_
      case run12 => (intro w9 hS9; go_simp; try exact rfl)
      try simp only [Act.put, lA, lZ, lS]
      refine tkL 13 (.string ⟨#[x2]⟩) rfl ?run13 hHeld ?_
      case run13 => (intro w9 hS9; go_simp; first | done | (rw [HXB.o]))
      try simp only [Act.put, lA, lZ, lS]
      refine tkL 14 (.string ⟨#[92, 120, x1, x2]⟩) rfl ?run14 hHeld ?_
      case run14 => (intro w9 hS9; go_simp; first | done | (exact rfl))
      try simp only [Act.put, lA, lZ, lS]
      refine wpAnyH_ready (rs := [15]) (by kernel_rfl) (by simp) ?_; refine AllReadyH.cons rfl (fun K hK => ?_) AllReadyH.nil; go_simp; refine HC.o.mono ?_; rintro e w3 hp3; obtain rfl := hp3.1; have hq3 := QuoteR.next HK.o.drew HF.o hp3; have HQ3 := hyd hq3; clear hp3 hq3; go_wp2_with fail; refine hK.out _ _ trivial (fun hHeld2 => ?_); clear hK K hHeld; refine wpAnyH_done (by kernel_rfl) ?_ _; go_wp2_with fail; go_roundw
      case rel => exact ⟨k + 1, by omega, by go_num, by rw [HSN.o, HESC.o]; simpa using HQ3.o⟩
      case measure => simp [RowKit.intOf]; omega
    ·have hesc : escL c = [c] := by unfold escL; rw [if_neg h1, if_neg h2]
     have h3 : ¬ (c.toNat : Int) < 32 := fun h => h2 (.inl (by rw [UInt8.lt_iff_toNat_lt]; simp; omega))
     have h4 : ¬ (126 : Int) < (c.toNat : Int) := fun h => h2 (.inr (by rw [UInt8.lt_iff_toNat_lt]; simp; omega))
     have HESC := hyd hesc; have hcall := b_byte HB.o c (by omega); have HC := hyd hcall; clear hesc hcall h1 h2; go_wp2_with fail; refine HC.o.mono ?_; rintro e w3 hp3; obtain rfl := hp3.1; have hq3 := QuoteR.next HK.o HF.o hp3; have HQ3 := hyd hq3; clear hp3 hq3; go_wp2_with fail; go_roundw
     case rel => exact ⟨k + 1, by omega, by go_num, by rw [HSN.o, HESC.o]; simpa using HQ3.o⟩
     case measure => simp [RowKit.intOf]; omega
  ·have hall : (s.data.toList.take k).flatMap escL = s.data.toList.flatMap escL := by rw [List.take_of_length_le (by simp; exact Nat.le_of_not_lt hlt)]
   have hcall := b_byte HB.o 39 (by rw [List.length_append, List.length_cons]; omega); rw [hall] at hcall; have HC := hyd hcall; clear hcall hall; go_wp2_with fail; refine HC.o.mono ?_; rintro e w3 hp3; obtain rfl := hp3.1; have hq3 := QuoteR.next HK.o HF.o hp3; have HQ3 := hyd hq3; clear hp3 hq3; go_wp2_with fail
   go_end0
   obtain ⟨F3, q1, q2, q3⟩ := HQ3.o; exact ⟨rfl, F3, by simpa [quoteL] using q1, q2, q3⟩
def TabOk (B : Nat) (w : World) : Prop := Lib.TabIs Tryz.prog w "internal/strconv.uint64pow10" .u64 Lib.pow10Tab ∧ 1 < B ∧ B ≤ w.heap.size
theorem TabOk.keep {B : Nat} {w w' : World} {F : List Nat} (h : TabOk B w) (hk : Keep F w w') (hF : ∀ b ∈ F, B ≤ b) : TabOk B w' := by
 obtain ⟨h1, h2, h3⟩ := h; exact ⟨var?_below (hk.below hF h3) (by kernel_rfl) h2 h1, h2, Nat.le_trans h3 hk.size⟩
theorem TabOk.keep0 {B : Nat} {w w' : World} (h : TabOk B w) (hk : Keep [] w w') : TabOk B w' := h.keep hk (by simp)
theorem fmt_any {B : Nat} {w : World} (h : TabOk B w) (n : Int) (h0 : -9223372036854775808 ≤ n) (h1 : n ≤ 9223372036854775807) : Calls Tryz.prog 28 #[.int .i64 n, .int .i64 10] w fun e w' => e = .returned (.string ⟨(Lib.itoa n).toArray⟩) ∧ Keep [] w w' := by
 refine (Tryz.strconv_FormatInt_10 n h0 h1 w h.1).mono ?_; rintro e w' ⟨rfl, k, os, rfl⟩; refine ⟨rfl, rfl, rfl, rfl, ?_, fun b hb _ => by show (w.heap ++ os)[b]? = w.heap[b]?; exact Array.getElem?_append_left hb⟩; show w.heap.size ≤ (w.heap ++ os).size; simp
theorem term_size : (Tryz.prog.info? 70).map (·.size) = some 4 := by kernel_rfl
theorem p_atom (s : ByteArray) (w : World) : Calls Tryz.prog 30 #[.string s] w fun e w' => e = .returned (.agg #[.int .i64 2, .int .i64 0, .string s, .slice none 0 0]) ∧ Keep [] w w' := by
 go_enter Tryz.func30, Tryz.ntmps30; go_wp2_with fail
 try simp only [Exit.inBlock, Exit.then]
 refine bodyPost_ret (results_cell_row (ty := 70) rfl _ _ _ _ _ _ _ rfl (heap_alloc_new w _) Tryz.underlying70 rfl term_size) rfl ?_; exact ⟨rfl, (Keep.refl [] w).alloc _⟩
theorem cells4 {w : World} {q : Nat} {a b c d : Value} {t : TypeId} (h : w.heap[q]? = some (.cells #[a, b, c, d] t (0, 0))) : w.cell? ⟨q, 0, none⟩ = some a ∧ w.cell? ⟨q, 1, none⟩ = some b ∧ w.cell? ⟨q, 2, none⟩ = some c ∧ w.cell? ⟨q, 3, none⟩ = some d := by
 refine ⟨?_, ?_, ?_, ?_⟩ <;> simp [World.cell?, h]
theorem BPost.up {w w3 w' : World} {b : Nat} {bs : List UInt8} {F : List Nat} {r r' : Value} {e e' : Ending} (hk : Keep [] w w3) (h : BPost w3 b bs F r e w') (he : e' = .returned r') : BPost w b bs F r' e' w' := by
 obtain ⟨-, F', q1, q2, q3⟩ := h; refine ⟨he, F', q1, fun x hx => ?_, (hk.mono (fun _ h => nomatch h)).trans q3 (fun x hx => .inl hx)⟩; rcases q2 x hx with h | h
 ·exact .inl h
 ·exact .inr (Nat.le_trans hk.size h)
theorem p_writeA {w : World} {B b : Nat} {bs : List UInt8} {F : List Nat} (h : IsB w b bs F) (s : ByteArray) (ht : TabOk B w) (hs : s.size ≤ 100000) (hsz : bs.length ≤ 10000000000000) :
  Calls Tryz.prog 58 #[.pointer (some ⟨b, 0, none⟩), .agg #[.int .i64 2, .int .i64 0, .string s, .slice none 0 0]] w (BPost w b (bs ++ nameL s.data.toList) F (.tuple #[])) := by
 have hk1 : Keep [] w (w.alloc (.cells #[.int .i64 2, .int .i64 0, .string s, .slice none 0 0] 70)) := (Keep.refl [] w).alloc _; have hb1 := heap_alloc_new w (.cells #[.int .i64 2, .int .i64 0, .string s, .slice none 0 0] 70); have hfm := fmt_any (ht.keep0 hk1) 0 (by decide) (by decide); have HFM := hyd hfm; have HK1 := hyd hk1; have HB1 := hyd hb1; have HH := hyd h; clear h ht hfm; obtain ⟨c0, c1, c2, c3⟩ := cells4 hb1; clear hb1 hk1; go_enter Tryz.func58, Tryz.ntmps58; go_wp2_with fail; generalize w.alloc (.cells #[.int .i64 2, .int .i64 0, .string s, .slice none 0 0] 70) = w1 at *; refine HFM.o.mono ?_; rintro e w2 ⟨rfl, hk2⟩; have hb2 := blkk HB1.o hk2; have HB2 := hyd hb2; have HK2 := hyd (HK1.o.trans hk2 (by simp)); obtain ⟨d0, d1, d2, d3⟩ := cells4 hb2; clear hb2 hk2 c0 c1 c2 c3 HFM HB1 HK1; have hba := p_bare s w2 (by omega); have HBA := hyd hba; clear hba
 cases hb : bareL s.data.toList with
 | true =>
  rw [hb] at HBA; have hname : nameL s.data.toList = s.data.toList := by unfold nameL; rw [if_pos hb]
  have hs0 : 0 < s.size := by
   rcases Nat.eq_zero_or_pos s.size with h0 | h0
   ·have hl : s.data.toList = [] := List.length_eq_zero_iff.1 (by simpa using h0); rw [hl] at hb; simp [bareL] at hb
   ·exact h0
  have HN := hyd hname; clear hb hname; go_wp2_with fail; refine HBA.o.mono ?_; rintro e w3 ⟨rfl, hk3⟩; have hb3 := blkk HB2.o hk3; have d2' : w3.cell? ⟨w.heap.size, 2, none⟩ = some (.string s) := by simp [World.cell?, hb3]
  have HK3 := hyd (HK2.o.trans hk3 (by simp)); have hws := b_string (HH.o.keep (HK2.o.trans hk3 (by simp)) (by simp)) s hs0 (by omega); have HWS := hyd hws; clear hb3 hk3 hws; go_wp2_with fail; refine HWS.o.mono ?_; rintro e w4 hp4; obtain rfl := hp4.1; have HP4 := hyd hp4; clear hp4; go_wp2_with fail
  go_end0
  rw [HN.o]; exact BPost.up HK3.o HP4.o rfl
 | false =>
  rw [hb] at HBA; have hname : nameL s.data.toList = quoteL s.data.toList := by unfold nameL; rw [if_neg (by simp [hb])]
  have HN := hyd hname; clear hb hname; go_wp2_with fail; refine HBA.o.mono ?_; rintro e w3 ⟨rfl, hk3⟩; have hb3 := blkk HB2.o hk3; have d2' : w3.cell? ⟨w.heap.size, 2, none⟩ = some (.string s) := by simp [World.cell?, hb3]
  have HK3 := hyd (HK2.o.trans hk3 (by simp)); have hws := p_quote (HH.o.keep (HK2.o.trans hk3 (by simp)) (by simp)) s hs (by omega); have HWS := hyd hws; clear hb3 hk3 hws; go_wp2_with fail; refine HWS.o.mono ?_; rintro e w4 hp4; obtain rfl := hp4.1; have HP4 := hyd hp4; clear hp4; go_wp2_with fail
  go_end0
  rw [HN.o]; exact BPost.up HK3.o HP4.o rfl
open Go.ChangeShapes Go.WideShapes Go.ChangeAt Go.RowKit Go.Emb
theorem gTab : Tryz.prog.globalNamed "internal/strconv.uint64pow10" = some 1 := by kernel_rfl
theorem tTab : (Tryz.prog.globals[1]?).map (·.type) = some 138 := by kernel_rfl
theorem tab_of_laid {W : World} (h : laidMetH Tryz.prog laid5 W) : TabOk W.heap.size W := by
 rw [MakeChecks.laidMetH_plain _ _ _ (by kernel_rfl)] at h; obtain ⟨ps, ⟨g0, t0, cs0, f0, p0, q0, _, _, _, _, ⟨g1, t1, cs1, f1, p1, q1, _, _, _, _, ⟨g2, t2, cs, fuel, p, q, hg, ht, hvar, hd, _, _⟩, _⟩, _⟩, _⟩ := h; obtain rfl := Option.some.inj (gTab.symm.trans hg); obtain rfl := Option.some.inj (tTab.symm.trans ht)
 have htab : Lib.TabIs Tryz.prog W "internal/strconv.uint64pow10" .u64 Lib.pow10Tab := by
  unfold Lib.TabIs; rw [hvar, ← Lib.cells_of_tab (k := .u64) (zs := Lib.pow10Tab) Tryz.underlying138 Tryz.underlying117 (by kernel_rfl) (by kernel_rfl) hd]
 refine ⟨htab, ?_, Nat.le_refl _⟩; have := htab.cell gTab 0 (by decide); exact World.block_lt_of_cell? _ _ this
def VarT (w : World) : Prop := VarOk w ∧ ∃ B, TabOk B w
theorem vars_of_laid {W : World} (h : laidMetH Tryz.prog laid5 W) : VarT W := ⟨ok_of_laid h, _, tab_of_laid h⟩
open Go.RowKit Go.Emb
theorem wordsB_at (k : Nat) (h : k < 14) : (wordsB.getD k ByteArray.empty).data.toList = wordsL[k] := by
 unfold wordsB; rw [List.getD_eq_getElem?_getD, List.getElem?_map, List.getElem?_eq_getElem (by simpa using h)]
 rfl
theorem words_take (s : List UInt8) (k : Nat) (h : k < 14) : (wordsL.take (k + 1)).contains s = ((wordsL.take k).contains s || s == wordsL[k]) := by
 rw [List.take_succ_eq_append_getElem (by simpa using h), List.contains_eq_any_beq, List.contains_eq_any_beq, List.any_append]; simp only [List.any_cons, List.any_nil, Bool.or_false]
theorem r_word (s : ByteArray) (w : World) (hs : s.size ≤ 140737488355328) : Calls Tryz.prog 74 #[.string s] w fun e w' => e = .returned (.bool (wordsL.contains s.data.toList)) ∧ Keep [] w w' := by
 have hcells := words_cells w; have HKW : Hid (Keep [] w (w.alloc (.cells #[.string ⟨#[97, 102, 116, 101, 114]⟩, .string ⟨#[97, 110, 100]⟩, .string ⟨#[99, 97, 115, 101]⟩, .string ⟨#[99, 97, 116, 99, 104]⟩, .string ⟨#[100, 105, 118]⟩, .string ⟨#[101, 110, 100]⟩, .string ⟨#[102, 117, 110]⟩, .string ⟨#[110, 111, 116]⟩, .string ⟨#[111, 102]⟩, .string ⟨#[111, 114]⟩, .string ⟨#[114, 101, 99, 101, 105, 118, 101]⟩, .string ⟨#[114, 101, 109]⟩, .string ⟨#[116, 114, 121]⟩, .string ⟨#[119, 104, 101, 110]⟩] 9))) := (Keep.refl [] w).alloc _; have HC := hyd hcells; clear hcells; obtain ⟨wb, hwb⟩ : ∃ b, b = wordsL.contains s.data.toList := ⟨_, rfl⟩; rw [← hwb]; have HWB := hyd hwb; clear hwb; go_enter Tryz.func74, Tryz.ntmps74; go_wp2_with fail; generalize w.alloc (.cells #[.string ⟨#[97, 102, 116, 101, 114]⟩, .string ⟨#[97, 110, 100]⟩, .string ⟨#[99, 97, 115, 101]⟩, .string ⟨#[99, 97, 116, 99, 104]⟩, .string ⟨#[100, 105, 118]⟩, .string ⟨#[101, 110, 100]⟩, .string ⟨#[102, 117, 110]⟩, .string ⟨#[110, 111, 116]⟩, .string ⟨#[111, 102]⟩, .string ⟨#[111, 114]⟩, .string ⟨#[114, 101, 99, 101, 105, 118, 101]⟩, .string ⟨#[114, 101, 109]⟩, .string ⟨#[116, 114, 121]⟩, .string ⟨#[119, 104, 101, 110]⟩] 9) = W0 at *
 go_loop [4] (fun i => ∃ k : Nat, k ≤ 14 ∧ i = .int .i64 k ∧ (wordsL.take k).contains s.data.toList = false) (fun i => 14 - (RowKit.intOf i).toNat)
 case atStart => exact ⟨0, Nat.zero_le _, rfl, rfl⟩
 case round =>
  obtain ⟨k, hk, rfl, hall⟩ := hrel; have HALL := hyd hall; clear hall
  by_cases hlt : k < 14
  ·have hc := HC.o k (by simpa [wordsB] using hlt); have hat := wordsB_at k hlt; have hts := words_take s.data.toList k hlt; rw [HALL.o, Bool.false_or, ← hat] at hts; rw [Nat.zero_add] at hc; have HTS := hyd hts; have i0 : (0 : Int) ≤ (k : Int) := by omega
   have i1 : (k : Int) < 14 := by omega
   clear hat hts; generalize wordsB.getD k ByteArray.empty = u at *
   cases hq : (u.toList == s.toList) with
   | true =>
    have hq2 : (s.data.toList == u.data.toList) = true := by
     rw [Go.ByteArray.toList_eq, Go.ByteArray.toList_eq] at hq; simp only [beq_iff_eq] at hq ⊢; exact hq.symm
    have hres : wordsL.contains s.data.toList = true := by
     have h1 := HTS.o; rw [hq2] at h1; rw [List.contains_eq_any_beq, List.any_eq_true] at h1 ⊢; obtain ⟨y, hy, he⟩ := h1; exact ⟨y, List.mem_of_mem_take hy, he⟩
    obtain rfl : wb = true := HWB.o.trans hres; clear hres hq2; go_wp2_with fail; go_ret; exact ⟨rfl, HKW.o⟩
   | false =>
    have hq2 : (s.data.toList == u.data.toList) = false := by
     rw [Go.ByteArray.toList_eq, Go.ByteArray.toList_eq] at hq; simp only [beq_eq_false_iff_ne, ne_eq] at hq ⊢; exact fun h => hq h.symm
    have H2 := hyd (HTS.o.trans hq2); clear hq2; go_wp2_with fail; go_round
    case rel => exact ⟨k + 1, by omega, by go_num, H2.o⟩
    case measure => simp [RowKit.intOf]; omega
  ·obtain rfl : k = 14 := by omega
   obtain rfl : wb = false := HWB.o.trans HALL.o; go_wp2_with fail; go_ret; exact ⟨rfl, HKW.o⟩
def letterI (n : Int) : Bool := decide (97 ≤ n ∧ n ≤ 122 ∨ 65 ≤ n ∧ n ≤ 90 ∨ 48 ≤ n ∧ n ≤ 57 ∨ n = 95 ∨ n = 64)
theorem letterB_int (c : UInt8) : letterB c = letterI c.toNat := by
 have h : ∀ n, n < 256 → letterB (UInt8.ofNat n) = letterI ((UInt8.ofNat n).toNat : Int) := by decide +kernel
 have := h c.toNat c.toNat_lt
 rwa [UInt8.ofNat_toNat] at this
theorem letterI_yes {n : Int} (h : 97 ≤ n ∧ n ≤ 122 ∨ 65 ≤ n ∧ n ≤ 90 ∨ 48 ≤ n ∧ n ≤ 57 ∨ n = 95 ∨ n = 64) : letterI n = true := decide_eq_true h
theorem letterI_no {n : Int} (h : ¬ (97 ≤ n ∧ n ≤ 122 ∨ 65 ≤ n ∧ n ≤ 90 ∨ 48 ≤ n ∧ n ≤ 57 ∨ n = 95 ∨ n = 64)) : letterI n = false := decide_eq_false h
def digitAt (n : Nat) : ByteArray := ⟨#[UInt8.ofNat (48 + n)]⟩
theorem digit_at : ∀ n, n < 10 → (⟨#[48, 49, 50, 51, 52, 53, 54, 55, 56, 57]⟩ : ByteArray).extract n (n + 1) = digitAt n := by decide
theorem r_bare (s : ByteArray) (w : World) (hs : s.size ≤ 140737488355328) : Calls Tryz.prog 82 #[.string s] w fun e w' => e = .returned (.bool (bareL s.data.toList)) ∧ Keep [] w w' := by
 have hbare : bareL s.data.toList = (s.data.toList.all letterB && (match s.data.toList with | [] => false | c :: _ => decide (97 ≤ c) && decide (c ≤ 122)) && !wordsL.contains s.data.toList) := rfl; have HB := hyd hbare; have hw := r_word s w hs; have HW := hyd hw; clear hbare hw; obtain ⟨res, hrs⟩ : ∃ b, b = bareL s.data.toList := ⟨_, rfl⟩; rw [← hrs]; rw [← hrs] at HB; clear hrs; generalize wordsL.contains s.data.toList = wb at *
 cases hs0 : s.data.toList with
 | nil =>
  have e1 : s.toList = [] := by rw [Go.ByteArray.toList_eq]; exact hs0
  have e2 : s.toList.isEmpty = true := by rw [e1]; rfl
  obtain rfl : res = false := by rw [HB.o, hs0]; simp
  clear hs0 HB; go_enter Tryz.func82, Tryz.ntmps82; go_wp2_with fail; go_ret; exact ⟨rfl, Keep.refl _ _⟩
 | cons c r =>
  have hsz : 0 < s.size := by
   rcases Nat.eq_zero_or_pos s.size with h | h
   ·have := (toList_nil_iff s).2 h; rw [Go.ByteArray.toList_eq, hs0] at this; cases this
   ·exact h
  have e1 : ¬ s.toList = [] := by rw [Go.ByteArray.toList_eq, hs0]; simp
  have e2 : s.toList.isEmpty = false := by simpa using e1
  have e3 : s[0] = c := by rw [← index_at s 0 hsz]; simp [hs0]
  have i0 : (0 : Int) < (s.size : Int) := by omega
  have hn1 : decide (97 ≤ c) = decide ((97 : Int) ≤ (c.toNat : Int)) := by rw [Bool.eq_iff_iff]; simp [UInt8.le_iff_toNat_le]; omega
  have hn2 : decide (c ≤ 122) = decide ((c.toNat : Int) ≤ 122) := by rw [Bool.eq_iff_iff]; simp [UInt8.le_iff_toNat_le]; omega
  have hres : res = (s.data.toList.all letterB && (decide ((97 : Int) ≤ (c.toNat : Int)) && decide ((c.toNat : Int) ≤ 122)) && !wb) := by rw [HB.o, hs0]; simp only [hn1, hn2]
  have HRES := hyd hres; clear hs0 hn1 hn2 hres HB; subst e3
  by_cases h1 : (97 : Int) ≤ (s[0].toNat : Int)
  case neg =>
   have n1 : (s[0].toNat : Int) < 97 := by omega
   obtain rfl : res = false := by rw [HRES.o, decide_eq_false h1]; simp
   go_enter Tryz.func82, Tryz.ntmps82; go_wp2_with fail; go_ret; exact ⟨rfl, Keep.refl _ _⟩
  by_cases h2 : (s[0].toNat : Int) ≤ 122
  case neg =>
   have n1 : ¬ (s[0].toNat : Int) < 97 := by omega
   have n2 : (122 : Int) < (s[0].toNat : Int) := by omega
   obtain rfl : res = false := by rw [HRES.o, decide_eq_false h2]; simp
   go_enter Tryz.func82, Tryz.ntmps82; go_wp2_with fail; go_ret; exact ⟨rfl, Keep.refl _ _⟩
  rw [decide_eq_true h1, decide_eq_true h2] at HRES; have n1 : ¬ (s[0].toNat : Int) < 97 := by omega
  have n2 : ¬ (122 : Int) < (s[0].toNat : Int) := by omega
  go_enter Tryz.func82, Tryz.ntmps82; go_wp2_with fail
  go_loop [3, 4] (fun i _ => ∃ k : Nat, k ≤ s.size ∧ i = .int .i64 k ∧ (s.data.toList.take k).all letterB = true) (fun i _ => s.size - (RowKit.intOf i).toNat)
  case atStart => exact ⟨0, Nat.zero_le _, rfl, by simp⟩
  case round =>
   obtain ⟨k, hk, rfl, hall⟩ := hrel; have HALL := hyd hall; clear hall
   by_cases hlt : k < s.size
   ·have hts : (s.data.toList.take (k + 1)).all letterB = letterB s[k] := by
     rw [List.take_succ_eq_append_getElem (by simpa using hlt), List.all_append, HALL.o, index_at s k hlt]; simp
    obtain ⟨c, hcc⟩ : ∃ c, c = s[k] := ⟨_, rfl⟩; rw [← hcc, letterB_int] at hts; have HTS := hyd hts; clear hts n1 n2 h1 h2; have HLT := hyd hlt; have i1 : (k : Int) < (s.size : Int) := by omega
    have i2 : (0 : Int) ≤ (k : Int) := by omega
    have HSP : Hid (letterI (c.toNat : Int) = false → res = false) := by
     intro h; have h2 := HTS.o; rw [h] at h2
     have : s.data.toList.all letterB = false := by
      rw [← List.take_append_drop (k + 1) s.data.toList, List.all_append, h2]; rfl
     rw [HRES.o, this]; simp
    clear HRES HW; have HCC := hyd hcc; clear hcc; go_upto_region 7 with fail; rw [← HCC.o]; clear HCC
    have HIY : Hid (∀ n : Int, (n == 95) = true ∨ (n == 64) = true → letterI n = true) := by
     intro n h; apply letterI_yes; simp only [beq_iff_eq] at h; omega
    cases h95 : ((c.toNat : Int) == 95) with
    | true =>
     have hy := HIY.o _ (Or.inl h95); have HY := hyd hy; clear hy
     go_wp2
     all_goals
      go_round
      case rel => exact ⟨k + 1, by have := HLT.o; omega, by go_num, by rw [HTS.o]; exact HY.o⟩
      case measure =>
       have := HLT.o; simp [RowKit.intOf]; omega
    | false =>
     cases h64 : ((c.toNat : Int) == 64) with
     | true =>
      have hy := HIY.o _ (Or.inr h64); have HY := hyd hy; clear hy
      go_wp2
      all_goals
       go_round
       case rel => exact ⟨k + 1, by have := HLT.o; omega, by go_num, by rw [HTS.o]; exact HY.o⟩
       case measure =>
        have := HLT.o; simp [RowKit.intOf]; omega
     | false =>
      have hn95 : ¬ (c.toNat : Int) = 95 := by simpa using h95
      have hn64 : ¬ (c.toNat : Int) = 64 := by simpa using h64
      have HNN := hyd (And.intro hn95 hn64); clear hn95 hn64
      by_cases a1 : (97 : Int) ≤ (c.toNat : Int) <;> by_cases a2 : (c.toNat : Int) ≤ 122 <;> by_cases a3 : (65 : Int) ≤ (c.toNat : Int) <;> by_cases a4 : (c.toNat : Int) ≤ 90 <;> by_cases a5 : (48 : Int) ≤ (c.toNat : Int) <;> by_cases a6 : (c.toNat : Int) ≤ 57 <;> try (exfalso; omega)
      all_goals first
       | (have hno := HSP.o (letterI_no (by have := HNN.o; omega)); have HN2 := hyd hno; clear hno; go_wp2_with fail; go_ret; exact ⟨by rw [HN2.o]; rfl, Keep.refl _ _⟩)
       | (have hyes := letterI_yes (n := (c.toNat : Int)) (by have := HNN.o; omega)
          have HY := hyd hyes; clear hyes; go_wp2_with fail; go_round
          · exact ⟨k + 1, by have := HLT.o; omega, by go_num, by rw [HTS.o]; exact HY.o⟩
          · have := HLT.o
            simp [RowKit.intOf]; omega)
   ·have hall : s.data.toList.all letterB = true := by
     have := HALL.o
     rwa [List.take_of_length_le (by simp; exact Nat.le_of_not_lt hlt)] at this
    rw [hall] at HRES; clear hall; go_wp2_with fail; refine HW.o.mono ?_; rintro e w2 ⟨rfl, hk2⟩; go_wp2_with fail; go_ret; exact ⟨by rw [HRES.o]; simp, hk2⟩
theorem bytes_add (a b : List UInt8) : (⟨a.toArray⟩ : ByteArray) ++ ⟨b.toArray⟩ = ⟨(a ++ b).toArray⟩ := by
 apply ByteArray.ext; simp
theorem digits_step (u : Nat) (h : ¬ u < 10) : (⟨(Lib.decDigits (u / 10)).toArray⟩ : ByteArray) ++ digitAt (u % 10) = ⟨(Lib.decDigits u).toArray⟩ := by
 unfold digitAt; rw [show (⟨#[UInt8.ofNat (48 + u % 10)]⟩ : ByteArray) = ⟨[UInt8.ofNat (48 + u % 10)].toArray⟩ from rfl, bytes_add]; rw [Lib.decDigits.eq_1 u, dif_neg h]
theorem digits_one (u : Nat) (h : u < 10) : digitAt u = ⟨(Lib.decDigits u).toArray⟩ := by
 rw [Lib.decDigits_one h]; rfl
theorem r_digitsN : ∀ (N u : Nat), u ≤ N → u ≤ 9223372036854775807 → ∀ w : World, Calls Tryz.prog 36 #[.int .i64 (u : Int)] w fun e w' => e = .returned (.string ⟨(Lib.decDigits u).toArray⟩) ∧ Keep [] w w' := by
 intro N
 induction N with
 | zero =>
  intro u h0 _ w; obtain rfl : u = 0 := by omega
  have hd := digit_at 0 (by omega); have ho := digits_one 0 (by omega); have HD := hyd hd; have HO := hyd ho; clear hd ho; go_enter Tryz.func36, Tryz.ntmps36; go_wp2_with fail; go_ret; exact ⟨by rw [← HO.o]; rfl, Keep.refl _ _⟩
 | succ N ih =>
  intro u h0 h1 w
  by_cases hlt : u < 10
  ·have hd := digit_at u hlt; have ho := digits_one u hlt; have HD := hyd hd; have HO := hyd ho; clear hd ho; have q0 : (0 : Int) ≤ (u : Int) := by omega
   have q1 : (u : Int) < 10 := by omega
   have q2 : ¬ (u : Int) < 0 := by omega
   go_enter Tryz.func36, Tryz.ntmps36; go_wp2_with fail; go_ret; exact ⟨by rw [← HO.o, ← HD.o]; rfl, Keep.refl _ _⟩
  ·have hcall := ih (u / 10) (by omega) (by omega); have IH := hyd hcall; have hs := digits_step u hlt; have HS := hyd hs; have hd := digit_at (u % 10) (by omega); rw [show u % 10 = ((u : Int) % 10).toNat from by omega, show ((u : Int) % 10).toNat + 1 = ((u : Int) % 10 + 1).toNat from by omega] at hd; have hl := decDigits_le 19 (u / 10) (by omega) (by omega); have HDI : Hid ((⟨#[48, 49, 50, 51, 52, 53, 54, 55, 56, 57]⟩ : ByteArray).extract ((u : Int) % 10).toNat ((u : Int) % 10 + 1).toNat = digitAt (u % 10)) := hyd (by rw [hd, show ((u : Int) % 10).toNat = u % 10 from by omega]); have HLE := hyd hl; clear ih hcall hs hd hl; have q0 : (0 : Int) ≤ (u : Int) := by omega
   have q1 : ¬ (u : Int) < 10 := by omega
   have q2 : ¬ (u : Int) < 0 := by omega
   have w1 : IntKind.i64.wrap ((u : Int) / 10) = (u : Int) / 10 := IntWalk.i64_in _ (by omega); have w2 : IntKind.i64.wrap ((u : Int) % 10) = (u : Int) % 10 := IntWalk.i64_in _ (by omega); have w3 : IntKind.i64.wrap ((u : Int) % 10 + 1) = (u : Int) % 10 + 1 := IntWalk.i64_in _ (by omega); have t1 : (u : Int).tdiv 10 = (u : Int) / 10 := Int.tdiv_eq_ediv_of_nonneg (by omega); have t2 : (u : Int).tmod 10 = (u : Int) % 10 := Int.tmod_eq_emod_of_nonneg (by omega); have r1 : (0 : Int) ≤ (u : Int) % 10 := by omega
   have r2 : (u : Int) % 10 + 1 ≤ 10 := by omega
   have r3 : (u : Int) % 10 ≤ (u : Int) % 10 + 1 := by omega
   go_enter Tryz.func36, Tryz.ntmps36; go_wp2_with fail; refine wp_region_held_drew (S := fun w' => Keep [] w w') (by kernel_rfl) ((Keep.refl [] w).drew) (fun hHeld => ?_); refine tkL 0 ?v0 rfl ?run0 hHeld ?_
   case run0 => (intro w9 hS9; go_simp; try exact rfl)
   try simp only [Act.put, lA, lZ, lS]
   refine tkL 1 (.int .i64 ((u : Int) / 10)) rfl ?run1 hHeld ?_
   case run1 => (intro w9 hS9; go_simp; first | done | exact rfl | (simp [*]; done) | (simp; omega))
   try simp only [Act.put, lA, lZ, lS]
   refine tkL 3 ?v3 rfl ?run3 hHeld ?_
   case run3 => (intro w9 hS9; go_simp; try exact rfl)
   try simp only [Act.put, lA, lZ, lS]
   refine tkL 4 (.int .i64 ((u : Int) % 10)) rfl ?run4 hHeld ?_
   case run4 => (intro w9 hS9; go_simp; first | done | exact rfl | (simp [*]; done) | (simp; omega))
   try simp only [Act.put, lA, lZ, lS]
   refine tkL 5 ?v5 rfl ?run5 hHeld ?_
   case run5 => (intro w9 hS9; go_simp; try exact rfl)
   try simp only [Act.put, lA, lZ, lS]
   refine tkL 6 (.int .i64 ((u : Int) % 10)) rfl ?run6 hHeld ?_
   case run6 => (intro w9 hS9; go_simp; first | done | exact rfl | (simp [*]; done) | (simp; omega))
   try simp only [Act.put, lA, lZ, lS]
   refine tkL 7 (.int .i64 ((u : Int) % 10 + 1)) rfl ?run7 hHeld ?_
   case run7 => (intro w9 hS9; go_simp; first | done | exact rfl | (simp [*]; done) | (simp; omega))
   try simp only [Act.put, lA, lZ, lS]
   refine tkL 8 (.string (digitAt (u % 10))) rfl ?run8 hHeld ?_
   case run8 => (intro w9 hS9; go_simp; rw [HDI.o])
   try simp only [Act.put, lA, lZ, lS]
   refine rdH 2 rfl (fun K hK => ?_); go_simp; rw [show (u : Int) / 10 = ((u / 10 : Nat) : Int) from by omega]; refine (IH.o _).mono ?_; rintro e wc1 ⟨rfl, hc1⟩; have HC1 := hyd (((Keep.refl [] w).drew).trans hc1 (by simp)); clear hc1; go_wp2_with fail; refine hK.out _ _ HC1.o (fun hHeld2 => ?_); clear hK K hHeld; have hHeld := hHeld2; clear hHeld2
   try simp only [Act.put, lA, lZ, lS]
   refine tkL 9 (.string ⟨(Lib.decDigits u).toArray⟩) rfl ?run9 hHeld ?_
   case run9 => (intro w9 hS9; go_simp; rw [if_neg (by have := HLE.o; have : (digitAt (u % 10)).size = 1 := rfl; omega), HS.o])
   try simp only [Act.put, lA, lZ, lS]
   refine rdH 10 rfl (fun K hK => ?_); go_simp; refine hK.out _ _ HC1.o (fun hHeld => ?_); clear hK K
   try simp only [Act.put, lA, lZ, lS]
   refine wpAnyH_done (by kernel_rfl) ?_ _; go_wp2_with fail; go_ret; exact ⟨rfl, HC1.o⟩
theorem r_digits {n : Int} {w : World} (h0 : -9223372036854775807 ≤ n) (h1 : n ≤ 9223372036854775807) : Calls Tryz.prog 36 #[.int .i64 n] w fun e w' => e = .returned (.string ⟨(Lib.itoa n).toArray⟩) ∧ Keep [] w w' := by
 by_cases hn : n < 0
 ·obtain ⟨u, rfl⟩ : ∃ u : Nat, n = -(u : Int) := ⟨n.natAbs, by omega⟩; have hcall := r_digitsN u u (Nat.le_refl _) (by omega) w; have hl := decDigits_le 19 u (by omega) (by omega)
  have hi : (⟨#[45]⟩ : ByteArray) ++ ⟨(Lib.decDigits u).toArray⟩ = ⟨(Lib.itoa (-(u : Int))).toArray⟩ := by
   unfold Lib.itoa; rw [if_pos hn, Int.natAbs_neg, Int.natAbs_natCast, show (⟨#[45]⟩ : ByteArray) = ⟨[45].toArray⟩ from rfl, bytes_add]; rfl
  have HI := hyd hi; have HC := hyd hcall; have w1 : IntKind.i64.wrap (-(-(u : Int))) = (u : Int) := by rw [Int.neg_neg]; exact IntWalk.i64_in _ (by omega)
  have w2 : IntKind.i64.wrap (u : Int) = (u : Int) := IntWalk.i64_in _ (by omega); clear hi hcall; go_enter Tryz.func36, Tryz.ntmps36; go_wp2_with fail; refine HC.o.mono ?_; rintro e w2 ⟨rfl, hk2⟩; go_wp2_with fail; go_ret; exact ⟨by rw [← HI.o]; rfl, hk2⟩
 ·obtain ⟨u, rfl⟩ : ∃ u : Nat, n = (u : Int) := ⟨n.toNat, by omega⟩; have hi : Lib.itoa (u : Int) = Lib.decDigits u := by unfold Lib.itoa; rw [if_neg hn]; simp
  rw [hi]; exact r_digitsN u u (Nat.le_refl _) (by omega) w
theorem _root_.Go.Emb.Rd.ofBlock {w : World} {b E n k : Nat} {xs : List Value} (hb : w.heap[b]? = some (.cells xs.toArray E)) (hl : xs.length = n * k) (hn : n ≤ maxLen) : Rd w k (.slice (some ⟨b, 0, none⟩) n n) n xs (some b) :=
 ⟨hl, _, _, rfl, Nat.le_refl _, hn, .inr ⟨b, 0, rfl, rfl, fun i hi => by simp [World.cell?, hb]⟩⟩
def RowB (B : Nat) (w : World) (v : Value) (bs : List UInt8) : Prop := ∃ o, Row w 5 1 v bs.length (Lib.byteCells bs) o ∧ ∀ b, o = some b → B ≤ b
theorem RowB.lit (w : World) (c : UInt8) (n : Int) (hn : (c.toNat : Int) = n) : RowB w.heap.size (w.alloc (.cells #[.int .u8 n] 5)) (.slice (some ⟨w.heap.size, 0, none⟩) 1 1) [c] := by
 subst hn; refine ⟨some w.heap.size, ⟨rfl, .inr ⟨w.heap.size, 0, 1, _, rfl, rfl, heap_alloc_new _ _, Nat.le_refl _, by simp [maxLen], by simp, ?_⟩⟩, fun b hb => by cases hb; omega⟩; intro i hi; obtain rfl : i = 0 := by simpa using hi
 rfl
theorem byteCells_snoc (a b : List UInt8) : Lib.byteCells a ++ Lib.byteCells b = Lib.byteCells (a ++ b) := by simp [Lib.byteCells]
theorem RowB.next {B : Nat} {w0 w w2 : World} {bs news : List UInt8} {m : Nat} {cs : List Value} {o : Option Nat} {g off cap : Nat} (hm : news.length = m) (hcs : Lib.byteCells news = cs) (hB : ∀ b, o = some b → B ≤ b) (hw0 : Keep [] w0 w) (hBw : B ≤ w.heap.size) (hB0 : w0.heap.size ≤ B)
  (hr : Row w2 5 1 (.slice (some ⟨g, off, none⟩) (bs.length + m) cap) (bs.length + m) (Lib.byteCells bs ++ cs) (some g)) (hk : Keep o.toList w w2) (hg : o = some g ∨ w.heap.size ≤ g) :
  RowB B w2 (.slice (some ⟨g, off, none⟩) (bs.length + m) cap) (bs ++ news) ∧ Keep [] w0 w2 := by
 subst hm hcs; refine ⟨⟨some g, by rw [List.length_append, ← byteCells_snoc]; exact hr, fun b hb => ?_⟩, hw0.trans hk (fun x hx => ?_)⟩
 ·cases hb
  rcases hg with h | h
  ·exact hB g h
  ·omega
 ·right
  cases o with
  | none => cases hx
  | some y => simp at hx; subst hx; have := hB x rfl; omega
theorem nameS_snoc (s : List UInt8) (k : Nat) (h : k < s.length) : 39 :: (s.take (k + 1)).flatMap escL = (39 :: (s.take k).flatMap escL) ++ escL s[k] := by
 rw [List.take_succ_eq_append_getElem h, List.flatMap_append]; simp
theorem flatEscL_le2 (l : List UInt8) (k : Nat) : ((l.take k).flatMap escL).length ≤ 4 * l.length := by
 have h1 := flatEscL_le (l.take k); have h2 : (l.take k).length ≤ l.length := by rw [List.length_take]; omega
 omega
theorem RowB.text {P : Program} {B : Nat} {w : World} {v : Value} {bs : List UInt8} {src e : TypeId} (h : RowB B w v bs) (hb : 0 < bs.length) (hs : P.underlying src = some (.slice e)) (he : P.underlying e = some (.int .u8)) : ∀ dst, P.underlying dst = some .string → (convert src dst v).run P w = .ok (.string ⟨bs.toArray⟩) w := by
 obtain ⟨o, hr, -⟩ := h; obtain ⟨o', hrd, -⟩ := hr.rd; obtain ⟨hl, a, c, rfl, h1, h2, h3⟩ := hrd; intro dst hd; rcases h3 with ⟨h, -⟩ | ⟨b, off, rfl, -, hc⟩
 ·omega
 ·refine run_convert_bytes_back w src dst e _ c bs hs he hd (fun j hj => ?_); have := hc j (by omega); rw [show (⟨b, off, none⟩ : Addr).add j = ⟨b, off + j, none⟩ from by simp [Addr.add], this]; simp [Lib.byteCells, List.getElem?_eq_getElem hj]
theorem RowB.form {B : Nat} {w : World} {v : Value} {bs : List UInt8} (h : RowB B w v bs) (hb : 0 < bs.length) : ∃ b off cap, v = .slice (some ⟨b, off, none⟩) bs.length cap ∧ Row w 5 1 v bs.length (Lib.byteCells bs) (some b) ∧ B ≤ b := by
 obtain ⟨o, hr, ho⟩ := h; obtain ⟨hl, ⟨-, -, h0⟩ | ⟨b, off, cap, cs, rfl, rfl, hh⟩⟩ := id hr
 ·omega
 ·exact ⟨b, off, cap, rfl, hr, ho b rfl⟩
theorem hex_get (i : Nat) (h : i < 16) (h' : i < (⟨#[48, 49, 50, 51, 52, 53, 54, 55, 56, 57, 97, 98, 99, 100, 101, 102]⟩ : ByteArray).size) : (⟨#[48, 49, 50, 51, 52, 53, 54, 55, 56, 57, 97, 98, 99, 100, 101, 102]⟩ : ByteArray)[i]'h' = hexL.getD i 0 := by
 rw [← index_at _ i h']; simp only [List.getD_eq_getElem?_getD, List.getElem?_eq_getElem (show i < hexL.length from h), Option.getD_some]
theorem r_name (s : ByteArray) (w : World) (hs : s.size ≤ 100000) : Calls Tryz.prog 54 #[.string s] w fun e w' => e = .returned (.string ⟨(nameL s.data.toList).toArray⟩) ∧ Keep [] w w' := by
 have hcall := r_bare s w (by omega); have hname : nameL s.data.toList = if bareL s.data.toList then s.data.toList else 39 :: (s.data.toList.flatMap escL ++ [39]) := rfl
 have HN := hyd hname; have HC := hyd hcall; obtain ⟨i0, hi, hz0, hz1, hz2⟩ := info_parts byte_info; have HI := hyd hi; clear hcall hname hi; generalize bareL s.data.toList = bb at *
 cases bb with
 | true =>
  go_enter Tryz.func54, Tryz.ntmps54; go_wp2_with fail; refine HC.o.mono ?_; rintro e w1 ⟨rfl, hk1⟩; have HK := hyd hk1; clear hk1; go_wp2_with fail; go_ret; exact ⟨by rw [HN.o]; rfl, HK.o⟩
 | false =>
  obtain ⟨res, hres⟩ : ∃ x, x = nameL s.data.toList := ⟨_, rfl⟩; rw [← hres] at HN; rw [← hres]; clear hres; go_enter Tryz.func54, Tryz.ntmps54; go_wp2_with fail; refine HC.o.mono ?_; rintro e w1 ⟨rfl, hk1⟩; have HK := hyd hk1; have hrow := RowB.lit w1 39 39 rfl; have HROW := hyd hrow; have HKA := hyd ((Keep.refl [] w1).alloc (.cells #[.int .u8 39] 5)); clear hk1 hrow HC; go_wp2_with fail; generalize w1.alloc (.cells #[.int .u8 39] 5) = W0 at *
  go_loopw [3, 4, 5] (fun b i _ wr => ∃ k : Nat, k ≤ s.size ∧ i = .int .i64 k ∧ RowB w1.heap.size wr b (39 :: (s.data.toList.take k).flatMap escL) ∧ Keep [] w1 wr) (fun _ i _ _ => s.size - (RowKit.intOf i).toNat)
  case atStart => exact ⟨0, Nat.zero_le _, rfl, HROW.o, HKA.o⟩
  case round =>
   obtain ⟨k, hk, rfl, hrow, hkw⟩ := hrel; have HR := hyd hrow; have HKW := hyd hkw; clear hrow hkw HROW HKA
   by_cases hlt : k < s.size
   ·have i0' : (0 : Int) ≤ (k : Int) := by omega
    have i1' : (k : Int) < (s.size : Int) := by omega
    have hle := flatEscL_le2 s.data.toList k; rw [show s.data.toList.length = s.size from by simp] at hle; obtain ⟨c, hcc⟩ : ∃ c, c = s[k] := ⟨_, rfl⟩; have hsn := nameS_snoc s.data.toList k (by simpa using hlt); rw [index_at s k hlt, ← hcc] at hsn; have HSN := hyd hsn; have HCC := hyd hcc; have c0 : (0 : Int) ≤ (c.toNat : Int) := by omega
    have c1 : (c.toNat : Int) ≤ 255 := by have := c.toNat_lt; omega
    obtain ⟨lk, hlk⟩ : ∃ x, x = 39 :: (s.data.toList.take k).flatMap escL := ⟨_, rfl⟩; have hll : lk.length ≤ 500000 := by rw [hlk, List.length_cons]; omega
    have hlp : 0 < lk.length := by rw [hlk, List.length_cons]; omega
    rw [← hlk] at HR HSN; clear hcc hsn hle hlk; obtain ⟨rb, roff, rcap, hbv, hro, hrb⟩ := HR.o.form hlp; have ho : ∀ b, some rb = some b → w1.heap.size ≤ b := fun b hb => by cases hb; exact hrb
    subst hbv; have HRO := hyd hro; have HO := hyd ho; clear hro ho hrb hlp HR
    by_cases h1 : c = 39 ∨ c = 92
    ·have hesc : escL c = [92, c] := by unfold escL; rw [if_pos h1]
     rw [hesc] at HSN
     by_cases q1 : (c.toNat : Int) = 39
     ·have q1' : ((c.toNat : Int) == 39) = true := by simpa using q1
      clear h1 q1 hesc; go_upto_region 9 with fail; rw [← HCC.o]
      go_wp2_with (at_builtin; refine wpList_append_row _ rfl _ _ 58 58 rfl 5 i0 (.int .u8 0) 1 1 Tryz.underlying58 HI.o hz0 hz1 hz2 rfl _ _ _ (some rb) rfl (HRO.o.keep (F := []) ((Keep.refl [] _).alloc _) (by simp)) _ rfl 2 [.int .u8 92, .int .u8 c.toNat] (Src.ofSlice _ Tryz.underlying58 ⟨wr.heap.size, 0, none⟩ 2 2 [.int .u8 92, .int .u8 c.toNat] rfl ?c11 ?c21) (by omega) ?c31 ?c41 ?_)
      try case c11 =>
       intro j u hj
       match j, hj with
       | 0, hj => simp at hj; subst hj; simp [Addr.add]
       | 1, hj => simp at hj; subst hj; simp [Addr.add]
      try case c21 => first | rfl | (intro u hu; simp at hu; (try rcases hu with rfl | rfl) <;> (try subst hu) <;> rfl)
      try case c31 => unfold maxLen; omega
      try case c41 => omega
      intro g off cap w2 hr2 hk2 hg2; obtain ⟨n1, n2⟩ := RowB.next (news := [92, c]) rfl rfl HO.o (HKW.o.alloc _) (by have := HKW.o.size; simp; omega) (Nat.le_refl _) hr2 hk2 (by simpa using hg2); rw [← HSN.o] at n1; have HN1 := hyd n1; have HN2 := hyd n2; clear n1 n2 hr2 hk2 hg2; go_wp2_with fail; go_roundw
      case rel => exact ⟨k + 1, by omega, by go_num, HN1.o, HN2.o⟩
      case measure => simp [RowKit.intOf]; omega
     ·have q2 : (c.toNat : Int) = 92 := by
       rcases h1 with rfl | rfl
       ·exact absurd rfl q1
       ·rfl
      have q1' : ((c.toNat : Int) == 39) = false := by simpa using q1
      have q2' : ((c.toNat : Int) == 92) = true := by simpa using q2
      clear h1 q1 q2 hesc; go_upto_region 9 with fail; rw [← HCC.o]
      go_wp2_with (at_builtin; refine wpList_append_row _ rfl _ _ 58 58 rfl 5 i0 (.int .u8 0) 1 1 Tryz.underlying58 HI.o hz0 hz1 hz2 rfl _ _ _ (some rb) rfl (HRO.o.keep (F := []) ((Keep.refl [] _).alloc _) (by simp)) _ rfl 2 [.int .u8 92, .int .u8 c.toNat] (Src.ofSlice _ Tryz.underlying58 ⟨wr.heap.size, 0, none⟩ 2 2 [.int .u8 92, .int .u8 c.toNat] rfl ?c12 ?c22) (by omega) ?c32 ?c42 ?_)
      try case c12 =>
       intro j u hj
       match j, hj with
       | 0, hj => simp at hj; subst hj; simp [Addr.add]
       | 1, hj => simp at hj; subst hj; simp [Addr.add]
      try case c22 => first | rfl | (intro u hu; simp at hu; (try rcases hu with rfl | rfl) <;> (try subst hu) <;> rfl)
      try case c32 => unfold maxLen; omega
      try case c42 => omega
      intro g off cap w2 hr2 hk2 hg2; obtain ⟨n1, n2⟩ := RowB.next (news := [92, c]) rfl rfl HO.o (HKW.o.alloc _) (by have := HKW.o.size; simp; omega) (Nat.le_refl _) hr2 hk2 (by simpa using hg2); rw [← HSN.o] at n1; have HN1 := hyd n1; have HN2 := hyd n2; clear n1 n2 hr2 hk2 hg2; go_wp2_with fail; go_roundw
      case rel => exact ⟨k + 1, by omega, by go_num, HN1.o, HN2.o⟩
      case measure => simp [RowKit.intOf]; omega
    ·have q1 : ((c.toNat : Int) == 39) = false := by
      simp only [beq_eq_false_iff_ne, ne_eq]; intro h; apply h1; left; apply UInt8.toNat.inj; simp; omega
     have q2 : ((c.toNat : Int) == 92) = false := by
      simp only [beq_eq_false_iff_ne, ne_eq]; intro h; apply h1; right; apply UInt8.toNat.inj; simp; omega
     by_cases h2 : c < 32 ∨ 126 < c
     ·have hesc : escL c = [92, 120, hexL.getD (c.toNat / 16) 0, hexL.getD (c.toNat % 16) 0] := by unfold escL; rw [if_neg h1, if_pos h2]
      rw [hesc] at HSN
      have hxa : ∀ h', (⟨#[48, 49, 50, 51, 52, 53, 54, 55, 56, 57, 97, 98, 99, 100, 101, 102]⟩ : ByteArray)[((c.toNat : Int) / 16).toNat]'h' = hexL.getD (c.toNat / 16) 0 := fun h' => by
       rw [hex_get _ (by omega) h', show ((c.toNat : Int) / 16).toNat = c.toNat / 16 from by omega]
      have hxb : ∀ h', (⟨#[48, 49, 50, 51, 52, 53, 54, 55, 56, 57, 97, 98, 99, 100, 101, 102]⟩ : ByteArray)[((c.toNat : Int) % 16).toNat]'h' = hexL.getD (c.toNat % 16) 0 := fun h' => by
       rw [hex_get _ (by omega) h', show ((c.toNat : Int) % 16).toNat = c.toNat % 16 from by omega]
      generalize hexL.getD (c.toNat / 16) 0 = x1 at *; generalize hexL.getD (c.toNat % 16) 0 = x2 at *; have HXA := hyd hxa; have HXB := hyd hxb; clear hxa hxb; have w1 : IntKind.u8.wrap ((c.toNat : Int) / 16) = (c.toNat : Int) / 16 := IntWalk.u8_in _ (by omega); have w2 : IntKind.u8.wrap ((c.toNat : Int) % 16) = (c.toNat : Int) % 16 := IntWalk.u8_in _ (by omega); have t1 : (c.toNat : Int).tdiv 16 = (c.toNat : Int) / 16 := Int.tdiv_eq_ediv_of_nonneg (by omega); have t2 : (c.toNat : Int).tmod 16 = (c.toNat : Int) % 16 := Int.tmod_eq_emod_of_nonneg (by omega); have r0 : (0 : Int) ≤ (c.toNat : Int) / 16 := by omega
      have r1 : (c.toNat : Int) / 16 < 16 := by omega
      have r2 : (0 : Int) ≤ (c.toNat : Int) % 16 := by omega
      have r3 : (c.toNat : Int) % 16 < 16 := by omega
      have q34 : ((c.toNat : Int) < 32) ∨ (¬ (c.toNat : Int) < 32 ∧ (126 : Int) < (c.toNat : Int)) := by
       rcases h2 with h | h <;> rw [UInt8.lt_iff_toNat_lt] at h <;> simp at h <;> omega
      clear h1 h2 hesc; rcases q34 with q3 | ⟨q3, q4⟩
      ·go_upto_region 9 with fail; rw [← HCC.o]; go_upto_region 12 with fail; go_wp2_with fail; refine wp_region_held_drew (S := fun w' => Keep [rb] wr w') (by kernel_rfl) ((Keep.refl [rb] wr).drew) (fun hHeld => ?_); refine tkL 0 ?vA0 rfl ?runA0 hHeld ?_
       case runA0 => (intro w9 hS9; go_simp; try exact rfl)
       try simp only [Act.put, lA, lZ, lS]
       refine tkL 1 ?vA1 rfl ?runA1 hHeld ?_
       case runA1 => (intro w9 hS9; go_simp; try exact rfl)
       try simp only [Act.put, lA, lZ, lS]
       refine tkL 2 (.int .u8 ((c.toNat : Int) / 16)) rfl ?runA2 hHeld ?_
       case runA2 => (intro w9 hS9; go_simp; first | done | exact rfl | (simp [*]; done) | (simp; omega))
       try simp only [Act.put, lA, lZ, lS]
       refine tkL 3 (.int .u8 x1.toNat) rfl ?runA3 hHeld ?_
       case runA3 => (intro w9 hS9; go_simp; first | exact HXA.o _ | exact congrArg UInt8.toNat (HXA.o _) | exact congrArg (fun x : UInt8 => (x.toNat : Int)) (HXA.o _))
       try simp only [Act.put, lA, lZ, lS]
       refine tkL 4 ?vA4 rfl ?runA4 hHeld ?_
       case runA4 => (intro w9 hS9; go_simp; try exact rfl)
       try simp only [Act.put, lA, lZ, lS]
       refine tkL 5 (.int .u8 ((c.toNat : Int) % 16)) rfl ?runA5 hHeld ?_
       case runA5 => (intro w9 hS9; go_simp; first | done | exact rfl | (simp [*]; done) | (simp; omega))
       try simp only [Act.put, lA, lZ, lS]
       refine tkL 6 (.int .u8 x2.toNat) rfl ?runA6 hHeld ?_
       case runA6 => (intro w9 hS9; go_simp; first | exact HXB.o _ | exact congrArg UInt8.toNat (HXB.o _) | exact congrArg (fun x : UInt8 => (x.toNat : Int)) (HXB.o _))
       try simp only [Act.put, lA, lZ, lS]
       refine rdH 7 rfl (fun K hK => ?_); go_simp; have hAL : Keep [rb] wr ((wr.alloc (.cells #[.int .u8 92, .int .u8 120, .int .u8 x1.toNat, .int .u8 x2.toNat] 5)).drew) := ((Keep.refl [rb] wr).alloc _).drew; have hA0 : Keep [] wr ((wr.alloc (.cells #[.int .u8 92, .int .u8 120, .int .u8 x1.toNat, .int .u8 x2.toNat] 5)).drew) := ((Keep.refl [] wr).alloc _).drew; have hSB : (wr.alloc (.cells #[.int .u8 92, .int .u8 120, .int .u8 x1.toNat, .int .u8 x2.toNat] 5)).drew.heap[wr.heap.size]? = some (.cells #[.int .u8 92, .int .u8 120, .int .u8 x1.toNat, .int .u8 x2.toNat] 5) := heap_alloc_new wr _; have hSZ : wr.heap.size ≤ (wr.alloc (.cells #[.int .u8 92, .int .u8 120, .int .u8 x1.toNat, .int .u8 x2.toNat] 5)).drew.heap.size := hA0.size; refine hK.out _ _ hAL (fun hHeld => ?_); clear hK K
       try simp only [Act.put, lA, lZ, lS]
       generalize (wr.alloc (.cells #[.int .u8 92, .int .u8 120, .int .u8 x1.toNat, .int .u8 x2.toNat] 5)).drew = wq at *; refine rdH 8 rfl (fun K hK => ?_); refine step_append_w _ (by rfl) _ _ 58 58 (by rfl) 5 5 i0 _ 1 1 Tryz.underlying58 Tryz.underlying58 HI.o hz0 hz1 hz2 rfl rb roff lk.length rcap (Lib.byteCells lk) (by rfl) (HRO.o.keep hA0 (by simp)) (.slice (some ⟨wr.heap.size, 0, none⟩) 4 4) (by rfl) 4 [.int .u8 92, .int .u8 120, .int .u8 x1.toNat, .int .u8 x2.toNat] (some wr.heap.size) (Rd.ofBlock hSB rfl (by simp [maxLen])) (by intro u hu; simp at hu; rcases hu with rfl | rfl | rfl | rfl <;> rfl) (by unfold maxLen; omega) (by omega) ?_; intro g off cap w2 hr2 hk2 hg2; obtain ⟨n1, n2⟩ := RowB.next (news := [92, 120, x1, x2]) (o := some rb) rfl rfl HO.o (HKW.o.trans hA0 (by simp)) (by have := HKW.o.size; omega) (Nat.le_refl _) hr2 hk2 (by rcases hg2 with h | h; exact .inl (by rw [h]); exact .inr h); rw [← HSN.o] at n1; have HN1 := hyd n1; have HN2 := hyd n2; refine hK.out _ _ (hAL.trans hk2 (fun x hx => .inl hx)) (fun hHeld => ?_); clear hK K n1 n2 hr2 hk2 hg2 hA0 hAL hSB hSZ
       try simp only [Act.put, lA, lZ, lS]
       refine rdH 9 rfl (fun K hK => ?_); go_simp; refine hK.out _ _ hHeld (fun hHeld => ?_); clear hK K
       try simp only [Act.put, lA, lZ, lS]
       refine wpAnyH_done (by kernel_rfl) ?_ _; go_wp2_with fail; go_roundw
       case rel => exact ⟨k + 1, by omega, by go_num, HN1.o, HN2.o⟩
       case measure => simp [RowKit.intOf]; omega
      ·go_upto_region 9 with fail; rw [← HCC.o]; go_upto_region 12 with fail; go_wp2_with fail; refine wp_region_held_drew (S := fun w' => Keep [rb] wr w') (by kernel_rfl) ((Keep.refl [rb] wr).drew) (fun hHeld => ?_); refine tkL 0 ?vB0 rfl ?runB0 hHeld ?_
       case runB0 => (intro w9 hS9; go_simp; try exact rfl)
       try simp only [Act.put, lA, lZ, lS]
       refine tkL 1 ?vB1 rfl ?runB1 hHeld ?_
       case runB1 => (intro w9 hS9; go_simp; try exact rfl)
       try simp only [Act.put, lA, lZ, lS]
       refine tkL 2 (.int .u8 ((c.toNat : Int) / 16)) rfl ?runB2 hHeld ?_
       case runB2 => (intro w9 hS9; go_simp; first | done | exact rfl | (simp [*]; done) | (simp; omega))
       try simp only [Act.put, lA, lZ, lS]
       refine tkL 3 (.int .u8 x1.toNat) rfl ?runB3 hHeld ?_
       case runB3 => (intro w9 hS9; go_simp; first | exact HXA.o _ | exact congrArg UInt8.toNat (HXA.o _) | exact congrArg (fun x : UInt8 => (x.toNat : Int)) (HXA.o _))
       try simp only [Act.put, lA, lZ, lS]
       refine tkL 4 ?vB4 rfl ?runB4 hHeld ?_
       case runB4 => (intro w9 hS9; go_simp; try exact rfl)
       try simp only [Act.put, lA, lZ, lS]
       refine tkL 5 (.int .u8 ((c.toNat : Int) % 16)) rfl ?runB5 hHeld ?_
       case runB5 => (intro w9 hS9; go_simp; first | done | exact rfl | (simp [*]; done) | (simp; omega))
       try simp only [Act.put, lA, lZ, lS]
       refine tkL 6 (.int .u8 x2.toNat) rfl ?runB6 hHeld ?_
       case runB6 => (intro w9 hS9; go_simp; first | exact HXB.o _ | exact congrArg UInt8.toNat (HXB.o _) | exact congrArg (fun x : UInt8 => (x.toNat : Int)) (HXB.o _))
       try simp only [Act.put, lA, lZ, lS]
       refine rdH 7 rfl (fun K hK => ?_); go_simp; have hAL : Keep [rb] wr ((wr.alloc (.cells #[.int .u8 92, .int .u8 120, .int .u8 x1.toNat, .int .u8 x2.toNat] 5)).drew) := ((Keep.refl [rb] wr).alloc _).drew; have hA0 : Keep [] wr ((wr.alloc (.cells #[.int .u8 92, .int .u8 120, .int .u8 x1.toNat, .int .u8 x2.toNat] 5)).drew) := ((Keep.refl [] wr).alloc _).drew; have hSB : (wr.alloc (.cells #[.int .u8 92, .int .u8 120, .int .u8 x1.toNat, .int .u8 x2.toNat] 5)).drew.heap[wr.heap.size]? = some (.cells #[.int .u8 92, .int .u8 120, .int .u8 x1.toNat, .int .u8 x2.toNat] 5) := heap_alloc_new wr _; have hSZ : wr.heap.size ≤ (wr.alloc (.cells #[.int .u8 92, .int .u8 120, .int .u8 x1.toNat, .int .u8 x2.toNat] 5)).drew.heap.size := hA0.size; refine hK.out _ _ hAL (fun hHeld => ?_); clear hK K
       try simp only [Act.put, lA, lZ, lS]
       generalize (wr.alloc (.cells #[.int .u8 92, .int .u8 120, .int .u8 x1.toNat, .int .u8 x2.toNat] 5)).drew = wq at *; refine rdH 8 rfl (fun K hK => ?_); refine step_append_w _ (by rfl) _ _ 58 58 (by rfl) 5 5 i0 _ 1 1 Tryz.underlying58 Tryz.underlying58 HI.o hz0 hz1 hz2 rfl rb roff lk.length rcap (Lib.byteCells lk) (by rfl) (HRO.o.keep hA0 (by simp)) (.slice (some ⟨wr.heap.size, 0, none⟩) 4 4) (by rfl) 4 [.int .u8 92, .int .u8 120, .int .u8 x1.toNat, .int .u8 x2.toNat] (some wr.heap.size) (Rd.ofBlock hSB rfl (by simp [maxLen])) (by intro u hu; simp at hu; rcases hu with rfl | rfl | rfl | rfl <;> rfl) (by unfold maxLen; omega) (by omega) ?_; intro g off cap w2 hr2 hk2 hg2; obtain ⟨n1, n2⟩ := RowB.next (news := [92, 120, x1, x2]) (o := some rb) rfl rfl HO.o (HKW.o.trans hA0 (by simp)) (by have := HKW.o.size; omega) (Nat.le_refl _) hr2 hk2 (by rcases hg2 with h | h; exact .inl (by rw [h]); exact .inr h); rw [← HSN.o] at n1; have HN1 := hyd n1; have HN2 := hyd n2; refine hK.out _ _ (hAL.trans hk2 (fun x hx => .inl hx)) (fun hHeld => ?_); clear hK K n1 n2 hr2 hk2 hg2 hA0 hAL hSB hSZ
       try simp only [Act.put, lA, lZ, lS]
       refine rdH 9 rfl (fun K hK => ?_); go_simp; refine hK.out _ _ hHeld (fun hHeld => ?_); clear hK K
       try simp only [Act.put, lA, lZ, lS]
       refine wpAnyH_done (by kernel_rfl) ?_ _; go_wp2_with fail; go_roundw
       case rel => exact ⟨k + 1, by omega, by go_num, HN1.o, HN2.o⟩
       case measure => simp [RowKit.intOf]; omega
     ·have hesc : escL c = [c] := by unfold escL; rw [if_neg h1, if_neg h2]
      rw [hesc] at HSN; have q3 : ¬ (c.toNat : Int) < 32 := by intro h; apply h2; left; rw [UInt8.lt_iff_toNat_lt]; simp; omega
      have q4 : ¬ (126 : Int) < (c.toNat : Int) := by intro h; apply h2; right; rw [UInt8.lt_iff_toNat_lt]; simp; omega
      clear h1 h2 hesc; go_upto_region 9 with fail; rw [← HCC.o]
      go_wp2_with (at_builtin; refine wpList_append_row _ rfl _ _ 58 58 rfl 5 i0 (.int .u8 0) 1 1 Tryz.underlying58 HI.o hz0 hz1 hz2 rfl _ _ _ (some rb) rfl (HRO.o.keep (F := []) ((Keep.refl [] _).alloc _) (by simp)) _ rfl 1 [.int .u8 c.toNat] (Src.ofSlice _ Tryz.underlying58 ⟨wr.heap.size, 0, none⟩ 1 1 [.int .u8 c.toNat] rfl ?c13 ?c23) (by omega) ?c33 ?c43 ?_)
      try case c13 =>
       intro j u hj
       match j, hj with
       | 0, hj => simp at hj; subst hj; simp [Addr.add]
      try case c23 => first | rfl | (intro u hu; simp at hu; (try rcases hu with rfl | rfl) <;> (try subst hu) <;> rfl)
      try case c33 => unfold maxLen; omega
      try case c43 => omega
      intro g off cap w2 hr2 hk2 hg2; obtain ⟨n1, n2⟩ := RowB.next (news := [c]) rfl rfl HO.o (HKW.o.alloc _) (by have := HKW.o.size; simp; omega) (Nat.le_refl _) hr2 hk2 (by simpa using hg2); rw [← HSN.o] at n1; have HN1 := hyd n1; have HN2 := hyd n2; clear n1 n2 hr2 hk2 hg2; go_wp2_with fail; go_roundw
      case rel => exact ⟨k + 1, by omega, by go_num, HN1.o, HN2.o⟩
      case measure => simp [RowKit.intOf]; omega
   ·obtain rfl : k = s.size := by omega
    rw [List.take_of_length_le (by simp)] at HR
    have hle : (s.data.toList.flatMap escL).length ≤ 400000 := by
     have := flatEscL_le s.data.toList; rw [show s.data.toList.length = s.size from by simp] at this
     omega
    have hres : res = (39 :: s.data.toList.flatMap escL) ++ [39] := HN.o; obtain ⟨lk, hlk⟩ : ∃ x, x = 39 :: s.data.toList.flatMap escL := ⟨_, rfl⟩; have hll : lk.length ≤ 500000 := by rw [hlk, List.length_cons]; omega
    have hlp : 0 < lk.length := by rw [hlk, List.length_cons]; omega
    rw [← hlk] at HR hres; have HRES := hyd hres; clear hres hle hlk; obtain ⟨rb, roff, rcap, hbv, hro, hrb⟩ := HR.o.form hlp; have ho : ∀ b, some rb = some b → w1.heap.size ≤ b := fun b hb => by cases hb; exact hrb
    subst hbv; have HRO := hyd hro; have HO := hyd ho; clear hro ho hrb hlp HR
    go_wp2_with (at_builtin; refine wpList_append_row _ rfl _ _ 58 58 rfl 5 i0 (.int .u8 0) 1 1 Tryz.underlying58 HI.o hz0 hz1 hz2 rfl _ _ _ (some rb) rfl (HRO.o.keep (F := []) ((Keep.refl [] _).alloc _) (by simp)) _ rfl 1 [.int .u8 39] (Src.ofSlice _ Tryz.underlying58 ⟨wr.heap.size, 0, none⟩ 1 1 [.int .u8 39] rfl ?c19 ?c29) (by omega) ?c39 ?c49 ?_)
    try case c19 =>
     intro j u hj
     match j, hj with
     | 0, hj => simp at hj; subst hj; simp [Addr.add]
    try case c29 => first | rfl | (intro u hu; simp at hu; subst hu; rfl)
    try case c39 => unfold maxLen; omega
    try case c49 => omega
    intro g off cap w2 hr2 hk2 hg2; obtain ⟨n1, n2⟩ := RowB.next (news := [39]) rfl rfl HO.o (HKW.o.alloc _) (by have := HKW.o.size; simp; omega) (Nat.le_refl _) hr2 hk2 (by simpa using hg2); have hcv := n1.text (by simp) Tryz.underlying58 Tryz.underlying5 9 Tryz.underlying9; rw [← HRES.o, List.length_singleton] at hcv; have HN2 := hyd n2; clear n1 n2 hr2 hk2 hg2; go_wp2_with fail; go_ret; exact ⟨rfl, HK.o.trans HN2.o (by simp)⟩
theorem sd_small (c : UInt8) (w : World) : Calls Tryz.prog 71 #[.int .u8 c.toNat] w fun e w' => e = .returned (.bool (smallB c)) ∧ w = w' := by
 go_enter Tryz.func71, Tryz.ntmps71
 by_cases h1 : 97 ≤ c.toNat <;> by_cases h2 : c.toNat ≤ 122
 all_goals
  have g1 : (97 ≤ (c.toNat : Int)) = (97 ≤ c.toNat) := propext (by omega); have g2 : ((c.toNat : Int) ≤ 122) = (c.toNat ≤ 122) := propext (by omega); go_wp2_with fail; go_ret; exact ⟨by simp [smallB, h1, h2], rfl⟩
theorem sd_digit (c : UInt8) (w : World) : Calls Tryz.prog 69 #[.int .u8 c.toNat] w fun e w' => e = .returned (.bool (digitB c)) ∧ w = w' := by
 go_enter Tryz.func69, Tryz.ntmps69
 by_cases h1 : 48 ≤ c.toNat <;> by_cases h2 : c.toNat ≤ 57
 all_goals
  have g1 : (48 ≤ (c.toNat : Int)) = (48 ≤ c.toNat) := propext (by omega); have g2 : ((c.toNat : Int) ≤ 57) = (c.toNat ≤ 57) := propext (by omega); go_wp2_with fail; go_ret; exact ⟨by simp [digitB, h1, h2], rfl⟩
theorem sd_great (c : UInt8) (w : World) : Calls Tryz.prog 72 #[.int .u8 c.toNat] w fun e w' => e = .returned (.bool (greatB c)) ∧ w = w' := by
 go_enter Tryz.func72, Tryz.ntmps72
 by_cases h1 : 65 ≤ c.toNat <;> by_cases h2 : c.toNat ≤ 90 <;> by_cases h3 : c.toNat = 95
 all_goals
  have g1 : (65 ≤ (c.toNat : Int)) = (65 ≤ c.toNat) := propext (by omega); have g2 : ((c.toNat : Int) ≤ 90) = (c.toNat ≤ 90) := propext (by omega); have g3 : ((c.toNat : Int) = 95) = (c.toNat = 95) := propext (by omega); have g4 : ((c.toNat : Int) == 95) = decide (c.toNat = 95) := by rw [Bool.eq_iff_iff]; simp; omega
  go_wp2_with fail; go_ret; exact ⟨by simp [greatB, h1, h2, h3], rfl⟩
theorem sd_more (c : UInt8) (w : World) : Calls Tryz.prog 73 #[.int .u8 c.toNat] w fun e w' => e = .returned (.bool (smallB c || digitB c || greatB c || decide (c.toNat = 64))) ∧ w = w' := by
 have HS := hyd (sd_small c); have HD := hyd (sd_digit c); have HG := hyd (sd_great c); have g4 : ((c.toNat : Int) == 64) = decide (c.toNat = 64) := by rw [Bool.eq_iff_iff]; simp; omega
 go_enter Tryz.func73, Tryz.ntmps73
 cases hs : smallB c <;> cases hd : digitB c <;> cases hg : greatB c
 all_goals
  rw [hs] at HS; rw [hd] at HD; rw [hg] at HG; clear hs hd hg; go_wp2_with fail; refine (HS.o w).mono ?_; rintro e w' ⟨rfl, rfl⟩; go_wp2_with fail
  try (refine (HD.o _).mono ?_; rintro e w' ⟨rfl, rfl⟩; go_wp2_with fail)
  try (refine (HG.o _).mono ?_; rintro e w' ⟨rfl, rfl⟩; go_wp2_with fail)
  go_ret; exact ⟨by simp, rfl⟩
theorem sd_hex (c : UInt8) (w : World) : Calls Tryz.prog 100 #[.int .u8 c.toNat] w fun e w' => (∃ h : Int, e = .returned (.int .i64 h) ∧ -1 ≤ h ∧ h ≤ 15) ∧ w = w' := by
 have HD := hyd (sd_digit c); go_enter Tryz.func100, Tryz.ntmps100; have hc := c.toNat_lt
 cases hd : digitB c with
 | true =>
  rw [hd] at HD; have h1 : 48 ≤ c.toNat ∧ c.toNat ≤ 57 := by simpa [digitB] using hd
  clear hd; go_wp2_with fail; refine (HD.o w).mono ?_; rintro e w' ⟨rfl, rfl⟩; go_wp2_with fail; go_ret; exact ⟨⟨_, rfl, by omega, by omega⟩, rfl⟩
 | false =>
  rw [hd] at HD; clear hd
  by_cases h1 : 97 ≤ c.toNat <;> by_cases h2 : c.toNat ≤ 102
  all_goals
   have g1 : (97 ≤ (c.toNat : Int)) = (97 ≤ c.toNat) := propext (by omega); have g2 : ((c.toNat : Int) ≤ 102) = (c.toNat ≤ 102) := propext (by omega); go_wp2_with fail; refine (HD.o w).mono ?_; rintro e w' ⟨rfl, rfl⟩; go_wp2_with fail; go_ret; exact ⟨⟨_, rfl, by omega, by omega⟩, rfl⟩
theorem sd_number (s : ByteArray) (hs : s.size ≤ 100000) (w : World) : Calls Tryz.prog 70 #[.string s] w fun e w' => (e = .returned (.tuple #[.int .i64 0, .bool false]) ∨ ∃ n : Nat, e = .returned (.tuple #[.int .i64 n, .bool true]) ∧ n ≤ 576460752303423487) ∧ w = w' := by
 go_enter Tryz.func70, Tryz.ntmps70; go_wp2_with fail
 go_loop [4, 5] (fun n i => ∃ (m k : Nat), k ≤ s.size ∧ i = .int .i64 k ∧ n = .int .i64 m ∧ m ≤ 576460752303423487) (fun _ i => s.size - (RowKit.intOf i).toNat)
 case atStart => exact ⟨0, 0, Nat.zero_le _, rfl, rfl, by decide⟩
 case round =>
  obtain ⟨m, k, hk, rfl, rfl, hm⟩ := hrel
  by_cases hlt : k < s.size
  ·have q0 : (0 : Int) ≤ (k : Int) := by omega
   have q1 : (k : Int) < (s.size : Int) := by omega
   go_wp2_with fail
   case roundEnd =>
    have hr : 0 ≤ ((s[k].toNat : Int) - 48) % 256 := Int.emod_nonneg _ (by decide); refine ⟨⟨(10 * (m : Int) + ((s[k].toNat : Int) - 48) % 256).toNat, k + 1, by omega, by simp, ?_, by omega⟩, by simp [intOf]; omega⟩; rw [Int.toNat_of_nonneg (by omega)]
   all_goals
    go_ret2; exact ⟨.inl rfl, rfl⟩
  ·obtain rfl : k = s.size := by omega
   have q1 : ¬ (s.size : Int) < (s.size : Int) := by omega
   go_wp2_with fail; go_ret2; exact ⟨.inr ⟨m, rfl, hm⟩, rfl⟩
theorem ext2 {s : ByteArray} {a b : UInt8} (h2 : 2 ≤ s.size) (h : (s.extract 0 2).toList = [a, b]) : s[0] = a ∧ s[1] = b := by
 rw [Go.ByteArray.toList_eq] at h; have h1 : s.data.toList.take 2 = [a, b] := by simpa [ByteArray.data_extract] using h
 have hs : s.data.toList.length = s.size := by simp
 have e0 := congrArg (·[0]?) h1; have e1 := congrArg (·[1]?) h1; simp only [List.getElem?_take, Nat.lt_add_one, Nat.zero_lt_succ, if_true, List.getElem?_cons_zero, List.getElem?_cons_succ] at e0 e1; rw [List.getElem?_eq_getElem (by omega)] at e0 e1; exact ⟨Option.some.inj e0, Option.some.inj e1⟩
def signS : ByteArray := ⟨#[40, 41, 91, 93, 123, 125, 44, 59, 46, 124, 33, 43, 45, 42, 60, 62, 61]⟩
theorem signS_at (k : Nat) (h : k < 17) : signsL.contains (signS[k]'h) = true := by
 have : ∀ k : Fin 17, signsL.contains (signS[k.val]'k.2) = true := by decide
 exact this ⟨k, h⟩
theorem sd_sign (s : ByteArray) (h0 : 0 < s.size) (hs : s.size ≤ 100000) (w : World) : Calls Tryz.prog 76 #[.string s] w fun e w' => (e = .returned (.int .i64 0) ∨ (e = .returned (.int .i64 1) ∧ signsL.contains s[0] = true) ∨ ∃ h : 1 < s.size, e = .returned (.int .i64 2) ∧ sign2 s[0] s[1] = true) ∧ Keep [] w w' := by
 have HS1 := hyd signS_at; go_enter Tryz.func76, Tryz.ntmps76
 by_cases h2 : 2 ≤ s.size
 ·have q2 : (2 : Int) ≤ (s.size : Int) := by omega
  go_wp2_with fail
  any_goals
   go_ret; rename_i hx
   have hs2 : sign2 s[0] s[1] = true := by
    first
    | (obtain ⟨e1, e2⟩ := ext2 h2 hx; rw [e1, e2]; decide)
    | (simp only [beq_iff_eq] at hx; rcases hx with (((hx | hx) | hx) | hx) | hx <;> (obtain ⟨e1, e2⟩ := ext2 h2 hx; rw [e1, e2]; decide))
   exact ⟨.inr (.inr ⟨h2, rfl, hs2⟩), Keep.refl _ _⟩
  go_loopw [5] (fun i wr => ∃ k : Nat, k ≤ 17 ∧ i = .int .i64 k ∧ Keep [] w wr) (fun i _ => 17 - (RowKit.intOf i).toNat)
  case atStart => exact ⟨0, Nat.zero_le _, rfl, Keep.refl _ _⟩
  case round =>
   obtain ⟨k, hk, rfl, hkw⟩ := hrel; have HKW := hyd hkw; clear hkw
   by_cases hlt : k < 17
   ·have q0 : (0 : Int) ≤ (k : Int) := by omega
    have q1 : (k : Int) < 17 := by omega
    have hat := HS1.o k hlt
    by_cases he : s[0] = signS[k]'hlt
    ·have g : ((s[0].toNat : Int) == (((⟨#[40, 41, 91, 93, 123, 125, 44, 59, 46, 124, 33, 43, 45, 42, 60, 62, 61]⟩ : ByteArray)[k]'hlt).toNat : Int)) = true := by rw [he]; exact beq_self_eq_true _
     have HAT := hyd (he ▸ hat : signsL.contains s[0] = true); clear hat he; go_wp2_with fail; go_quiet (fail); go_wp2_with fail; go_ret; exact ⟨.inr (.inl ⟨rfl, HAT.o⟩), HKW.o.drewN _⟩
    ·have g : ((s[0].toNat : Int) == (((⟨#[40, 41, 91, 93, 123, 125, 44, 59, 46, 124, 33, 43, 45, 42, 60, 62, 61]⟩ : ByteArray)[k]'hlt).toNat : Int)) = false := by
      refine beq_eq_false_iff_ne.2 (fun h => he (UInt8.toNat_inj.1 ?_)); exact Int.ofNat.inj h
     clear hat he; go_wp2_with fail; go_quiet (fail); go_wp2_with fail; go_roundw
     case rel => exact ⟨k + 1, by omega, by go_num, HKW.o.drewN _⟩
     case measure => simp [intOf]; omega
   ·obtain rfl : k = 17 := by omega
    go_wp2_with fail; go_ret; exact ⟨.inl rfl, HKW.o⟩
 ·have q2 : ¬ (2 : Int) ≤ (s.size : Int) := by omega
  go_wp2_with fail
  go_loopw [5] (fun i wr => ∃ k : Nat, k ≤ 17 ∧ i = .int .i64 k ∧ Keep [] w wr) (fun i _ => 17 - (RowKit.intOf i).toNat)
  case atStart => exact ⟨0, Nat.zero_le _, rfl, Keep.refl _ _⟩
  case round =>
   obtain ⟨k, hk, rfl, hkw⟩ := hrel; have HKW := hyd hkw; clear hkw
   by_cases hlt : k < 17
   ·have q0 : (0 : Int) ≤ (k : Int) := by omega
    have q1 : (k : Int) < 17 := by omega
    have hat := HS1.o k hlt
    by_cases he : s[0] = signS[k]'hlt
    ·have g : ((s[0].toNat : Int) == (((⟨#[40, 41, 91, 93, 123, 125, 44, 59, 46, 124, 33, 43, 45, 42, 60, 62, 61]⟩ : ByteArray)[k]'hlt).toNat : Int)) = true := by rw [he]; exact beq_self_eq_true _
     have HAT := hyd (he ▸ hat : signsL.contains s[0] = true); clear hat he; go_wp2_with fail; go_quiet (fail); go_wp2_with fail; go_ret; exact ⟨.inr (.inl ⟨rfl, HAT.o⟩), HKW.o.drewN _⟩
    ·have g : ((s[0].toNat : Int) == (((⟨#[40, 41, 91, 93, 123, 125, 44, 59, 46, 124, 33, 43, 45, 42, 60, 62, 61]⟩ : ByteArray)[k]'hlt).toNat : Int)) = false := by
      refine beq_eq_false_iff_ne.2 (fun h => he (UInt8.toNat_inj.1 ?_)); exact Int.ofNat.inj h
     clear hat he; go_wp2_with fail; go_quiet (fail); go_wp2_with fail; go_roundw
     case rel => exact ⟨k + 1, by omega, by go_num, HKW.o.drewN _⟩
     case measure => simp [intOf]; omega
   ·obtain rfl : k = 17 := by omega
    go_wp2_with fail; go_ret; exact ⟨.inl rfl, HKW.o⟩
end Go.Proofs.YtdmmhfbafinkpaaGreatDoor

namespace Go.Emb
open Go.RowKit
theorem run_append_any {P : Program} {w : World} {T tx ty E e' : TypeId} {i : TypeInfo} {z : Value} {k bytes : Nat} (ht : P.underlying T = some (.slice E)) (htx : P.underlying tx = some (.slice e')) (hi : P.info? E = some i) (hz : i.zero = some z) (hik : i.size = k) (hib : i.bytes = bytes)
  (hzs : z.cells.size = k) {v : Value} {n : Nat} {xs : List Value} {r : Option Nat} (h : Row w E k v n xs r) {x : Value} {m : Nat} {news : List Value} {ox : Option Nat} (hx : Rd w k x m news ox) (h1 : ∀ u ∈ news, u.oneCell' = true)
  (h63 : n + m ≤ maxLen) (hbytes : (n + m) * bytes ≤ 140737488355328) :
  ∃ v' o' w', (Builtin.append_ #[T, tx] ty #[v, x]).run P w = .ok v' w' ∧ Row w' E k v' (n + m) (xs ++ news) o' ∧ Keep r.toList w w' ∧ (∀ b, o' = some b → r = some b ∨ w.heap.size ≤ b) := by
 by_cases hm : m = 0
 ·subst hm; have hn : news = [] := List.eq_nil_of_length_eq_zero (by simpa using hx.1); subst hn; refine ⟨v, r, w, ?_, by simpa using h, Keep.refl _ _, fun b hb => .inl hb⟩; obtain ⟨_, a, c, rfl, _⟩ := hx; obtain ⟨_, h⟩ := h; rcases h with ⟨rfl, rfl, rfl⟩ | ⟨b', off', cap', cs, e1, rfl, hb, hc1, hc2, _⟩
  ·cases a with
   | none => simp [Builtin.append_, run_underlying ht, run_underlying htx, sizeOf, typeInfo, hi, Builtin.lenOf, Builtin.firstCells, storeCells]
   | some a => simp [Builtin.append_, run_underlying ht, run_underlying htx, sizeOf, typeInfo, hi, Builtin.lenOf, Builtin.firstCells, loadCells, loadCellsFrom, storeCells]
  ·cases a with
   | none => simp [Builtin.append_, run_underlying ht, run_underlying htx, sizeOf, typeInfo, hi, Builtin.lenOf, Builtin.firstCells, hc1, storeCells]
   | some a => simp [Builtin.append_, run_underlying ht, run_underlying htx, sizeOf, typeInfo, hi, Builtin.lenOf, Builtin.firstCells, loadCells, loadCellsFrom, hc1, storeCells]
 ·obtain ⟨g, off', cap', w', r1, r2, r3, r4⟩ := run_append_row (P := P) (w := w) (ty := ty) ht hi hz hik hib hzs h (hx.src htx (by omega) h1) (by omega) h63 hbytes; exact ⟨_, some g, w', r1, r2, r3, fun b hb => by cases hb; exact r4⟩
section
variable {P : Program} (w : World)
theorem step_append_any {ops : Array Oper} {o : Oper} {a : Act} {K : Act → World → Prop} {Q : Exit → Act → World → Prop} {X : Prop} (hw : Region.wanted o (yielded ops a.tmps) = true) (s x : Operand) (T tx : TypeId) (ho : o.op = .call { callee := .builtin .append, args := #[s, x], argTypes := #[T, tx] })
  (E e' : TypeId) (i : TypeInfo) (z : Value) (k bytes : Nat) (ht : P.underlying T = some (.slice E)) (htx : P.underlying tx = some (.slice e')) (hi : P.info? E = some i) (hz : i.zero = some z) (hik : i.size = k) (hib : i.bytes = bytes) (hzs : z.cells.size = k)
  (v : Value) (n : Nat) (xs : List Value) (r : Option Nat) (hs : a.eval s = v) (hown : Row w E k v n xs r) (xv : Value) (hx : a.eval x = xv) (m : Nat) (news : List Value) (ox : Option Nat) (hrd : Rd w k xv m news ox) (h1 : ∀ u ∈ news, u.oneCell' = true) (h63 : n + m ≤ maxLen) (hbytes : (n + m) * bytes ≤ 140737488355328)
  (h : ∀ v' o' w', Row w' E k v' (n + m) (xs ++ news) o' → Keep r.toList w w' → (∀ b, o' = some b → r = some b ∨ w.heap.size ≤ b) → K (a.put o.dst v') w') :
  if Region.wanted o (yielded ops a.tmps) = true then Oper.wp P o a w K Q else X := by
 rw [if_pos hw]; obtain ⟨v', o', w', hr, h2, h3, h4⟩ := run_append_any (P := P) (w := w) (ty := o.type) ht htx hi hz hik hib hzs hown hrd h1 h63 hbytes; unfold Oper.wp execOp; simp only [ho, resolve, invoke, builtin, Sem.run_bind, Sem.run_pure, Result.andThen_ok, List.map_toArray, List.map_cons, List.map_nil, hs, hx, hr]; exact h v' o' w' h2 h3 h4
end
end Go.Emb
