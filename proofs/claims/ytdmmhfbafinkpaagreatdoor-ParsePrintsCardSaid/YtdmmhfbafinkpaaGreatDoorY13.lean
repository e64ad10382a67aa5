/- ParsePrints: a part of the proof (Qp, Qq, Pb4, Pb5, Pb6, Pb7, Pb8, PbZ, BaseApp2, Pb9), squeezed by squeeze.py. -/
import Derived.Test.YtdmmhfbafinkpaaGreatDoorY09
import Derived.Test.YtdmmhfbafinkpaaGreatDoorY10
import Derived.Test.YtdmmhfbafinkpaaGreatDoorY12
import Derived.Test.YtdmmhfbafinkpaaGreatDoorY01
set_option maxRecDepth 100000
set_option maxHeartbeats 8000000
namespace Go.Proofs.YtdmmhfbafinkpaaGreatDoor
open Go.RowKit Go.Emb
theorem AllD.mono {lo pb : Nat} {l : List TkD} {m n : Nat} (h : AllD lo pb l m) (hn : n ≤ m) : AllD lo pb l n where
 expr := fun a b => h.expr a (Nat.lt_of_lt_of_le b hn)
 or_ := fun a b => h.or_ a (Nat.lt_of_lt_of_le b hn)
 and_ := fun a b => h.and_ a (Nat.lt_of_lt_of_le b hn)
 rel := fun a b => h.rel a (Nat.lt_of_lt_of_le b hn)
 sum := fun a b => h.sum a (Nat.lt_of_lt_of_le b hn)
 prod := fun a b => h.prod a (Nat.lt_of_lt_of_le b hn)
 sign := fun a b => h.sign a (Nat.lt_of_lt_of_le b hn)
 call := fun a b => h.call a (Nat.lt_of_lt_of_le b hn)
 prim := fun a b => h.prim a (Nat.lt_of_lt_of_le b hn)
 list := fun a b => h.list a (Nat.lt_of_lt_of_le b hn)
 maybe := fun x a b => h.maybe x a (Nat.lt_of_lt_of_le b hn)
 tail := fun a b => h.tail a (Nat.lt_of_lt_of_le b hn)
 head := fun a b => h.head a (Nat.lt_of_lt_of_le b hn)
 arms := fun a b => h.arms a (Nat.lt_of_lt_of_le b hn)
 rest := fun a b => h.rest a (Nat.lt_of_lt_of_le b hn)
theorem allD {lo pb : Nat} {l : List TkD} (hl : ∀ t ∈ l, TokD t) (hll : l.length ≤ 16384) : ∀ m, AllD lo pb l m
 | 0 => ⟨fun _ h => absurd h (Nat.not_lt_zero _), fun _ h => absurd h (Nat.not_lt_zero _), fun _ h => absurd h (Nat.not_lt_zero _), fun _ h => absurd h (Nat.not_lt_zero _), fun _ h => absurd h (Nat.not_lt_zero _), fun _ h => absurd h (Nat.not_lt_zero _), fun _ h => absurd h (Nat.not_lt_zero _), fun _ h => absurd h (Nat.not_lt_zero _), fun _ h => absurd h (Nat.not_lt_zero _), fun _ h => absurd h (Nat.not_lt_zero _), fun _ _ h => absurd h (Nat.not_lt_zero _), fun _ h => absurd h (Nat.not_lt_zero _), fun _ h => absurd h (Nat.not_lt_zero _), fun _ h => absurd h (Nat.not_lt_zero _), fun _ h => absurd h (Nat.not_lt_zero _)⟩
 | m + 1 => by
  have ih := allD (lo := lo) (pb := pb) hl hll m
  exact {
    expr := fun a b => x_expr hl (ih.mono (by omega)) a
    or_ := fun a b => x_or_ hl (ih.mono (by omega)) a
    and_ := fun a b => x_and_ hl (ih.mono (by omega)) a
    rel := fun a b => x_rel hl (ih.mono (by omega)) a
    sum := fun a b => x_sum hl (ih.mono (by omega)) a
    prod := fun a b => x_prod hl (ih.mono (by omega)) a
    sign := fun a b => x_sign hl (ih.mono (by omega)) a
    call := fun a b => x_call hll (ih.mono (by omega)) a
    prim := fun a b => x_prim hl hll (ih.mono (by omega)) a
    list := fun a b => x_list hl hll (ih.mono (by omega)) a
    maybe := fun x a b => x_maybe x (ih.mono (by omega)) a
    tail := fun a b => x_tail (ih.mono (by omega)) a
    head := fun a b => x_head (ih.mono (by omega)) a
    arms := fun a b => x_arms hll (ih.mono (by omega)) a
    rest := fun a b => x_rest (ih.mono (by omega)) a }
def ClauseD (lo : Nat) (w : World) (pb : Nat) (l : List TkD) (r : Nat) (e : Int) (e1 : Ending) (w' : World) : Prop :=
 ∃ pv gv bv p g b r' e' nm at_, e1 = .returned (.agg #[pv, gv, bv, .string ⟨nm.toArray⟩, .int .i64 at_]) ∧ NsR (Frs w.heap.size w') w' false pv p ∧ NsR (Frs w.heap.size w') w' false gv g ∧ NsR (Frs w.heap.size w') w' false bv b ∧ DP lo w' pb l r' e' ∧ Got l r r' e e' (OkJ 3 (.mk 0 0 nm p g b)) ∧ Keep [pb] w w'
theorem NsR.frsB {B : Nat} {X : List Nat} {w0 w : World} {k : Bool} {v : Value} {l : List Nd} (hB : B = w0.heap.size) (h : NsR (FrB B X w) w k v l) : NsR (Frs w0.heap.size w) w k v l := by subst hB; exact h.frs
theorem kindD_iff {l : List TkD} {r : Nat} {e k : Int} (h : kindD l r e k = true) : e = 0 ∧ ∃ hr : r < l.length, l[r].k = k := by
 unfold kindD at h; simp only [Bool.and_eq_true, decide_eq_true_eq] at h; obtain ⟨h1, h2⟩ := h; refine ⟨h1, ?_⟩
 by_cases hr : r < l.length
 ·rw [List.getElem?_eq_getElem hr] at h2; simp at h2; exact ⟨hr, h2⟩
 ·rw [List.getElem?_eq_none (by omega)] at h2; cases h2
theorem ok_fhead {l : List TkD} {r r' : Nat} {e' : Int} {nm : List UInt8} {p g b : List Nd} (hr : r < l.length) (hn : TokOk ⟨2, 0, nm, 0⟩) (h : Got l (r + 1) r' 0 e' (OkH p g b)) : Got l r r' 0 e' (OkJ 3 (.mk 0 0 nm p g b)) := by
 refine ⟨by have := h.1; omega, h.2.1, fun he => ?_⟩; obtain ⟨c, ⟨hb0, ps, gs, bs, hp, hg, hb, hll⟩, hl⟩ := h.2.2 he; exact ⟨c + 1, ⟨_, .fhead hn hp.1 hp.2 hg.1 hg.2 hb0 hb.1 hb.2, by simp only [List.length_cons, List.cons_append] at hll ⊢; omega⟩, by omega⟩
theorem x_clause {lo pb : Nat} {l : List TkD} (hl : ∀ t ∈ l, TokD t) (hll : l.length ≤ 16384) {w : World} {r : Nat} {e : Int} (h : InD lo w pb l r e 0) :
  Calls Tryz.prog 17 #[.pointer (some ⟨pb, 0, none⟩)] w (ClauseD lo w pb l r e) := by
 have HL := hyd hl; have H := hyd h; have HPL := hyd (And.intro h.dp.plo h.lw); have hrl := h.dp.rl; have hwr : IntKind.i64.wrap ((r : Int) + 1) = (r : Int) + 1 := IntWalk.i64_in _ (by omega); have IH := hyd (allD (lo := lo) (pb := pb) hl hll (32 * (l.length + 1) + 100)); have hk1 := (Keep.refl [] w).alloc zC; have HK1 := hyd (hk1.mono (G := [pb]) (by simp)); have HB1 := hyd (heap_alloc_new w zC); have HD1 := hyd (h.dp.keep0 hk1); obtain ⟨B, hB⟩ : ∃ B, B = w.heap.size := ⟨_, rfl⟩; have HBP := hyd (show B ≠ pb by have := h.dp.plo; have := h.lw; omega); have HBB := hyd hB; have HS1 := hyd (show B < (w.alloc zC).heap.size by rw [size_alloc]; omega); rw [← hB] at HB1; clear hl h hk1 hB; go_enter Tryz.func17, Tryz.ntmps17; go_wp2_with fail; rw [← HBB.o]; generalize w.alloc zC = w1 at *; refine (d_place HD1.o).mono ?_; rintro e1 w2 ⟨⟨z, rfl⟩, hk2⟩; have hk2' := hk2.mono (G := [pb]) (by simp); obtain ⟨C, hC⟩ : ∃ C, C = w2.heap.size := ⟨_, rfl⟩; have hk3 := (Keep.refl [] w2).alloc (.cells #[.slice none 0 0, .slice none 0 0, .slice none 0 0, .string ⟨#[]⟩, .int .i64 z] 52); have hc3 := heap_alloc_new w2 (.cells #[.slice none 0 0, .slice none 0 0, .slice none 0 0, .string ⟨#[]⟩, .int .i64 z] 52); rw [← hC] at hc3; have HC3 := hyd hc3; have HB3 := hyd (blkK (blkK HB1.o hk2 (by simp)) hk3 (by simp)); have HK3 := hyd ((HK1.o.trans hk2' (by simp)).trans (hk3.mono (G := [pb]) (by simp)) (by simp)); have HD3 := hyd ((HD1.o.keep0 hk2).keep0 hk3); have HBC := hyd (show B < C by have := HS1.o; have := hk2.size; omega); have HCS := hyd (show C < (w2.alloc (.cells #[.slice none 0 0, .slice none 0 0, .slice none 0 0, .string ⟨#[]⟩, .int .i64 z] 52)).heap.size by rw [size_alloc]; omega); have HCP := hyd (show C ≠ pb by have h1 := HPL.o; have h2 := HBB.o; have := HS1.o; have := hk2.size; omega); clear hk2 hk2' hk3 hc3 HB1 HK1 HD1 HS1; go_wp2_with fail; rw [← hC]; clear hC; generalize w2.alloc (.cells #[.slice none 0 0, .slice none 0 0, .slice none 0 0, .string ⟨#[]⟩, .int .i64 z] 52) = w3 at *; have HKD := hyd (d_kind HD3.o 2)
 by_cases hkd : kindD l r e 2 = true
 ·rw [hkd] at HKD; obtain ⟨rfl, hr, hk⟩ := kindD_iff hkd; clear hkd; refine HKD.o.mono ?_; rintro e1 w4 ⟨rfl, hk4⟩; have HC4 := hyd (blkK HC3.o hk4 (by simp)); have HB4 := hyd (blkK HB3.o hk4 (by simp)); have HK4 := hyd (HK3.o.trans (hk4.mono (G := [pb]) (by simp)) (by simp)); have HD4 := hyd (HD3.o.keep0 hk4); have HCS4 := hyd (Nat.lt_of_lt_of_le HCS.o hk4.size); clear hk4 HC3 HB3 HK3 HD3 HCS HKD; obtain ⟨v, o, en, at0, hpb, hrd, -⟩ := HD4.o.blk; obtain ⟨s0, s1, s2, s3, s4⟩ := cells5d hpb; have hlm := rdd_len hrd; obtain ⟨b, off, c, rfl, -, c0, c1, c2, c3, c4⟩ := tokd_at hrd hr; have q2 : (r : Int) < (l.length : Int) := by omega
  have q0 : (0 : Int) ≤ (r : Int) := by omega
  have htd := HL.o l[r] (List.getElem_mem _); obtain ⟨tk, htk⟩ : ∃ t, t = l[r] := ⟨_, rfl⟩; rw [← htk] at c0 c1 c2 c3 c4 htd hk; obtain ⟨k, tn, tx, at2, en2⟩ := tk; simp only at c0 c1 c2 c3 c4 hk; subst hk; have htok := htd.1 (by show (2 : Int) ≤ 3; decide)
  have htn : tn = 0 := by
   rcases htok with ⟨h, -⟩ | ⟨h, -⟩
   ·simp at h
   ·exact h
  subst htn; have HTOK := hyd htok; have HR := hyd hr; clear hpb hrd htd htk htok; go_wp2_with fail; generalize hwq : w4 = wq at *; clear hwq; have HCq := HC4; refine wp_regionB [7] (fun w' => Keep [] wq w') (by kernel_rfl) ?_; refine tkY 0 ?vC0 rfl ?runC0 ?_
  case runC0 => (intro w9 _; go_simp; try exact rfl)
  try simp only [Act.put, lA, lZ, lS]
  refine tkY 1 ?vC1 rfl ?runC1 ?_
  case runC1 => (intro w9 _; go_simp; try exact rfl)
  try simp only [Act.put, lA, lZ, lS]
  refine tkY 2 ?vC2 rfl ?runC2 ?_
  case runC2 => (intro w9 _; go_simp; try exact rfl)
  try simp only [Act.put, lA, lZ, lS]
  refine tkY 4 ?vC4 rfl ?runC4 ?_
  case runC4 => (intro w9 _; go_simp; try exact rfl)
  try simp only [Act.put, lA, lZ, lS]
  refine tkY 5 ?vC5 rfl ?runC5 ?_
  case runC5 => (intro w9 _; go_simp; try exact rfl)
  try simp only [Act.put, lA, lZ, lS]
  refine tkY 6 ?vC6 rfl ?runC6 ?_
  case runC6 => (intro w9 _; go_simp; try exact rfl)
  try simp only [Act.put, lA, lZ, lS]
  refine tkB [7] 3 ?vC3 rfl ?runC3 ((Keep.refl [] wq).drew) ?_
  case runC3 => (intro w9 hS9; obtain ⟨x0, x1, y0, y2⟩ := ck4 hS9 ⟨s0, s1, c0, c2⟩; go_simp; try exact rfl)
  try simp only [Act.put, lA, lZ, lS]
  refine tkB [] 7 ?vC7 rfl ?runC7 ((Keep.refl [] wq).drew) ?_
  case runC7 => (intro w9 hS9; obtain ⟨x0, x1, y0, y2⟩ := ck4 hS9 ⟨s0, s1, c0, c2⟩; go_simp; try exact rfl)
  try simp only [Act.put, lA, lZ, lS]
  refine tkB [] 8 ?vC8 rfl ?runC8 ((Keep.refl [] wq).drew) ?_
  case runC8 => (intro w9 hS9; obtain ⟨x0, x1, y0, y2⟩ := ck4 hS9 ⟨s0, s1, c0, c2⟩; go_simp; try exact rfl)
  try simp only [Act.put, lA, lZ, lS]
  refine tkB [] 9 ?vC9 rfl ?runC9 ((Keep.refl [] wq).drew) ?_
  case runC9 => (intro w9 hS9; obtain ⟨x0, x1, y0, y2⟩ := ck4 hS9 ⟨s0, s1, c0, c2⟩; go_simp; try exact rfl)
  try simp only [Act.put, lA, lZ, lS]
  refine tkB [] 10 ?vC10 rfl ?runC10 ((Keep.refl [] wq).drew) ?_
  case runC10 => (intro w9 hS9; obtain ⟨x0, x1, y0, y2⟩ := ck4 hS9 ⟨s0, s1, c0, c2⟩; go_simp; try exact rfl)
  try simp only [Act.put, lA, lZ, lS]
  refine tkY 11 ?vC11 rfl ?runC11 ?_
  case runC11 => (intro w9 _; go_simp; try exact rfl)
  try simp only [Act.put, lA, lZ, lS]
  obtain ⟨q0, q1, q2, q3, q4⟩ := cells5 HCq.o; have fq := frozenP HCq.o; refine rdB 12 rfl (fun K hK => ?_); go_simp; refine hK.out _ _ (fun h => (nomatch h)) ?_; clear hK K
  try simp only [Act.put, lA, lZ, lS]
  refine wpAnyB_done (by kernel_rfl) ?_ _; clear q0 q1 q2 q3 q4 fq; obtain ⟨hst, hks0⟩ := set5a (i := 3) HCq.o (.string ⟨tx.toArray⟩); have hks : Keep [C] wq (wq.setCell ⟨C, 3, none⟩ (.string ⟨tx.toArray⟩)).drew := hks0.drew; have hc5 : (wq.setCell ⟨C, 3, none⟩ (.string ⟨tx.toArray⟩)).drew.heap[C]? = some (.cells #[.slice none 0 0, .slice none 0 0, .slice none 0 0, .string ⟨tx.toArray⟩, .int .i64 z] 52 (0, 0)) := (show (wq.setCell ⟨C, 3, none⟩ (.string ⟨tx.toArray⟩)).heap[C]? = _ by simpa using hst); clear hst hks0; generalize (wq.setCell ⟨C, 3, none⟩ (.string ⟨tx.toArray⟩)).drew = w5 at hks hc5 ⊢; have HB5 := hyd (blkK HB4.o hks (by simp; have := HBC.o; omega)); have HK5 := hyd (keepB (pb := pb) (lo := w.heap.size) ((HK4.o.mono (G := [pb, C]) (by simp)).trans (hks.mono (G := [pb, C]) (by simp)) (by simp)) (by simp; have := HBC.o; have := HBB.o; omega) (Nat.le_refl _)); have hd5 := HD4.o.keep hks (by simp; have := HBC.o; have := HBB.o; have := HPL.o; omega); have HD5 := hyd hd5; have HCS5 := hyd (Nat.lt_of_lt_of_le HCS4.o hks.size); have HC5 := hyd hc5; obtain ⟨v', o', en', at', hb5, -⟩ := hd5.blk; clear s0 s1 s2 s3 s4 c0 c1 c2 c3 c4 hc5 hks hd5; obtain ⟨p0, p1, p2, p3, p4⟩ := cells5d hb5; have fp := HD5.o.frz; clear hb5; have HKS := hyd (Keep.set1 w5 ⟨pb, 1, none⟩ (.int .i64 ((r : Int) + 1))); have HD6 := hyd (HD5.o.step HR.o); have HC6 := hyd (blkK HC5.o HKS.o (fun hm => HCP.o (by simpa using hm))); have HB6 := hyd (blkK HB5.o HKS.o (fun hm => HBP.o (by simpa using hm))); have HK6 := hyd (HK5.o.trans (HKS.o.mono (G := [pb]) (by simp)) (by simp)); have HCS6 := hyd (Nat.lt_of_lt_of_le HCS5.o HKS.o.size); go_upto_region 7 with fail; clear p0 p1 p2 p3 p4 fp; generalize w5.setCell ⟨pb, 1, none⟩ (.int .i64 ((r : Int) + 1)) = w6 at *; obtain ⟨c0, c1, c2, c3, c4⟩ := cells5 HC6.o; have hcall := IH.o.head (w := w6) (r := r + 1) (e := 0) (d := 0) (nm := tx) (at_ := z) ⟨HD6.o, Nat.le_trans HPL.o.2 HK6.o.size, by have := HD6.o.rl; have := hll; omega⟩ (by have := mu_le l (r + 1) 0; omega); have HCALL := hyd hcall; clear hcall; go_wp2_with fail; refine HCALL.o.mono ?_; rintro e1 w7 ⟨pv, gv, bv, p, g, b2, r7, e7, rfl, hp, hg, hb, hdp7, hgot7, hk7⟩; obtain ⟨pa, pc, rfl⟩ := hp.form; obtain ⟨ga, gc, rfl⟩ := hg.form; obtain ⟨ba, bc, rfl⟩ := hb.form; have hb7 := blkK HB6.o hk7 (by simpa using HBP.o); have hX : ∀ x ∈ [B], x < w6.heap.size := by simp; have h1 := HBC.o; have h2 := HCS6.o; omega
  have hlo6 : B ≤ w6.heap.size := by have h1 := HBC.o; have h2 := HCS6.o; omega
  have hp7 := hp.box (lo := B) (X := [B]) hlo6 hX; have hg7 := hg.box (lo := B) (X := [B]) hlo6 hX; have hb7' := hb.box (lo := B) (X := [B]) hlo6 hX; obtain ⟨q0, q1, q2, q3, q4⟩ := cells5 hb7; have g7 := frozenP hb7; obtain ⟨hb9, hk9⟩ := set5all hb7 (.slice pa p.length pc) (.slice ga g.length gc) (.slice ba b2.length bc) (.string ⟨tx.toArray⟩) (.int .i64 z); have HB9 := hyd hb9; have HN9 := hyd (And.intro (hp7.keepQ hk9 (by simp)) (And.intro (hg7.keepQ hk9 (by simp)) (hb7'.keepQ hk9 (by simp)))); have HD9 := hyd (hdp7.keep hk9 (by simp; have := HBB.o; have := HPL.o; omega)); have HK9 := hyd (keepB (pb := pb) (lo := w.heap.size) (((HK6.o.trans hk7 (by simp)).mono (G := [pb, B]) (by simp)).trans (hk9.mono (G := [pb, B]) (by simp)) (by simp)) (by simp; have := HBB.o; omega) (Nat.le_refl _)); have HG7 := hyd hgot7; clear hp hg hb hdp7 hgot7 hk7 hb7 hX hlo6 hp7 hg7 hb7' hb9 hk9 c0 c1 c2 c3 c4; go_wp2_with fail; refine bodyPost_ret (results_cell_row (ty := 52) rfl _ _ B _ _ _ _ rfl HB9.o Tryz.underlying52 rfl clause_size) rfl ?_; have hBB := HBB.o; exact ⟨_, _, _, p, g, b2, r7, e7, tx, z, rfl, NsR.frsB hBB HN9.o.1, NsR.frsB hBB HN9.o.2.1, NsR.frsB hBB HN9.o.2.2, HD9.o, ok_fhead HR.o HTOK.o HG7.o, HK9.o⟩
 ·simp only [Bool.not_eq_true] at hkd; rw [hkd] at HKD; refine HKD.o.mono ?_; rintro e1 w4 ⟨rfl, hk4⟩; have HC4 := hyd (blkK HC3.o hk4 (by simp)); have HB4 := hyd (blkK HB3.o hk4 (by simp)); have HK4 := hyd (HK3.o.trans (hk4.mono (G := [pb]) (by simp)) (by simp)); have HD4 := hyd (HD3.o.keep0 hk4); clear hk4 HC3 HB3 HK3 HD3 HCS HKD; go_wp2_with fail; refine (d_fail HD4.o (x := 110) (by decide)).mono ?_; rintro e1 w5 ⟨rfl, ⟨e5, he5, hdp5⟩, hk5⟩; have hc5 := blkK HC4.o hk5 (by simpa using HCP.o); have hb5 := blkK HB4.o hk5 (by simpa using HBP.o); have HK5 := hyd (HK4.o.trans hk5 (by simp)); have HD5 := hyd hdp5; have HE5 := hyd he5; obtain ⟨c0, c1, c2, c3, c4⟩ := cells5 hc5; obtain ⟨q0, q1, q2, q3, q4⟩ := cells5 hb5; have g5 := frozenP hb5; obtain ⟨hb9, hk9⟩ := set5all hb5 (.slice none 0 0) (.slice none 0 0) (.slice none 0 0) (.string ⟨#[]⟩) (.int .i64 z); have HB9 := hyd hb9; have HD9 := hyd (HD5.o.keep hk9 (by simp; have := HBB.o; have := HPL.o; omega)); have HK9 := hyd (keepB (pb := pb) (lo := w.heap.size) ((HK5.o.mono (G := [pb, B]) (by simp)).trans (hk9.mono (G := [pb, B]) (by simp)) (by simp)) (by simp; have := HBB.o; omega) (Nat.le_refl _)); clear hk5 hdp5 he5 hc5 hb5 hb9 hk9; go_wp2_with fail; refine bodyPost_ret (results_cell_row (ty := 52) rfl _ _ B _ _ _ _ rfl HB9.o Tryz.underlying52 rfl clause_size) rfl ?_; exact ⟨_, _, _, [], [], [], r, e5, [], z, rfl, NsR.nil _ _ _, NsR.nil _ _ _, NsR.nil _ _ _, HD9.o, Got.err (Nat.le_refl _) HE5.o, HK9.o⟩
theorem nameL_ne (l : List UInt8) : nameL l ≠ [] := by
 unfold nameL
 by_cases h : bareL l = true
 ·rw [if_pos h]; rintro rfl; simp [bareL] at h
 ·rw [if_neg h]; simp [quoteL]
theorem p_printA {w : World} {B : Nat} (s : ByteArray) (ht : TabOk B w) (hs : s.size ≤ 100000) :
  Calls Tryz.prog 29 #[.agg #[.int .i64 2, .int .i64 0, .string s, .slice none 0 0]] w fun e w' => e = .returned (.string ⟨(nameL s.data.toList).toArray⟩) ∧ Keep [] w w' := by
 have hcall := fun ob => p_writeA (w := (w.alloc ob).alloc (.cells #[.pointer none, .slice none 0 0] 60)) (B := B) (b := w.heap.size + 1) (bs := []) (F := [w.heap.size + 1]) (by have := isB_new (w.alloc ob); simpa using this) s (ht.keep0 (((Keep.refl [] w).alloc ob).alloc _)) hs (by simp)
 have HC := hyd hcall; clear hcall; go_enter Tryz.func29, Tryz.ntmps29; go_wp2_with fail; refine (HC.o _).mono ?_; rintro e w2 ⟨rfl, F', hb2, hf2, hk2⟩; have hcall2 := b_text hb2 (by simpa using nameL_ne s.data.toList); have HC2 := hyd hcall2; have hkk : Keep [] w w2 := (((Keep.refl [] w).alloc _).alloc _).trans hk2 (by simp); have HK := hyd hkk; have HF := hyd hf2; clear hcall2 hb2 hkk hk2 hf2; go_wp2_with fail; refine HC2.o.mono ?_; rintro e w3 ⟨rfl, hk3⟩; go_wp2_with fail; go_ret; refine ⟨rfl, HK.o.trans hk3 (fun x hx => ?_)⟩
 right
 rcases HF.o x hx with h | h
 ·simp at h; omega
 ·simp at h; omega
theorem p_heads {w : World} {B : Nat} {S : Nat → Prop} {v : Value} {l : List Nd} {ls : List (List It)} (ht : TabOk B w) (h : NsR S w true v l) (hl : ls.length = l.length) (hx : ∀ i (h : i < l.length) (h' : i < ls.length), ∃ nm ps gs bs, ClT B l[i] nm ps gs bs ∧ nm.length ≤ 255 ∧ ls[i] = (if nm = [] then [] else [.t 2 0 nm]) ++ sg 40 :: sepI comma ps ++ sg 41 :: tailI gs bs)
  (hsz : ∀ i (h : i < ls.length), (flat ls[i]).length ≤ 140737488354000) (hlen : (flat (sepI semiB ls)).length ≤ 140737488355328) (hN : l.length ≤ 1000000) : Calls Tryz.prog 23 #[v] w (StrE w (flat (sepI semiB ls))) := by
 rw [flat_sep] at hlen ⊢; obtain ⟨va, vc, rfl⟩ := h.form; obtain ⟨i0, hi, hz0, hz1, hz2⟩ := info_parts strs_info; have HI := hyd hi; have HT := hyd ht; have HH := hyd h; have HX := hyd (And.intro hl hx); have HSZ := hyd hsz; have HLEN := hyd hlen; clear h ht hi hx hlen hl hsz; go_enter Tryz.func23, Tryz.ntmps23; go_wp2_with fail
 go_loopw [3, 9] (fun v i wr => ∃ k : Nat, k ≤ l.length ∧ i = .int .i64 k ∧ SRow w ((ls.take k).map flat) v wr) (fun _ i _ => l.length - (RowKit.intOf i).toNat)
 case atStart => exact ⟨0, Nat.zero_le _, rfl, SRow.nil w⟩
 case round =>
  obtain ⟨k, hk, rfl, hrow⟩ := hrel; have hkl : ((ls.take k).map flat).length = k := by rw [List.length_map, List.length_take, HX.o.1]; omega
  obtain ⟨ra, rc, hrv⟩ := hrow.form; rw [hkl] at hrv; subst hrv; have HROW := hyd hrow; have HKL := hyd hkl; have hkw : Keep [] w wr := by obtain ⟨o, -, -, h⟩ := hrow; exact h
  have HKW := hyd hkw; clear hrow hkl hkw
  by_cases hlt : k < l.length
  ·have q0 : (0 : Int) ≤ (k : Int) := by omega
   have q1 : (k : Int) < (l.length : Int) := by omega
   obtain ⟨ab, aoff, csa, rfl, -, hnd, hcell⟩ := (HH.o.keep HKW.o (by simp)).atk hlt; obtain ⟨nm, ps, gs, bs, ⟨p, g, b, ec, hp, hg, hb⟩, hnm, hex⟩ := HX.o.2 k hlt (by rw [HX.o.1]; exact hlt); have hszk := HSZ.o k (by rw [HX.o.1]; exact hlt); have hfx : flat (ls[k]'(by rw [HX.o.1]; exact hlt)) = (if nm = [] then [] else nameL nm) ++ [40] ++ flat (sepI comma ps) ++ [41] ++ flat (tailI gs bs) := by rw [hex]; split <;> simp [flat_cons, flat_app, flat_nil, It.text]
   rw [hfx] at hszk; simp only [List.length_append] at hszk; rw [ec] at hnd; obtain ⟨at1, nm', a', g', b', va1, vb1, vc1, rfl, e, h1, h2, h3⟩ := id hnd.un5; injection e with e1 e2 e3 e4 e5 e6; subst e3 e4 e5 e6; obtain ⟨p1, c1, rfl⟩ := h1.form; obtain ⟨p2, c2, rfl⟩ := h2.form; obtain ⟨p3, c3, rfl⟩ := h3.form; have hA0 := hcell 0 (by decide); have hA1 := hcell 1 (by decide); have hA2 := hcell 2 (by decide); have hA3 := hcell 3 (by decide); have hA4 := hcell 4 (by decide); simp only [wid, if_true, Nat.add_zero, List.getElem?_cons_zero, List.getElem?_cons_succ] at hA0 hA1 hA2 hA3 hA4; have hk5 := (Keep.refl [] wr).alloc (.cells #[.slice p1 p.length c1, .slice p2 g.length c2, .slice p3 b.length c3, .string ⟨nm.toArray⟩, .int .i64 at1] 52); have hb5 := heap_alloc_new wr (.cells #[.slice p1 p.length c1, .slice p2 g.length c2, .slice p3 b.length c3, .string ⟨nm.toArray⟩, .int .i64 at1] 52); have HB5 := hyd hb5; have hT := HT.o.keep0 (HKW.o.trans hk5 (by simp)); have HCP := hyd (fun W (k : Keep [] (wr.alloc (.cells #[.slice p1 p.length c1, .slice p2 g.length c2, .slice p3 b.length c3, .string ⟨nm.toArray⟩, .int .i64 at1] 52)) W) => p_texts (w := W) (s := comma) (sep := ⟨#[44]⟩) (hT.keep0 k) ((h1.keep hk5 (by simp)).keep k (by simp)) hp.1 hp.2.2 rfl (by omega) hp.2.1); have HCA := hyd (fun W (k : Keep [] (wr.alloc (.cells #[.slice p1 p.length c1, .slice p2 g.length c2, .slice p3 b.length c3, .string ⟨nm.toArray⟩, .int .i64 at1] 52)) W) => p_arm (w := W) (hT.keep0 k) ((hnd.keep hk5 (by simp)).keep k (by simp)) hg.1 hg.2.2 hb.1 hb.2.2 (by omega) ⟨hg.2.1, hb.2.1⟩); have HR5 := hyd (HROW.o.keep hk5); have HEX := hyd hfx; clear hcell hnd hb5 hk5 h1 h2 h3 hp hg hb ec e1 e2
   by_cases hn0 : nm = []
   ·subst hn0; rw [if_pos rfl] at hfx; have HEX := hyd hfx; have HSZ2 := hyd (show (⟨#[]⟩ : ByteArray).size + (flat (sepI comma ps)).length + (flat (tailI gs bs)).length ≤ 140737488354000 by have : (⟨#[]⟩ : ByteArray).size = 0 := rfl; omega); clear hfx hszk hex; go_wp2_with fail; generalize wr.alloc _ = w5 at *; clear hA0 hA1 hA2 hA3 hA4; refine wp_regionB [4, 5, 6, 7, 9] (fun w' => Keep [] w5 w') (by kernel_rfl) ?_; refine tkY 0 ?vA0 rfl ?runA0 ?_
    case runA0 => (intro w9 _; go_simp; try exact rfl)
    try simp only [Act.put, lA, lZ, lS]
    refine tkY 1 ?vA1 rfl ?runA1 ?_
    case runA1 => (intro w9 _; go_simp; try exact rfl)
    try simp only [Act.put, lA, lZ, lS]
    refine tkY 2 (.string ((⟨#[]⟩ : ByteArray) ++ ⟨#[40]⟩)) rfl ?runA2 ?_
    case runA2 => (intro w9 _; go_simp; first | done | omega | (simp; omega))
    try simp only [Act.put, lA, lZ, lS]
    refine tkY 3 ?vA3 rfl ?runA3 ?_
    case runA3 => (intro w9 _; go_simp; try exact rfl)
    try simp only [Act.put, lA, lZ, lS]
    refine tkB [4, 5, 6, 7] 8 ?vA8 rfl ?runA8 ((Keep.refl [] w5).drew) ?_
    case runA8 => (intro w9 hS9; obtain ⟨f0, f1, f2, f3, f4⟩ := cells5 (blkK HB5.o hS9 (by simp)); go_simp; try exact rfl)
    try simp only [Act.put, lA, lZ, lS]
    refine tkB [] 4 ?vA4 rfl ?runA4 ((Keep.refl [] w5).drew) ?_
    case runA4 => (intro w9 hS9; obtain ⟨f0, f1, f2, f3, f4⟩ := cells5 (blkK HB5.o hS9 (by simp)); go_simp; try exact rfl)
    try simp only [Act.put, lA, lZ, lS]
    refine rdB 5 rfl (fun K hK => ?_); go_simp; refine (HCP.o _ ((Keep.refl [] w5).drew)).mono ?_; rintro e w6 ⟨⟨X, rfl, hX⟩, hk6⟩; have HK6 := hyd (And.intro hX (((Keep.refl [] w5).drew).trans hk6 (by simp))); have hxs : (⟨#[]⟩ : ByteArray).size + X.size + (flat (tailI gs bs)).length ≤ 140737488354000 := by rw [size_list X, hX]; exact HSZ2.o
    clear hX hk6; go_simp; refine hK.out _ _ (fun h => HK6.o.2) ?_; clear hK K
    try simp only [Act.put, lA, lZ, lS]
    refine tkB [9] 6 (.string ((⟨#[]⟩ : ByteArray) ++ ⟨#[40]⟩ ++ X)) rfl ?runA6 (HK6.o.2) ?_
    case runA6 => (intro w9 hS9; go_simp; first | done | omega | (simp; omega))
    try simp only [Act.put, lA, lZ, lS]
    refine tkB [9] 7 (.string ((⟨#[]⟩ : ByteArray) ++ ⟨#[40]⟩ ++ X ++ ⟨#[41]⟩)) rfl ?runA7 (HK6.o.2) ?_
    case runA7 => (intro w9 hS9; go_simp; first | done | omega | (simp; omega))
    try simp only [Act.put, lA, lZ, lS]
    refine rdB 9 rfl (fun K hK => ?_); go_simp; refine (HCA.o _ HK6.o.2).mono ?_; rintro e w7 ⟨⟨Y, rfl, hY⟩, hk7⟩; have HK7 := hyd (And.intro hY (HK6.o.2.trans hk7 (by simp))); have hys : (⟨#[]⟩ : ByteArray).size + X.size + Y.size ≤ 140737488354000 := by rw [size_list Y, hY]; exact hxs
    clear hY hk7; go_simp; refine hK.out _ _ (fun h => HK7.o.2) ?_; clear hK K
    try simp only [Act.put, lA, lZ, lS]
    refine tkY 10 (.string ((⟨#[]⟩ : ByteArray) ++ ⟨#[40]⟩ ++ X ++ ⟨#[41]⟩ ++ Y)) rfl ?runA10 ?_
    case runA10 => (intro w9 _; go_simp; first | done | omega | (simp; omega))
    try simp only [Act.put, lA, lZ, lS]
    have hr7 := HR5.o.keep HK7.o.2; obtain ⟨o, hro, ho, hko⟩ := hr7; have HO := hyd ho; have HKO := hyd hko; have HRO := hyd hro; clear ho hko hro; refine rdB 11 rfl (fun K hK => ?_); go_simp; refine hK.out _ _ (fun h => (nomatch h)) ?_; clear hK K
    try simp only [Act.put, lA, lZ, lS]
    have t1 := src_blk (P := Tryz.prog) (k := 1) Tryz.underlying90 (heap_alloc_new w7 (.cells #[.string ((⟨#[]⟩ : ByteArray) ++ ⟨#[40]⟩ ++ X ++ ⟨#[41]⟩ ++ Y)] 9)) rfl (by intro u hu; simp at hu; subst hu; rfl); have t2 := Row.keep HRO.o ((Keep.refl [] w7).alloc (.cells #[.string ((⟨#[]⟩ : ByteArray) ++ ⟨#[40]⟩ ++ X ++ ⟨#[41]⟩ ++ Y)] 9)) (by simp); rw [HKL.o] at t2; have T1 := hyd t1; have T2 := hyd t2; clear t1 t2; refine rdB 12 rfl (fun K hK => ?_); refine step_append_rowB _ (by kernel_rfl) _ _ 90 90 rfl 9 i0 (.string ⟨#[]⟩) 1 16 Tryz.underlying90 HI.o hz0 hz1 hz2 rfl _ k _ o rfl T2.o _ rfl 1 _ T1.o (by omega) (by first | (unfold maxLen; omega) | (simp [maxLen] <;> omega)) (by omega) ?_; intro g9 off9 cap9 w9 hr9 hk9 hg9; have hpush := SRow.push (Ls := (ls.take k).map flat) (S := (⟨#[]⟩ : ByteArray) ++ ⟨#[40]⟩ ++ X ++ ⟨#[41]⟩ ++ Y) (L := flat (ls[k]'(by rw [HX.o.1]; exact hlt))) HO.o HKO.o (by rw [HKL.o]; simpa using hr9) (((Keep.refl o.toList w7).alloc _).trans hk9 (fun b hb => .inl hb)) (by rcases hg9 with h | h; (· exact .inl h); exact .inr (by first | omega | (simp at h; omega))) (by rw [HEX.o, ← HK6.o.1, ← HK7.o.1]; simp); rw [HKL.o] at hpush; have HPUSH := hyd hpush; clear hr9 hk9 hg9 hpush T1 T2; refine hK.out _ _ (fun h => (nomatch h)) ?_; clear hK K
    try simp only [Act.put, lA, lZ, lS]
    refine tkY 13 ?vA13 rfl ?runA13 ?_
    case runA13 => (intro w9 _; go_simp; try exact rfl)
    try simp only [Act.put, lA, lZ, lS]
    refine wpAnyB_done (by kernel_rfl) ?_ _; go_wp2_with fail; go_roundw
    case rel => exact ⟨k + 1, by omega, by go_num, by have h := HPUSH.o; rwa [show (ls.take (k + 1)).map flat = (ls.take k).map flat ++ [flat (ls[k]'(by rw [HX.o.1]; exact hlt))] from by rw [List.take_succ_eq_append_getElem (by rw [HX.o.1]; exact hlt), List.map_append]; rfl]⟩
    case measure => simp [intOf]; omega
   ·rw [if_neg hn0] at hfx hszk; have hne : nm.isEmpty = false := by obtain ⟨c, r, e⟩ := List.exists_cons_of_ne_nil hn0; rw [e]; rfl
    have HPA := hyd (fun W (k : Keep [] (wr.alloc (.cells #[.slice p1 p.length c1, .slice p2 g.length c2, .slice p3 b.length c3, .string ⟨nm.toArray⟩, .int .i64 at1] 52)) W) => p_printA (w := W) ⟨nm.toArray⟩ (hT.keep0 k) (by show nm.toArray.size ≤ 100000; rw [List.size_toArray]; omega)); have HEX := hyd hfx; have HSZ1 := hyd hszk; clear hfx hex hszk; go_wp2_with fail; generalize wr.alloc _ = w5 at *; refine (p_atom _ _).mono ?_; rintro e wa ⟨rfl, hka⟩; have HKA := hyd hka; clear hka; go_wp2_with fail; refine (HPA.o _ HKA.o).mono ?_; rintro e wz ⟨rfl, hkz⟩; obtain ⟨Z, hZ⟩ : ∃ Z : ByteArray, Z = ⟨(nameL (⟨nm.toArray⟩ : ByteArray).data.toList).toArray⟩ := ⟨_, rfl⟩; rw [← hZ]; have hZl : Z.data.toList = nameL nm := by rw [hZ]
    have HZL := hyd hZl; have HBZ := hyd (blkK HB5.o (HKA.o.trans hkz (by simp)) (by simp)); have HCPZ := hyd (fun W (k : Keep [] wz W) => HCP.o W ((HKA.o.trans hkz (by simp)).trans k (by simp))); have HCAZ := hyd (fun W (k : Keep [] wz W) => HCA.o W ((HKA.o.trans hkz (by simp)).trans k (by simp))); have HRZ := hyd (HR5.o.keep (HKA.o.trans hkz (by simp))); have HSZ2 := hyd (show Z.size + (flat (sepI comma ps)).length + (flat (tailI gs bs)).length ≤ 140737488354000 by have := HSZ1.o; have hz := size_list Z; rw [hZl] at hz; simp only [List.length_cons, List.length_nil] at this; omega); have hzs : Z.size ≤ 140737488354000 := by have := HSZ2.o; omega
    clear hZ hZl hkz hA0 hA1 hA2 hA3 hA4; go_wp2_with fail; refine wp_regionB [4, 5, 6, 7, 9] (fun w' => Keep [] wz w') (by kernel_rfl) ?_; refine tkY 0 ?vB0 rfl ?runB0 ?_
    case runB0 => (intro w9 _; go_simp; try exact rfl)
    try simp only [Act.put, lA, lZ, lS]
    refine tkY 1 ?vB1 rfl ?runB1 ?_
    case runB1 => (intro w9 _; go_simp; try exact rfl)
    try simp only [Act.put, lA, lZ, lS]
    refine tkY 2 (.string (Z ++ ⟨#[40]⟩)) rfl ?runB2 ?_
    case runB2 => (intro w9 _; go_simp; first | done | omega | (simp; omega))
    try simp only [Act.put, lA, lZ, lS]
    refine tkY 3 ?vB3 rfl ?runB3 ?_
    case runB3 => (intro w9 _; go_simp; try exact rfl)
    try simp only [Act.put, lA, lZ, lS]
    refine tkB [4, 5, 6, 7] 8 ?vB8 rfl ?runB8 ((Keep.refl [] wz).drew) ?_
    case runB8 => (intro w9 hS9; obtain ⟨f0, f1, f2, f3, f4⟩ := cells5 (blkK HBZ.o hS9 (by simp)); go_simp; try exact rfl)
    try simp only [Act.put, lA, lZ, lS]
    refine tkB [] 4 ?vB4 rfl ?runB4 ((Keep.refl [] wz).drew) ?_
    case runB4 => (intro w9 hS9; obtain ⟨f0, f1, f2, f3, f4⟩ := cells5 (blkK HBZ.o hS9 (by simp)); go_simp; try exact rfl)
    try simp only [Act.put, lA, lZ, lS]
    refine rdB 5 rfl (fun K hK => ?_); go_simp; refine (HCPZ.o _ ((Keep.refl [] wz).drew)).mono ?_; rintro e w6 ⟨⟨X, rfl, hX⟩, hk6⟩; have HK6 := hyd (And.intro hX (((Keep.refl [] wz).drew).trans hk6 (by simp))); have hxs : Z.size + X.size + (flat (tailI gs bs)).length ≤ 140737488354000 := by rw [size_list X, hX]; exact HSZ2.o
    clear hX hk6; go_simp; refine hK.out _ _ (fun h => HK6.o.2) ?_; clear hK K
    try simp only [Act.put, lA, lZ, lS]
    refine tkB [9] 6 (.string (Z ++ ⟨#[40]⟩ ++ X)) rfl ?runB6 (HK6.o.2) ?_
    case runB6 => (intro w9 hS9; go_simp; first | done | omega | (simp; omega))
    try simp only [Act.put, lA, lZ, lS]
    refine tkB [9] 7 (.string (Z ++ ⟨#[40]⟩ ++ X ++ ⟨#[41]⟩)) rfl ?runB7 (HK6.o.2) ?_
    case runB7 => (intro w9 hS9; go_simp; first | done | omega | (simp; omega))
    try simp only [Act.put, lA, lZ, lS]
    refine rdB 9 rfl (fun K hK => ?_); go_simp; refine (HCAZ.o _ HK6.o.2).mono ?_; rintro e w7 ⟨⟨Y, rfl, hY⟩, hk7⟩; have HK7 := hyd (And.intro hY (HK6.o.2.trans hk7 (by simp))); have hys : Z.size + X.size + Y.size ≤ 140737488354000 := by rw [size_list Y, hY]; exact hxs
    clear hY hk7; go_simp; refine hK.out _ _ (fun h => HK7.o.2) ?_; clear hK K
    try simp only [Act.put, lA, lZ, lS]
    refine tkY 10 (.string (Z ++ ⟨#[40]⟩ ++ X ++ ⟨#[41]⟩ ++ Y)) rfl ?runB10 ?_
    case runB10 => (intro w9 _; go_simp; first | done | omega | (simp; omega))
    try simp only [Act.put, lA, lZ, lS]
    have hr7 := HRZ.o.keep HK7.o.2; obtain ⟨o, hro, ho, hko⟩ := hr7; have HO := hyd ho; have HKO := hyd hko; have HRO := hyd hro; clear ho hko hro; refine rdB 11 rfl (fun K hK => ?_); go_simp; refine hK.out _ _ (fun h => (nomatch h)) ?_; clear hK K
    try simp only [Act.put, lA, lZ, lS]
    have t1 := src_blk (P := Tryz.prog) (k := 1) Tryz.underlying90 (heap_alloc_new w7 (.cells #[.string (Z ++ ⟨#[40]⟩ ++ X ++ ⟨#[41]⟩ ++ Y)] 9)) rfl (by intro u hu; simp at hu; subst hu; rfl); have t2 := Row.keep HRO.o ((Keep.refl [] w7).alloc (.cells #[.string (Z ++ ⟨#[40]⟩ ++ X ++ ⟨#[41]⟩ ++ Y)] 9)) (by simp); rw [HKL.o] at t2; have T1 := hyd t1; have T2 := hyd t2; clear t1 t2; refine rdB 12 rfl (fun K hK => ?_); refine step_append_rowB _ (by kernel_rfl) _ _ 90 90 rfl 9 i0 (.string ⟨#[]⟩) 1 16 Tryz.underlying90 HI.o hz0 hz1 hz2 rfl _ k _ o rfl T2.o _ rfl 1 _ T1.o (by omega) (by first | (unfold maxLen; omega) | (simp [maxLen] <;> omega)) (by omega) ?_; intro g9 off9 cap9 w9 hr9 hk9 hg9; have hpush := SRow.push (Ls := (ls.take k).map flat) (S := Z ++ ⟨#[40]⟩ ++ X ++ ⟨#[41]⟩ ++ Y) (L := flat (ls[k]'(by rw [HX.o.1]; exact hlt))) HO.o HKO.o (by rw [HKL.o]; simpa using hr9) (((Keep.refl o.toList w7).alloc _).trans hk9 (fun b hb => .inl hb)) (by rcases hg9 with h | h; (· exact .inl h); exact .inr (by first | omega | (simp at h; omega))) (by rw [HEX.o, ← HK6.o.1, ← HK7.o.1]; rw [← HZL.o]; simp); rw [HKL.o] at hpush; have HPUSH := hyd hpush; clear hr9 hk9 hg9 hpush T1 T2; refine hK.out _ _ (fun h => (nomatch h)) ?_; clear hK K
    try simp only [Act.put, lA, lZ, lS]
    refine tkY 13 ?vB13 rfl ?runB13 ?_
    case runB13 => (intro w9 _; go_simp; try exact rfl)
    try simp only [Act.put, lA, lZ, lS]
    refine wpAnyB_done (by kernel_rfl) ?_ _; go_wp2_with fail; go_roundw
    case rel => exact ⟨k + 1, by omega, by go_num, by have h := HPUSH.o; rwa [show (ls.take (k + 1)).map flat = (ls.take k).map flat ++ [flat (ls[k]'(by rw [HX.o.1]; exact hlt))] from by rw [List.take_succ_eq_append_getElem (by rw [HX.o.1]; exact hlt), List.map_append]; rfl]⟩
    case measure => simp [intOf]; omega
  ·obtain rfl : k = l.length := by omega
   have q1 : ¬ (l.length : Int) < (l.length : Int) := by omega
   have hrow := HROW.o; rw [List.take_of_length_le (by rw [HX.o.1]; exact Nat.le_refl _)] at hrow; have hj := p_join hrow ⟨#[59, 32]⟩ HLEN.o (by rw [List.length_map, HX.o.1]; omega); have HJ := hyd hj; clear hrow hj; go_wp2_with fail; refine HJ.o.mono ?_; rintro e w6 ⟨⟨X, rfl, hX⟩, hk6⟩; have HK6 := hyd (And.intro hX (HKW.o.trans hk6 (by simp))); clear hX hk6; go_wp2_with fail; go_ret; exact ⟨⟨X, rfl, by rw [HK6.o.1]; rfl⟩, HK6.o.2⟩
theorem rd_low {w : World} {k : Nat} {v : Value} {n : Nat} {xs : List Value} {o : Option Nat} (hk : 0 < k) (h : Rd w k v n xs o) : ∃ o', Rd w k v n xs o' ∧ ∀ b, o' = some b → b < w.heap.size := by
 obtain ⟨hl, a, c, rfl, h1, h2, h3⟩ := h
 by_cases hn : n = 0
 ·exact ⟨none, ⟨hl, a, c, rfl, h1, h2, .inl ⟨hn, rfl⟩⟩, by simp⟩
 ·rcases h3 with ⟨h3, -⟩ | ⟨b, off, rfl, rfl, h3⟩
  ·exact absurd h3 hn
  ·refine ⟨some b, ⟨hl, _, c, rfl, h1, h2, .inr ⟨b, off, rfl, rfl, h3⟩⟩, ?_⟩; rintro b' e
   cases e
   have hp : 0 < n * k := Nat.mul_pos (by omega) hk; have h5 := h3 0 hp; rw [List.getElem?_eq_getElem (by omega)] at h5; exact World.block_lt_of_cell? _ _ h5
theorem ndr_low {S : Nat → Prop} {w : World} {k : Bool} {cs : List Value} {n : Nd} (h : NdR S w k cs n) : NdR (fun b => b < w.heap.size) w k cs n := by
 induction h with
 | node ha hb hc sa sb sc la lb lc ra rb rc ia ib ic =>
  obtain ⟨_, ha', sa'⟩ := rd_low (by decide) ha; obtain ⟨_, hb', sb'⟩ := rd_low (by decide) hb; obtain ⟨_, hc', sc'⟩ := rd_low (by decide) hc; exact .node ha' hb' hc' sa' sb' sc' la lb lc ia ib ic
 | clause ha hb hc sa sb sc la lb lc ra rb rc ia ib ic =>
  obtain ⟨_, ha', sa'⟩ := rd_low (by decide) ha; obtain ⟨_, hb', sb'⟩ := rd_low (by decide) hb; obtain ⟨_, hc', sc'⟩ := rd_low (by decide) hc; exact .clause ha' hb' hc' sa' sb' sc' la lb lc ia ib ic
def ChI (B : Nat) (w : World) (l : List Nd) (t : Nd) (ls : List (List It)) (k : Nat) (v : Value) (wr : World) : Prop :=
 ∃ (o : Option Nat) (cs : List Value), Row wr 9 1 v k (((ls.take k).map flat).map strV) o ∧ (∀ b, o = some b → w.heap.size < b) ∧ Keep [] w wr ∧
  wr.heap[w.heap.size]? = some (.cells cs.toArray 29) ∧ NdR (fun b => b < w.heap.size) wr false cs (consL (l.drop k) t)
def lenV : Value → Nat
 | .slice _ n _ => n
 | _ => 0
theorem p_list {w : World} {B : Nat} {S : Nat → Prop} {cs : List Value} {l : List Nd} {ls : List (List It)} {t : Nd} {y : List It} {tl : List UInt8} (htl : tl = if t.kind = 5 then [] else 124 :: flat y) (ht : TabOk B w) (h : NdR S w false cs (consL l t)) (hl : TL B l ls) (h6 : t.kind ≠ 6) (hy : t.kind ≠ 5 → TxT B t y)
  (hlen : (Lib.join (ls.map flat) [44]).length + (flat y).length ≤ 140737488354000) : Calls Tryz.prog 32 #[.agg cs.toArray] w (StrE w (91 :: Lib.join (ls.map flat) [44] ++ tl ++ [93])) := by
 obtain ⟨i0, hi, hz0, hz1, hz2⟩ := info_parts strs_info; obtain ⟨kd, nu, at1, nm, a0, b0, c0, va, vb, vc, rfl, hn, h1, h2, h3⟩ := id h.un7; obtain ⟨p1, c1, rfl⟩ := h1.form; obtain ⟨p2, c2, rfl⟩ := h2.form; obtain ⟨p3, c3, rfl⟩ := h3.form; have hk5 := (Keep.refl [] w).alloc (.cells #[.int .i64 kd, .int .i64 nu, .string ⟨nm.toArray⟩, .int .i64 at1, .slice p1 a0.length c1, .slice p2 b0.length c2, .slice p3 c0.length c3] 29); have hb5 := heap_alloc_new w (.cells #[.int .i64 kd, .int .i64 nu, .string ⟨nm.toArray⟩, .int .i64 at1, .slice p1 a0.length c1, .slice p2 b0.length c2, .slice p3 c0.length c3] 29)
 have hst : ChI B w l t ls 0 (.slice none 0 0) (w.alloc (.cells #[.int .i64 kd, .int .i64 nu, .string ⟨nm.toArray⟩, .int .i64 at1, .slice p1 a0.length c1, .slice p2 b0.length c2, .slice p3 c0.length c3] 29)) :=
  ⟨none, _, Row.nil _ _ _, by simp, hk5, hb5, (ndr_low h).keep hk5 (by simp)⟩
 have HST := hyd hst; have HTL := hyd htl; have HI := hyd hi; have HT := hyd ht; have HL := hyd hl; have HY := hyd (And.intro h6 (And.intro hy hlen)); clear hst htl hi ht hl h6 hy hlen h h1 h2 h3 hn hk5 hb5; go_enter Tryz.func32, Tryz.ntmps32; go_wp2_with fail
 go_loopw [3] (fun v wr => ∃ k : Nat, k ≤ l.length ∧ ChI B w l t ls k v wr) (fun v _ => l.length - lenV v)
 case atStart => exact ⟨0, Nat.zero_le _, HST.o⟩
 case round =>
  obtain ⟨k, hk, o, cs, hro, ho, hkw, hbx, hnd⟩ := hrel; have HROW := hyd hro; have HO := hyd ho; have HKW := hyd hkw
  obtain ⟨ra, rc, hrv⟩ : ∃ ra rc, u3 = .slice ra k rc := by
   obtain ⟨-, ⟨-, h, hn⟩ | ⟨_, _, _, _, -, h, -⟩⟩ := hro
   ·exact ⟨none, 0, by rw [h, hn]⟩
   ·exact ⟨_, _, h⟩
  subst hrv; clear hro ho hkw
  by_cases hlt : k < l.length
  ·have e : consL (l.drop k) t = .mk 6 0 [] [l[k], consL (l.drop (k + 1)) t] [] [] := by rw [List.drop_eq_getElem_cons hlt]; rfl
   rw [e] at hnd; obtain ⟨kd', nu', at2, nm', a', b', c', va, vb, vc, rfl, en, g1, g2, g3⟩ := id hnd.un7; injection en with e1 e2 e3 e4 e5 e6; subst e1 e2 e3 e4 e5 e6; obtain ⟨p4, c4, rfl⟩ := g1.form; obtain ⟨p5, c5, rfl⟩ := g2.form; obtain ⟨p6, c6, rfl⟩ := g3.form; obtain ⟨ab, aoff, csa, rfl, hab, hna, hca⟩ := g1.at7 (i := 0) (by simp); obtain ⟨d0, d1, d2, d3, d4, d5, d6⟩ := cells7 hbx; obtain ⟨r1, r2, r3, r4, s1, s2, s3, s4, s5, s6, s7, s8, s9, rfl, -⟩ := id hna.un7s; have hA0 := hca 0 (by decide); have hA1 := hca 1 (by decide); have hA2 := hca 2 (by decide); have hA3 := hca 3 (by decide); have hA4 := hca 4 (by decide); have hA5 := hca 5 (by decide); have hA6 := hca 6 (by decide); simp only [Nat.zero_mul, Nat.add_zero, List.getElem?_cons_zero, List.getElem?_cons_succ] at hA0 hA1 hA2 hA3 hA4 hA5 hA6; have hlk : k < ls.length := by rw [HL.o.1]; exact hlt
   have hcall := HL.o.2.2 k hlt hlk wr _ _ (HT.o.keep0 HKW.o) hna; have HCALL := hyd hcall; have HBX := hyd hbx; have HG1 := hyd g1; have HN := hyd hnd; clear hcall hca hna hbx hnd g1 g2 g3 e; go_wp2_with fail; refine HCALL.o.mono ?_; rintro e w6 ⟨⟨X, rfl, hX⟩, hk6⟩; have HK6 := hyd (And.intro hX hk6); clear hX hk6 d0 d1 d2 d3 d4 d5 d6 hA0 hA1 hA2 hA3 hA4 hA5 hA6; have t1 := src_blk (P := Tryz.prog) (k := 1) Tryz.underlying90 (heap_alloc_new w6 (.cells #[.string X] 9)) rfl (by intro u hu; simp at hu; subst hu; rfl); have t2 := Row.keep HROW.o (HK6.o.2.trans ((Keep.refl [] w6).alloc (.cells #[.string X] 9)) (by simp)) (by simp); have T1 := hyd t1; have T2 := hyd t2; clear t1 t2; have hlN := HL.o.2.1
   go_wp2_with (at_builtin; refine wpList_append_row _ rfl _ _ 90 90 rfl 9 i0 (.string ⟨#[]⟩) 1 16 Tryz.underlying90 HI.o hz0 hz1 hz2 rfl _ k _ o rfl T2.o _ rfl 1 _ T1.o (by omega) (by first | (unfold maxLen; omega) | (simp [maxLen] <;> omega)) (by omega) ?_)
   intro g off cap w9 hr9 hk9 hg9; have hkr9 : Keep o.toList wr w9 := (HK6.o.2.mono (G := o.toList) (by simp)).trans (((Keep.refl o.toList w6).alloc _).trans hk9 (fun b hb => .inl hb)) (fun x hx => .inl hx); have hno : ∀ b ∈ o.toList, w.heap.size < b := fun b hb => HO.o b (by cases o with | none => simp at hb | some z => simp at hb; rw [hb])
   have hb9 := blkK HBX.o hkr9 (fun hm => absurd (hno _ hm) (by omega)); obtain ⟨b2, off2, cs2, e2, -, hn2, hc2⟩ := (HG1.o.keep hkr9 (fun b hb hs => absurd (hno b hb) (by omega))).at7 (i := 1) (by simp)
   cases e2
   obtain ⟨r1', r2', r3', r4', s1', s2', s3', s4', s5', s6', s7', s8', s9', rfl, -⟩ := id hn2.un7s; have hC0 := hc2 0 (by decide); have hC1 := hc2 1 (by decide); have hC2 := hc2 2 (by decide); have hC3 := hc2 3 (by decide); have hC4 := hc2 4 (by decide); have hC5 := hc2 5 (by decide); have hC6 := hc2 6 (by decide); simp only [Nat.one_mul, Nat.add_zero, List.getElem?_cons_zero, List.getElem?_cons_succ] at hC0 hC1 hC2 hC3 hC4 hC5 hC6; obtain ⟨d0, d1, d2, d3, d4, d5, d6⟩ := cells7 hb9; have f9 := frozenP hb9; have HR9 := hyd hr9; have HG9 := hyd hg9; have HKR := hyd hkr9; have HB9 := hyd hb9; have HN2 := hyd hn2; clear hr9 hk9 hg9 hkr9 hb9 hn2 hc2 hno T1 T2; obtain ⟨hb10, hk10⟩ := set7 HB9.o (.int .i64 r1') (.int .i64 r2') (.string ⟨r4'.toArray⟩) (.int .i64 r3') (.slice s1' s2' s3') (.slice s4' s5' s6') (.slice s7' s8' s9'); have HB10 := hyd hb10; have HK10 := hyd hk10; clear hb10 hk10; go_wp2_with fail; go_roundw
   case rel =>
    have hsz : w.heap.size < w6.heap.size := Nat.lt_of_lt_of_le (Array.getElem?_eq_some_iff.1 HBX.o).1 HK6.o.2.size; have hg : w.heap.size < g := by rcases HG9.o with h | h; (· exact HO.o g h); omega
    have hkk : Keep [] w w9 := HKW.o.trans HKR.o (fun x hx => .inr (by
      have := HO.o x (by cases o with | none => simp at hx | some z => simp at hx; rw [hx])
      omega))
    refine ⟨k + 1, by omega, some g, _, ?_, fun b hb => by cases hb; exact hg, hkk.trans HK10.o (fun x hx => .inr (by simp at hx; omega)), HB10.o, HN2.o.keep HK10.o (fun b hb h => by simp at hb; omega)⟩; have hrow := Row.keep HR9.o HK10.o (fun b hb => by cases hb; simp; omega); have hlk : k < ls.length := by rw [HL.o.1]; exact hlt
    rw [List.take_succ_eq_append_getElem hlk, List.map_append, List.map_append, List.map_cons, List.map_nil, List.map_cons, List.map_nil, ← HK6.o.1]
    simpa [List.map_take, strV] using hrow
   case measure => simp [lenV]; omega
  ·obtain rfl : k = l.length := by omega
   rw [List.drop_length] at hnd; obtain ⟨kd', nu', at2, nm', a', b', c', va, vb, vc, rfl, ht', g1, g2, g3⟩ := id hnd.un7; have ht2 : t = .mk kd' nu' nm' a' b' c' := ht'; obtain ⟨p4, c4, rfl⟩ := g1.form; obtain ⟨p5, c5, rfl⟩ := g2.form; obtain ⟨p6, c6, rfl⟩ := g3.form; have hne : (kd' == 6) = false := beq_eq_false_iff_ne.2 (by have := HY.o.1; rw [ht2] at this; exact this); have hrow := HROW.o; rw [List.take_of_length_le (by rw [HL.o.1]; exact Nat.le_refl _)] at hrow; have hls : (ls.map flat).length = l.length := by rw [List.length_map, HL.o.1]
   have hj := p_join (w := w) (Ls := ls.map flat) ⟨o, by rw [hls]; exact hrow, fun b hb => Nat.le_of_lt (HO.o b hb), HKW.o⟩ ⟨#[44]⟩ (by have := HY.o.2.2; show (Lib.join (ls.map flat) [44]).length ≤ _; omega) (by rw [hls]; have := HL.o.2.1; omega); have HJ := hyd hj; have HBX := hyd hbx; have HN := hyd hnd; have HT2 := hyd ht2; obtain ⟨d0, d1, d2, d3, d4, d5, d6⟩ := cells7 hbx; clear hj hbx hnd ht2 ht' g1 g2 g3 hrow hls; go_wp2_with fail; refine HJ.o.mono ?_; rintro e w6 ⟨⟨X, rfl, hX⟩, hk6⟩; have hxs : X.size + (flat y).length ≤ 140737488354000 := by rw [size_list X, hX]; exact HY.o.2.2
   have HK6 := hyd (And.intro hX hk6); have hb6 := blkK HBX.o hk6 (by simp); clear hX hk6 d0 d1 d2 d3 d4 d5 d6; obtain ⟨d0, d1, d2, d3, d4, d5, d6⟩ := cells7 hb6; clear hb6
   by_cases h5 : kd' = 5
   ·have htn : tl = [] := by rw [HTL.o, HT2.o, if_pos (show (Nd.mk kd' nu' nm' a' b' c').kind = 5 from h5)]
    have HTN := hyd htn; clear htn; subst h5; go_wp2_with fail; go_ret; exact ⟨⟨_, rfl, by rw [HTN.o]; simp [HK6.o.1]⟩, HKW.o.trans HK6.o.2 (by simp)⟩
   ·have htn : tl = 124 :: flat y := by rw [HTL.o, HT2.o, if_neg (show ¬ (Nd.mk kd' nu' nm' a' b' c').kind = 5 from h5)]
    have hne5 : (kd' != 5) = true := by simpa using h5
    have hc := HY.o.2.1 (by rw [HT2.o]; exact h5) w6 _ _ (HT.o.keep0 (HKW.o.trans HK6.o.2 (by simp))) (HN.o.keep HK6.o.2 (by simp)); have HC := hyd hc; have HTN := hyd htn; clear hc htn; go_wp2_with fail; refine HC.o.mono ?_; rintro e w7 ⟨⟨Y, rfl, hY⟩, hk7⟩; have hys : X.size + Y.size ≤ 140737488354000 := by rw [size_list Y, hY]; exact hxs
    have HK7 := hyd (And.intro hY ((HKW.o.trans HK6.o.2 (by simp)).trans hk7 (by simp))); clear hY hk7; go_wp2_with fail; go_ret; exact ⟨⟨_, rfl, by rw [HTN.o]; simp [HK6.o.1, HK7.o.1]⟩, HK7.o.2⟩
theorem tx_leaf {B : Nat} {k n : Int} {x : List UInt8} (h : TokOk ⟨k, n, x, 0⟩) (h3 : k ≤ 3) : TxT B (.mk k n x [] [] []) [.t k n x] := by
 intro w S cs ht hnd; obtain ⟨kd, nu, at1, nm, a0, b0, c0, va, vb, vc, rfl, hn, h1, h2, h4⟩ := id hnd.un7; injection hn with e1 e2 e3 e4 e5 e6; subst e1 e2 e3 e4 e5 e6; obtain ⟨p1, c1, rfl⟩ := h1.form; obtain ⟨p2, c2, rfl⟩ := h2.form; obtain ⟨p3, c3, rfl⟩ := h4.form; have hk5 := (Keep.refl [] w).alloc (.cells #[.int .i64 k, .int .i64 n, .string ⟨x.toArray⟩, .int .i64 at1, .slice p1 0 c1, .slice p2 0 c2, .slice p3 0 c3] 29); have hb5 := heap_alloc_new w (.cells #[.int .i64 k, .int .i64 n, .string ⟨x.toArray⟩, .int .i64 at1, .slice p1 0 c1, .slice p2 0 c2, .slice p3 0 c3] 29); obtain ⟨d0, d1, d2, d3, d4, d5, d6⟩ := cells7 hb5; have HT5 := hyd (ht.keep0 hk5); have HK5 := hyd hk5; have hsz : (flat [It.t k n x]) = (It.t k n x).text := by rw [flat_cons, flat_nil, List.append_nil]
 rw [hsz]; clear hsz hb5 hk5 hnd h1 h2 h4 ht; rcases h with ⟨h, -, m, hm, hm2⟩ | ⟨-, ⟨h, l1, l2⟩ | ⟨h, -⟩ | ⟨h, -⟩ | ⟨h, -⟩⟩
 ·simp only at h hm; subst h hm; have hfm := fmt_any HT5.o (m : Int) (by omega) (by omega); have HFM := hyd hfm; clear hfm; go_enter Tryz.func10, Tryz.ntmps10; go_wp2_with fail; refine HFM.o.mono ?_; rintro e w6 ⟨rfl, hk6⟩; have HK6 := hyd (HK5.o.trans hk6 (by simp)); clear hk6; go_wp2_with fail; go_ret; exact ⟨⟨_, rfl, by simp [It.text]⟩, HK6.o⟩
 ·simp only at h l2; subst h; have HPA := hyd (fun W (k : Keep [] (w.alloc (.cells #[.int .i64 2, .int .i64 n, .string ⟨x.toArray⟩, .int .i64 at1, .slice p1 0 c1, .slice p2 0 c2, .slice p3 0 c3] 29)) W) => p_printA (w := W) ⟨x.toArray⟩ (HT5.o.keep0 k) (by show x.toArray.size ≤ 100000; rw [List.size_toArray]; omega)); go_enter Tryz.func10, Tryz.ntmps10; go_wp2_with fail; refine (p_atom _ _).mono ?_; rintro e w6 ⟨rfl, hk6⟩; have HK6 := hyd hk6; clear hk6; go_wp2_with fail; refine (HPA.o _ HK6.o).mono ?_; rintro e w7 ⟨rfl, hk7⟩; have HK7 := hyd ((HK5.o.trans HK6.o (by simp)).trans hk7 (by simp)); clear hk7; go_wp2_with fail; go_ret; exact ⟨⟨_, rfl, by simp [It.text]⟩, HK7.o⟩
 ·simp only at h; subst h; go_enter Tryz.func10, Tryz.ntmps10; go_wp2_with fail; go_ret; exact ⟨⟨_, rfl, by simp [It.text]⟩, HK5.o⟩
 ·simp only at h; omega
 ·simp only at h; omega
theorem tx_tuple {B : Nat} {l : List Nd} {ls : List (List It)} (hl : TL B l ls) (hlen : (flat (sepI comma ls)).length ≤ 140737488354000) : TxT B (.mk 4 0 [] l [] []) (sg 123 :: sepI comma ls ++ [sg 125]) := by
 intro w S cs ht hnd; obtain ⟨kd, nu, at1, nm, a0, b0, c0, va, vb, vc, rfl, hn, h1, h2, h4⟩ := id hnd.un7; injection hn with e1 e2 e3 e4 e5 e6; subst e1 e2 e3 e4 e5 e6; obtain ⟨p1, c1, rfl⟩ := h1.form; obtain ⟨p2, c2, rfl⟩ := h2.form; obtain ⟨p3, c3, rfl⟩ := h4.form; have hk5 := (Keep.refl [] w).alloc (.cells #[.int .i64 4, .int .i64 0, .string ⟨#[]⟩, .int .i64 at1, .slice p1 l.length c1, .slice p2 0 c2, .slice p3 0 c3] 29); have hb5 := heap_alloc_new w (.cells #[.int .i64 4, .int .i64 0, .string ⟨#[]⟩, .int .i64 at1, .slice p1 l.length c1, .slice p2 0 c2, .slice p3 0 c3] 29); obtain ⟨d0, d1, d2, d3, d4, d5, d6⟩ := cells7 hb5; have hc := p_texts (s := comma) (sep := ⟨#[44]⟩) (ht.keep0 hk5) (h1.keep hk5 (by simp)) hl.1 hl.2.2 rfl (by omega) hl.2.1; have HC := hyd hc; have HK5 := hyd hk5; have HLEN := hyd hlen; clear hb5 hk5 hnd h1 h2 h4 ht hc hlen hl; go_enter Tryz.func10, Tryz.ntmps10; go_wp2_with fail; refine HC.o.mono ?_; rintro e w6 ⟨⟨X, rfl, hX⟩, hk6⟩; have hxs : X.size ≤ 140737488354000 := by rw [size_list X, hX]; exact HLEN.o
 have HK6 := hyd (And.intro hX (HK5.o.trans hk6 (by simp))); clear hX hk6; go_wp2_with fail; go_ret; exact ⟨⟨_, rfl, by simp [HK6.o.1, flat_cons, flat_app, flat_nil, It.text]⟩, HK6.o.2⟩
def Sm (x : List It) : Prop := x.length ≤ 900000 ∧ (flat x).length ≤ 140737488353000
theorem flat_sub {x y : List It} (h : x.Sublist y) : (flat x).length ≤ (flat y).length := by
 induction h with
 | slnil => exact Nat.le_refl _
 | cons a _ ih => rw [flat_cons, List.length_append]; omega
 | cons_cons a _ ih => rw [flat_cons, flat_cons, List.length_append, List.length_append]; omega
theorem Sm.sub {x y : List It} (hy : Sm y) (h : x.Sublist y) : Sm x := ⟨Nat.le_trans h.length_le hy.1, Nat.le_trans (flat_sub h) hy.2⟩
theorem Sm.inf {x y : List It} (hy : Sm y) (p q : List It) (e : p ++ x ++ q = y) : Sm x := hy.sub (List.IsInfix.sublist ⟨p, q, e⟩)
theorem sep_sub (s : List It) : ∀ (ls : List (List It)) (i : Nat) (h : i < ls.length), (ls[i]).Sublist (sepI s ls)
 | [x], 0, _ => List.Sublist.refl _
 | x :: y :: r, 0, _ => List.IsInfix.sublist ⟨[], s ++ sepI s (y :: r), by rw [sep_cons]; simp⟩
 | x :: y :: r, i + 1, h => by
  rw [sep_cons]; exact (sep_sub s (y :: r) i (by simpa using h)).trans (List.sublist_append_right _ _)
theorem sep_many (s : List It) : ∀ (ls : List (List It)), (∀ i (h : i < ls.length), ls[i] ≠ []) → ls.length ≤ (sepI s ls).length
 | [], _ => Nat.le_refl _
 | [x], h => by
  have := List.length_pos_iff.2 (h 0 (by simp)); show 1 ≤ x.length; exact this
 | x :: y :: r, h => by
  have h1 := List.length_pos_iff.2 (h 0 (by simp)); have h2 := sep_many s (y :: r) (fun i hi => h (i + 1) (by simp at hi ⊢; omega)); rw [sep_cons]; simp only [List.length_append, List.length_cons, List.getElem_cons_zero] at *
  omega
theorem Pr.ne {k : Nat} {n : Nd} {x : List It} (h : Pr k n x) : x ≠ [] := by
 cases h <;> simp [tailI]
theorem pl_ne {k : Nat} {l : List Nd} {ls : List (List It)} (hl : ls.length = l.length) (h : ∀ i (h : i < l.length) (h' : i < ls.length), Pr k l[i] ls[i]) : ∀ i (h : i < ls.length), ls[i] ≠ [] :=
 fun i hi => (h i (by omega) hi).ne
theorem tl_of {B : Nat} {s : List It} {l : List Nd} {ls : List (List It)} (hl : ls.length = l.length) (h : ∀ i (h : i < l.length) (h' : i < ls.length), Pr 0 l[i] ls[i]) (ih : ∀ i (h : i < l.length) (h' : i < ls.length), Sm ls[i] → TxT B l[i] ls[i])
  (hs : Sm (sepI s ls)) : TL B l ls :=
 ⟨hl, by have := sep_many s ls (pl_ne hl h); have := hs.1; omega, fun i hi hi' => ih i hi hi' (hs.sub (sep_sub s ls i hi'))⟩
def QT (B : Nat) (k : Nat) (n : Nd) (x : List It) : Prop :=
 (k = 0 → TxT B n x) ∧ (k = 1 → ∃ nm ps gs bs, ClT B n nm ps gs bs ∧ x = sepI comma ps ++ tailI gs bs) ∧
 (k = 2 → ∃ ps gs bs, ClT B n [] ps gs bs ∧ x = sg 40 :: sepI comma ps ++ sg 41 :: tailI gs bs) ∧
 (k = 3 → ∃ nm ps gs bs, ClT B n nm ps gs bs ∧ nm ≠ [] ∧ nm.length ≤ 255 ∧ x = .t 2 0 nm :: sg 40 :: sepI comma ps ++ sg 41 :: tailI gs bs) ∧
 (k = 4 → ∃ l ls t y tl, n = consL l t ∧ TL B l ls ∧ l.length ≤ x.length ∧ t.kind ≠ 6 ∧ tl = (if t.kind = 5 then [] else 124 :: flat y) ∧ (t.kind = 5 → y = []) ∧ (t.kind ≠ 5 → TxT B t y) ∧ flat x = Lib.joinTail [44] (ls.map flat) ++ tl ++ [93])
theorem QT.tree {B : Nat} {n : Nd} {x : List It} (h : TxT B n x) : QT B 0 n x := ⟨fun _ => h, fun h => (nomatch h), fun h => (nomatch h), fun h => (nomatch h), fun h => (nomatch h)⟩
theorem QT.arm {B : Nat} {n : Nd} {x : List It} (h : ∃ nm ps gs bs, ClT B n nm ps gs bs ∧ x = sepI comma ps ++ tailI gs bs) : QT B 1 n x := ⟨fun h => (nomatch h), fun _ => h, fun h => (nomatch h), fun h => (nomatch h), fun h => (nomatch h)⟩
theorem QT.hd {B : Nat} {n : Nd} {x : List It} (h : ∃ ps gs bs, ClT B n [] ps gs bs ∧ x = sg 40 :: sepI comma ps ++ sg 41 :: tailI gs bs) : QT B 2 n x := ⟨fun h => (nomatch h), fun h => (nomatch h), fun _ => h, fun h => (nomatch h), fun h => (nomatch h)⟩
theorem QT.fhd {B : Nat} {n : Nd} {x : List It} (h : ∃ nm ps gs bs, ClT B n nm ps gs bs ∧ nm ≠ [] ∧ nm.length ≤ 255 ∧ x = .t 2 0 nm :: sg 40 :: sepI comma ps ++ sg 41 :: tailI gs bs) : QT B 3 n x := ⟨fun h => (nomatch h), fun h => (nomatch h), fun h => (nomatch h), fun _ => h, fun h => (nomatch h)⟩
theorem QT.rst {B : Nat} {n : Nd} {x : List It} (h : ∃ l ls t y tl, n = consL l t ∧ TL B l ls ∧ l.length ≤ x.length ∧ t.kind ≠ 6 ∧ tl = (if t.kind = 5 then [] else 124 :: flat y) ∧ (t.kind = 5 → y = []) ∧ (t.kind ≠ 5 → TxT B t y) ∧ flat x = Lib.joinTail [44] (ls.map flat) ++ tl ++ [93]) : QT B 4 n x := ⟨fun h => (nomatch h), fun h => (nomatch h), fun h => (nomatch h), fun h => (nomatch h), fun _ => h⟩
end Go.Proofs.YtdmmhfbafinkpaaGreatDoor

namespace Go.Emb
open Go.RowKit
theorem Rd.fromAt {w : World} {k b off n c : Nat} {xs : List Value} {o : Option Nat} (h : Rd w k (.slice (some ⟨b, off, none⟩) n c) n xs o) (m : Nat) (hm : m ≤ n) : ∃ o', Rd w k (.slice (some ⟨b, sliceOff off c m k, none⟩) (n - m) (c - m)) (n - m) (xs.drop (m * k)) o' ∧ (o' = none ∨ o' = o) := by
 obtain ⟨hl, a, c', hv, h1, h2, h3⟩ := h
 cases hv
 have hk1 : m * k ≤ n * k := Nat.mul_le_mul_right _ hm; have hlen : (xs.drop (m * k)).length = (n - m) * k := by rw [List.length_drop, hl, Nat.sub_mul]
 by_cases h0 : n - m = 0
 ·exact ⟨none, ⟨hlen, _, c - m, rfl, by omega, by omega, .inl ⟨h0, rfl⟩⟩, .inl rfl⟩
 ·rcases h3 with ⟨h3, _⟩ | ⟨b', off', e, ho, h3⟩
  ·omega
  ·cases e
   refine ⟨o, ⟨hlen, _, c - m, rfl, by omega, by omega, .inr ⟨b, _, rfl, ho, fun i hi => ?_⟩⟩, .inr rfl⟩; rw [Nat.sub_mul] at hi; unfold sliceOff; rw [if_neg (by omega), List.getElem?_drop, Nat.add_assoc]; exact h3 (m * k + i) (by omega)
end Go.Emb

namespace Go.Proofs.YtdmmhfbafinkpaaGreatDoor
open Go.RowKit Go.Emb
theorem NsR.rest {S : Nat → Prop} {w : World} {k : Bool} {b off n c : Nat} {x : Nd} {l : List Nd} (h : NsR S w k (.slice (some ⟨b, off, none⟩) n c) (x :: l)) : NsR S w k (.slice (some ⟨b, sliceOff off c 1 (wid k), none⟩) (n - 1) (c - 1)) l := by
 obtain ⟨es, o, h1, h2, h3, h4⟩ := h; obtain ⟨-, a', c', e, -⟩ := id h1; injection e with _ e2; have hn : n = (x :: l).length := e2; subst hn; obtain ⟨o', g1, g2⟩ := Rd.fromAt h1 1 (by simp)
 cases es with
 | nil => simp at h3
 | cons a es =>
  have ha := (h4 0 (by simp) (by simp)).len; refine ⟨es, o', ?_, fun x hx => ?_, by simpa using h3, fun i hi hi' => h4 (i + 1) (by simp; omega) (by simp; omega)⟩
  ·have e : (a :: es).flatten.drop (1 * wid k) = es.flatten := by
    rw [List.flatten_cons, Nat.one_mul, List.drop_append_of_le_length (by simp at ha; omega)]; simp at ha; rw [← ha, List.drop_length, List.nil_append]
   rw [e] at g1; exact g1
  ·rcases g2 with rfl | rfl
   ·cases hx
   ·exact h2 x hx
theorem tx_list {B : Nat} {k : Int} {l : List Nd} {ls : List (List It)} {t : Nd} {y x : List It} {tl : List UInt8} {ks : List Nd} (hc : Nd.mk k 0 [] ks [] [] = consL l t) (h56 : k = 5 ∨ k = 6) (hl : TL B l ls) (h6 : t.kind ≠ 6) (htl : tl = if t.kind = 5 then [] else 124 :: flat y) (hy : t.kind ≠ 5 → TxT B t y)
  (hx : flat x = 91 :: Lib.join (ls.map flat) [44] ++ tl ++ [93]) (hlen : (Lib.join (ls.map flat) [44]).length + (flat y).length ≤ 140737488354000) : TxT B (.mk k 0 [] ks [] []) x := by
 intro w S cs ht hnd; obtain ⟨kd, nu, at1, nm1, a0, b0, c0, va, vb, vc, rfl, hn, h1, h2, h3⟩ := id hnd.un7; injection hn with e1 e2 e3 e4 e5 e6; subst e1 e2 e3 e4 e5 e6; obtain ⟨p1, c1, e1⟩ := h1.form; obtain ⟨p2, c2, e2⟩ := h2.form; obtain ⟨p3, c3, e3⟩ := h3.form; replace e1 : va = .slice p1 ks.length c1 := e1; replace e2 : vb = .slice p2 0 c2 := e2; replace e3 : vc = .slice p3 0 c3 := e3; subst e1 e2 e3; have hk5 := (Keep.refl [] w).alloc (.cells #[.int .i64 k, .int .i64 0, .string ⟨#[]⟩, .int .i64 at1, .slice p1 ks.length c1, .slice p2 0 c2, .slice p3 0 c3] 29); have hb5 := heap_alloc_new w (.cells #[.int .i64 k, .int .i64 0, .string ⟨#[]⟩, .int .i64 at1, .slice p1 ks.length c1, .slice p2 0 c2, .slice p3 0 c3] 29); obtain ⟨d0, d1, d2, d3, d4, d5, d6⟩ := cells7 hb5; have D0 := hyd (And.intro d0 (And.intro d1 (And.intro d2 (And.intro d3 (And.intro d4 (And.intro d5 d6)))))); have HK5 := hyd hk5; have hT := ht.keep0 hk5; have HT := hyd hT; have hnd5 := hnd.keep hk5 (by simp); rw [hc] at hnd5; have hcall := p_list htl hT hnd5 hl h6 hy hlen; rw [← hx] at hcall; have HCALL := hyd hcall; clear hb5 hk5 hnd hnd5 h1 h2 h3 ht hT hcall hlen hl hx htl hy h6 hc; rcases h56 with rfl | rfl
 all_goals
  go_enter Tryz.func10, Tryz.ntmps10; go_wp2_with fail; refine HCALL.o.mono ?_; rintro e w6 ⟨⟨X, rfl, hX⟩, hk6⟩; have HK6 := hyd (And.intro hX (HK5.o.trans hk6 (by simp))); clear hX hk6; go_wp2_with fail; go_ret; exact ⟨⟨_, rfl, HK6.o.1⟩, HK6.o.2⟩
theorem tx_call {B : Nat} {nm : List UInt8} {l : List Nd} {ls : List (List It)} (hnm : nm.length ≤ 255) (hl : TL B l ls) (hlen : (nameL nm).length + (flat (sepI comma ls)).length ≤ 140737488354000) : TxT B (.mk 7 0 nm l [] []) (.t 2 0 nm :: sg 40 :: sepI comma ls ++ [sg 41]) := by
 intro w S cs ht hnd; obtain ⟨kd, nu, at1, nm1, a0, b0, c0, va, vb, vc, rfl, hn, h1, h2, h3⟩ := id hnd.un7; injection hn with e1 e2 e3 e4 e5 e6; subst e1 e2 e3 e4 e5 e6; obtain ⟨p1, c1, e1⟩ := h1.form; obtain ⟨p2, c2, e2⟩ := h2.form; obtain ⟨p3, c3, e3⟩ := h3.form; replace e1 : va = .slice p1 l.length c1 := e1; replace e2 : vb = .slice p2 0 c2 := e2; replace e3 : vc = .slice p3 0 c3 := e3; subst e1 e2 e3; have hk5 := (Keep.refl [] w).alloc (.cells #[.int .i64 7, .int .i64 0, .string ⟨nm.toArray⟩, .int .i64 at1, .slice p1 l.length c1, .slice p2 0 c2, .slice p3 0 c3] 29); have hb5 := heap_alloc_new w (.cells #[.int .i64 7, .int .i64 0, .string ⟨nm.toArray⟩, .int .i64 at1, .slice p1 l.length c1, .slice p2 0 c2, .slice p3 0 c3] 29); obtain ⟨d0, d1, d2, d3, d4, d5, d6⟩ := cells7 hb5; have D0 := hyd (And.intro d0 (And.intro d1 (And.intro d2 (And.intro d3 (And.intro d4 (And.intro d5 d6)))))); have HK5 := hyd hk5; have hT := ht.keep0 hk5; have HT := hyd hT; have HC := hyd (fun W (k : Keep [] (w.alloc _) W) => p_texts (w := W) (s := comma) (sep := ⟨#[44]⟩) (hT.keep0 k) ((h1.keep hk5 (by simp)).keep k (by simp)) hl.1 hl.2.2 rfl (by omega) hl.2.1); have HPA := hyd (fun W (k : Keep [] (w.alloc _) W) => p_printA (w := W) ⟨nm.toArray⟩ (hT.keep0 k) (by show nm.toArray.size ≤ 100000; rw [List.size_toArray]; omega)); clear hb5 hk5 hnd h1 h2 h3 ht hT hl hnm; go_enter Tryz.func10, Tryz.ntmps10; go_wp2_with fail; generalize w.alloc _ = w5 at *; clear d0 d1 d2 d3 d4 d5 d6; refine wp_region_held_drew (S := fun w' => Keep [] w5 w') (by kernel_rfl) ((Keep.refl [] w5).drew) (fun hHeld => ?_); refine tkL 0 ?v0 rfl ?run0 hHeld ?_
 case run0 => (intro w9 hS9; obtain ⟨q0, q1, q2, q3, q4, q5, q6⟩ := ck7 hS9 D0.o; go_simp; try exact rfl)
 try simp only [Act.put, lA, lZ, lS]
 refine tkL 1 ?v1 rfl ?run1 hHeld ?_
 case run1 => (intro w9 hS9; obtain ⟨q0, q1, q2, q3, q4, q5, q6⟩ := ck7 hS9 D0.o; go_simp; try exact rfl)
 try simp only [Act.put, lA, lZ, lS]
 refine tkL 5 ?v5 rfl ?run5 hHeld ?_
 case run5 => (intro w9 hS9; obtain ⟨q0, q1, q2, q3, q4, q5, q6⟩ := ck7 hS9 D0.o; go_simp; try exact rfl)
 try simp only [Act.put, lA, lZ, lS]
 refine tkL 6 ?v6 rfl ?run6 hHeld ?_
 case run6 => (intro w9 hS9; obtain ⟨q0, q1, q2, q3, q4, q5, q6⟩ := ck7 hS9 D0.o; go_simp; try exact rfl)
 try simp only [Act.put, lA, lZ, lS]
 refine rdH 2 rfl (fun K hK => ?_); go_simp; refine (p_atom _ _).mono ?_; rintro e wa ⟨rfl, hka⟩; have HA := hyd (((Keep.refl [] w5).drew).trans hka (by simp)); clear hka; go_wp2_with fail; refine hK.out _ _ HA.o (fun hHeld2 => ?_); clear hK K hHeld; have hHeld := hHeld2; clear hHeld2
 try simp only [Act.put, lA, lZ, lS]
 refine rdH 3 rfl (fun K hK => ?_); go_simp; refine (HPA.o _ HA.o).mono ?_; rintro e wb ⟨rfl, hkb⟩; have HB := hyd (HA.o.trans hkb (by simp)); clear hkb; obtain ⟨Z, hZ⟩ : ∃ Z : ByteArray, Z = ⟨(nameL (⟨nm.toArray⟩ : ByteArray).data.toList).toArray⟩ := ⟨_, rfl⟩; rw [← hZ]; have hsZ : Z.size = (nameL nm).length := by rw [hZ, size_list]
 have HZ := hyd hZ; clear hZ; go_wp2_with fail; refine hK.out _ _ HB.o (fun hHeld2 => ?_); clear hK K hHeld; have hHeld := hHeld2; clear hHeld2
 try simp only [Act.put, lA, lZ, lS]
 refine tkL 4 (.string (Z ++ ⟨#[40]⟩)) rfl ?run4 hHeld ?_
 case run4 => (intro w9 hS9; go_simp; first | done | omega | (simp; omega))
 try simp only [Act.put, lA, lZ, lS]
 refine rdH 7 rfl (fun K hK => ?_); go_simp; refine (HC.o _ (HB.o)).mono ?_; rintro e wc1 ⟨⟨X, rfl, hX⟩, hc⟩; have HC1 := hyd ((HB.o).trans hc (by simp)); have hsX : X.size = (flat (sepI comma ls)).length := by rw [size_list X, hX]
 have HXX := hyd hX; clear hX hc; go_wp2_with fail; refine hK.out _ _ HC1.o (fun hHeld2 => ?_); clear hK K hHeld; have hHeld := hHeld2; clear hHeld2
 try simp only [Act.put, lA, lZ, lS]
 refine tkL 8 (.string (Z ++ ⟨#[40]⟩ ++ X)) rfl ?run8 hHeld ?_
 case run8 => (intro w9 hS9; go_simp; first | done | omega | (simp; omega))
 try simp only [Act.put, lA, lZ, lS]
 refine tkL 9 (.string (Z ++ ⟨#[40]⟩ ++ X ++ ⟨#[41]⟩)) rfl ?run9 hHeld ?_
 case run9 => (intro w9 hS9; go_simp; first | done | omega | (simp; omega))
 try simp only [Act.put, lA, lZ, lS]
 refine tkL 10 ?v10 rfl ?run10 hHeld ?_
 case run10 => (intro w9 hS9; go_simp; try exact rfl)
 try simp only [Act.put, lA, lZ, lS]
 refine wpAnyH_done (by kernel_rfl) ?_ _; go_wp2_with fail; go_ret; exact ⟨⟨_, rfl, by (simp [HXX.o, HZ.o, flat_cons, flat_app, flat_nil, It.text])⟩, HK5.o.trans HC1.o (by simp)⟩
theorem tx_apply {B : Nat} {f : Nd} {x : List It} {l : List Nd} {ls : List (List It)} (hf : TxT B f x) (hl : TL B l ls) (hlen : (flat (callI f x)).length + (flat (sepI comma ls)).length ≤ 140737488354000) (hlx : (flat x).length ≤ 140737488354000) : TxT B (.mk 8 0 [] (f :: l) [] []) (callI f x ++ sg 40 :: sepI comma ls ++ [sg 41]) := by
 intro w S cs ht hnd; obtain ⟨kd, nu, at1, nm1, a0, b0, c0, va, vb, vc, rfl, hn, h1, h2, h3⟩ := id hnd.un7; injection hn with e1 e2 e3 e4 e5 e6; subst e1 e2 e3 e4 e5 e6; obtain ⟨p1, c1, e1⟩ := h1.form; obtain ⟨p2, c2, e2⟩ := h2.form; obtain ⟨p3, c3, e3⟩ := h3.form; replace e1 : va = .slice p1 (l.length + 1) c1 := e1; replace e2 : vb = .slice p2 0 c2 := e2; replace e3 : vc = .slice p3 0 c3 := e3; subst e1 e2 e3; have hk5 := (Keep.refl [] w).alloc (.cells #[.int .i64 8, .int .i64 0, .string ⟨#[]⟩, .int .i64 at1, .slice p1 (l.length + 1) c1, .slice p2 0 c2, .slice p3 0 c3] 29); have hb5 := heap_alloc_new w (.cells #[.int .i64 8, .int .i64 0, .string ⟨#[]⟩, .int .i64 at1, .slice p1 (l.length + 1) c1, .slice p2 0 c2, .slice p3 0 c3] 29); obtain ⟨d0, d1, d2, d3, d4, d5, d6⟩ := cells7 hb5; have D0 := hyd (And.intro d0 (And.intro d1 (And.intro d2 (And.intro d3 (And.intro d4 (And.intro d5 d6)))))); have HK5 := hyd hk5; have hT := ht.keep0 hk5; have HT := hyd hT; obtain ⟨abf, aofff, csf, ef, -, hndf, hcellf⟩ := (h1.keep hk5 (by simp)).at7 (i := 0) (by simp); replace hndf : NdR S _ false csf f := hndf; obtain ⟨kdf, nuf, atf, nmf, p1f, n1f, c1f, p2f, n2f, c2f, p3f, n3f, c3f, rfl, -⟩ := id hndf.un7s; have f0 := hcellf 0 (by decide); have f1 := hcellf 1 (by decide); have f2 := hcellf 2 (by decide); have f3 := hcellf 3 (by decide); have f4 := hcellf 4 (by decide); have f5 := hcellf 5 (by decide); have f6 := hcellf 6 (by decide); simp only [Nat.zero_mul, Nat.one_mul, Nat.add_zero, List.getElem?_cons_zero, List.getElem?_cons_succ] at f0 f1 f2 f3 f4 f5 f6; have Ef := hyd (And.intro f0 (And.intro f1 (And.intro f2 (And.intro f3 (And.intro f4 (And.intro f5 f6)))))); clear hcellf f0 f1 f2 f3 f4 f5 f6; subst ef; have hrest := (h1.keep hk5 (by simp)).rest; have HF := hyd (fun W (k : Keep [] (w.alloc _) W) => p_called (w := W) (hT.keep0 k) (hndf.keep k (by simp)) hf (by omega)); have HC := hyd (fun W (k : Keep [] (w.alloc _) W) => p_texts (w := W) (s := comma) (sep := ⟨#[44]⟩) (hT.keep0 k) (hrest.keep k (by simp)) hl.1 hl.2.2 rfl (by omega) hl.2.1); simp only [wid, Nat.add_sub_cancel] at HC; have hlN := hl.2.1; clear hb5 hk5 hnd h1 h2 h3 ht hT hl hf hrest hndf; go_enter Tryz.func10, Tryz.ntmps10; go_wp2_with fail; generalize w.alloc _ = w5 at *; clear d0 d1 d2 d3 d4 d5 d6; refine wp_region_held_drew (S := fun w' => Keep [] w5 w') (by kernel_rfl) ((Keep.refl [] w5).drew) (fun hHeld => ?_); refine tkL 0 ?v0 rfl ?run0 hHeld ?_
 case run0 => (intro w9 hS9; obtain ⟨q0, q1, q2, q3, q4, q5, q6⟩ := ck7 hS9 D0.o; obtain ⟨f0, f1, f2, f3, f4, f5, f6⟩ := ck7 hS9 Ef.o; go_simp; try exact rfl)
 try simp only [Act.put, lA, lZ, lS]
 refine tkL 1 ?v1 rfl ?run1 hHeld ?_
 case run1 => (intro w9 hS9; obtain ⟨q0, q1, q2, q3, q4, q5, q6⟩ := ck7 hS9 D0.o; obtain ⟨f0, f1, f2, f3, f4, f5, f6⟩ := ck7 hS9 Ef.o; go_simp; try exact rfl)
 try simp only [Act.put, lA, lZ, lS]
 refine tkL 2 ?v2 rfl ?run2 hHeld ?_
 case run2 => (intro w9 hS9; obtain ⟨q0, q1, q2, q3, q4, q5, q6⟩ := ck7 hS9 D0.o; obtain ⟨f0, f1, f2, f3, f4, f5, f6⟩ := ck7 hS9 Ef.o; go_simp; try exact rfl)
 try simp only [Act.put, lA, lZ, lS]
 refine tkL 3 ?v3 rfl ?run3 hHeld ?_
 case run3 => (intro w9 hS9; obtain ⟨q0, q1, q2, q3, q4, q5, q6⟩ := ck7 hS9 D0.o; obtain ⟨f0, f1, f2, f3, f4, f5, f6⟩ := ck7 hS9 Ef.o; go_simp; try exact rfl)
 try simp only [Act.put, lA, lZ, lS]
 refine tkL 6 ?v6 rfl ?run6 hHeld ?_
 case run6 => (intro w9 hS9; obtain ⟨q0, q1, q2, q3, q4, q5, q6⟩ := ck7 hS9 D0.o; obtain ⟨f0, f1, f2, f3, f4, f5, f6⟩ := ck7 hS9 Ef.o; go_simp; try exact rfl)
 try simp only [Act.put, lA, lZ, lS]
 refine tkL 7 ?v7 rfl ?run7 hHeld ?_
 case run7 => (intro w9 hS9; obtain ⟨q0, q1, q2, q3, q4, q5, q6⟩ := ck7 hS9 D0.o; obtain ⟨f0, f1, f2, f3, f4, f5, f6⟩ := ck7 hS9 Ef.o; go_simp; try exact rfl)
 try simp only [Act.put, lA, lZ, lS]
 refine tkL 8 (.slice (some ⟨abf, sliceOff aofff c1 1 7, none⟩) l.length (c1 - 1)) rfl ?run8 hHeld ?_
 case run8 => (intro w9 hS9; go_simp; rw [if_pos (by omega)]; by_cases hc1 : c1 = 1 <;> simp [sliceOff, hc1])
 try simp only [Act.put, lA, lZ, lS]
 refine rdH 4 rfl (fun K hK => ?_); go_simp; refine (HF.o _ (((Keep.refl [] w5).drew))).mono ?_; rintro e wc1 ⟨⟨Y, rfl, hY⟩, hc⟩; have HC1 := hyd ((((Keep.refl [] w5).drew)).trans hc (by simp)); have hsY : Y.size = (flat (callI f x)).length := by rw [size_list Y, hY]
 have HXY := hyd hY; clear hY hc; go_wp2_with fail; refine hK.out _ _ HC1.o (fun hHeld2 => ?_); clear hK K hHeld; have hHeld := hHeld2; clear hHeld2
 try simp only [Act.put, lA, lZ, lS]
 refine tkL 5 (.string (Y ++ ⟨#[40]⟩)) rfl ?run5 hHeld ?_
 case run5 => (intro w9 hS9; go_simp; first | done | omega | (simp; omega))
 try simp only [Act.put, lA, lZ, lS]
 refine rdH 9 rfl (fun K hK => ?_); go_simp; refine (HC.o _ (HC1.o)).mono ?_; rintro e wc2 ⟨⟨X, rfl, hX⟩, hc⟩; have HC2 := hyd ((HC1.o).trans hc (by simp)); have hsX : X.size = (flat (sepI comma ls)).length := by rw [size_list X, hX]
 have HXX := hyd hX; clear hX hc; go_wp2_with fail; refine hK.out _ _ HC2.o (fun hHeld2 => ?_); clear hK K hHeld; have hHeld := hHeld2; clear hHeld2
 try simp only [Act.put, lA, lZ, lS]
 refine tkL 10 (.string (Y ++ ⟨#[40]⟩ ++ X)) rfl ?run10 hHeld ?_
 case run10 => (intro w9 hS9; go_simp; first | done | omega | (simp; omega))
 try simp only [Act.put, lA, lZ, lS]
 refine tkL 11 (.string (Y ++ ⟨#[40]⟩ ++ X ++ ⟨#[41]⟩)) rfl ?run11 hHeld ?_
 case run11 => (intro w9 hS9; go_simp; first | done | omega | (simp; omega))
 try simp only [Act.put, lA, lZ, lS]
 refine tkL 12 ?v12 rfl ?run12 hHeld ?_
 case run12 => (intro w9 hS9; go_simp; try exact rfl)
 try simp only [Act.put, lA, lZ, lS]
 refine wpAnyH_done (by kernel_rfl) ?_ _; go_wp2_with fail; go_ret; exact ⟨⟨_, rfl, by (simp [HXX.o, HXY.o, flat_cons, flat_app, flat_nil, It.text])⟩, HK5.o.trans HC2.o (by simp)⟩
end Go.Proofs.YtdmmhfbafinkpaaGreatDoor
