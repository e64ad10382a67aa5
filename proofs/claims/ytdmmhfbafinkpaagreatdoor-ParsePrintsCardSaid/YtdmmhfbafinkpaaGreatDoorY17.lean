/- ParsePrints: a part of the proof (Pe2, PbA, Pb15, Pe3), squeezed by squeeze.py. -/
import Derived.Test.YtdmmhfbafinkpaaGreatDoorY16
import Derived.Test.YtdmmhfbafinkpaaGreatDoorY06
import Derived.Test.YtdmmhfbafinkpaaGreatDoorY07
set_option maxRecDepth 100000
set_option maxHeartbeats 8000000
namespace Go.Proofs.YtdmmhfbafinkpaaGreatDoor
open Go.RowKit Go.Emb Go.Shelf
def rdR (w : World) (q : Nat) : Nat := match w.cell? ⟨q, 1, none⟩ with
 | some (.int _ r) => r.toNat
 | _ => 0
def rdE (w : World) (q : Nat) : Nat := match w.cell? ⟨q, 3, none⟩ with
 | some (.int _ e) => if e = 0 then 1 else 0
 | _ => 0
theorem DP.rdR {lo : Nat} {w : World} {pb : Nat} {l : List TkD} {r : Nat} {e : Int} (h : DP lo w pb l r e) : rdR w pb = r := by
 obtain ⟨v, o, en, at_, h1, -, -⟩ := h.blk; obtain ⟨s0, s1, s2, s3, s4⟩ := cells5d h1; simp [Go.Proofs.YtdmmhfbafinkpaaGreatDoor.rdR, s1]
theorem DP.rdE {lo : Nat} {w : World} {pb : Nat} {l : List TkD} {r : Nat} {e : Int} (h : DP lo w pb l r e) : rdE w pb = if e = 0 then 1 else 0 := by
 obtain ⟨v, o, en, at_, h1, -, -⟩ := h.blk; obtain ⟨s0, s1, s2, s3, s4⟩ := cells5d h1; simp [Go.Proofs.YtdmmhfbafinkpaaGreatDoor.rdE, s3]
theorem isD_go {l : List TkD} {r : Nat} {e : Int} {x : List UInt8} (h : isD l r e x = true) : e = 0 ∧ r < l.length := by
 unfold isD at h; simp only [Bool.and_eq_true, decide_eq_true_eq] at h; refine ⟨h.1, ?_⟩; rcases Nat.lt_or_ge r l.length with h1 | h1
 ·exact h1
 ·rw [List.getElem?_eq_none h1] at h; simp at h
theorem tot_snoc (ls : List (List It)) (x : List It) : tot (ls ++ [x]) = tot ls + x.length + 2 := by simp [tot]; omega
def ParD (n0 : Nat) (w : World) (e1 : Ending) (w' : World) : Prop :=
 Keep [] w w' ∧ ((∃ er a : Int, e1 = .returned (.tuple #[.slice none 0 0, .int .i64 er, .int .i64 a]) ∧ er ≠ 0) ∨
   ∃ (v : Value) (fs : List (List Nd)) (xs : List (List It)), e1 = .returned (.tuple #[v, .int .i64 0, .int .i64 0]) ∧ FsR (Frs w.heap.size w') w' v fs ∧ PrG fs xs ∧ fs ≠ [] ∧ xs.flatten.length ≤ 8 * n0)
theorem d_parse (s : ByteArray) (hs : s.size ≤ 16384) (w : World) : Calls Tryz.prog 6 #[.string s] w (ParD s.size w) := by
 have HB := hyd (d_begin s hs w); go_enter Tryz.func6, Tryz.ntmps6; go_wp2_with fail; refine HB.o.mono ?_; rintro e w1 ⟨q, l, e0, rfl, hdp, hsz1, hq, hl, htk, hk1⟩; have HTK := hyd (And.intro htk (And.intro hl (And.intro hsz1 (And.intro hq hk1)))); have HDP := hyd hdp; have hll : l.length ≤ 16384 := by omega
 clear htk hdp hl hsz1 hq hk1; go_wp2_with fail
 go_loopw [6] (fun v wr => ∃ (fs : List (List Nd)) (o : Option Nat) (r : Nat) (e : Int), RowF (q + 1) wr v fs o ∧ DP (q + 1) wr q l r e ∧ Keep [q] w1 wr ∧ fs.length ≤ r + 1 ∧ (e = 0 → fs.length ≤ r ∧ ∃ xs, PrG fs xs ∧ xs.flatten.length + 8 * (l.length - r) ≤ 8 * l.length)) (fun _ wr => rdE wr q * (l.length + 1 - rdR wr q))
 case atStart => exact ⟨[], none, 0, e0, RowF.nil _ _, HDP.o, Keep.refl _ _, Nat.zero_le _, fun _ => ⟨Nat.zero_le _, [], ⟨rfl, fun i h => by simp at h⟩, by simp⟩⟩
 case round =>
  generalize wr = wo at *; clear wr; obtain ⟨fs, o, r, e, hrow, hdp, hkw, hfr, hpr⟩ := hrel; obtain ⟨va, vc, rfl⟩ := hrow.form; obtain ⟨tv, tob, en, at_, hb, hrd, -⟩ := hdp.blk; obtain ⟨ta, tc, rfl⟩ := rdd_form hrd; obtain ⟨s0, s1, s2, s3, s4⟩ := cells5d hb; have hrl := hdp.rl; have HROW := hyd hrow; have HD := hyd hdp; have HBQ := hyd hb; have HKW := hyd hkw; have HPR := hyd hpr; clear hrow hdp hb hrd hkw hpr
  by_cases he : e = 0
  ·subst he
   by_cases hend : fs ≠ [] ∧ ¬ r < l.length
   ·obtain ⟨hne, hrl2⟩ := hend; obtain ⟨N, hN⟩ : ∃ N, N = fs.length := ⟨_, rfl⟩; rw [← hN] at HROW; have hN0 : 0 < N := by rw [hN]; exact List.length_pos_iff.2 hne
    have hfl : ((N : Int) == 0) = false := by simp; omega
    have hq1 : ¬ (r : Int) < (l.length : Int) := by omega
    have HNE := hyd (And.intro hne hN); rw [← hN]; clear hne hN; go_wp2_with fail; go_quiet (fail); go_wp2_with fail; go_ret3; obtain ⟨htk, hl, hsz1, hq, hk1⟩ := HTK.o; obtain ⟨-, xs, hx, hxl⟩ := HPR.o trivial; have hkd := (Keep.refl [] wo).drewN nq; refine ⟨((hk1.mono (G := [q]) (by simp)).trans (HKW.o.trans hkd (by simp)) (by simp)).mono (fun b hb hl => by simp at hb; omega), .inr ⟨_, fs, xs, rfl, ?_, hx, HNE.o.1, by omega⟩⟩; obtain ⟨es, o', h1, h2, h3, h4⟩ := (HROW.o.keep hkd (by simp)).fs; exact ⟨es, o', h1, fun x hx => ⟨by have := (h2 x hx).1; omega, (h2 x hx).2⟩, h3, fun i h h' => (h4 i h h').mono (fun b hb => ⟨by have := hb.1; omega, hb.2⟩)⟩
   ·have hor : fs = [] ∨ (fs ≠ [] ∧ r < l.length) := by
     by_cases hf : fs = []
     ·exact .inl hf
     ·exact .inr ⟨hf, Classical.byContradiction fun h => hend ⟨hf, h⟩⟩
    clear hend; obtain ⟨N, hN⟩ : ∃ N, N = fs.length := ⟨_, rfl⟩; rw [← hN] at HROW; rw [← hN]
    have hor2 : N = 0 ∨ (0 < N ∧ r < l.length) := by
     rcases hor with h | ⟨h, h1⟩
     ·left; rw [hN, h]; rfl
     ·right; exact ⟨by rw [hN]; exact List.length_pos_iff.2 h, h1⟩
    have HN := hyd hN; clear hor hN; rcases hor2 with rfl | ⟨hN0, hq1⟩
    ·go_wp2_with fail; go_quiet (fail); have hkd := (Keep.refl [] wo).drewN nq; have HRE := hyd (And.intro HD.o.rdE HD.o.rdR); have H2 := hyd (And.intro (HROW.o.keep hkd (by simp)) (And.intro (HD.o.keep hkd (by simp)) (HKW.o.trans hkd (by simp)))); clear hkd s0 s1 s2 s3 s4 HROW HD HBQ HKW; go_upto_region 4 with fail; generalize wo.drewN nq = w2 at *; go_wp2_with fail; have hk3 := (Keep.refl [] w2).alloc (.cells #[.slice none 0 0] 50); have hb3 := heap_alloc_new w2 (.cells #[.slice none 0 0] 50); obtain ⟨hrow2, hdp2, hkw2⟩ := H2.o; have HQ2 := hyd hdp2.lt; have H3 := hyd (And.intro hb3 (And.intro (hdp2.keep hk3 (by simp)) hk3)); clear hk3 hb3 hrow2 hdp2 hkw2; have hsz3 : (w2.alloc (.cells #[.slice none 0 0] 50)).heap.size = w2.heap.size + 1 := Array.size_push _; clear hsz3; generalize w2.alloc (.cells #[.slice none 0 0] 50) = w3 at *
     go_loopw [47] (fun _ wr => ∃ (cl : List Nd) (v : Value) (o1 : Option Nat) (r1 : Nat) (ls : List (List It)), wr.heap[w2.heap.size]? = some (.cells #[v] 50 (0, 0)) ∧ RowN (w2.heap.size + 1) wr true v cl o1 ∧ DP (q + 1) wr q l r1 0 ∧ r ≤ r1 ∧ cl.length ≤ r1 ∧ PL 3 cl ls ∧ tot ls + 8 * (l.length - r1) ≤ 8 * (l.length - r) ∧ Keep [q] w2 wr) (fun _ wr => l.length - rdR wr q)
     case atStart => exact ⟨[], _, none, r, [], H3.o.1, RowN.nil _ _ _, H3.o.2.1, Nat.le_refl _, Nat.zero_le _, PL.nil 3, by simp [tot], H3.o.2.2.mono (by simp)⟩
     case round =>
      generalize wr = wi at *; clear wr; obtain ⟨cl, v, o1, r1, ls, hbx, hrn, hdp, hr1, hcl, hpl, htot, hkw⟩ := hrel; obtain ⟨ca, cc, rfl⟩ := hrn.form; obtain ⟨tv, tob, en, at_, hb, -, -⟩ := hdp.blk; obtain ⟨s0, s1, s2, s3, s4⟩ := cells5d hb; have hr1l := hdp.rl; have hin : InD (q + 1) wi.drew q l r1 0 0 := ⟨hdp.keep ((Keep.refl [] wi).drew) (by simp), by have := hdp.lt; exact this, by omega⟩; have HC := hyd (x_clause HTK.o.1 hll hin); have HLT := hyd (show w2.heap.size + 1 ≤ wi.drew.heap.size from (Array.getElem?_eq_some_iff.1 hbx).1); have HLO1 := hyd (show ∀ b, o1 = some b → w2.heap.size + 1 ≤ b from (by obtain ⟨_, _, _, _, h⟩ := hrn; exact h)); have HROL := hyd (show ∀ b, o1 = some b → b < wi.drew.heap.size from hrn.lt); have HBX := hyd hbx; have HRN := hyd hrn; have HDI := hyd (And.intro hdp (And.intro hpl hkw)); clear hbx hrn hdp hpl hkw hb hin; go_upto_region 6 with fail; clear s0 s1 s2 s3 s4; refine wp_regionB [3, 4] (fun w1' => w1'.heap[w2.heap.size]? = some (.cells #[.slice ca cl.length cc] 50 (0, 0))) (by kernel_rfl) ?_; refine tkY 0 ?vC0 rfl ?runC0 ?_
      case runC0 => (intro w9 _; go_simp; try exact rfl)
      try simp only [Act.put, lA, lZ, lS]
      refine tkY 2 ?vC2 rfl ?runC2 ?_
      case runC2 => (intro w9 _; go_simp; try exact rfl)
      try simp only [Act.put, lA, lZ, lS]
      refine tkB [3, 4] 1 ?vC1 rfl ?runC1 ((blkK HBX.o (Keep.refl [] _).drew (by simp))) ?_
      case runC1 => (intro w9 hS9; obtain y0 := cells1f hS9; go_simp; try exact rfl)
      try simp only [Act.put, lA, lZ, lS]
      refine rdB 3 rfl (fun K hK => ?_); go_simp; refine HC.o.mono ?_; rintro e w4 ⟨pv, gv, bv, p, g, b, r4, e4, nm, at2, rfl, hpv, hgv, hbv, hdp4, hgot, hk4⟩; obtain ⟨pa, pc, rfl⟩ := hpv.form; obtain ⟨ga, gc, rfl⟩ := hgv.form; obtain ⟨ba, bc, rfl⟩ := hbv.form; have hnd4 : NdR (Frs wi.drew.heap.size w4) w4 true [.slice pa p.length pc, .slice ga g.length gc, .slice ba b.length bc, .string ⟨nm.toArray⟩, .int .i64 at2] (.mk 0 0 nm p g b) := NdR.mk5 hpv hgv hbv; have hkk4 : Keep [q] wi w4 := (((Keep.refl [] wi).drew).mono (G := [q]) (by simp)).trans hk4 (by simp); have hbx4 := blkK HBX.o hkk4 (by simp; exact Nat.ne_of_gt HQ2.o); obtain ⟨es, hr4, hpush⟩ := (HRN.o.keep hkk4 (fun b hb => by simp at hb; rw [hb]; exact Nat.lt_succ_of_lt HQ2.o)).app hnd4 (HLT.o) hk4.size HROL.o [.slice pa p.length pc, .slice ga g.length gc, .slice ba b.length bc, .string ⟨nm.toArray⟩, .int .i64 at2].toArray 52; have H4 := hyd (And.intro hdp4 (And.intro hgot (And.intro hkk4 hbx4))); have HR4 := hyd hr4; have HP4 := hyd hpush; clear hpv hgv hbv hdp4 hgot hk4 hnd4 hkk4 hbx4 hr4 hpush; go_wp2_with fail; refine hK.out _ _ (fun h => H4.o.2.2.2) ?_; clear hK K
      try simp only [Act.put, lA, lZ, lS]
      refine rdB 4 rfl (fun K hK => ?_); go_simp; have hk5 := (Keep.refl [] w4).alloc (.cells #[.slice pa p.length pc, .slice ga g.length gc, .slice ba b.length bc, .string ⟨nm.toArray⟩, .int .i64 at2] 52); have hb5 := heap_alloc_new w4 (.cells #[.slice pa p.length pc, .slice ga g.length gc, .slice ba b.length bc, .string ⟨nm.toArray⟩, .int .i64 at2] 52); have H5 := hyd (And.intro hk5 (blkK H4.o.2.2.2 hk5 (by simp))); have HB5 := hyd hb5; clear hk5 hb5; refine hK.out _ _ (fun h => H5.o.2) ?_; clear hK K
      try simp only [Act.put, lA, lZ, lS]
      have HR5 : Hid (Row (w4.alloc (.cells #[.slice pa p.length pc, .slice ga g.length gc, .slice ba b.length bc, .string ⟨nm.toArray⟩, .int .i64 at2] 52)) 52 5 (.slice ca cl.length cc) cl.length es.flatten o1) := HR4; generalize (w4.alloc (.cells #[.slice pa p.length pc, .slice ga g.length gc, .slice ba b.length bc, .string ⟨nm.toArray⟩, .int .i64 at2] 52)) = w5 at *; obtain ⟨i0, hi, hz0, hz1, hz2⟩ := info3 clause_info; refine rdB 5 rfl (fun K hK => ?_); refine step_append_any (w := w5) (by rfl) _ _ 27 27 (by rfl) 52 52 i0 _ 5 96 Tryz.underlying27 Tryz.underlying27 hi hz0 hz1 hz2 rfl (.slice ca cl.length cc) cl.length es.flatten o1 (by rfl) HR5.o (.slice (some ⟨w4.heap.size, 0, none⟩) 1 1) (by rfl) 1 [.slice pa p.length pc, .slice ga g.length gc, .slice ba b.length bc, .string ⟨nm.toArray⟩, .int .i64 at2] (some w4.heap.size) (Rd.ofBlock HB5.o rfl (by simp [maxLen])) (by intro u hu; simp at hu; rcases hu with rfl | rfl | rfl | rfl | rfl <;> rfl) (by unfold maxLen; omega) (by omega) ?_; intro v6 o6 w6 hr6 hk6 hg6; obtain ⟨hl6, ⟨-, -, h0⟩ | ⟨g6, off6, cap6, cs6, rfl, rfl, hh6⟩⟩ := id hr6
      ·omega
      have hrn6 := HP4.o g6 _ w6 hr6 hk6 (by rcases hg6 g6 rfl with h | h; (· exact .inl h); exact .inr h); have ho1 : ∀ x ∈ o1.toList, w2.heap.size + 1 ≤ x := fun x hx => HLO1.o x (by cases o1 with | none => simp at hx | some z => simp at hx; rw [hx])
      have hk56 : Keep [q] w2 w6 := ((HDI.o.2.2.trans H4.o.2.2.1 (by simp)).trans H5.o.1 (by simp)).trans hk6 (fun x hx => .inr (Nat.le_of_succ_le (ho1 x hx))); have hbx6 := blkK H5.o.2 hk6 (fun hm => absurd (ho1 _ hm) (Nat.not_succ_le_self _)); have hdp6 := (H4.o.1.keep H5.o.1 (by simp)).keep hk6 (fun x hx => Nat.le_trans (Nat.succ_le_of_lt HQ2.o) (Nat.le_of_succ_le (ho1 x hx))); have H6 := hyd (And.intro hrn6 (And.intro hk56 (And.intro hbx6 hdp6))); clear hrn6 hk56 hbx6 hdp6 ho1 hr6 hk6 hg6 hh6 hl6; refine hK.out _ _ (fun h => (nomatch h)) ?_; clear hK K
      try simp only [Act.put, lA, lZ, lS]
      refine tkY 6 ?vC6 rfl ?runC6 ?_
      case runC6 => (intro w9 _; go_simp; try exact rfl)
      try simp only [Act.put, lA, lZ, lS]
      refine rdB 7 rfl (fun K hK => ?_); have d0 := cells1f H6.o.2.2.1; have f0 := frozenP H6.o.2.2.1; go_simp; refine hK.out _ _ (fun h => (nomatch h)) ?_; clear hK K
      try simp only [Act.put, lA, lZ, lS]
      refine wpAnyB_done (by kernel_rfl) ?_ _; clear d0 f0; obtain ⟨hb7, hk7⟩ := set7a (i := 0) H6.o.2.2.1 (.slice (some ⟨g6, off6, none⟩) (cl.length + 1) cap6); simp only [List.setIfInBounds_toArray, List.set_cons_zero] at hb7; have H7 := hyd (And.intro hb7 (And.intro (H6.o.1.keep hk7 (by simp)) (And.intro (H6.o.2.2.2.keep hk7 (by simp; exact HQ2.o)) (H6.o.2.1.trans hk7 (fun x hx => .inr (by simp at hx; rw [hx]; exact Nat.le_refl _)))))); clear hb7 hk7; go_upto_region 7 with fail; have HTA := hyd (d_take H7.o.2.2.1 [59]); unfold rD at HTA
      by_cases hs : isD l r4 e4 [59] = true
      ·rw [if_pos hs, hs] at HTA; obtain ⟨he4, hr4l⟩ := isD_go hs; subst he4; clear hs; go_wp2_with fail; refine HTA.o.mono ?_; rintro e w8 ⟨rfl, hdp8, hk8⟩; have HD8 := hyd (And.intro hdp8 hk8); clear hdp8 hk8; go_wp2_with fail; go_roundw
       case rel =>
        obtain ⟨hg1, -, hg3⟩ := H4.o.2.1; obtain ⟨c, ⟨x, hx, hxl⟩, hc⟩ := hg3 rfl; refine ⟨cl ++ [.mk 0 0 nm p g b], _, some g6, r4 + 1, ls ++ [x], blkK H7.o.1 HD8.o.2 (by simp; exact Nat.ne_of_gt HQ2.o), H7.o.2.1.keep HD8.o.2 (fun b hb => by simp at hb; rw [hb]; exact Nat.lt_succ_of_lt HQ2.o), HD8.o.1, by omega, by simp; omega, HDI.o.2.1.snoc hx, by rw [tot_snoc]; omega, H7.o.2.2.2.trans HD8.o.2 (by simp)⟩
       case measure =>
        rw [HD8.o.1.rdR, HDI.o.1.rdR]; obtain ⟨hg1, -, -⟩ := H4.o.2.1
        omega
      ·rw [if_neg hs] at HTA; have hs' : isD l r4 e4 [59] = false := by simpa using hs
       rw [hs'] at HTA; clear hs hs'; go_wp2_with fail; refine HTA.o.mono ?_; rintro e w8 ⟨rfl, hdp8, hk8⟩; have HM := hyd (d_must hdp8 [46]); have H8 := hyd hk8; clear hdp8 hk8; go_wp2_with fail; refine HM.o.mono ?_; rintro e w9 ⟨rfl, ⟨r9, e9, hdp9, hor⟩, hk9⟩; have hk89 := H8.o.trans hk9 (by simp); have hb9 := blkK H7.o.1 hk89 (by simp; exact Nat.ne_of_gt HQ2.o); have hrn9 := H7.o.2.1.keep hk89 (fun b hb => by simp at hb; rw [hb]; exact Nat.lt_succ_of_lt HQ2.o); have hkw9 := H7.o.2.2.2.trans hk89 (by simp); have hro9 := H2.o.1.keep hkw9 (by simp); have d9 := cells1f hb9; have hol9 : ∀ b, o = some b → b < w2.heap.size + 1 := fun b hb => Nat.lt_succ_of_lt (H2.o.1.lt b hb)
       obtain ⟨es, hr10, hpush⟩ := hro9.app hrn9.ns (Nat.succ_le_succ (Nat.le_of_lt HQ2.o)) (Array.getElem?_eq_some_iff.1 hb9).1 hol9 #[.slice (some ⟨g6, off6, none⟩) (cl.length + 1) cap6] 50; have H9 := hyd (And.intro hdp9 (And.intro hor (And.intro hkw9 hol9))); have HR10 := hyd hr10; have HP10 := hyd hpush; have T10 := hyd (src_lit1 (P := Tryz.prog) w9 [.slice (some ⟨g6, off6, none⟩) (cl.length + 1) cap6] 1 rfl (by intro u hu; simp at hu; subst hu; rfl) 23 50 50 Tryz.underlying23); obtain ⟨i0, hi, hz0, hz1, hz2⟩ := info_parts fun_info; have HI := hyd hi; clear hk9 hk89 hb9 hrn9 hkw9 hro9 hol9 hr10 hpush hdp9 hor hi
       go_wp2_with (at_builtin; refine wpList_append_row _ rfl _ _ 23 23 rfl 50 i0 (.agg #[.slice none 0 0]) 1 24 Tryz.underlying23 HI.o hz0 hz1 hz2 rfl _ fs.length _ o rfl HR10.o _ rfl 1 _ T10.o (by omega) (by first | (unfold maxLen; omega) | (simp [maxLen] <;> omega)) (by omega) ?_)
       intro g11 off11 cap11 w11 hr11 hk11 hg11; have hro11 := HP10.o g11 _ w11 hr11 hk11 (hg11.imp id (fun h => by have h1 : (w9.alloc (.cells #[.slice (some ⟨g6, off6, none⟩) (cl.length + 1) cap6] 50)).heap.size = w9.heap.size + 1 := Array.size_push _; omega)); have hka := (Keep.refl [] w9).alloc (.cells #[.slice (some ⟨g6, off6, none⟩) (cl.length + 1) cap6] 50)
       have hoq : ∀ x ∈ o.toList, q + 1 ≤ x := fun x hx => by
        obtain ⟨_, _, _, _, h⟩ := H2.o.1; exact h x (by cases o with | none => simp at hx | some z => simp at hx; rw [hx])
       have hdp11 := (H9.o.1.keep hka (by simp)).keep hk11 hoq; have hsz1 := HTK.o.2.2.1; have hkw11 : Keep [q] w1 w11 := (H2.o.2.2.trans (H9.o.2.2.1.trans hka (by simp)) (by simp)).trans hk11 (fun x hx => .inr (by have := hoq x hx; omega)); have H11 := hyd (And.intro hro11 (And.intro hdp11 hkw11)); clear hro11 hka hoq hdp11 hkw11 hr11 hk11 hg11 hsz1 d9; go_wp2_with fail; go_roundw
       case rel =>
        obtain ⟨hg1, hg2, hg3⟩ := H4.o.2.1; refine ⟨fs ++ [cl ++ [.mk 0 0 nm p g b]], some g11, r9, e9, H11.o.1, H11.o.2.1, H11.o.2.2, ?_, fun he => ?_⟩
        ·have h0 := (HPR.o trivial).1; rcases H9.o.2.1 with ⟨h1, h2, h3⟩ | ⟨h1, h2, h3⟩
         ·simp; omega
         ·simp; omega
        ·rcases H9.o.2.1 with ⟨h1, h2, h3⟩ | ⟨h1, h2, h3⟩
         ·obtain ⟨he4, hr4l⟩ := isD_go h1; obtain ⟨c, ⟨x, hx, hxl⟩, hc⟩ := hg3 he4; obtain ⟨hfr2, xs, hxs, hxl2⟩ := HPR.o trivial; have hpl := HDI.o.2.1.snoc hx; refine ⟨by simp; omega, xs ++ [funI (ls ++ [x])], ⟨by simp [hxs.1], fun i h h' => ?_⟩, ?_⟩
          ·by_cases hif : i < fs.length
           ·rw [List.getElem_append_left hif, List.getElem_append_left (by rw [hxs.1]; exact hif)]; exact hxs.2 i hif _
           ·obtain rfl : i = fs.length := by simp at h; omega
            rw [List.getElem_append_right (Nat.le_refl _), List.getElem_append_right (by rw [hxs.1]; exact Nat.le_refl _)]; simp only [Nat.sub_self, hxs.1, List.getElem_cons_zero]; exact .mk (by simp) hpl.1 hpl.2
          ·have hsl := sep_len semiB (by decide) (ls ++ [x]); have hfl : (funI (ls ++ [x])).length = (sepI semiB (ls ++ [x])).length + 2 := by simp [funI]
           rw [tot_snoc] at hsl; rw [List.flatten_append, List.length_append]; simp only [List.flatten_cons, List.flatten_nil, List.append_nil]
           omega
         ·exact absurd he h3
       case measure =>
        rw [H11.o.2.1.rdE, H11.o.2.1.rdR, HRE.o.1, HRE.o.2]; obtain ⟨hg1, hg2, hg3⟩ := H4.o.2.1
        by_cases he : e9 = 0
        ·rcases H9.o.2.1 with ⟨h1, h2, h3⟩ | ⟨h1, h2, h3⟩
         ·simp [he]; omega
         ·exact absurd he h3
        ·simp [he]; omega
    ·have hfl : ((N : Int) == 0) = false := by simp; omega
     have hq2 : (r : Int) < (l.length : Int) := by omega
     go_wp2_with fail; go_quiet (fail); have hkd := (Keep.refl [] wo).drewN nq; have HRE := hyd (And.intro HD.o.rdE HD.o.rdR); have H2 := hyd (And.intro (HROW.o.keep hkd (by simp)) (And.intro (HD.o.keep hkd (by simp)) (HKW.o.trans hkd (by simp)))); clear hkd s0 s1 s2 s3 s4 HROW HD HBQ HKW; go_upto_region 4 with fail; generalize wo.drewN nq = w2 at *; go_wp2_with fail; have hk3 := (Keep.refl [] w2).alloc (.cells #[.slice none 0 0] 50); have hb3 := heap_alloc_new w2 (.cells #[.slice none 0 0] 50); obtain ⟨hrow2, hdp2, hkw2⟩ := H2.o; have HQ2 := hyd hdp2.lt; have H3 := hyd (And.intro hb3 (And.intro (hdp2.keep hk3 (by simp)) hk3)); clear hk3 hb3 hrow2 hdp2 hkw2; have hsz3 : (w2.alloc (.cells #[.slice none 0 0] 50)).heap.size = w2.heap.size + 1 := Array.size_push _; clear hsz3; generalize w2.alloc (.cells #[.slice none 0 0] 50) = w3 at *
     go_loopw [47] (fun _ wr => ∃ (cl : List Nd) (v : Value) (o1 : Option Nat) (r1 : Nat) (ls : List (List It)), wr.heap[w2.heap.size]? = some (.cells #[v] 50 (0, 0)) ∧ RowN (w2.heap.size + 1) wr true v cl o1 ∧ DP (q + 1) wr q l r1 0 ∧ r ≤ r1 ∧ cl.length ≤ r1 ∧ PL 3 cl ls ∧ tot ls + 8 * (l.length - r1) ≤ 8 * (l.length - r) ∧ Keep [q] w2 wr) (fun _ wr => l.length - rdR wr q)
     case atStart => exact ⟨[], _, none, r, [], H3.o.1, RowN.nil _ _ _, H3.o.2.1, Nat.le_refl _, Nat.zero_le _, PL.nil 3, by simp [tot], H3.o.2.2.mono (by simp)⟩
     case round =>
      generalize wr = wi at *; clear wr; obtain ⟨cl, v, o1, r1, ls, hbx, hrn, hdp, hr1, hcl, hpl, htot, hkw⟩ := hrel; obtain ⟨ca, cc, rfl⟩ := hrn.form; obtain ⟨tv, tob, en, at_, hb, -, -⟩ := hdp.blk; obtain ⟨s0, s1, s2, s3, s4⟩ := cells5d hb; have hr1l := hdp.rl; have hin : InD (q + 1) wi.drew q l r1 0 0 := ⟨hdp.keep ((Keep.refl [] wi).drew) (by simp), by have := hdp.lt; exact this, by omega⟩; have HC := hyd (x_clause HTK.o.1 hll hin); have HLT := hyd (show w2.heap.size + 1 ≤ wi.drew.heap.size from (Array.getElem?_eq_some_iff.1 hbx).1); have HLO1 := hyd (show ∀ b, o1 = some b → w2.heap.size + 1 ≤ b from (by obtain ⟨_, _, _, _, h⟩ := hrn; exact h)); have HROL := hyd (show ∀ b, o1 = some b → b < wi.drew.heap.size from hrn.lt); have HBX := hyd hbx; have HRN := hyd hrn; have HDI := hyd (And.intro hdp (And.intro hpl hkw)); clear hbx hrn hdp hpl hkw hb hin; go_upto_region 6 with fail; clear s0 s1 s2 s3 s4; refine wp_regionB [3, 4] (fun w1' => w1'.heap[w2.heap.size]? = some (.cells #[.slice ca cl.length cc] 50 (0, 0))) (by kernel_rfl) ?_; refine tkY 0 ?vD0 rfl ?runD0 ?_
      case runD0 => (intro w9 _; go_simp; try exact rfl)
      try simp only [Act.put, lA, lZ, lS]
      refine tkY 2 ?vD2 rfl ?runD2 ?_
      case runD2 => (intro w9 _; go_simp; try exact rfl)
      try simp only [Act.put, lA, lZ, lS]
      refine tkB [3, 4] 1 ?vD1 rfl ?runD1 ((blkK HBX.o (Keep.refl [] _).drew (by simp))) ?_
      case runD1 => (intro w9 hS9; obtain y0 := cells1f hS9; go_simp; try exact rfl)
      try simp only [Act.put, lA, lZ, lS]
      refine rdB 3 rfl (fun K hK => ?_); go_simp; refine HC.o.mono ?_; rintro e w4 ⟨pv, gv, bv, p, g, b, r4, e4, nm, at2, rfl, hpv, hgv, hbv, hdp4, hgot, hk4⟩; obtain ⟨pa, pc, rfl⟩ := hpv.form; obtain ⟨ga, gc, rfl⟩ := hgv.form; obtain ⟨ba, bc, rfl⟩ := hbv.form; have hnd4 : NdR (Frs wi.drew.heap.size w4) w4 true [.slice pa p.length pc, .slice ga g.length gc, .slice ba b.length bc, .string ⟨nm.toArray⟩, .int .i64 at2] (.mk 0 0 nm p g b) := NdR.mk5 hpv hgv hbv; have hkk4 : Keep [q] wi w4 := (((Keep.refl [] wi).drew).mono (G := [q]) (by simp)).trans hk4 (by simp); have hbx4 := blkK HBX.o hkk4 (by simp; exact Nat.ne_of_gt HQ2.o); obtain ⟨es, hr4, hpush⟩ := (HRN.o.keep hkk4 (fun b hb => by simp at hb; rw [hb]; exact Nat.lt_succ_of_lt HQ2.o)).app hnd4 (HLT.o) hk4.size HROL.o [.slice pa p.length pc, .slice ga g.length gc, .slice ba b.length bc, .string ⟨nm.toArray⟩, .int .i64 at2].toArray 52; have H4 := hyd (And.intro hdp4 (And.intro hgot (And.intro hkk4 hbx4))); have HR4 := hyd hr4; have HP4 := hyd hpush; clear hpv hgv hbv hdp4 hgot hk4 hnd4 hkk4 hbx4 hr4 hpush; go_wp2_with fail; refine hK.out _ _ (fun h => H4.o.2.2.2) ?_; clear hK K
      try simp only [Act.put, lA, lZ, lS]
      refine rdB 4 rfl (fun K hK => ?_); go_simp; have hk5 := (Keep.refl [] w4).alloc (.cells #[.slice pa p.length pc, .slice ga g.length gc, .slice ba b.length bc, .string ⟨nm.toArray⟩, .int .i64 at2] 52); have hb5 := heap_alloc_new w4 (.cells #[.slice pa p.length pc, .slice ga g.length gc, .slice ba b.length bc, .string ⟨nm.toArray⟩, .int .i64 at2] 52); have H5 := hyd (And.intro hk5 (blkK H4.o.2.2.2 hk5 (by simp))); have HB5 := hyd hb5; clear hk5 hb5; refine hK.out _ _ (fun h => H5.o.2) ?_; clear hK K
      try simp only [Act.put, lA, lZ, lS]
      have HR5 : Hid (Row (w4.alloc (.cells #[.slice pa p.length pc, .slice ga g.length gc, .slice ba b.length bc, .string ⟨nm.toArray⟩, .int .i64 at2] 52)) 52 5 (.slice ca cl.length cc) cl.length es.flatten o1) := HR4; generalize (w4.alloc (.cells #[.slice pa p.length pc, .slice ga g.length gc, .slice ba b.length bc, .string ⟨nm.toArray⟩, .int .i64 at2] 52)) = w5 at *; obtain ⟨i0, hi, hz0, hz1, hz2⟩ := info3 clause_info; refine rdB 5 rfl (fun K hK => ?_); refine step_append_any (w := w5) (by rfl) _ _ 27 27 (by rfl) 52 52 i0 _ 5 96 Tryz.underlying27 Tryz.underlying27 hi hz0 hz1 hz2 rfl (.slice ca cl.length cc) cl.length es.flatten o1 (by rfl) HR5.o (.slice (some ⟨w4.heap.size, 0, none⟩) 1 1) (by rfl) 1 [.slice pa p.length pc, .slice ga g.length gc, .slice ba b.length bc, .string ⟨nm.toArray⟩, .int .i64 at2] (some w4.heap.size) (Rd.ofBlock HB5.o rfl (by simp [maxLen])) (by intro u hu; simp at hu; rcases hu with rfl | rfl | rfl | rfl | rfl <;> rfl) (by unfold maxLen; omega) (by omega) ?_; intro v6 o6 w6 hr6 hk6 hg6; obtain ⟨hl6, ⟨-, -, h0⟩ | ⟨g6, off6, cap6, cs6, rfl, rfl, hh6⟩⟩ := id hr6
      ·omega
      have hrn6 := HP4.o g6 _ w6 hr6 hk6 (by rcases hg6 g6 rfl with h | h; (· exact .inl h); exact .inr h); have ho1 : ∀ x ∈ o1.toList, w2.heap.size + 1 ≤ x := fun x hx => HLO1.o x (by cases o1 with | none => simp at hx | some z => simp at hx; rw [hx])
      have hk56 : Keep [q] w2 w6 := ((HDI.o.2.2.trans H4.o.2.2.1 (by simp)).trans H5.o.1 (by simp)).trans hk6 (fun x hx => .inr (Nat.le_of_succ_le (ho1 x hx))); have hbx6 := blkK H5.o.2 hk6 (fun hm => absurd (ho1 _ hm) (Nat.not_succ_le_self _)); have hdp6 := (H4.o.1.keep H5.o.1 (by simp)).keep hk6 (fun x hx => Nat.le_trans (Nat.succ_le_of_lt HQ2.o) (Nat.le_of_succ_le (ho1 x hx))); have H6 := hyd (And.intro hrn6 (And.intro hk56 (And.intro hbx6 hdp6))); clear hrn6 hk56 hbx6 hdp6 ho1 hr6 hk6 hg6 hh6 hl6; refine hK.out _ _ (fun h => (nomatch h)) ?_; clear hK K
      try simp only [Act.put, lA, lZ, lS]
      refine tkY 6 ?vD6 rfl ?runD6 ?_
      case runD6 => (intro w9 _; go_simp; try exact rfl)
      try simp only [Act.put, lA, lZ, lS]
      refine rdB 7 rfl (fun K hK => ?_); have d0 := cells1f H6.o.2.2.1; have f0 := frozenP H6.o.2.2.1; go_simp; refine hK.out _ _ (fun h => (nomatch h)) ?_; clear hK K
      try simp only [Act.put, lA, lZ, lS]
      refine wpAnyB_done (by kernel_rfl) ?_ _; clear d0 f0; obtain ⟨hb7, hk7⟩ := set7a (i := 0) H6.o.2.2.1 (.slice (some ⟨g6, off6, none⟩) (cl.length + 1) cap6); simp only [List.setIfInBounds_toArray, List.set_cons_zero] at hb7; have H7 := hyd (And.intro hb7 (And.intro (H6.o.1.keep hk7 (by simp)) (And.intro (H6.o.2.2.2.keep hk7 (by simp; exact HQ2.o)) (H6.o.2.1.trans hk7 (fun x hx => .inr (by simp at hx; rw [hx]; exact Nat.le_refl _)))))); clear hb7 hk7; go_upto_region 7 with fail; have HTA := hyd (d_take H7.o.2.2.1 [59]); unfold rD at HTA
      by_cases hs : isD l r4 e4 [59] = true
      ·rw [if_pos hs, hs] at HTA; obtain ⟨he4, hr4l⟩ := isD_go hs; subst he4; clear hs; go_wp2_with fail; refine HTA.o.mono ?_; rintro e w8 ⟨rfl, hdp8, hk8⟩; have HD8 := hyd (And.intro hdp8 hk8); clear hdp8 hk8; go_wp2_with fail; go_roundw
       case rel =>
        obtain ⟨hg1, -, hg3⟩ := H4.o.2.1; obtain ⟨c, ⟨x, hx, hxl⟩, hc⟩ := hg3 rfl; refine ⟨cl ++ [.mk 0 0 nm p g b], _, some g6, r4 + 1, ls ++ [x], blkK H7.o.1 HD8.o.2 (by simp; exact Nat.ne_of_gt HQ2.o), H7.o.2.1.keep HD8.o.2 (fun b hb => by simp at hb; rw [hb]; exact Nat.lt_succ_of_lt HQ2.o), HD8.o.1, by omega, by simp; omega, HDI.o.2.1.snoc hx, by rw [tot_snoc]; omega, H7.o.2.2.2.trans HD8.o.2 (by simp)⟩
       case measure =>
        rw [HD8.o.1.rdR, HDI.o.1.rdR]; obtain ⟨hg1, -, -⟩ := H4.o.2.1
        omega
      ·rw [if_neg hs] at HTA; have hs' : isD l r4 e4 [59] = false := by simpa using hs
       rw [hs'] at HTA; clear hs hs'; go_wp2_with fail; refine HTA.o.mono ?_; rintro e w8 ⟨rfl, hdp8, hk8⟩; have HM := hyd (d_must hdp8 [46]); have H8 := hyd hk8; clear hdp8 hk8; go_wp2_with fail; refine HM.o.mono ?_; rintro e w9 ⟨rfl, ⟨r9, e9, hdp9, hor⟩, hk9⟩; have hk89 := H8.o.trans hk9 (by simp); have hb9 := blkK H7.o.1 hk89 (by simp; exact Nat.ne_of_gt HQ2.o); have hrn9 := H7.o.2.1.keep hk89 (fun b hb => by simp at hb; rw [hb]; exact Nat.lt_succ_of_lt HQ2.o); have hkw9 := H7.o.2.2.2.trans hk89 (by simp); have hro9 := H2.o.1.keep hkw9 (by simp); have d9 := cells1f hb9; have hol9 : ∀ b, o = some b → b < w2.heap.size + 1 := fun b hb => Nat.lt_succ_of_lt (H2.o.1.lt b hb)
       obtain ⟨es, hr10, hpush⟩ := hro9.app hrn9.ns (Nat.succ_le_succ (Nat.le_of_lt HQ2.o)) (Array.getElem?_eq_some_iff.1 hb9).1 hol9 #[.slice (some ⟨g6, off6, none⟩) (cl.length + 1) cap6] 50; have H9 := hyd (And.intro hdp9 (And.intro hor (And.intro hkw9 hol9))); have HR10 := hyd hr10; have HP10 := hyd hpush; have T10 := hyd (src_lit1 (P := Tryz.prog) w9 [.slice (some ⟨g6, off6, none⟩) (cl.length + 1) cap6] 1 rfl (by intro u hu; simp at hu; subst hu; rfl) 23 50 50 Tryz.underlying23); obtain ⟨i0, hi, hz0, hz1, hz2⟩ := info_parts fun_info; have HI := hyd hi; clear hk9 hk89 hb9 hrn9 hkw9 hro9 hol9 hr10 hpush hdp9 hor hi
       go_wp2_with (at_builtin; refine wpList_append_row _ rfl _ _ 23 23 rfl 50 i0 (.agg #[.slice none 0 0]) 1 24 Tryz.underlying23 HI.o hz0 hz1 hz2 rfl _ fs.length _ o rfl HR10.o _ rfl 1 _ T10.o (by omega) (by first | (unfold maxLen; omega) | (simp [maxLen] <;> omega)) (by omega) ?_)
       intro g11 off11 cap11 w11 hr11 hk11 hg11; have hro11 := HP10.o g11 _ w11 hr11 hk11 (hg11.imp id (fun h => by have h1 : (w9.alloc (.cells #[.slice (some ⟨g6, off6, none⟩) (cl.length + 1) cap6] 50)).heap.size = w9.heap.size + 1 := Array.size_push _; omega)); have hka := (Keep.refl [] w9).alloc (.cells #[.slice (some ⟨g6, off6, none⟩) (cl.length + 1) cap6] 50)
       have hoq : ∀ x ∈ o.toList, q + 1 ≤ x := fun x hx => by
        obtain ⟨_, _, _, _, h⟩ := H2.o.1; exact h x (by cases o with | none => simp at hx | some z => simp at hx; rw [hx])
       have hdp11 := (H9.o.1.keep hka (by simp)).keep hk11 hoq; have hsz1 := HTK.o.2.2.1; have hkw11 : Keep [q] w1 w11 := (H2.o.2.2.trans (H9.o.2.2.1.trans hka (by simp)) (by simp)).trans hk11 (fun x hx => .inr (by have := hoq x hx; omega)); have H11 := hyd (And.intro hro11 (And.intro hdp11 hkw11)); clear hro11 hka hoq hdp11 hkw11 hr11 hk11 hg11 hsz1 d9; go_wp2_with fail; go_roundw
       case rel =>
        obtain ⟨hg1, hg2, hg3⟩ := H4.o.2.1; refine ⟨fs ++ [cl ++ [.mk 0 0 nm p g b]], some g11, r9, e9, H11.o.1, H11.o.2.1, H11.o.2.2, ?_, fun he => ?_⟩
        ·have h0 := (HPR.o trivial).1; rcases H9.o.2.1 with ⟨h1, h2, h3⟩ | ⟨h1, h2, h3⟩
         ·simp; omega
         ·simp; omega
        ·rcases H9.o.2.1 with ⟨h1, h2, h3⟩ | ⟨h1, h2, h3⟩
         ·obtain ⟨he4, hr4l⟩ := isD_go h1; obtain ⟨c, ⟨x, hx, hxl⟩, hc⟩ := hg3 he4; obtain ⟨hfr2, xs, hxs, hxl2⟩ := HPR.o trivial; have hpl := HDI.o.2.1.snoc hx; refine ⟨by simp; omega, xs ++ [funI (ls ++ [x])], ⟨by simp [hxs.1], fun i h h' => ?_⟩, ?_⟩
          ·by_cases hif : i < fs.length
           ·rw [List.getElem_append_left hif, List.getElem_append_left (by rw [hxs.1]; exact hif)]; exact hxs.2 i hif _
           ·obtain rfl : i = fs.length := by simp at h; omega
            rw [List.getElem_append_right (Nat.le_refl _), List.getElem_append_right (by rw [hxs.1]; exact Nat.le_refl _)]; simp only [Nat.sub_self, hxs.1, List.getElem_cons_zero]; exact .mk (by simp) hpl.1 hpl.2
          ·have hsl := sep_len semiB (by decide) (ls ++ [x]); have hfl : (funI (ls ++ [x])).length = (sepI semiB (ls ++ [x])).length + 2 := by simp [funI]
           rw [tot_snoc] at hsl; rw [List.flatten_append, List.length_append]; simp only [List.flatten_cons, List.flatten_nil, List.append_nil]
           omega
         ·exact absurd he h3
       case measure =>
        rw [H11.o.2.1.rdE, H11.o.2.1.rdR, HRE.o.1, HRE.o.2]; obtain ⟨hg1, hg2, hg3⟩ := H4.o.2.1
        by_cases he : e9 = 0
        ·rcases H9.o.2.1 with ⟨h1, h2, h3⟩ | ⟨h1, h2, h3⟩
         ·simp [he]; omega
         ·exact absurd he h3
        ·simp [he]; omega
  ·have he' : (e == 0) = false := by simpa using he
   have he2 : (e != 0) = true := by simpa using he
   have HE := hyd he; clear he; go_wp2_with fail; go_quiet (fail); go_wp2_with fail; go_quiet (fail); go_wp2_with fail; go_ret3; obtain ⟨htk, hl, hsz1, hq, hk1⟩ := HTK.o; exact ⟨((hk1.mono (G := [q]) (by simp)).trans (HKW.o.trans (((Keep.refl [] wo).drewN _).trans ((Keep.refl [] _).drewN _) (by simp)) (by simp)) (by simp)).mono (fun b hb hl => by simp at hb; omega), .inl ⟨_, _, rfl, HE.o⟩⟩
theorem ParD.formD {n0 : Nat} {w w' : World} {e1 : Ending} (h : ParD n0 w e1 w') : Keep [] w w' ∧ ∃ (a : Option Addr) (n c : Nat) (er at_ : Int), e1 = .returned (.tuple #[.slice a n c, .int .i64 er, .int .i64 at_]) ∧ (er = 0 → ∃ fs xs, FsR (Frs w.heap.size w') w' (.slice a n c) fs ∧ PrG fs xs ∧ fs ≠ [] ∧ xs.flatten.length ≤ 8 * n0) := by
 obtain ⟨hk, h⟩ := h; refine ⟨hk, ?_⟩; rcases h with ⟨er, a, rfl, her⟩ | ⟨v, fs, xs, rfl, hf, hx, hne, hl⟩
 ·exact ⟨none, 0, 0, er, a, rfl, fun h => absurd h her⟩
 ·obtain ⟨a, c, rfl⟩ := hf.form; exact ⟨a, fs.length, c, 0, 0, rfl, fun _ => ⟨fs, xs, hf, hx, hne, hl⟩⟩
theorem sm_of {x : List It} (hf : Fine x) (hl : x.length ≤ 32000) : Sm x := ⟨by omega, by have := flat_len x hf; omega⟩
theorem prints_walk {w : World} (hv : VarOk w ∧ ∃ B, TabOk B w) (s t : ByteArray) (hs : s.size ≤ 140737488355328) (ht : t.size ≤ 140737488355328) : Calls Tryz.prog 3 #[.string s, .string t] w (YesP w) := by
 obtain ⟨hv, B, htab⟩ := hv; have HV := hyd hv; have HT := hyd htab; clear hv htab
 by_cases hbig : 4000 < s.size
 ·have hb' : (4000 : Int) < (s.size : Int) := by omega
  go_enter Tryz.func3, Tryz.ntmps3; go_wp2_with fail; refine (p_live HV.o).mono ?_; rintro e w1 ⟨rfl, hk⟩; have HK := hyd hk; clear hk; go_wp2_with fail; go_ret; exact ⟨rfl, HK.o⟩
 ·have hb1 : ¬ (4000 : Int) < (s.size : Int) := by omega
  by_cases hbig2 : 4000 < t.size
  ·have hb' : (4000 : Int) < (t.size : Int) := by omega
   go_enter Tryz.func3, Tryz.ntmps3; go_wp2_with fail; refine (p_live HV.o).mono ?_; rintro e w1 ⟨rfl, hk⟩; have HK := hyd hk; clear hk; go_wp2_with fail; go_ret; exact ⟨rfl, HK.o⟩
  ·have hb2 : ¬ (4000 : Int) < (t.size : Int) := by omega
   go_enter Tryz.func3, Tryz.ntmps3; go_wp2_with fail; refine (d_parse s (by omega) w).mono ?_; intro e w1 hres; obtain ⟨hk1, aA, nA, cA, er, atP, rfl, hpr⟩ := hres.formD; have HP := hyd (And.intro hpr hk1); clear hres hpr hk1; go_wp2_with fail; refine (d_expr t (by omega) w1).mono ?_; rintro e w2 ⟨cs, nd, ef, atE, rfl, hnd, hpe, hk2⟩; obtain ⟨kindA, numA, atA, nameA, p1A, n1A, c1A, p2A, n2A, c2A, p3A, n3A, c3A, rfl, -⟩ := id hnd.un7s; have HE := hyd (And.intro hnd (And.intro hpe hk2)); clear hnd hpe hk2; go_upto_region 5 with fail; have hkx := (Keep.refl [] w2).alloc (.cells #[.int .i64 kindA, .int .i64 numA, .string ⟨nameA.toArray⟩, .int .i64 atA, .slice p1A n1A c1A, .slice p2A n2A c2A, .slice p3A n3A c3A] 29); have hbz := heap_alloc_new w2 (.cells #[.int .i64 kindA, .int .i64 numA, .string ⟨nameA.toArray⟩, .int .i64 atA, .slice p1A n1A c1A, .slice p2A n2A c2A, .slice p3A n3A c3A] 29); have HKX := hyd ((HP.o.2.trans HE.o.2.2 (by simp)).trans hkx (by simp)); have HKX2 := hyd (HE.o.2.2.trans hkx (by simp)); have HBZ := hyd hbz; have HNDX := hyd (HE.o.1.keep hkx (by simp)); have HTX := hyd (HT.o.keep0 HKX.o); clear hkx hbz; generalize w2.alloc (.cells #[.int .i64 kindA, .int .i64 numA, .string ⟨nameA.toArray⟩, .int .i64 atA, .slice p1A n1A c1A, .slice p2A n2A c2A, .slice p3A n3A c3A] 29) = wx at *
   by_cases he : er = 0
   ·subst he; obtain ⟨fs, xs, hfs, hx, hne, hxl⟩ := HP.o.1 rfl; have hsm := sm_of (PrG.fine _ _ hx) (by omega); have hfx := hfs.keep HKX2.o (by simp); have HPP := hyd (fun W (k : Keep [] wx W) => p_print (w := W) (HTX.o.keep0 k) (hfx.keep k (by simp)) (fun b hb => Nat.lt_of_lt_of_le hb.2 (Nat.le_trans HKX2.o.size k.size)) hx hne hsm (by have := flat_len _ (PrG.fine _ _ hx); omega)); have HPD := hyd (fun W (k : Keep [] wx W) => d_print (w := W) (hfx.keep k (by simp)) hx hsm (by have := flat_len _ (PrG.fine _ _ hx); omega)); clear hfs hx hne hxl hsm hfx
    by_cases hf : ef = 0
    ·subst hf; obtain ⟨y, hy, hyl⟩ := HE.o.2.1 rfl; have hsy := sm_of (pr_fine hy).1.fine (by omega); have HTP := hyd (fun W (k : Keep [] wx W) => (tx_all B hy hsy).1 rfl W _ _ (HTX.o.keep0 k) (HNDX.o.keep k (by simp))); have HTD := hyd (fun W (k : Keep [] wx W) => (td_all hy hsy).1 rfl W _ _ (HNDX.o.keep k (by simp))); clear hy hyl hsy; refine wp_region_held_drew (S := fun w' => Keep [] wx w') (by kernel_rfl) ((Keep.refl [] wx).drew) (fun hHeld => ?_); refine tkL 0 ?vA0 rfl ?runA0 hHeld ?_
     case runA0 => (intro w9 hS9; go_simp; try exact rfl)
     try simp only [Act.put, lA, lZ, lS]
     refine tkL 1 (.bool true) rfl ?runA1 hHeld ?_
     case runA1 => (intro w9 hS9; go_simp; first | done | exact rfl | (simp [*]; done))
     try simp only [Act.put, lA, lZ, lS]
     refine tkL 2 ?vA2 rfl ?runA2 hHeld ?_
     case runA2 => (intro w9 hS9; go_simp; try exact rfl)
     try simp only [Act.put, lA, lZ, lS]
     refine tkL 3 ?vA3 rfl ?runA3 hHeld ?_
     case runA3 => (intro w9 hS9; go_simp; try exact rfl)
     try simp only [Act.put, lA, lZ, lS]
     refine tkL 5 ?vA5 rfl ?runA5 hHeld ?_
     case runA5 => (intro w9 hS9; go_simp; try exact rfl)
     try simp only [Act.put, lA, lZ, lS]
     refine rdH 4 rfl (fun K hK => ?_); go_simp; refine (HPP.o _ (Keep.refl [] wx).drew).mono ?_; rintro e wc1 ⟨⟨X1, rfl, hX⟩, hc1⟩; have HC1 := hyd ((Keep.refl [] wx).drew.trans hc1 (by simp)); clear hc1; go_wp2_with fail; refine hK.out _ _ HC1.o (fun hHeld2 => ?_); clear hK K hHeld; have hHeld := hHeld2; clear hHeld2
     try simp only [Act.put, lA, lZ, lS]
     have HX1 := hyd hX; clear hX; refine rdH 6 rfl (fun K hK => ?_); go_simp; refine (HPD.o _ HC1.o).mono ?_; rintro e wc2 ⟨⟨Y1, rfl, hY⟩, hc2⟩; have HC2 := hyd (HC1.o.trans hc2 (by simp)); clear hc2; go_wp2_with fail; refine hK.out _ _ HC2.o (fun hHeld2 => ?_); clear hK K hHeld; have hHeld := hHeld2; clear hHeld2
     try simp only [Act.put, lA, lZ, lS]
     obtain rfl : Y1 = X1 := by
      have h := hY.trans HX1.o.symm
      cases Y1; cases X1
      simp at h; simp [h]
     clear hY; refine tkL 7 (.bool false) rfl ?runA7 hHeld ?_
     case runA7 => (intro w9 hS9; go_simp; first | done | exact rfl | (simp; done))
     try simp only [Act.put, lA, lZ, lS]
     refine tkL 8 (.bool false) rfl ?runA8 hHeld ?_
     case runA8 => (intro w9 hS9; go_simp; first | done | exact rfl | (simp; done))
     try simp only [Act.put, lA, lZ, lS]
     refine tkL 9 ?vA9 rfl ?runA9 hHeld ?_
     case runA9 => (intro w9 hS9; go_simp; try exact rfl)
     try simp only [Act.put, lA, lZ, lS]
     refine tkL 10 ?vA10 rfl ?runA10 hHeld ?_
     case runA10 => (intro w9 hS9; go_simp; try exact rfl)
     try simp only [Act.put, lA, lZ, lS]
     refine tkL 11 (.bool true) rfl ?runA11 hHeld ?_
     case runA11 => (intro w9 hS9; go_simp; first | done | exact rfl | (simp [*]; done))
     try simp only [Act.put, lA, lZ, lS]
     refine tkL 12 ?vA12 rfl ?runA12 hHeld ?_
     case runA12 => (intro w9 hS9; go_simp; try exact rfl)
     try simp only [Act.put, lA, lZ, lS]
     refine tkL 13 ?vA13 rfl ?runA13 hHeld ?_
     case runA13 => (intro w9 hS9; obtain ⟨q0, q1, q2, q3, q4, q5, q6⟩ := cells7 (blkK HBZ.o hS9 (by simp)); go_simp; try exact rfl)
     try simp only [Act.put, lA, lZ, lS]
     refine tkL 15 ?vA15 rfl ?runA15 hHeld ?_
     case runA15 => (intro w9 hS9; obtain ⟨q0, q1, q2, q3, q4, q5, q6⟩ := cells7 (blkK HBZ.o hS9 (by simp)); go_simp; try exact rfl)
     try simp only [Act.put, lA, lZ, lS]
     refine rdH 14 rfl (fun K hK => ?_); go_simp; refine (HTP.o _ HC2.o).mono ?_; rintro e wc3 ⟨⟨X2, rfl, hX⟩, hc3⟩; have HC3 := hyd (HC2.o.trans hc3 (by simp)); clear hc3; go_wp2_with fail; refine hK.out _ _ HC3.o (fun hHeld2 => ?_); clear hK K hHeld; have hHeld := hHeld2; clear hHeld2
     try simp only [Act.put, lA, lZ, lS]
     have HX2 := hyd hX; clear hX; refine rdH 16 rfl (fun K hK => ?_); go_simp; refine (HTD.o _ HC3.o).mono ?_; rintro e wc4 ⟨⟨Y2, rfl, hY⟩, hc4⟩; have HC4 := hyd (HC3.o.trans hc4 (by simp)); clear hc4; go_wp2_with fail; refine hK.out _ _ HC4.o (fun hHeld2 => ?_); clear hK K hHeld; have hHeld := hHeld2; clear hHeld2
     try simp only [Act.put, lA, lZ, lS]
     obtain rfl : Y2 = X2 := by
      have h := hY.trans HX2.o.symm
      cases Y2; cases X2
      simp at h; simp [h]
     clear hY; refine tkL 17 (.bool false) rfl ?runA17 hHeld ?_
     case runA17 => (intro w9 hS9; go_simp; first | done | exact rfl | (simp; done))
     try simp only [Act.put, lA, lZ, lS]
     refine tkL 18 (.bool false) rfl ?runA18 hHeld ?_
     case runA18 => (intro w9 hS9; go_simp; first | done | exact rfl | (simp; done))
     try simp only [Act.put, lA, lZ, lS]
     refine tkL 19 (.bool false) rfl ?runA19 hHeld ?_
     case runA19 => (intro w9 hS9; go_simp; first | done | exact rfl | (simp; done))
     try simp only [Act.put, lA, lZ, lS]
     refine wpAnyH_done (by kernel_rfl) ?_ _; have HKF := hyd (HKX.o.trans (HC4.o) (by simp)); have HVF := hyd (HV.o.keep HKF.o); go_wp2_with fail; refine (p_live HVF.o).mono ?_; rintro e w6 ⟨rfl, hk6⟩; have HK6 := hyd (HKF.o.trans hk6 (by simp)); clear hk6; go_wp2_with fail; go_ret; exact ⟨rfl, HK6.o⟩
    ·have hf' : (ef == 0) = false := by simpa using hf
     clear hf; refine wp_region_held_drew (S := fun w' => Keep [] wx w') (by kernel_rfl) ((Keep.refl [] wx).drew) (fun hHeld => ?_); refine tkL 0 ?vB0 rfl ?runB0 hHeld ?_
     case runB0 => (intro w9 hS9; go_simp; try exact rfl)
     try simp only [Act.put, lA, lZ, lS]
     refine tkL 1 (.bool true) rfl ?runB1 hHeld ?_
     case runB1 => (intro w9 hS9; go_simp; first | done | exact rfl | (simp [*]; done))
     try simp only [Act.put, lA, lZ, lS]
     refine tkL 2 ?vB2 rfl ?runB2 hHeld ?_
     case runB2 => (intro w9 hS9; go_simp; try exact rfl)
     try simp only [Act.put, lA, lZ, lS]
     refine tkL 3 ?vB3 rfl ?runB3 hHeld ?_
     case runB3 => (intro w9 hS9; go_simp; try exact rfl)
     try simp only [Act.put, lA, lZ, lS]
     refine tkL 5 ?vB5 rfl ?runB5 hHeld ?_
     case runB5 => (intro w9 hS9; go_simp; try exact rfl)
     try simp only [Act.put, lA, lZ, lS]
     refine rdH 4 rfl (fun K hK => ?_); go_simp; refine (HPP.o _ (Keep.refl [] wx).drew).mono ?_; rintro e wc1 ⟨⟨X1, rfl, hX⟩, hc1⟩; have HC1 := hyd ((Keep.refl [] wx).drew.trans hc1 (by simp)); clear hc1; go_wp2_with fail; refine hK.out _ _ HC1.o (fun hHeld2 => ?_); clear hK K hHeld; have hHeld := hHeld2; clear hHeld2
     try simp only [Act.put, lA, lZ, lS]
     have HX1 := hyd hX; clear hX; refine rdH 6 rfl (fun K hK => ?_); go_simp; refine (HPD.o _ HC1.o).mono ?_; rintro e wc2 ⟨⟨Y1, rfl, hY⟩, hc2⟩; have HC2 := hyd (HC1.o.trans hc2 (by simp)); clear hc2; go_wp2_with fail; refine hK.out _ _ HC2.o (fun hHeld2 => ?_); clear hK K hHeld; have hHeld := hHeld2; clear hHeld2
     try simp only [Act.put, lA, lZ, lS]
     obtain rfl : Y1 = X1 := by
      have h := hY.trans HX1.o.symm
      cases Y1; cases X1
      simp at h; simp [h]
     clear hY; refine tkL 7 (.bool false) rfl ?runB7 hHeld ?_
     case runB7 => (intro w9 hS9; go_simp; first | done | exact rfl | (simp; done))
     try simp only [Act.put, lA, lZ, lS]
     refine tkL 8 (.bool false) rfl ?runB8 hHeld ?_
     case runB8 => (intro w9 hS9; go_simp; first | done | exact rfl | (simp; done))
     try simp only [Act.put, lA, lZ, lS]
     refine tkL 9 ?vB9 rfl ?runB9 hHeld ?_
     case runB9 => (intro w9 hS9; go_simp; try exact rfl)
     try simp only [Act.put, lA, lZ, lS]
     refine tkL 10 ?vB10 rfl ?runB10 hHeld ?_
     case runB10 => (intro w9 hS9; go_simp; try exact rfl)
     try simp only [Act.put, lA, lZ, lS]
     refine tkL 11 (.bool false) rfl ?runB11 hHeld ?_
     case runB11 => (intro w9 hS9; go_simp; first | done | exact rfl | (simp [*]; done))
     try simp only [Act.put, lA, lZ, lS]
     refine tkL 12 ?vB12 rfl ?runB12 hHeld ?_
     case runB12 => (intro w9 hS9; go_simp; try exact rfl)
     try simp only [Act.put, lA, lZ, lS]
     refine skL 13 rfl hHeld ?_
     try simp only [Act.put, lA, lZ, lS]
     refine skL 14 rfl hHeld ?_
     try simp only [Act.put, lA, lZ, lS]
     refine skL 15 rfl hHeld ?_
     try simp only [Act.put, lA, lZ, lS]
     refine skL 16 rfl hHeld ?_
     try simp only [Act.put, lA, lZ, lS]
     refine skL 17 rfl hHeld ?_
     try simp only [Act.put, lA, lZ, lS]
     refine tkL 18 (.bool false) rfl ?runB18 hHeld ?_
     case runB18 => (intro w9 hS9; go_simp; first | done | exact rfl | (simp; done))
     try simp only [Act.put, lA, lZ, lS]
     refine tkL 19 (.bool false) rfl ?runB19 hHeld ?_
     case runB19 => (intro w9 hS9; go_simp; first | done | exact rfl | (simp; done))
     try simp only [Act.put, lA, lZ, lS]
     refine wpAnyH_done (by kernel_rfl) ?_ _; have HKF := hyd (HKX.o.trans (HC2.o) (by simp)); have HVF := hyd (HV.o.keep HKF.o); go_wp2_with fail; refine (p_live HVF.o).mono ?_; rintro e w6 ⟨rfl, hk6⟩; have HK6 := hyd (HKF.o.trans hk6 (by simp)); clear hk6; go_wp2_with fail; go_ret; exact ⟨rfl, HK6.o⟩
   ·have he' : (er == 0) = false := by simpa using he
    clear he
    by_cases hf : ef = 0
    ·subst hf; obtain ⟨y, hy, hyl⟩ := HE.o.2.1 rfl; have hsy := sm_of (pr_fine hy).1.fine (by omega); have HTP := hyd (fun W (k : Keep [] wx W) => (tx_all B hy hsy).1 rfl W _ _ (HTX.o.keep0 k) (HNDX.o.keep k (by simp))); have HTD := hyd (fun W (k : Keep [] wx W) => (td_all hy hsy).1 rfl W _ _ (HNDX.o.keep k (by simp))); clear hy hyl hsy; refine wp_region_held_drew (S := fun w' => Keep [] wx w') (by kernel_rfl) ((Keep.refl [] wx).drew) (fun hHeld => ?_); refine tkL 0 ?vC0 rfl ?runC0 hHeld ?_
     case runC0 => (intro w9 hS9; go_simp; try exact rfl)
     try simp only [Act.put, lA, lZ, lS]
     refine tkL 1 (.bool false) rfl ?runC1 hHeld ?_
     case runC1 => (intro w9 hS9; go_simp; first | done | exact rfl | (simp [*]; done))
     try simp only [Act.put, lA, lZ, lS]
     refine tkL 2 ?vC2 rfl ?runC2 hHeld ?_
     case runC2 => (intro w9 hS9; go_simp; try exact rfl)
     try simp only [Act.put, lA, lZ, lS]
     refine skL 3 rfl hHeld ?_
     try simp only [Act.put, lA, lZ, lS]
     refine skL 4 rfl hHeld ?_
     try simp only [Act.put, lA, lZ, lS]
     refine skL 5 rfl hHeld ?_
     try simp only [Act.put, lA, lZ, lS]
     refine skL 6 rfl hHeld ?_
     try simp only [Act.put, lA, lZ, lS]
     refine skL 7 rfl hHeld ?_
     try simp only [Act.put, lA, lZ, lS]
     refine tkL 8 (.bool false) rfl ?runC8 hHeld ?_
     case runC8 => (intro w9 hS9; go_simp; first | done | exact rfl | (simp; done))
     try simp only [Act.put, lA, lZ, lS]
     refine tkL 9 ?vC9 rfl ?runC9 hHeld ?_
     case runC9 => (intro w9 hS9; go_simp; try exact rfl)
     try simp only [Act.put, lA, lZ, lS]
     refine tkL 10 ?vC10 rfl ?runC10 hHeld ?_
     case runC10 => (intro w9 hS9; go_simp; try exact rfl)
     try simp only [Act.put, lA, lZ, lS]
     refine tkL 11 (.bool true) rfl ?runC11 hHeld ?_
     case runC11 => (intro w9 hS9; go_simp; first | done | exact rfl | (simp [*]; done))
     try simp only [Act.put, lA, lZ, lS]
     refine tkL 12 ?vC12 rfl ?runC12 hHeld ?_
     case runC12 => (intro w9 hS9; go_simp; try exact rfl)
     try simp only [Act.put, lA, lZ, lS]
     refine tkL 13 ?vC13 rfl ?runC13 hHeld ?_
     case runC13 => (intro w9 hS9; obtain ⟨q0, q1, q2, q3, q4, q5, q6⟩ := cells7 (blkK HBZ.o hS9 (by simp)); go_simp; try exact rfl)
     try simp only [Act.put, lA, lZ, lS]
     refine tkL 15 ?vC15 rfl ?runC15 hHeld ?_
     case runC15 => (intro w9 hS9; obtain ⟨q0, q1, q2, q3, q4, q5, q6⟩ := cells7 (blkK HBZ.o hS9 (by simp)); go_simp; try exact rfl)
     try simp only [Act.put, lA, lZ, lS]
     refine rdH 14 rfl (fun K hK => ?_); go_simp; refine (HTP.o _ (Keep.refl [] wx).drew).mono ?_; rintro e wc1 ⟨⟨X2, rfl, hX⟩, hc1⟩; have HC1 := hyd ((Keep.refl [] wx).drew.trans hc1 (by simp)); clear hc1; go_wp2_with fail; refine hK.out _ _ HC1.o (fun hHeld2 => ?_); clear hK K hHeld; have hHeld := hHeld2; clear hHeld2
     try simp only [Act.put, lA, lZ, lS]
     have HX2 := hyd hX; clear hX; refine rdH 16 rfl (fun K hK => ?_); go_simp; refine (HTD.o _ HC1.o).mono ?_; rintro e wc2 ⟨⟨Y2, rfl, hY⟩, hc2⟩; have HC2 := hyd (HC1.o.trans hc2 (by simp)); clear hc2; go_wp2_with fail; refine hK.out _ _ HC2.o (fun hHeld2 => ?_); clear hK K hHeld; have hHeld := hHeld2; clear hHeld2
     try simp only [Act.put, lA, lZ, lS]
     obtain rfl : Y2 = X2 := by
      have h := hY.trans HX2.o.symm
      cases Y2; cases X2
      simp at h; simp [h]
     clear hY; refine tkL 17 (.bool false) rfl ?runC17 hHeld ?_
     case runC17 => (intro w9 hS9; go_simp; first | done | exact rfl | (simp; done))
     try simp only [Act.put, lA, lZ, lS]
     refine tkL 18 (.bool false) rfl ?runC18 hHeld ?_
     case runC18 => (intro w9 hS9; go_simp; first | done | exact rfl | (simp; done))
     try simp only [Act.put, lA, lZ, lS]
     refine tkL 19 (.bool false) rfl ?runC19 hHeld ?_
     case runC19 => (intro w9 hS9; go_simp; first | done | exact rfl | (simp; done))
     try simp only [Act.put, lA, lZ, lS]
     refine wpAnyH_done (by kernel_rfl) ?_ _; have HKF := hyd (HKX.o.trans (HC2.o) (by simp)); have HVF := hyd (HV.o.keep HKF.o); go_wp2_with fail; refine (p_live HVF.o).mono ?_; rintro e w6 ⟨rfl, hk6⟩; have HK6 := hyd (HKF.o.trans hk6 (by simp)); clear hk6; go_wp2_with fail; go_ret; exact ⟨rfl, HK6.o⟩
    ·have hf' : (ef == 0) = false := by simpa using hf
     clear hf; refine wp_region_held_drew (S := fun w' => Keep [] wx w') (by kernel_rfl) ((Keep.refl [] wx).drew) (fun hHeld => ?_); refine tkL 0 ?vD0 rfl ?runD0 hHeld ?_
     case runD0 => (intro w9 hS9; go_simp; try exact rfl)
     try simp only [Act.put, lA, lZ, lS]
     refine tkL 1 (.bool false) rfl ?runD1 hHeld ?_
     case runD1 => (intro w9 hS9; go_simp; first | done | exact rfl | (simp [*]; done))
     try simp only [Act.put, lA, lZ, lS]
     refine tkL 2 ?vD2 rfl ?runD2 hHeld ?_
     case runD2 => (intro w9 hS9; go_simp; try exact rfl)
     try simp only [Act.put, lA, lZ, lS]
     refine skL 3 rfl hHeld ?_
     try simp only [Act.put, lA, lZ, lS]
     refine skL 4 rfl hHeld ?_
     try simp only [Act.put, lA, lZ, lS]
     refine skL 5 rfl hHeld ?_
     try simp only [Act.put, lA, lZ, lS]
     refine skL 6 rfl hHeld ?_
     try simp only [Act.put, lA, lZ, lS]
     refine skL 7 rfl hHeld ?_
     try simp only [Act.put, lA, lZ, lS]
     refine tkL 8 (.bool false) rfl ?runD8 hHeld ?_
     case runD8 => (intro w9 hS9; go_simp; first | done | exact rfl | (simp; done))
     try simp only [Act.put, lA, lZ, lS]
     refine tkL 9 ?vD9 rfl ?runD9 hHeld ?_
     case runD9 => (intro w9 hS9; go_simp; try exact rfl)
     try simp only [Act.put, lA, lZ, lS]
     refine tkL 10 ?vD10 rfl ?runD10 hHeld ?_
     case runD10 => (intro w9 hS9; go_simp; try exact rfl)
     try simp only [Act.put, lA, lZ, lS]
     refine tkL 11 (.bool false) rfl ?runD11 hHeld ?_
     case runD11 => (intro w9 hS9; go_simp; first | done | exact rfl | (simp [*]; done))
     try simp only [Act.put, lA, lZ, lS]
     refine tkL 12 ?vD12 rfl ?runD12 hHeld ?_
     case runD12 => (intro w9 hS9; go_simp; try exact rfl)
     try simp only [Act.put, lA, lZ, lS]
     refine skL 13 rfl hHeld ?_
     try simp only [Act.put, lA, lZ, lS]
     refine skL 14 rfl hHeld ?_
     try simp only [Act.put, lA, lZ, lS]
     refine skL 15 rfl hHeld ?_
     try simp only [Act.put, lA, lZ, lS]
     refine skL 16 rfl hHeld ?_
     try simp only [Act.put, lA, lZ, lS]
     refine skL 17 rfl hHeld ?_
     try simp only [Act.put, lA, lZ, lS]
     refine tkL 18 (.bool false) rfl ?runD18 hHeld ?_
     case runD18 => (intro w9 hS9; go_simp; first | done | exact rfl | (simp; done))
     try simp only [Act.put, lA, lZ, lS]
     refine tkL 19 (.bool false) rfl ?runD19 hHeld ?_
     case runD19 => (intro w9 hS9; go_simp; first | done | exact rfl | (simp; done))
     try simp only [Act.put, lA, lZ, lS]
     refine wpAnyH_done (by kernel_rfl) ?_ _; have HKF := hyd (HKX.o.trans ((Keep.refl [] wx).drew) (by simp)); have HVF := hyd (HV.o.keep HKF.o); go_wp2_with fail; refine (p_live HVF.o).mono ?_; rintro e w6 ⟨rfl, hk6⟩; have HK6 := hyd (HKF.o.trans hk6 (by simp)); clear hk6; go_wp2_with fail; go_ret; exact ⟨rfl, HK6.o⟩
end Go.Proofs.YtdmmhfbafinkpaaGreatDoor
