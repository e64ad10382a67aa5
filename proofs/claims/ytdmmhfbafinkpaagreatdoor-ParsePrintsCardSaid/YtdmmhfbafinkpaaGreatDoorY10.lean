/- ParsePrints: a part of the proof (Qg, Qh, Qi, Qn, Ql, PbQ, PbR, PbS, PbT, PbV, PbX, PbY, Pb1, Pb2, Pb3), squeezed by squeeze.py. -/
import Derived.Test.YtdmmhfbafinkpaaGreatDoorY09
import Derived.Test.YtdmmhfbafinkpaaGreatDoorY01
import Derived.Deep.AppendSrc
import Derived.Test.YtdmmhfbafinkpaaGreatDoorY02
import Derived.Test.YtdmmhfbafinkpaaGreatDoorY08
import Derived.Test.YtdmmhfbafinkpaaGreatDoorY07
import Derived.Test.YtdmmhfbafinkpaaGreatDoorY06
set_option maxRecDepth 100000
set_option maxHeartbeats 8000000
namespace Go.Proofs.YtdmmhfbafinkpaaGreatDoor
open Go.RowKit Go.Emb
abbrev OkJ (j : Nat) (n : Nd) (c : Nat) : Prop := ∃ x, Pr j n x ∧ x.length ≤ c
theorem tot_app (a b : List (List It)) : tot (a ++ b) = tot a + tot b := by simp [tot]
theorem tot_len (ls : List (List It)) : 2 * ls.length ≤ tot ls := by
 induction ls with
 | nil => simp
 | cons a l ih => rw [tot_cons]; simp only [List.length_cons]; omega
theorem PL.snoc {j : Nat} {l : List Nd} {ls : List (List It)} {n : Nd} {x : List It} (h : PL j l ls) (hx : Pr j n x) : PL j (l ++ [n]) (ls ++ [x]) := by
 obtain ⟨h1, h2⟩ := h; refine ⟨by simp [h1], fun i hi hi' => ?_⟩
 by_cases hlt : i < l.length
 ·rw [List.getElem_append_left hlt, List.getElem_append_left (by omega)]; exact h2 i hlt (by omega)
 ·obtain rfl : i = l.length := by simp at hi; omega
  have e1 : (l ++ [n])[l.length]'hi = n := by simp
  have e2 : (ls ++ [x])[l.length]'hi' = x := by rw [List.getElem_append_right (by omega)]; simp [h1]
  rw [e1, e2]; exact hx
theorem ok_one {j : Nat} {l : List TkD} {r r' : Nat} {e e' : Int} {n : Nd} (h : Got l r r' e e' (OkJ j n)) : Got l r r' e e' (OkL j [n]) := by
 obtain ⟨h1, h2, h3⟩ := h; refine ⟨h1, h2, fun he => ?_⟩; obtain ⟨c, ⟨x, hx, hxl⟩, hc⟩ := h3 he; exact ⟨c, ⟨by simp, [x], PL.cons hx (PL.nil j), by rw [tot_cons]; simp [tot]; omega⟩, hc⟩
theorem ok_snoc {j : Nat} {l : List TkD} {r ri r' : Nat} {e e' : Int} {l' : List Nd} {n : Nd} (hr : ri < l.length) (h1 : Got l r ri e 0 (OkL j l')) (h2 : Got l (ri + 1) r' 0 e' (OkJ j n)) : Got l r r' e e' (OkL j (l' ++ [n])) := by
 obtain ⟨a1, a2, a3⟩ := h1; obtain ⟨b1, b2, b3⟩ := h2; refine ⟨by omega, fun he => absurd rfl (a2 he), fun he => ?_⟩; obtain ⟨c1, ⟨-, ls, hls, hll⟩, hc1⟩ := a3 rfl; obtain ⟨c2, ⟨x, hx, hxl⟩, hc2⟩ := b3 he; exact ⟨c1 + c2 + 2, ⟨by simp, ls ++ [x], hls.snoc hx, by rw [tot_app, tot_cons]; simp [tot] at hll ⊢; omega⟩, by omega⟩
theorem okl_len {j : Nat} {l : List TkD} {r ri : Nat} {e : Int} {l' : List Nd} (h : Got l r ri e 0 (OkL j l')) : l'.length ≤ 4 * l.length + 1 := by
 obtain ⟨c, ⟨-, ls, hls, hll⟩, hc⟩ := h.2.2 rfl; have := tot_len ls; have := hls.1
 omega
theorem RowN.lit1 {lo : Nat} {w : World} {k : Bool} {e : List Value} {n : Nd} {cs : Array Value} (hlo : lo ≤ w.heap.size) (hcs : cs = e.toArray) (h : NdR (Frs lo w) w k e n) :
  RowN lo (w.alloc (.cells cs (if k then 52 else 29))) k (.slice (some ⟨w.heap.size, 0, none⟩) 1 1) [n] (some w.heap.size) := by
 subst hcs; have hk := (Keep.refl [] w).alloc (.cells e.toArray (if k then 52 else 29)); have hb := heap_alloc_new w (.cells e.toArray (if k then 52 else 29)); have hlen := h.len; refine ⟨[e], ?_, rfl, fun i h1 h2 => ?_, fun b hb => by cases hb; exact hlo⟩
 ·exact ⟨by simp [hlen], .inr ⟨w.heap.size, 0, 1, e.toArray, rfl, rfl, hb, Nat.le_refl _, by simp [maxLen], by simp [hlen], fun i hi => by simp⟩⟩
 ·have : i = 0 := by simp at h1; omega
  subst this
  exact (h.keep hk (by simp)).mono (fun b hb => ⟨hb.1, Nat.lt_of_lt_of_le hb.2 hk.size, fun e => by
    cases e
    exact absurd hb.2 (Nat.lt_irrefl _)⟩)
theorem x_list {lo pb : Nat} {l : List TkD} (hl : ∀ t ∈ l, TokD t) (hll : l.length ≤ 16384) {w : World} {r : Nat} {e : Int} {d : Nat} (ih : AllD lo pb l (32 * mu l r e + 13)) (h : InD lo w pb l r e d) :
  Calls Tryz.prog 101 #[.pointer (some ⟨pb, 0, none⟩), .int .i64 d] w (ListD lo w pb false l r e (OkL 0)) := by
 obtain ⟨i0, hi0, hz0, hz1, hz2⟩ := info3 node_info; have HI := hyd hi0; have IH := hyd ih; have HL := hyd hl; have H := hyd h; have HE := hyd (ih.expr h (by omega)); clear hi0 ih h hl; go_enter Tryz.func101, Tryz.ntmps101; go_wp2_with fail; refine HE.o.mono ?_; rintro e1 w2 ⟨cs, n, r2, e2, rfl, hnd, hdp, hgot, hk2⟩; obtain ⟨kind, num, at_, name, p1, n1, c1, p2, n2, c2, p3, n3, c3, rfl, -⟩ := id hnd.un7s; have hk3 := (Keep.refl [] w2).alloc (.cells #[.int .i64 kind, .int .i64 num, .string ⟨name.toArray⟩, .int .i64 at_, .slice p1 n1 c1, .slice p2 n2 c2, .slice p3 n3 c3] 29)
 have HINIT := hyd (show ∃ (l' : List Nd) (ri : Nat) (ei : Int) (o : Option Nat), RowN w.heap.size (w2.alloc (.cells #[.int .i64 kind, .int .i64 num, .string ⟨name.toArray⟩, .int .i64 at_, .slice p1 n1 c1, .slice p2 n2 c2, .slice p3 n3 c3] 29)) false (.slice (some ⟨w2.heap.size, 0, none⟩) 1 1) l' o ∧ DP lo (w2.alloc (.cells #[.int .i64 kind, .int .i64 num, .string ⟨name.toArray⟩, .int .i64 at_, .slice p1 n1 c1, .slice p2 n2 c2, .slice p3 n3 c3] 29)) pb l ri ei ∧ Got l r ri e ei (OkL 0 l') ∧ l'.length + r ≤ ri + 1 ∧ Keep [pb] w (w2.alloc (.cells #[.int .i64 kind, .int .i64 num, .string ⟨name.toArray⟩, .int .i64 at_, .slice p1 n1 c1, .slice p2 n2 c2, .slice p3 n3 c3] 29)) from
   ⟨[n], r2, e2, _, RowN.lit1 hk2.size rfl hnd, hdp.keep0 hk3, ok_one hgot, by have := hgot.1; simp; omega, hk2.trans (hk3.mono (G := [pb]) (by simp)) (by simp)⟩)
 clear hnd hdp hgot hk2 hk3 HE; go_wp2_with fail
 go_loopw [5] (fun v wr => ∃ (l' : List Nd) (ri : Nat) (ei : Int) (o : Option Nat), RowN w.heap.size wr false v l' o ∧ DP lo wr pb l ri ei ∧ Got l r ri e ei (OkL 0 l') ∧ l'.length + r ≤ ri + 1 ∧ Keep [pb] w wr) (fun _ wr => l.length - rcell wr pb)
 case atStart => exact HINIT.o
 case round =>
  obtain ⟨l', ri, ei, o, hrow, hdp, hgot, hln, hkw⟩ := hrel; have HLN := hyd hln; clear hln; obtain ⟨pa, pc, rfl⟩ := hrow.form; have HTK := hyd (d_take hdp [44]); unfold rD at HTK; have hcase : isD l ri ei [44] = false ∨ isD l ri ei [44] = true := by cases isD l ri ei [44] <;> simp
  have HROW := hyd hrow; have HG := hyd hgot; have HKW := hyd hkw; have HRC := hyd hdp.rc; have hplo := H.o.dp.plo; have hlw := H.o.lw; clear hrow hdp hgot hkw HINIT; rcases hcase with his | his
  ·rw [if_neg (by rw [his]; simp), his] at HTK; clear his; go_wp2_with fail; refine HTK.o.mono ?_; rintro e1 w3 ⟨rfl, hdp3, hk3⟩; have HD3 := hyd hdp3; have HK3 := hyd (HKW.o.trans hk3 (by simp)); have HR3 := hyd (HROW.o.keep hk3 (by simp; omega)); clear hdp3 hk3; go_wp2_with fail; go_ret; exact ⟨_, l', ri, ei, rfl, HR3.o.ns, HD3.o, HG.o, HLN.o, HK3.o⟩
  ·rw [if_pos his, his] at HTK; obtain ⟨rfl, hri, -⟩ := isD_iff his; obtain rfl : e = 0 := Classical.byContradiction fun hn => HG.o.2.1 hn rfl
   have hlm := okl_len HG.o; have hrr := HG.o.1; have HMU := hyd (show mu l (ri + 1) 0 < mu l r 0 from mu_lt (by omega) (by omega)); clear his; go_wp2_with fail; refine HTK.o.mono ?_; rintro e1 w3 ⟨rfl, hdp3, hk3⟩; have HKW3 := hyd (HKW.o.trans hk3 (by simp)); have HR3 := hyd (HROW.o.keep hk3 (by simp; omega)); have HE := hyd (IH.o.expr (H.o.next hdp3 HKW3.o.size (by omega)) (by have := HMU.o; omega)); clear hdp3 hk3; go_wp2_with fail; refine HE.o.mono ?_; rintro e1 w4 ⟨cs, n, r4, e4, rfl, hnd, hdp4, hgot4, hk4⟩; obtain ⟨kind, num, at_, name, p1, n1, c1, p2, n2, c2, p3, n3, c3, rfl, -⟩ := id hnd.un7s; have hol : ∀ b, o = some b → b < w3.heap.size := HR3.o.lt; obtain ⟨es, hrow5, hpush⟩ := (HR3.o.keep hk4 (by simp; omega)).app hnd HKW3.o.size hk4.size hol #[.int .i64 kind, .int .i64 num, .string ⟨name.toArray⟩, .int .i64 at_, .slice p1 n1 c1, .slice p2 n2 c2, .slice p3 n3 c3] 29; have hk5 := (Keep.refl [] w4).alloc (.cells #[.int .i64 kind, .int .i64 num, .string ⟨name.toArray⟩, .int .i64 at_, .slice p1 n1 c1, .slice p2 n2 c2, .slice p3 n3 c3] 29); have HSRC := hyd (src_lit1 (P := Tryz.prog) w4 [.int .i64 kind, .int .i64 num, .string ⟨name.toArray⟩, .int .i64 at_, .slice p1 n1 c1, .slice p2 n2 c2, .slice p3 n3 c3] 7 rfl hnd.one 26 29 29 Tryz.underlying26); have HROW5 := hyd hrow5; have HPUSH := hyd hpush; have HD5 := hyd (hdp4.keep0 hk5); have HK5 := hyd (hk4.trans (hk5.mono (G := [pb]) (by simp)) (by simp)); have HG4 := hyd hgot4; have HOGE := hyd (show ∀ b, o = some b → w.heap.size ≤ b by obtain ⟨_, -, -, -, h⟩ := HROW.o; exact h); clear hrow5 hpush hk5 hdp4 hgot4 hk4 hnd hol HTK
   go_wp2_with (at_builtin; go_loud (refine wpList_append_row _ rfl _ _ 26 26 rfl 29 i0 _ 7 112 Tryz.underlying26 HI.o hz0 hz1 hz2 rfl _ _ _ o rfl HROW5.o _ rfl 1 _ HSRC.o (by omega) (by unfold maxLen; omega) (by omega) ?_))
   intro g off cap w6 hr6 hk6 hg6; have hk6g : ∀ b ∈ o.toList, w.heap.size ≤ b := fun b hb => HOGE.o b (by simpa using hb)
   have HR6 := hyd (HPUSH.o g _ w6 hr6 hk6 (by simpa using hg6)); have HD6 := hyd (HD5.o.keep hk6 (fun b hb => Nat.le_trans hlw (hk6g b hb))); have HK6 := hyd (keepB (pb := pb) (lo := w.heap.size) (((HKW3.o.trans HK5.o (by simp)).mono (G := pb :: o.toList) (by simp)).trans (hk6.mono (G := pb :: o.toList) (by intro b hb _; simp at hb ⊢; simp [hb])) (fun x hx => .inl hx)) (by intro b hb; simp at hb; rcases hb with hb | hb; (· exact .inl hb); exact .inr (HOGE.o b hb)) (Nat.le_refl _)); clear hr6 hk6 hg6 hk6g HPUSH HSRC HROW5; go_wp2_with fail; go_roundw
   case rel => exact ⟨l' ++ [n], r4, e4, some g, HR6.o, HD6.o, ok_snoc hri HG.o HG4.o, by have := HG4.o.1; have := HLN.o; simp; omega, HK6.o⟩
   case measure =>
    rw [HD6.o.rc, HRC.o]; have := HG4.o.1
    omega
theorem ok_until {l : List TkD} {r r2 r3 : Nat} {e e2 e3 : Int} {l' : List Nd} {x : List UInt8} (h : Got l r r2 e e2 (OkL 0 l')) (hm : isD l r2 e2 x = true ∧ r3 = r2 + 1 ∧ e3 = e2 ∨ isD l r2 e2 x = false ∧ r3 = r2 ∧ e3 ≠ 0) : Got l r r3 e e3 (OkU l') := by
 rcases hm with ⟨hi, rfl, rfl⟩ | ⟨-, rfl, he⟩
 ·obtain ⟨rfl, hr, -⟩ := isD_iff hi; obtain ⟨a1, a2, a3⟩ := h; refine ⟨by omega, a2, fun _ => ?_⟩; obtain ⟨c, ⟨-, ls, hls, hll⟩, hc⟩ := a3 rfl; exact ⟨c + 8, ⟨ls, hls, by omega⟩, by omega⟩
 ·exact Got.err h.1 he
theorem x_maybe {lo pb : Nat} {l : List TkD} {w : World} {r : Nat} {e : Int} {d : Nat} (x : List UInt8) (ih : AllD lo pb l (32 * mu l r e + 14)) (h : InD lo w pb l r e d) :
  Calls Tryz.prog 77 #[.pointer (some ⟨pb, 0, none⟩), .string ⟨x.toArray⟩, .int .i64 d] w (ListD lo w pb false l r e OkU) := by
 have HTK := hyd (d_take h.dp x); have HL := hyd (fun (W : World) (hd : DP lo W pb l r e) (hs : w.heap.size ≤ W.heap.size) => ih.list (h.next hd hs (Nat.le_refl _)) (by omega)); have hplo := h.dp.plo; have hlw := h.lw; unfold rD at HTK; clear ih h
 by_cases his : isD l r e x = true
 ·rw [if_pos his, his] at HTK; obtain ⟨rfl, hr, -⟩ := isD_iff his; clear his HL; go_enter Tryz.func77, Tryz.ntmps77; go_wp2_with fail; refine HTK.o.mono ?_; rintro e1 w1 ⟨rfl, hdp, hk⟩; have HD := hyd (And.intro hdp hk); clear hdp hk; go_wp2_with fail; go_ret; exact ⟨_, [], r + 1, 0, rfl, NsR.nil _ _ _, HD.o.1, ⟨by omega, fun h => h, fun _ => ⟨6, ⟨[], PL.nil 0, by simp [tot]⟩, by omega⟩⟩, by simp; omega, HD.o.2⟩
 ·rw [if_neg his] at HTK; simp only [Bool.not_eq_true] at his; rw [his] at HTK; clear his; go_enter Tryz.func77, Tryz.ntmps77; go_wp2_with fail; refine HTK.o.mono ?_; rintro e1 w1 ⟨rfl, hdp, hk⟩; have HC := hyd (HL.o w1 hdp hk.size); have HK := hyd hk; clear hdp hk; go_wp2_with fail; refine HC.o.mono ?_; rintro e1 w2 ⟨v, l', r2, e2, rfl, hns, hdp2, hgot, hln, hk2⟩; have HLN := hyd hln; clear hln; have HM := hyd (d_must hdp2 x); have HNS := hyd hns; have HG := hyd hgot; have HK2 := hyd (HK.o.trans hk2 (by simp)); clear hns hdp2 hgot hk2; go_wp2_with fail; refine HM.o.mono ?_; rintro e1 w3 ⟨rfl, ⟨r3, e3, hdp3, hcase⟩, hk3⟩; have HD := hyd (And.intro hdp3 (And.intro hcase hk3)); clear hdp3 hcase hk3; go_wp2_with fail; go_ret; exact ⟨_, l', r3, e3, rfl, HNS.o.up HD.o.2.2 (by simp; have := HK.o.size; omega) HK.o.size, HD.o.1, ok_until HG.o HD.o.2.1, by have := HLN.o; rcases HD.o.2.1 with ⟨-, h, -⟩ | ⟨-, h, -⟩ <;> omega, HK2.o.trans HD.o.2.2 (by simp)⟩
theorem ok_tail {l : List TkD} {r r2 r3 r4 : Nat} {e e2 e3 e4 : Int} {g b : List Nd} (hg : g = [] ∧ r2 = r ∧ e2 = e ∨ isD l r e sWhen = true ∧ Got l (r + 1) r2 0 e2 (OkL 0 g)) (hm : isD l r2 e2 sTo = true ∧ r3 = r2 + 1 ∧ e3 = e2 ∨ isD l r2 e2 sTo = false ∧ r3 = r2 ∧ e3 ≠ 0) (hb : Got l r3 r4 e3 e4 (OkL 0 b)) : Got l r r4 e e4 (OkT g b) := by
 have h2 : r ≤ r2 ∧ (e ≠ 0 → e2 ≠ 0) := by
  rcases hg with ⟨-, rfl, rfl⟩ | ⟨hi, h⟩
  ·exact ⟨Nat.le_refl _, fun h => h⟩
  ·obtain ⟨rfl, -⟩ := isD_iff hi; exact ⟨by have := h.1; omega, fun h => absurd rfl h⟩
 rcases hm with ⟨hi, rfl, rfl⟩ | ⟨-, rfl, he⟩
 ·obtain ⟨rfl, hr, -⟩ := isD_iff hi; refine ⟨by have := hb.1; omega, fun h => absurd rfl (h2.2 h), fun he4 => ?_⟩; obtain ⟨cb, ⟨hb0, bs, hbs, hbl⟩, hcb⟩ := hb.2.2 he4; rcases hg with ⟨rfl, rfl, rfl⟩ | ⟨hi2, hgg⟩
  ·refine ⟨cb + 5, ⟨hb0, [], bs, PL.nil 0, hbs, ?_⟩, by omega⟩; have := tail_len [] bs; simp [tot] at this hbl ⊢
   omega
  ·obtain ⟨rfl, hr2, -⟩ := isD_iff hi2; obtain ⟨cg, ⟨hg0, gs, hgs, hgl⟩, hcg⟩ := hgg.2.2 rfl; refine ⟨cb + cg + 10, ⟨hb0, gs, bs, hgs, hbs, ?_⟩, by have := hgg.1; omega⟩; have := tail_len gs bs; have h3 : (if gs = [] then 0 else 3) ≤ 3 := by split <;> omega
   omega
 ·exact Got.err (by have := hb.1; omega) (hb.2.1 he)
theorem x_tail {lo pb : Nat} {l : List TkD} {w : World} {r : Nat} {e : Int} {d : Nat} {pa : Option Addr} {pn pc : Nat} {nm : List UInt8} {at_ : Int} (ih : AllD lo pb l (32 * mu l r e + 14)) (h : InD lo w pb l r e d) :
  Calls Tryz.prog 78 #[.pointer (some ⟨pb, 0, none⟩), .agg #[.slice pa pn pc, .slice none 0 0, .slice none 0 0, .string ⟨nm.toArray⟩, .int .i64 at_], .int .i64 d] w (TailD lo w pb (.slice pa pn pc) nm at_ l r e) := by
 have HL := hyd (fun (W : World) (r' : Nat) (e' : Int) (hd : DP lo W pb l r' e') (hs : w.heap.size ≤ W.heap.size) (hr : r ≤ r') (he : e ≠ 0 → e' ≠ 0) => ih.list (h.next hd hs hr) (by have := mu_mono (l := l) hr he; omega)); have hplo := h.dp.plo; have hlw := h.lw; obtain ⟨C, hC⟩ : ∃ C, C = w.heap.size := ⟨_, rfl⟩; have hk1 := (Keep.refl [] w).alloc (.cells #[.slice pa pn pc, .slice none 0 0, .slice none 0 0, .string ⟨nm.toArray⟩, .int .i64 at_] 52); have hc1 := heap_alloc_new w (.cells #[.slice pa pn pc, .slice none 0 0, .slice none 0 0, .string ⟨nm.toArray⟩, .int .i64 at_] 52); have hk2 := (Keep.refl [] (w.alloc (.cells #[.slice pa pn pc, .slice none 0 0, .slice none 0 0, .string ⟨nm.toArray⟩, .int .i64 at_] 52))).alloc zC; have hb2 := heap_alloc_new (w.alloc (.cells #[.slice pa pn pc, .slice none 0 0, .slice none 0 0, .string ⟨nm.toArray⟩, .int .i64 at_] 52)) zC; have hc2 := blkK hc1 hk2 (by simp); rw [size_alloc] at hb2; have hk12 := hk1.trans hk2 (by simp); have hdp2 := h.dp.keep0 hk12; have hs2 : C + 2 ≤ ((w.alloc (.cells #[.slice pa pn pc, .slice none 0 0, .slice none 0 0, .string ⟨nm.toArray⟩, .int .i64 at_] 52)).alloc zC).heap.size := by rw [size_alloc, size_alloc]; omega
 have HTK := hyd (d_take hdp2 sWhen); have HC2 := hyd hc2; have HB2 := hyd hb2; have HK2 := hyd hk12; have HS2 := hyd hs2; rw [← hC] at HC2 HB2; have HCC := hyd hC; have hCp : C ≠ pb := by omega
 have hBp : C + 1 ≠ pb := by omega
 have HCP := hyd (And.intro hCp hBp); clear ih h hk1 hc1 hk2 hb2 hc2 hk12 hdp2 hs2 hC hCp hBp; unfold rD at HTK
 by_cases his : isD l r e sWhen = true
 ·rw [if_pos his, his] at HTK; have HIS := hyd his; obtain ⟨rfl, hr, -⟩ := isD_iff his; clear his; go_enter Tryz.func78, Tryz.ntmps78; go_wp2_with fail; refine HTK.o.mono ?_; rintro e1 w3 ⟨rfl, hdp3, hk3⟩; have HC3 := hyd (blkK HC2.o hk3 (by simpa using HCP.o.1)); have HB3 := hyd (blkK HB2.o hk3 (by simpa using HCP.o.2)); have HK3 := hyd ((HK2.o.mono (G := [pb]) (by simp)).trans hk3 (by simp)); have HS3 := hyd (Nat.le_trans HS2.o hk3.size); have HC := hyd (HL.o w3 _ _ hdp3 HK3.o.size (by omega) (fun h => h)); clear hdp3 hk3; rw [← HCC.o]; go_wp2_with fail; refine HC.o.mono ?_; rintro e1 w4 ⟨gv, g, r2, e2, rfl, hns, hdp4, hgot, -, hk4⟩; obtain ⟨ga, gc, rfl⟩ := hns.form; have HC4 := blkK HC3.o hk4 (by simpa using HCP.o.1); have HB4 := blkK HB3.o hk4 (by simpa using HCP.o.2); have hns4 := hns.box (lo := C) (X := [C, C + 1]) (by have := HS3.o; omega) (by simp; have := HS3.o; omega); obtain ⟨c0, c1, c2, c3, c4⟩ := cells5 HC4; have f4 := frozenP HC4; obtain ⟨hc5, hk5⟩ := set5a (i := 1) HC4 (.slice ga g.length gc); have HB5 := hyd (blkK HB4 hk5 (by simp)); have HC5 := hyd (show (w4.setCell ⟨C, 1, none⟩ (.slice ga g.length gc)).heap[C]? = some (.cells #[.slice pa pn pc, .slice ga g.length gc, .slice none 0 0, .string ⟨nm.toArray⟩, .int .i64 at_] 52 (0, 0)) by simpa using hc5); have HNS5 := hyd (hns4.keepQ hk5 (by simp)); have HD5 := hyd (hdp4.keep hk5 (by simp; have := HCC.o; omega)); have HK5 := hyd (keepB (pb := pb) (lo := w.heap.size) (((HK3.o.trans hk4 (by simp)).mono (G := [pb, C]) (by simp)).trans (hk5.mono (G := [pb, C]) (by simp)) (by simp)) (by simp; have := HCC.o; omega) (Nat.le_refl _)); have HS5 := hyd (Nat.le_trans HS3.o (Nat.le_trans hk4.size hk5.size)); have HG := hyd (show g = [] ∧ r2 = r ∧ e2 = 0 ∨ isD l r 0 sWhen = true ∧ Got l (r + 1) r2 0 e2 (OkL 0 g) from .inr ⟨HIS.o, hgot⟩); have hr2 : r ≤ r2 := by have := hgot.1; omega
  have he2 : (0 : Int) ≠ 0 → e2 ≠ 0 := fun h => absurd rfl h
  clear hns hdp4 hgot hk4 HC4 HB4 hns4 hc5 hk5; go_wp2_with fail; generalize w4.setCell ⟨C, 1, none⟩ (.slice ga g.length gc) = w5 at *; refine (d_must HD5.o sTo).mono ?_; rintro e1 w6 ⟨rfl, ⟨r3, e3, hdp6, hcase⟩, hk6⟩; have HC6 := hyd (blkK HC5.o hk6 (by simpa using HCP.o.1)); have HB6 := hyd (blkK HB5.o hk6 (by simpa using HCP.o.2)); have HNS6 := hyd (HNS5.o.keepQ hk6 (by simp; left; have := HCC.o; omega)); have HK6 := hyd (HK5.o.trans hk6 (by simp)); have HS6 := hyd (Nat.le_trans HS5.o hk6.size); have HM := hyd hcase
  have hr3 : r ≤ r3 ∧ ((0 : Int) ≠ 0 → e3 ≠ 0) := by
   rcases hcase with ⟨-, rfl, rfl⟩ | ⟨-, rfl, he⟩
   ·exact ⟨by omega, he2⟩
   ·exact ⟨hr2, fun _ => he⟩
  have HC' := hyd (HL.o w6 _ _ hdp6 HK6.o.size hr3.1 hr3.2); clear hcase hdp6 hk6 hr3 hr2 he2; go_wp2_with fail; refine HC'.o.mono ?_; rintro e1 w7 ⟨bv, b, r4, e4, rfl, hns, hdp7, hgot, -, hk7⟩; obtain ⟨ba, bc, rfl⟩ := hns.form; have hc7 := blkK HC6.o hk7 (by simpa using HCP.o.1); have hb7 := blkK HB6.o hk7 (by simpa using HCP.o.2); have hns7 := hns.box (lo := C) (X := [C, C + 1]) (by have := HS6.o; omega) (by simp; have := HS6.o; omega); have hnsg7 := HNS6.o.keepQ hk7 (by simp; left; have := HCC.o; omega); obtain ⟨c0, c1, c2, c3, c4⟩ := cells5 hc7; have f7 := frozenP hc7; obtain ⟨hc8, hk8⟩ := set5a (i := 2) hc7 (.slice ba b.length bc); have hb8 := blkK hb7 hk8 (by simp); have hc8' : (w7.setCell ⟨C, 2, none⟩ (.slice ba b.length bc)).heap[C]? = some (.cells #[.slice pa pn pc, .slice ga g.length gc, .slice ba b.length bc, .string ⟨nm.toArray⟩, .int .i64 at_] 52 (0, 0)) := by simpa using hc8
  have hns8 := hns7.keepQ hk8 (by simp); have hnsg8 := hnsg7.keepQ hk8 (by simp); have hdp8 := hdp7.keep hk8 (by simp; have := HCC.o; omega); obtain ⟨d0, d1, d2, d3, d4⟩ := cells5 hc8'; obtain ⟨q0, q1, q2, q3, q4⟩ := cells5 hb8; have g8 := frozenP hb8; obtain ⟨hb9, hk9⟩ := set5all hb8 (.slice pa pn pc) (.slice ga g.length gc) (.slice ba b.length bc) (.string ⟨nm.toArray⟩) (.int .i64 at_); have HB9 := hyd hb9; have HN9 := hyd (And.intro (hnsg8.keepQ hk9 (by simp)) (hns8.keepQ hk9 (by simp))); have HD9 := hyd (hdp8.keep hk9 (by simp; have := HCC.o; omega)); have HK9 := hyd (keepB (pb := pb) (lo := w.heap.size) ((((HK6.o.trans hk7 (by simp)).mono (G := [pb, C, C + 1]) (by simp)).trans (hk8.mono (G := [pb, C, C + 1]) (by simp)) (by simp)).trans (hk9.mono (G := [pb, C, C + 1]) (by simp)) (by simp)) (by simp; have := HCC.o; omega) (Nat.le_refl _)); have HG7 := hyd hgot; clear hns hdp7 hgot hk7 hc7 hb7 hns7 hnsg7 hc8 hk8 hb8 hc8' hns8 hnsg8 hdp8 hb9 hk9; go_wp2_with fail; refine bodyPost_ret (results_cell_row (ty := 52) rfl _ _ (C + 1) _ _ _ _ rfl HB9.o Tryz.underlying52 rfl clause_size) rfl ?_; exact ⟨_, _, g, b, r4, e4, rfl, HCC.o ▸ HN9.o.1.frs, HCC.o ▸ HN9.o.2.frs, HD9.o, ok_tail HG.o HM.o HG7.o, HK9.o⟩
 ·rw [if_neg his] at HTK; simp only [Bool.not_eq_true] at his; rw [his] at HTK; clear his; go_enter Tryz.func78, Tryz.ntmps78; go_wp2_with fail; refine HTK.o.mono ?_; rintro e1 w5 ⟨rfl, hdp3, hk3⟩; have HC5 := hyd (blkK HC2.o hk3 (by simpa using HCP.o.1)); have HB5 := hyd (blkK HB2.o hk3 (by simpa using HCP.o.2)); have HK5 := hyd ((HK2.o.mono (G := [pb]) (by simp)).trans hk3 (by simp)); have HS5 := hyd (Nat.le_trans HS2.o hk3.size); have HD5 := hyd hdp3; obtain ⟨ga, hga⟩ : ∃ ga : Option Addr, ga = none := ⟨_, rfl⟩; obtain ⟨g, hg⟩ : ∃ g : List Nd, g = [] := ⟨_, rfl⟩; obtain ⟨gc, hgc⟩ : ∃ gc : Nat, gc = 0 := ⟨_, rfl⟩; have hsl : Value.slice none 0 0 = .slice ga g.length gc := by rw [hga, hg, hgc]; rfl
  have HNS5 := hyd (show NsR (FrB C [C, C + 1] w5) w5 false (.slice ga g.length gc) g by rw [← hsl, hg]; exact NsR.nil _ _ _); have HG := hyd hg; have hr2 : r ≤ r := Nat.le_refl _; have he2 : e ≠ 0 → e ≠ 0 := fun h => h
  replace HC5 := hyd (show w5.heap[C]? = some (.cells #[.slice pa pn pc, .slice ga g.length gc, .slice none 0 0, .string ⟨nm.toArray⟩, .int .i64 at_] 52 (0, 0)) by rw [← hsl]; exact HC5.o); clear hdp3 hk3 hga hg hgc hsl; rw [← HCC.o]; go_wp2_with fail; refine (d_must HD5.o sTo).mono ?_; rintro e1 w6 ⟨rfl, ⟨r3, e3, hdp6, hcase⟩, hk6⟩; have HC6 := hyd (blkK HC5.o hk6 (by simpa using HCP.o.1)); have HB6 := hyd (blkK HB5.o hk6 (by simpa using HCP.o.2)); have HNS6 := hyd (HNS5.o.keepQ hk6 (by simp; left; have := HCC.o; omega)); have HK6 := hyd (HK5.o.trans hk6 (by simp)); have HS6 := hyd (Nat.le_trans HS5.o hk6.size); have HM := hyd hcase
  have hr3 : r ≤ r3 ∧ (e ≠ 0 → e3 ≠ 0) := by
   rcases hcase with ⟨-, rfl, rfl⟩ | ⟨-, rfl, he⟩
   ·exact ⟨by omega, he2⟩
   ·exact ⟨hr2, fun _ => he⟩
  have HC' := hyd (HL.o w6 _ _ hdp6 HK6.o.size hr3.1 hr3.2); clear hcase hdp6 hk6 hr3 hr2 he2; go_wp2_with fail; refine HC'.o.mono ?_; rintro e1 w7 ⟨bv, b, r4, e4, rfl, hns, hdp7, hgot, -, hk7⟩; obtain ⟨ba, bc, rfl⟩ := hns.form; have hc7 := blkK HC6.o hk7 (by simpa using HCP.o.1); have hb7 := blkK HB6.o hk7 (by simpa using HCP.o.2); have hns7 := hns.box (lo := C) (X := [C, C + 1]) (by have := HS6.o; omega) (by simp; have := HS6.o; omega); have hnsg7 := HNS6.o.keepQ hk7 (by simp; left; have := HCC.o; omega); obtain ⟨c0, c1, c2, c3, c4⟩ := cells5 hc7; have f7 := frozenP hc7; obtain ⟨hc8, hk8⟩ := set5a (i := 2) hc7 (.slice ba b.length bc); have hb8 := blkK hb7 hk8 (by simp); have hc8' : (w7.setCell ⟨C, 2, none⟩ (.slice ba b.length bc)).heap[C]? = some (.cells #[.slice pa pn pc, .slice ga g.length gc, .slice ba b.length bc, .string ⟨nm.toArray⟩, .int .i64 at_] 52 (0, 0)) := by simpa using hc8
  have hns8 := hns7.keepQ hk8 (by simp); have hnsg8 := hnsg7.keepQ hk8 (by simp); have hdp8 := hdp7.keep hk8 (by simp; have := HCC.o; omega); obtain ⟨d0, d1, d2, d3, d4⟩ := cells5 hc8'; obtain ⟨q0, q1, q2, q3, q4⟩ := cells5 hb8; have g8 := frozenP hb8; obtain ⟨hb9, hk9⟩ := set5all hb8 (.slice pa pn pc) (.slice ga g.length gc) (.slice ba b.length bc) (.string ⟨nm.toArray⟩) (.int .i64 at_); have HB9 := hyd hb9; have HN9 := hyd (And.intro (hnsg8.keepQ hk9 (by simp)) (hns8.keepQ hk9 (by simp))); have HD9 := hyd (hdp8.keep hk9 (by simp; have := HCC.o; omega)); have HK9 := hyd (keepB (pb := pb) (lo := w.heap.size) ((((HK6.o.trans hk7 (by simp)).mono (G := [pb, C, C + 1]) (by simp)).trans (hk8.mono (G := [pb, C, C + 1]) (by simp)) (by simp)).trans (hk9.mono (G := [pb, C, C + 1]) (by simp)) (by simp)) (by simp; have := HCC.o; omega) (Nat.le_refl _)); have HG7 := hyd hgot; clear hns hdp7 hgot hk7 hc7 hb7 hns7 hnsg7 hc8 hk8 hb8 hc8' hns8 hnsg8 hdp8 hb9 hk9; go_wp2_with fail; refine bodyPost_ret (results_cell_row (ty := 52) rfl _ _ (C + 1) _ _ _ _ rfl HB9.o Tryz.underlying52 rfl clause_size) rfl ?_; exact ⟨_, _, g, b, r4, e4, rfl, HCC.o ▸ HN9.o.1.frs, HCC.o ▸ HN9.o.2.frs, HD9.o, ok_tail (.inl ⟨HG.o, rfl, rfl⟩) HM.o HG7.o, HK9.o⟩
theorem ok_head {l : List TkD} {r r2 r3 r4 : Nat} {e e2 e3 e4 : Int} {p g b : List Nd} (hm : isD l r e sOpen = true ∧ r2 = r + 1 ∧ e2 = e ∨ isD l r e sOpen = false ∧ r2 = r ∧ e2 ≠ 0) (hp : Got l r2 r3 e2 e3 (OkU p)) (ht : Got l r3 r4 e3 e4 (OkT g b)) : Got l r r4 e e4 (OkH p g b) := by
 rcases hm with ⟨hi, rfl, rfl⟩ | ⟨-, rfl, he⟩
 ·obtain ⟨rfl, hr, -⟩ := isD_iff hi; have h23 := hp.1; have h34 := ht.1; refine ⟨by omega, fun h => absurd rfl h, fun he4 => ?_⟩; have he3 : e3 = 0 := Classical.byContradiction fun h => ht.2.1 h he4
  obtain ⟨cu, ⟨ps, hps, hpl⟩, hcu⟩ := hp.2.2 he3; obtain ⟨ct, ⟨hb0, gs, bs, hgs, hbs, htl⟩, hct⟩ := ht.2.2 he4; refine ⟨cu + ct, ⟨hb0, ps, gs, bs, hps, hgs, hbs, ?_⟩, by omega⟩; have := sep_len comma (by simp) ps; simp only [List.length_append, List.length_cons]
  omega
 ·exact Got.err (by have := hp.1; have := ht.1; omega) (ht.2.1 (hp.2.1 he))
theorem x_head {lo pb : Nat} {l : List TkD} {w : World} {r : Nat} {e : Int} {d : Nat} {nm : List UInt8} {at_ : Int} (ih : AllD lo pb l (32 * mu l r e + 15)) (h : InD lo w pb l r e d) :
  Calls Tryz.prog 48 #[.pointer (some ⟨pb, 0, none⟩), .agg #[.slice none 0 0, .slice none 0 0, .slice none 0 0, .string ⟨nm.toArray⟩, .int .i64 at_], .int .i64 d] w (HeadD lo w pb nm at_ l r e) := by
 have HM := hyd (fun (W : World) (r' : Nat) (e' : Int) (hd : DP lo W pb l r' e') (hs : w.heap.size ≤ W.heap.size) (hr : r ≤ r') (he : e ≠ 0 → e' ≠ 0) => ih.maybe sShut (h.next hd hs hr) (by have := mu_mono (l := l) hr he; omega)); have HT := hyd (fun (W : World) (r' : Nat) (e' : Int) (pa : Option Addr) (pn pc : Nat) (hd : DP lo W pb l r' e') (hs : w.heap.size ≤ W.heap.size) (hr : r ≤ r') (he : e ≠ 0 → e' ≠ 0) => ih.tail (pa := pa) (pn := pn) (pc := pc) (nm := nm) (at_ := at_) (h.next hd hs hr) (by have := mu_mono (l := l) hr he; omega)); have hplo := h.dp.plo; have hlw := h.lw; obtain ⟨C, hC⟩ : ∃ C, C = w.heap.size := ⟨_, rfl⟩; have hk1 := (Keep.refl [] w).alloc (.cells #[.slice none 0 0, .slice none 0 0, .slice none 0 0, .string ⟨nm.toArray⟩, .int .i64 at_] 52); have hc1 := heap_alloc_new w (.cells #[.slice none 0 0, .slice none 0 0, .slice none 0 0, .string ⟨nm.toArray⟩, .int .i64 at_] 52); have hk2 := (Keep.refl [] (w.alloc (.cells #[.slice none 0 0, .slice none 0 0, .slice none 0 0, .string ⟨nm.toArray⟩, .int .i64 at_] 52))).alloc zC; have hb2 := heap_alloc_new (w.alloc (.cells #[.slice none 0 0, .slice none 0 0, .slice none 0 0, .string ⟨nm.toArray⟩, .int .i64 at_] 52)) zC; have hc2 := blkK hc1 hk2 (by simp); rw [size_alloc] at hb2; have hk12 := hk1.trans hk2 (by simp); have hs2 : C + 2 ≤ ((w.alloc (.cells #[.slice none 0 0, .slice none 0 0, .slice none 0 0, .string ⟨nm.toArray⟩, .int .i64 at_] 52)).alloc zC).heap.size := by rw [size_alloc, size_alloc]; omega
 have HMU := hyd (d_must (h.dp.keep0 hk12) sOpen); have HC2 := hyd hc2; have HB2 := hyd hb2; have HK2 := hyd hk12; have HS2 := hyd hs2; rw [← hC] at HC2 HB2; have HCC := hyd hC; have HCP := hyd (And.intro (show C ≠ pb by omega) (show C + 1 ≠ pb by omega)); clear ih h hk1 hc1 hk2 hb2 hc2 hk12 hs2 hC; go_enter Tryz.func48, Tryz.ntmps48; go_wp2_with fail; refine HMU.o.mono ?_; rintro e1 w3 ⟨rfl, ⟨r2, e2, hdp3, hcase⟩, hk3⟩; have HC3 := hyd (blkK HC2.o hk3 (by simpa using HCP.o.1)); have HB3 := hyd (blkK HB2.o hk3 (by simpa using HCP.o.2)); have HK3 := hyd ((HK2.o.mono (G := [pb]) (by simp)).trans hk3 (by simp)); have HS3 := hyd (Nat.le_trans HS2.o hk3.size)
 have hr2 : r ≤ r2 ∧ (e ≠ 0 → e2 ≠ 0) := by
  rcases hcase with ⟨-, rfl, rfl⟩ | ⟨-, rfl, he⟩
  ·exact ⟨by omega, fun h => h⟩
  ·exact ⟨Nat.le_refl _, fun _ => he⟩
 have HC := hyd (HM.o w3 _ _ hdp3 HK3.o.size hr2.1 hr2.2); have HR2 := hyd hr2; have HCS := hyd hcase; clear hdp3 hcase hk3 hr2 HMU; rw [← HCC.o]; go_wp2_with fail; refine HC.o.mono ?_; rintro e1 w4 ⟨pv, p, r3, e3, rfl, hns, hdp4, hgot, -, hk4⟩; obtain ⟨pa, pc, rfl⟩ := hns.form; have HC4 := blkK HC3.o hk4 (by simpa using HCP.o.1); have HB4 := blkK HB3.o hk4 (by simpa using HCP.o.2); have hns4 := hns.box (lo := C) (X := [C, C + 1]) (by have := HS3.o; omega) (by simp; have := HS3.o; omega); obtain ⟨c0, c1, c2, c3, c4⟩ := cells5 HC4; have f4 := frozenP HC4; obtain ⟨hc5, hk5⟩ := set5a (i := 0) HC4 (.slice pa p.length pc); have HB5 := hyd (blkK HB4 hk5 (by simp)); have hc5' : (w4.setCell ⟨C, 0, none⟩ (.slice pa p.length pc)).heap[C]? = some (.cells #[.slice pa p.length pc, .slice none 0 0, .slice none 0 0, .string ⟨nm.toArray⟩, .int .i64 at_] 52 (0, 0)) := by simpa using hc5
 have HNS5 := hyd (hns4.keepQ hk5 (by simp)); have hd5 := hdp4.keep hk5 (by simp; have := HCC.o; omega); have HK5 := hyd (keepB (pb := pb) (lo := w.heap.size) (((HK3.o.trans hk4 (by simp)).mono (G := [pb, C]) (by simp)).trans (hk5.mono (G := [pb, C]) (by simp)) (by simp)) (by simp; have := HCC.o; omega) (Nat.le_refl _)); have HS5 := hyd (Nat.le_trans HS3.o (Nat.le_trans hk4.size hk5.size)); have HG := hyd hgot; have HTC := hyd (HT.o _ _ _ pa p.length pc hd5 HK5.o.size (Nat.le_trans HR2.o.1 hgot.1) (fun h => hgot.2.1 (HR2.o.2 h))); obtain ⟨d0, d1, d2, d3, d4⟩ := cells5 hc5'; clear hns hdp4 hgot hk4 HC4 HB4 hns4 hc5 hk5 hd5 HC; go_wp2_with fail; generalize w4.setCell ⟨C, 0, none⟩ (.slice pa p.length pc) = w5 at *; refine HTC.o.mono ?_; rintro e1 w6 ⟨gv, bv, g, b, r4, e4, rfl, hg, hb, hdp6, hgot6, hk6⟩; obtain ⟨ga, gc, rfl⟩ := hg.form; obtain ⟨ba, bc, rfl⟩ := hb.form; have hb6 := blkK HB5.o hk6 (by simpa using HCP.o.2); have hp6 := HNS5.o.keepQ hk6 (by simp; left; have := HCC.o; omega); have hg6 := hg.box (lo := C) (X := [C, C + 1]) (by have := HS5.o; omega) (by simp; have := HS5.o; omega); have hb6' := hb.box (lo := C) (X := [C, C + 1]) (by have := HS5.o; omega) (by simp; have := HS5.o; omega); obtain ⟨q0, q1, q2, q3, q4⟩ := cells5 hb6; have g6 := frozenP hb6; obtain ⟨hb9, hk9⟩ := set5all hb6 (.slice pa p.length pc) (.slice ga g.length gc) (.slice ba b.length bc) (.string ⟨nm.toArray⟩) (.int .i64 at_); have HB9 := hyd hb9; have HN9 := hyd (And.intro (hp6.keepQ hk9 (by simp)) (And.intro (hg6.keepQ hk9 (by simp)) (hb6'.keepQ hk9 (by simp)))); have HD9 := hyd (hdp6.keep hk9 (by simp; have := HCC.o; omega)); have HK9 := hyd (keepB (pb := pb) (lo := w.heap.size) (((HK5.o.trans hk6 (by simp)).mono (G := [pb, C + 1]) (by simp)).trans (hk9.mono (G := [pb, C + 1]) (by simp)) (by simp)) (by simp; have := HCC.o; omega) (Nat.le_refl _)); have HG6 := hyd hgot6; clear hg hb hdp6 hgot6 hk6 hb6 hp6 hg6 hb6' hb9 hk9 d0 d1 d2 d3 d4; go_wp2_with fail; refine bodyPost_ret (results_cell_row (ty := 52) rfl _ _ (C + 1) _ _ _ _ rfl HB9.o Tryz.underlying52 rfl clause_size) rfl ?_; exact ⟨_, _, _, p, g, b, r4, e4, rfl, HCC.o ▸ HN9.o.1.frs, HCC.o ▸ HN9.o.2.1.frs, HCC.o ▸ HN9.o.2.2.frs, HD9.o, ok_head HCS.o HG.o HG6.o, HK9.o⟩
def CallI (w : World) (lo pb : Nat) (l : List TkD) (r : Nat) (e : Int) (A B : Nat) (v : Value) (wr : World) : Prop :=
 ∃ (bare : Bool) (a : Nd) (ri : Nat) (ei : Int) (cs : List Value), v = .bool bare ∧ wr.heap[A]? = some (.cells cs.toArray 29 (0, 0)) ∧ wr.heap[B]? = some zN ∧ NdR (FrB B [A, B] wr) wr false cs a ∧ DP lo wr pb l ri ei ∧ Got l r ri e ei (Ok0 a) ∧ (bare = true → ei = 0 → ∃ nm, a = .mk 2 0 nm [] [] [] ∧ TokOk ⟨2, 0, nm, 0⟩) ∧ Keep [pb] w wr
theorem ok_call {l : List TkD} {r ri r' : Nat} {e e' : Int} {a : Nd} {nm : List UInt8} {k : List Nd} (hr : ri < l.length) (h1 : Got l r ri e 0 (Ok0 a)) (hn : TokOk ⟨2, 0, nm, 0⟩) (h2 : Got l (ri + 1) r' 0 e' (OkU k)) : Got l r r' e e' (Ok0 (.mk 7 0 nm k [] [])) := by
 obtain ⟨a1, a2, a3⟩ := h1; obtain ⟨b1, b2, b3⟩ := h2; refine ⟨by omega, fun he => absurd rfl (a2 he), fun he => ?_⟩; obtain ⟨c1, -, hc1⟩ := a3 rfl; obtain ⟨c2, ⟨ls, hls, hll⟩, hc2⟩ := b3 he; have := sep_len comma (by simp) ls; exact ⟨c2, ⟨_, .call hn hls.1 hls.2, by simp only [List.length_append, List.length_cons, List.length_nil]; omega⟩, by omega⟩
theorem ok_apply {l : List TkD} {r ri r' : Nat} {e e' : Int} {a : Nd} {k : List Nd} (hr : ri < l.length) (h1 : Got l r ri e 0 (Ok0 a)) (h2 : Got l (ri + 1) r' 0 e' (OkU k)) : Got l r r' e e' (Ok0 (.mk 8 0 [] (a :: k) [] [])) := by
 obtain ⟨a1, a2, a3⟩ := h1; obtain ⟨b1, b2, b3⟩ := h2; refine ⟨by omega, fun he => absurd rfl (a2 he), fun he => ?_⟩; obtain ⟨c1, ⟨x, hx, hxl⟩, hc1⟩ := a3 rfl; obtain ⟨c2, ⟨ls, hls, hll⟩, hc2⟩ := b3 he; have := sep_len comma (by simp) ls; have := callI_len a x; exact ⟨c1 + c2, ⟨_, .apply hx hls.1 hls.2, by simp only [List.length_append, List.length_cons, List.length_nil]; omega⟩, by omega⟩
theorem x_call {lo pb : Nat} {l : List TkD} (hll : l.length ≤ 16384) {w : World} {r : Nat} {e : Int} {d : Nat} (ih : AllD lo pb l (32 * mu l r e + 5)) (h : InD lo w pb l r e d) :
  Calls Tryz.prog 156 #[.pointer (some ⟨pb, 0, none⟩), .int .i64 d] w (NodeD lo w pb l r e Ok0) := by
 obtain ⟨i0, hi0, hz0, hz1, hz2⟩ := info3 node_info; have HI := hyd hi0; have IH := hyd ih; have H := hyd h; have hdl := h.dl; have hrl := h.dp.rl; have hwd : IntKind.i64.wrap ((d : Int) + 1) = (d : Int) + 1 := IntWalk.i64_in _ (by omega); have hk1 := (Keep.refl [] w).alloc zN; have HK1 := hyd hk1; have HB1 := hyd (heap_alloc_new w zN); have HKD := hyd (d_kind (h.dp.keep0 hk1) 2); have HCALL := hyd (fun (W : World) (k : Keep [] (w.alloc zN) W) => ih.prim (w := W) (h.next ((h.dp.keep0 hk1).keep0 k) (Nat.le_trans hk1.size k.size) (Nat.le_refl _)) (by omega)); obtain ⟨B, hB⟩ : ∃ B, B = w.heap.size := ⟨_, rfl⟩; have HBP := hyd (show B ≠ pb by have := h.dp.plo; have := h.lw; omega); have HPL := hyd (And.intro h.dp.plo h.lw); obtain ⟨bare, hbare⟩ : ∃ b, b = kindD l r e 2 := ⟨_, rfl⟩; rw [← hbare] at HKD; have HBR := hyd hbare; have hs1 : (w.alloc zN).heap.size = w.heap.size + 1 := size_alloc w zN; have HBB := hyd hB; clear hi0 ih h hk1 hbare hB; go_enter Tryz.func156, Tryz.ntmps156; go_wp2_with fail; refine HKD.o.mono ?_; rintro e1 w2 ⟨rfl, hk2⟩; have HC := hyd (HCALL.o w2 hk2); have hB := HBB.o; rw [← hB] at HB1 hs1 ⊢; have HB2 := hyd (blkK HB1.o hk2 (by simp)); have HK2 := hyd (HK1.o.trans hk2 (by simp)); have HS2 := hyd (show B < w2.heap.size by have := hk2.size; omega); clear hk2 HKD HCALL HB1 HK1 hs1 hB; go_wp2_with fail; refine HC.o.mono ?_; rintro e1 w3 ⟨cs, a, r3, e3, rfl, hnd, hdp, hgot, hk3⟩; obtain ⟨kindA, numA, atA, nameA, p1A, n1A, c1A, p2A, n2A, c2A, p3A, n3A, c3A, rfl, -⟩ := id hnd.un7s; have hk4 := (Keep.refl [] w3).alloc (.cells #[.int .i64 kindA, .int .i64 numA, .string ⟨nameA.toArray⟩, .int .i64 atA, .slice p1A n1A c1A, .slice p2A n2A c2A, .slice p3A n3A c3A] 29); have hA4 := heap_alloc_new w3 (.cells #[.int .i64 kindA, .int .i64 numA, .string ⟨nameA.toArray⟩, .int .i64 atA, .slice p1A n1A c1A, .slice p2A n2A c2A, .slice p3A n3A c3A] 29); have hb4 := blkK (blkK HB2.o hk3 (by simpa using HBP.o)) hk4 (by simp); have hnd4 := ((hnd.box (lo := B) (X := [B]) (by have := HS2.o; omega) (by simp; exact HS2.o)).more (Nat.le_refl w3.heap.size)).keepQ hk4 (by simp); have hkw := ((HK2.o.mono (G := [pb]) (by simp)).trans hk3 (by simp)).trans (hk4.mono (G := [pb]) (by simp)) (by simp); have hs3 : B < w3.heap.size := Nat.lt_of_lt_of_le HS2.o hk3.size; obtain ⟨A, hA⟩ : ∃ A, A = w3.heap.size := ⟨_, rfl⟩; rw [← hA] at hA4 hnd4; have hg0 : Got l r r3 e e3 (Ok0 a) := ⟨hgot.1, hgot.2.1, fun he => by obtain ⟨c, h, hc⟩ := hgot.2.2 he; exact ⟨c, h.1, hc⟩⟩
 have hbr : bare = true → e3 = 0 → ∃ nm, a = .mk 2 0 nm [] [] [] ∧ TokOk ⟨2, 0, nm, 0⟩ := fun hb he => by
  obtain ⟨c, h, hc⟩ := hgot.2.2 he; obtain ⟨nm, h1, h2, -⟩ := h.2 (by rw [← HBR.o]; exact hb); exact ⟨nm, h1, h2⟩
 have HINIT := hyd (show CallI w lo pb l r e A B (.bool bare) (w3.alloc (.cells #[.int .i64 kindA, .int .i64 numA, .string ⟨nameA.toArray⟩, .int .i64 atA, .slice p1A n1A c1A, .slice p2A n2A c2A, .slice p3A n3A c3A] 29)) from ⟨bare, a, r3, e3, _, rfl, hA4, hb4, hnd4, hdp.keep0 hk4, hg0, hbr, hkw⟩); have HAB := hyd (show B < A by omega); have HAP := hyd (show A ≠ pb by have := HPL.o; have := HBB.o; omega); clear hnd hdp hgot hk3 hk4 hA4 hb4 hnd4 hkw hs3 hg0 hbr HC HB2 HK2 HS2; go_wp2_with fail; rw [← hA]; clear hA; generalize w3.alloc (.cells #[.int .i64 kindA, .int .i64 numA, .string ⟨nameA.toArray⟩, .int .i64 atA, .slice p1A n1A c1A, .slice p2A n2A c2A, .slice p3A n3A c3A] 29) = w5 at *
 go_loopw [5] (fun v wr => CallI w lo pb l r e A B v wr) (fun _ wr => l.length - rcell wr pb)
 case atStart => exact HINIT.o
 case round =>
  obtain ⟨bare, a, ri, ei, cs, rfl, hA, hB, hnd, hdp, hgot, hbr, hkw⟩ := hrel; obtain ⟨kindA, numA, atA, nameA, p1A, n1A, c1A, p2A, n2A, c2A, p3A, n3A, c3A, rfl, hnm⟩ := id hnd.un7s; clear HINIT; have HPLC := hyd (d_place hdp); have HA := hyd hA; have HB := hyd hB; have HND := hyd hnd; have HDP := hyd hdp; have HG := hyd hgot; have HBRE := hyd hbr; have HKW := hyd hkw; have HNM := hyd hnm; have HRC := hyd hdp.rc; clear hA hB hnd hdp hgot hbr hkw hnm; go_wp2_with fail; refine HPLC.o.mono ?_; rintro e1 w6 ⟨⟨z, rfl⟩, hk6⟩; have HA6 := hyd (blkK HA.o hk6 (by simp)); have HB6 := hyd (blkK HB.o hk6 (by simp)); have HND6 := hyd (HND.o.keepQ hk6 (by simp)); have HKW6 := hyd (HKW.o.trans (hk6.mono (G := [pb]) (by simp)) (by simp)); have HTK := hyd (d_take (HDP.o.keep0 hk6) [40]); unfold rD at HTK; clear hk6 HPLC HA HB HND HKW HDP; have hplt : pb < B := by have := HPL.o; have := HBB.o; omega
  by_cases his : isD l ri ei [40] = true
  ·rw [if_pos his, his] at HTK; obtain ⟨rfl, hri, -⟩ := isD_iff his; obtain rfl : e = 0 := Classical.byContradiction fun hn => HG.o.2.1 hn rfl
   have hrr := HG.o.1; have HMU := hyd (show mu l (ri + 1) 0 < mu l r 0 from mu_lt (by omega) (by omega)); clear his; go_wp2_with fail; refine HTK.o.mono ?_; rintro e1 w7 ⟨rfl, hdp7, hk7⟩; have HA7 := hyd (blkK HA6.o hk7 (by simpa using HAP.o)); have HB7 := hyd (blkK HB6.o hk7 (by simpa using HBP.o)); have HND7 := hyd (HND6.o.keepQ hk7 (by simp; left; exact hplt)); have HKW7 := hyd (HKW6.o.trans hk7 (by simp)); have hcall := IH.o.maybe sShut (H.o.deeper hdp7 HKW7.o.size (by omega)) (by have := HMU.o; omega); rw [show ((d + 1 : Nat) : Int) = (d : Int) + 1 from by omega] at hcall; have HC := hyd hcall; clear hdp7 hk7 hcall HA6 HB6 HND6 HKW6 HTK; go_wp2_with fail; refine HC.o.mono ?_; rintro e1 w8 ⟨v, k, r8, e8, rfl, hns, hdp8, hgot8, hln, hk8⟩; obtain ⟨va, vc, rfl⟩ := hns.form; have hA8 := blkK HA7.o hk8 (by simpa using HAP.o); have hB8 := blkK HB7.o hk8 (by simpa using HBP.o); have ha7 := (Array.getElem?_eq_some_iff.1 HA7.o).1; have ha8 := (Array.getElem?_eq_some_iff.1 hA8).1; have hlk : k.length ≤ 20000 := by have := hdp8.rl; omega
   have HNS8 := hyd (hns.box (lo := B) (X := [A, B]) (by have := HAB.o; omega) (by simp; have := HAB.o; omega)); have HND8 := hyd (HND7.o.keepQ hk8 (by simp; left; exact hplt)); have HD8 := hyd hdp8; have HG8 := hyd hgot8; have HKW8 := hyd (HKW7.o.trans hk8 (by simp)); have HA8 := hyd hA8; have HB8 := hyd hB8; have HSA := hyd ha8; have hab := HAB.o; obtain ⟨c0, c1, c2, c3, c4, c5, c6⟩ := cells7 hA8; have f8 := frozenP hA8; clear hns hdp8 hgot8 hln hk8 hA8 hB8 ha7 ha8 HA7 HB7 HND7 HKW7 HC
   cases bare with
   | true =>
    obtain ⟨nm, ha, htok⟩ : ∃ nm, a = .mk 2 0 nm [] [] [] ∧ TokOk ⟨2, 0, nm, 0⟩ := by have h := HBRE.o; simpa using h
    obtain rfl : nm = nameA := by rw [← HNM.o, ha]; rfl
    have HTOK := hyd htok; clear ha htok; go_wp2_with fail; go_roundw
    all_goals clear c0 c1 c2 c3 c4 c5 c6 f8
    all_goals obtain ⟨hA9, hk9⟩ := set7 HA8.o (.int .i64 7) (.int .i64 0) (.string ⟨nm.toArray⟩) (.int .i64 atA) (.slice va k.length vc) (.slice none 0 0) (.slice none 0 0)
    all_goals have hd9 := HD8.o.keep hk9 (by simp; have := HPL.o; have := HBB.o; omega)
    case rel =>
     exact ⟨false, .mk 7 0 nm k [] [], r8, e8, _, rfl, hA9, blkK HB8.o hk9 (by simp; omega), NdR.mk7 (HNS8.o.keepQ hk9 (by simp)) (NsR.nil _ _ true) (NsR.nil _ _ false), hd9, ok_call hri HG.o HTOK.o HG8.o, fun h => (nomatch h), keepB (pb := pb) (lo := w.heap.size) ((HKW8.o.mono (G := [pb, A]) (by simp)).trans (hk9.mono (G := [pb, A]) (by simp)) (by simp)) (by simp; have := HBB.o; omega) (Nat.le_refl _)⟩
    case measure =>
     rw [hd9.rc, HRC.o]; have := HG8.o.1
     omega
   | false =>
    obtain ⟨es, oe, hrd, hse, hle8, hel⟩ := HNS8.o; have HONE := hyd (NsR.cellsOne hle8 hel); have hk9 := (Keep.refl [] w8).alloc (.cells #[.int .i64 kindA, .int .i64 numA, .string ⟨nameA.toArray⟩, .int .i64 atA, .slice p1A n1A c1A, .slice p2A n2A c2A, .slice p3A n3A c3A] 29); have HRD := hyd (hrd.keep0 hk9); have HROW := hyd (row_lit1' w8 _ rfl 29 7 #[.int .i64 kindA, .int .i64 numA, .string ⟨nameA.toArray⟩, .int .i64 atA, .slice p1A n1A c1A, .slice p2A n2A c2A, .slice p3A n3A c3A] rfl); have HEL := hyd (And.intro hle8 hel); have HA9 := hyd (blkK HA8.o hk9 (by simp)); have HB9 := hyd (blkK HB8.o hk9 (by simp)); have HD9 := hyd (HD8.o.keep0 hk9); have HKW9 := hyd (HKW8.o.trans (hk9.mono (G := [pb]) (by simp)) (by simp)); clear hrd hse hle8 hel hk9
    go_wp2_with (at_builtin; go_loud (refine wpList_append_rd _ rfl _ _ 26 26 rfl 29 29 i0 _ 7 112 Tryz.underlying26 Tryz.underlying26 HI.o hz0 hz1 hz2 rfl _ 0 1 1 _ rfl HROW.o _ rfl _ _ _ HRD.o HONE.o (by unfold maxLen; omega) (by omega) ?_))
    intro g off cap w10 hr10 hk10 hg10; obtain ⟨hle8, hel⟩ := HEL.o; have hsa := HSA.o; have toX : ∀ {cs : List Value} {n : Nd}, NdR (FrB B [A, B] w8) w8 false cs n → NdR (FrsX (B + 1) w8 (some A)) w8 false cs n := fun h => h.mono fun b hb => ⟨by have h1 := hb.1; have h2 := hb.2.2; simp at h2; omega, hb.2.1, fun hc => by cases hc; exact hb.2.2 (by simp)⟩
    have hns10 := NsR.consApp (toX HND8.o) hle8 (fun i h h' => toX (hel i h h')) hk10 hr10 (by simpa using hg10) (by omega) (fun b hb => by cases hb; exact hsa)
    have HNS10 := hyd (show NsR (FrB B [A, B] w10) w10 false _ (a :: k) from hns10.mono fun b hb => ⟨by have := hb.1; omega, hb.2.1, fun hm => by
      simp at hm; rcases hm with rfl | rfl
      · exact hb.2.2 rfl
      · have := hb.1; omega⟩)
    have hA10 := blkK HA9.o hk10 (by simp; omega); have HA10 := hyd hA10; have HB10 := hyd (blkK HB9.o hk10 (by simp; omega)); have HD10 := hyd (HD9.o.keep hk10 (by simp; have := HPL.o; have := HBB.o; omega)); have HKW10 := hyd (keepB (pb := pb) (lo := w.heap.size) ((HKW9.o.mono (G := [pb, w8.heap.size]) (by simp)).trans (hk10.mono (G := [pb, w8.heap.size]) (by simp)) (by simp)) (by simp; have := HBB.o; omega) (Nat.le_refl _)); clear c0 c1 c2 c3 c4 c5 c6 f8; obtain ⟨e0, e1, e2, e3, e4, e5, e6⟩ := cells7 hA10; have f10 := frozenP hA10; clear hr10 hk10 hg10 hle8 hel toX hns10 hA10 hsa HRD HROW HONE; go_wp2_with fail; go_roundw
    all_goals clear e0 e1 e2 e3 e4 e5 e6 f10
    all_goals obtain ⟨hA11, hk11⟩ := set7 HA10.o (.int .i64 8) (.int .i64 0) (.string ⟨#[]⟩) (.int .i64 z) (.slice (some ⟨g, off, none⟩) (1 + k.length) cap) (.slice none 0 0) (.slice none 0 0)
    all_goals have hd11 := HD10.o.keep hk11 (by simp; have := HPL.o; have := HBB.o; omega)
    case rel =>
     exact ⟨false, .mk 8 0 [] (a :: k) [] [], r8, e8, _, rfl, hA11, blkK HB10.o hk11 (by simp; omega), NdR.mk7 (name := []) (HNS10.o.keepQ hk11 (by simp)) (NsR.nil _ _ true) (NsR.nil _ _ false), hd11, ok_apply hri HG.o HG8.o, fun h => (nomatch h), keepB (pb := pb) (lo := w.heap.size) ((HKW10.o.mono (G := [pb, A]) (by simp)).trans (hk11.mono (G := [pb, A]) (by simp)) (by simp)) (by simp; have := HBB.o; omega) (Nat.le_refl _)⟩
    case measure =>
     rw [hd11.rc, HRC.o]; have := HG8.o.1
     omega
  ·rw [if_neg his] at HTK; simp only [Bool.not_eq_true] at his; rw [his] at HTK; clear his; go_wp2_with fail; refine HTK.o.mono ?_; rintro e1 w7 ⟨rfl, hdp7, hk7⟩; have hA7 := blkK HA6.o hk7 (by simpa using HAP.o); have hB7 := blkK HB6.o hk7 (by simpa using HBP.o); have HND7 := hyd (HND6.o.keepQ hk7 (by simp; left; exact hplt)); have HKW7 := hyd (HKW6.o.trans hk7 (by simp)); have HD7 := hyd hdp7; obtain ⟨c0, c1, c2, c3, c4, c5, c6⟩ := cells7 hA7; clear hdp7 hk7 hA7 HA6 HB6 HND6 HKW6 HTK; obtain ⟨d0, d1, d2, d3, d4, d5, d6⟩ := cells7 hB7; have fB := frozenP hB7; go_wp2_with fail; obtain ⟨hbz, hkz⟩ := set7 hB7 (.int .i64 kindA) (.int .i64 numA) (.string ⟨nameA.toArray⟩) (.int .i64 atA) (.slice p1A n1A c1A) (.slice p2A n2A c2A) (.slice p3A n3A c3A); refine bodyPost_ret (results_cell_row (ty := 29) rfl _ _ B _ _ _ _ rfl hbz Tryz.underlying29 rfl node_size) rfl ?_; have hBB := HBB.o; have hPL := HPL.o; exact ⟨_, a, ri, ei, rfl, hBB ▸ (HND7.o.keepQ hkz (by simp)).frs, HD7.o.keep hkz (by simp; omega), HG.o, keepB (pb := pb) (lo := w.heap.size) ((HKW7.o.mono (G := [pb, B]) (by simp)).trans (hkz.mono (G := [pb, B]) (by simp)) (by simp)) (by simp; omega) (Nat.le_refl _)⟩
theorem RowQ.app {lo : Nat} {X : List Nat} {w : World} {k : Bool} {v : Value} {l : List Nd} {o : Option Nat} {cs : List Value} {n : Nd} (h : RowQ lo X w k v l o) (hx : NdR (FrB lo (o.toList ++ X) w) w k cs n) (hlo : lo ≤ w.heap.size) (hX : ∀ x ∈ X, x < w.heap.size) (ar : Array Value) (t : TypeId) :
  ∃ es : List (List Value), Row (w.alloc (.cells ar t)) (if k then 52 else 29) (wid k) v l.length es.flatten o ∧ ∀ g v' w4, Row w4 (if k then 52 else 29) (wid k) v' (l.length + 1) (es.flatten ++ cs) (some g) → Keep o.toList (w.alloc (.cells ar t)) w4 → (o = some g ∨ (w.alloc (.cells ar t)).heap.size ≤ g) → RowQ lo X w4 k v' (l ++ [n]) (some g) := by
 have hk := (Keep.refl [] w).alloc (.cells ar t); have h' := h.keep hk (by simp); obtain ⟨es, h1, h2, h3, h4⟩ := id h'; exact ⟨es, h1, fun g v' w4 hr hk4 hg => RowQ.push h' (hx.keepQ hk (by simp)) (Nat.le_trans hlo hk.size) (fun x hx => Nat.lt_of_lt_of_le (hX x hx) hk.size) hk4 hg es ⟨h1, h2, h3⟩ hr⟩
theorem ok_arm {l : List TkD} {r r2 r3 : Nat} {e e2 e3 : Int} {p : Nd} {g b : List Nd} (h1 : Got l r r2 e e2 (Ok0 p)) (h2 : Got l r2 r3 e2 e3 (OkT g b)) : Got l r r3 e e3 (OkJ 1 (.mk 0 0 [] [p] g b)) := by
 refine ⟨by have := h1.1; have := h2.1; omega, fun h => h2.2.1 (h1.2.1 h), fun he => ?_⟩; have he2 : e2 = 0 := Classical.byContradiction fun h => h2.2.1 h he
 obtain ⟨c1, ⟨x, hx, hxl⟩, hc1⟩ := h1.2.2 he2; obtain ⟨c2, ⟨hb0, gs, bs, hgs, hbs, htl⟩, hc2⟩ := h2.2.2 he; exact ⟨c1 + c2, ⟨_, .arm hx hgs.1 hgs.2 hb0 hbs.1 hbs.2, by simp only [List.length_append]; omega⟩, by omega⟩
def ClsI (j : Nat) (l : List TkD) (r ri : Nat) (e ei : Int) (l' : List Nd) : Prop :=
 (l' = [] ∧ ri = r ∧ ei = e) ∨ (e = 0 ∧ ei = 0 ∧ ∃ rp, Got l r rp e 0 (OkL j l') ∧ ri = rp + 1 ∧ rp < l.length) ∨ (ei ≠ 0 ∧ r ≤ ri)
theorem ClsI.le {j : Nat} {l : List TkD} {r ri : Nat} {e ei : Int} {l' : List Nd} (h : ClsI j l r ri e ei l') : r ≤ ri ∧ (e ≠ 0 → ei ≠ 0) := by
 rcases h with ⟨-, rfl, rfl⟩ | ⟨rfl, rfl, rp, h, rfl, -⟩ | ⟨h1, h2⟩
 ·exact ⟨Nat.le_refl _, fun h => h⟩
 ·exact ⟨by have := h.1; omega, fun h => absurd rfl h⟩
 ·exact ⟨h2, fun _ => h1⟩
theorem ClsI.bad {j : Nat} {l : List TkD} {r ri : Nat} {e ei : Int} {l' : List Nd} (h : ClsI j l r ri e ei l') (he : ei ≠ 0) : Got l r ri e ei (OkL j l') := Got.err h.le.1 he
theorem ClsI.add {j : Nat} {l : List TkD} {r ri r' : Nat} {e e' : Int} {l' : List Nd} {n : Nd} (h : ClsI j l r ri e 0 l') (hn : Got l ri r' 0 e' (OkJ j n)) : Got l r r' e e' (OkL j (l' ++ [n])) := by
 rcases h with ⟨rfl, rfl, rfl⟩ | ⟨rfl, -, rp, h, rfl, hr⟩ | ⟨h1, -⟩
 ·exact ok_one hn
 ·exact ok_snoc hr h hn
 ·exact absurd rfl h1
theorem ClsI.len {j : Nat} {l : List TkD} {r ri : Nat} {e : Int} {l' : List Nd} (h : ClsI j l r ri e 0 l') : l'.length ≤ 4 * l.length + 1 := by
 rcases h with ⟨rfl, -⟩ | ⟨-, -, rp, h, -⟩ | ⟨h1, -⟩
 ·simp
 ·exact okl_len h
 ·exact absurd rfl h1
theorem ClsI.next {j : Nat} {l : List TkD} {r r' : Nat} {e e' : Int} {l' : List Nd} {s : List UInt8} (h : Got l r r' e e' (OkL j l')) (hi : isD l r' e' s = true) : ClsI j l r (r' + 1) e e' l' := by
 obtain ⟨rfl, hr, -⟩ := isD_iff hi; exact .inr (.inl ⟨Classical.byContradiction fun hn => h.2.1 hn rfl, rfl, r', h, rfl, hr⟩)
theorem x_arms {lo pb : Nat} {l : List TkD} (hll : l.length ≤ 16384) {w : World} {r : Nat} {e : Int} {d : Nat} (ih : AllD lo pb l (32 * mu l r e + 16)) (h : InD lo w pb l r e d) :
  Calls Tryz.prog 160 #[.pointer (some ⟨pb, 0, none⟩), .int .i64 d] w (ListD lo w pb true l r e (OkL 1)) := by
 obtain ⟨i0, hi0, hz0, hz1, hz2⟩ := info3 clause_info; have HI := hyd hi0; have IH := hyd ih; have H := hyd h; have hplo := h.dp.plo; have hlw := h.lw; clear hi0 ih h; go_enter Tryz.func160, Tryz.ntmps160; go_wp2_with fail
 go_loopw [5] (fun v wr => ∃ (l' : List Nd) (ri : Nat) (ei : Int) (o : Option Nat), RowQ w.heap.size [] wr true v l' o ∧ DP lo wr pb l ri ei ∧ ClsI 1 l r ri e ei l' ∧ l'.length + r ≤ ri ∧ Keep [pb] w wr) (fun _ wr => l.length + 1 - rcell wr pb)
 case atStart => exact ⟨[], r, e, none, RowQ.nil _ _ _ _, H.o.dp, .inl ⟨rfl, rfl, rfl⟩, by simp, Keep.refl _ _⟩
 case round =>
  obtain ⟨l', ri, ei, o, hrow, hdp, hcl, hln, hkw⟩ := hrel; have HLN := hyd hln; clear hln; obtain ⟨pa, pc, rfl⟩ := hrow.form; obtain ⟨v0, o0, en0, at0, hpb, -⟩ := hdp.blk; obtain ⟨s0, s1, s2, s3, s4⟩ := cells5d hpb; have HROW := hyd hrow; have HD := hyd hdp; have HC := hyd hcl; have HKW := hyd hkw; have HRC := hyd hdp.rc; have hwr := hkw.size; clear hrow hdp hcl hkw hpb
  by_cases hei : ei = 0
  ·subst hei; have hlm := HC.o.len; have hle := HC.o.le; have HMU := hyd (show 32 * mu l ri 0 ≤ 32 * mu l r e by have := mu_mono (l := l) hle.1 hle.2; omega); have hori := hle.1; clear hle; go_wp2_with fail; refine (d_place HD.o).mono ?_; rintro e1 w1 ⟨⟨z, rfl⟩, hk1⟩; obtain ⟨C, hC⟩ : ∃ C, C = w1.heap.size := ⟨_, rfl⟩; have hk2 := (Keep.refl [] w1).alloc (.cells #[.slice none 0 0, .slice none 0 0, .slice none 0 0, .string ⟨#[]⟩, .int .i64 z] 52); have hc2 := heap_alloc_new w1 (.cells #[.slice none 0 0, .slice none 0 0, .slice none 0 0, .string ⟨#[]⟩, .int .i64 z] 52); have hs2 : C < (w1.alloc (.cells #[.slice none 0 0, .slice none 0 0, .slice none 0 0, .string ⟨#[]⟩, .int .i64 z] 52)).heap.size := by rw [size_alloc]; omega
   have hr2 := ((HROW.o.keep hk1 (by simp)).more (Nat.le_of_eq hC.symm)).keep hk2 (by simp); have hos := HROW.o.lt; have hC2 : wr.heap.size ≤ C := by have := hk1.size; omega
   rw [← hC] at hc2; have HC2 := hyd hc2; have HR2 := hyd hr2; have HK2 := hyd ((HKW.o.trans (hk1.mono (G := [pb]) (by simp)) (by simp)).trans (hk2.mono (G := [pb]) (by simp)) (by simp)); have HS2 := hyd hs2; have HE := hyd (IH.o.expr (d := d) (H.o.next ((HD.o.keep0 hk1).keep0 hk2) HK2.o.size hori) (by have := HMU.o; omega)); have HOS := hyd (show ∀ b, o = some b → b < C from fun b hb => Nat.lt_of_lt_of_le (hos b hb) hC2); have HCW := hyd (show w.heap.size ≤ C by omega); have HCP := hyd (show C ≠ pb by omega); clear hk1 hk2 hc2 hs2 hr2 hos hC2 s0 s1 s2 s3 s4; go_wp2_with fail; rw [← hC]; clear hC; generalize w1.alloc (.cells #[.slice none 0 0, .slice none 0 0, .slice none 0 0, .string ⟨#[]⟩, .int .i64 z] 52) = w2 at *; refine HE.o.mono ?_; rintro e1 w3 ⟨cs, n, r3, e3, rfl, hnd, hdp3, hgot3, hk3⟩; obtain ⟨kind, num, at_, name, p1, n1, c1, p2, n2, c2, p3, n3, c3, rfl, -⟩ := id hnd.un7s; have hs3 : C < w3.heap.size := Nat.lt_of_lt_of_le HS2.o hk3.size
   have hX3 : ∀ x ∈ o.toList ++ [C], x < w2.heap.size := by
    intro x hx; have := HS2.o; rcases List.mem_append.1 hx with h | h
    ·have := HOS.o x (by simpa using h); omega
    ·simp at h; omega
   have hnd3 := hnd.box (lo := w.heap.size) (X := o.toList ++ [C]) HK2.o.size hX3; have hX3' : ∀ x ∈ o.toList ++ [C], x < w3.heap.size := fun x hx => Nat.lt_of_lt_of_le (hX3 x hx) hk3.size
   have hlit := NsR.lit1Q (lo := w.heap.size) (X := o.toList ++ [C]) (cs := #[.int .i64 kind, .int .i64 num, .string ⟨name.toArray⟩, .int .i64 at_, .slice p1 n1 c1, .slice p2 n2 c2, .slice p3 n3 c3]) 29 (Nat.le_trans HK2.o.size hk3.size) hX3' rfl hnd3; have hk4 := (Keep.refl [] w3).alloc (.cells #[.int .i64 kind, .int .i64 num, .string ⟨name.toArray⟩, .int .i64 at_, .slice p1 n1 c1, .slice p2 n2 c2, .slice p3 n3 c3] 29); have hc4 := blkK (blkK HC2.o hk3 (by simpa using HCP.o)) hk4 (by simp); obtain ⟨c0, c1', c2', c3', c4'⟩ := cells5 hc4; have f4 := frozenP hc4; obtain ⟨hc5, hk5⟩ := set5a (i := 0) hc4 (.slice (some ⟨w3.heap.size, 0, none⟩) 1 1); have hlit5 := hlit.keepQ hk5 (by simp); have hr5 := ((HR2.o.keep hk3 (by simp; omega)).keep hk4 (by simp)).keep hk5 (by simp); have hd5 := (hdp3.keep0 hk4).keep hk5 (by simp; have := HCW.o; omega); have hK4 := (HK2.o.trans hk3 (by simp)).trans (hk4.mono (G := [pb]) (by simp)) (by simp); have HK5 := hyd (keepB (pb := pb) (lo := w.heap.size) ((hK4.mono (G := [pb, C]) (by simp)).trans (hk5.mono (G := [pb, C]) (by simp)) (by simp)) (by simp; have := HCW.o; omega) (Nat.le_refl _)); have hc5' := show ((w3.alloc (.cells #[.int .i64 kind, .int .i64 num, .string ⟨name.toArray⟩, .int .i64 at_, .slice p1 n1 c1, .slice p2 n2 c2, .slice p3 n3 c3] 29)).setCell ⟨C, 0, none⟩ (.slice (some ⟨w3.heap.size, 0, none⟩) 1 1)).heap[C]? = some (.cells #[.slice (some ⟨w3.heap.size, 0, none⟩) 1 1, .slice none 0 0, .slice none 0 0, .string ⟨#[]⟩, .int .i64 z] 52 (0, 0)) by simpa using hc5
   obtain ⟨d0, d1, d2, d3, d4⟩ := cells5 hc5'; have HS5 := hyd (Nat.lt_of_lt_of_le hs3 (Nat.le_trans hk4.size hk5.size)); have HT := hyd (IH.o.tail (d := d) (pa := some ⟨w3.heap.size, 0, none⟩) (pn := 1) (pc := 1) (nm := []) (at_ := z) (H.o.next hd5 HK5.o.size (by have := hgot3.1; omega)) (by have := HMU.o; have := mu_mono (l := l) hgot3.1 hgot3.2.1; omega)); have HLIT := hyd hlit5; have HR5 := hyd hr5; have HG3 := hyd hgot3; clear hnd hdp3 hgot3 hk3 hs3 hX3 hX3' hnd3 hlit hk4 hc4 hc5 hk5 hlit5 hr5 hd5 hK4 hc5' HE; go_wp2_with fail; generalize hB3 : w3.heap.size = B3 at *; clear hB3; generalize (w3.alloc (.cells #[.int .i64 kind, .int .i64 num, .string ⟨name.toArray⟩, .int .i64 at_, .slice p1 n1 c1, .slice p2 n2 c2, .slice p3 n3 c3] 29)).setCell ⟨C, 0, none⟩ (.slice (some ⟨B3, 0, none⟩) 1 1) = w5 at *; refine HT.o.mono ?_; rintro e1 w6 ⟨gv, bv, g, b, r6, e6, rfl, hg, hb, hdp6, hgot6, hk6⟩; obtain ⟨ga, gc, rfl⟩ := hg.form; obtain ⟨ba, bc, rfl⟩ := hb.form
   have hX5 : ∀ x ∈ o.toList ++ [C], x < w5.heap.size := by
    intro x hx; have := HS5.o; rcases List.mem_append.1 hx with h | h
    ·have := HOS.o x (by simpa using h); omega
    ·simp at h; omega
   have hnn := NdR.mk5 (at_ := z) (name := []) (HLIT.o.keepQ hk6 (by simp; omega)) (hg.box (lo := w.heap.size) (X := o.toList ++ [C]) HK5.o.size hX5) (hb.box (lo := w.heap.size) (X := o.toList ++ [C]) HK5.o.size hX5); obtain ⟨es, hrow7, hpush⟩ := (HR5.o.keep hk6 (by simp; omega)).app hnn (Nat.le_trans HK5.o.size hk6.size) (by simp; exact Nat.lt_of_lt_of_le HS5.o hk6.size) #[.slice (some ⟨B3, 0, none⟩) 1 1, .slice ga g.length gc, .slice ba b.length bc, .string ⟨#[]⟩, .int .i64 z] 52; have hk7 := (Keep.refl [] w6).alloc (.cells #[.slice (some ⟨B3, 0, none⟩) 1 1, .slice ga g.length gc, .slice ba b.length bc, .string ⟨#[]⟩, .int .i64 z] 52); have HSRC := hyd (src_lit1 (P := Tryz.prog) w6 [.slice (some ⟨B3, 0, none⟩) 1 1, .slice ga g.length gc, .slice ba b.length bc, .string ⟨#[]⟩, .int .i64 z] 5 rfl hnn.one 27 52 52 Tryz.underlying27); have HROW7 := hyd hrow7; have HPUSH := hyd hpush; have HD7 := hyd (hdp6.keep0 hk7); have HK7 := hyd ((HK5.o.trans hk6 (by simp)).trans (hk7.mono (G := [pb]) (by simp)) (by simp)); have HG7 := hyd (HC.o.add (ok_arm HG3.o hgot6)); have HR7 := hyd (show ri ≤ r6 by have := HG3.o.1; have := hgot6.1; omega); have HOGE := hyd (show ∀ b, o = some b → w.heap.size ≤ b by obtain ⟨_, -, -, -, h⟩ := HROW.o; exact fun b hb => (h b hb).1); clear hg hb hdp6 hgot6 hk6 hX5 hnn hrow7 hpush hk7 d0 d1 d2 d3 d4 c0 c1' c2' c3' c4' HLIT HR5 HT
   go_wp2_with (at_builtin; go_loud (refine wpList_append_row _ rfl _ _ 27 27 rfl 52 i0 _ 5 96 Tryz.underlying27 HI.o hz0 hz1 hz2 rfl _ _ _ o rfl HROW7.o _ rfl 1 _ HSRC.o (by omega) (by unfold maxLen; omega) (by omega) ?_))
   intro gb off cap w8 hr8 hk8 hg8; have hk8g : ∀ b ∈ o.toList, w.heap.size ≤ b := fun b hb => HOGE.o b (by simpa using hb)
   have hR8 := (HPUSH.o gb _ w8 hr8 hk8 (by simpa using hg8)).less (Y := []) (by simp); have hD8 := HD7.o.keep hk8 (fun b hb => Nat.le_trans hlw (hk8g b hb)); have hK8 := keepB (pb := pb) (lo := w.heap.size) ((HK7.o.mono (G := pb :: o.toList) (by simp)).trans (hk8.mono (G := pb :: o.toList) (by intro b hb _; simp at hb ⊢; simp [hb])) (fun x hx => .inl hx)) (by intro b hb; simp at hb; rcases hb with hb | hb; (· exact .inl hb); exact .inr (HOGE.o b hb)) (Nat.le_refl _); have HTK := hyd (d_take hD8 [59]); unfold rD at HTK; have HR8 := hyd hR8; have HK8 := hyd hK8; clear hr8 hk8 hg8 hk8g HPUSH HSRC HROW7 hR8 hD8 hK8
   by_cases his : isD l r6 e6 [59] = true
   ·rw [if_pos his, his] at HTK; have HIS := hyd his; clear his; go_wp2_with fail; refine HTK.o.mono ?_; rintro e1 w9 ⟨rfl, hdp9, hk9⟩; have HD9 := hyd hdp9; have HK9 := hyd (HK8.o.trans hk9 (by simp)); have HR9 := hyd (HR8.o.keep hk9 (by simp; omega)); clear hdp9 hk9; go_wp2_with fail; go_roundw
    case rel => exact ⟨_, r6 + 1, e6, some gb, HR9.o, HD9.o, ClsI.next HG7.o HIS.o, by have := HLN.o; have := HR7.o; simp; omega, HK9.o⟩
    case measure =>
     rw [HD9.o.rc, HRC.o]; have := HR7.o; obtain ⟨-, h, -⟩ := isD_iff HIS.o
     omega
   ·rw [if_neg his] at HTK; simp only [Bool.not_eq_true] at his; rw [his] at HTK; clear his; go_wp2_with fail; refine HTK.o.mono ?_; rintro e1 w9 ⟨rfl, hdp9, hk9⟩; have HD9 := hyd hdp9; have HK9 := hyd (HK8.o.trans hk9 (by simp)); have HR9 := hyd (HR8.o.keep hk9 (by simp; omega)); clear hdp9 hk9; go_wp2_with fail; go_ret; exact ⟨_, _, r6, e6, rfl, HR9.o.ns.frs, HD9.o, HG7.o, by have := HLN.o; have := HR7.o; simp; omega, HK9.o⟩
  ·have he' : (ei == 0) = false := beq_eq_false_iff_ne.2 hei; go_wp2_with fail; go_ret; exact ⟨_, l', ri, ei, rfl, HROW.o.ns.frs, HD.o, HC.o.bad hei, by have := HLN.o; omega, HKW.o⟩
open Go.Emb
theorem sep_cons (s x y : List It) (r : List (List It)) : sepI s (x :: y :: r) = x ++ s ++ sepI s (y :: r) := rfl
def funI (cs : List (List It)) : List It := sepI semiB cs ++ [sg 46, .b 10]
inductive PrF : List Nd → List It → Prop
 | mk {l : List Nd} {ls : List (List It)} (h0 : l ≠ []) (hl : ls.length = l.length) (h : ∀ i (h : i < l.length) (h' : i < ls.length), Pr 3 l[i] ls[i]) : PrF l (funI ls)
def PrG (fs : List (List Nd)) (xs : List (List It)) : Prop := xs.length = fs.length ∧ ∀ i (h : i < fs.length) (h' : i < xs.length), PrF fs[i] xs[i]
theorem PrG.cons_iff {a : List Nd} {l : List (List Nd)} {x : List It} {ls : List (List It)} : PrG (a :: l) (x :: ls) ↔ PrF a x ∧ PrG l ls := by
 constructor
 ·rintro ⟨h1, h2⟩; refine ⟨h2 0 (by simp) (by simp), by simpa using h1, fun i h h' => ?_⟩; have := h2 (i + 1) (by simp; omega) (by simp; omega)
  simpa using this
 ·rintro ⟨h1, h2, h3⟩; refine ⟨by simp [h2], fun i h h' => ?_⟩
  cases i with
  | zero => exact h1
  | succ i => exact h3 i (by simp at h; omega) (by simp at h'; omega)
def StopG (v : List UInt8) : Prop := v = [] ∨ ∃ c r, v = c :: r ∧ digitB c = false ∧ moreB c = false ∧ c ≠ 60 ∧ c ≠ 61 ∧ c ≠ 62
def Fine : List It → Prop
 | [] => True
 | .b c :: r => blankB c = true ∧ Fine r
 | .t k n x :: r => TokOk ⟨k, n, x, 0⟩ ∧ (StopG (flat r) ∨ (k = 5 ∧ ∃ c, x = [c] ∧ ∀ d, sign2 c d = false)) ∧ Fine r
def FI (x : List It) : Prop := ∀ r, Fine r → StopG (flat r) → Fine (x ++ r)
theorem stop_sp (r : List It) : StopG (flat (sp :: r)) := .inr ⟨32, flat r, by rw [flat_cons]; rfl, by decide⟩
theorem stop_sg {c : UInt8} (hc : c ∈ [44, 41, 125, 93, 124, 40, 59, 46]) (r : List It) : StopG (flat (sg c :: r)) := by
 refine .inr ⟨c, flat r, by rw [flat_cons]; rfl, ?_⟩; have : ∀ c ∈ ([44, 41, 125, 93, 124, 40, 59, 46] : List UInt8), digitB c = false ∧ moreB c = false ∧ c ≠ 60 ∧ c ≠ 61 ∧ c ≠ 62 := by decide
 exact this c hc
theorem fine_sg {c : UInt8} (hc : c ∈ [44, 41, 125, 93, 124, 40, 59, 46, 123, 91]) {r : List It} (h : Fine r) : Fine (sg c :: r) := by
 have : ∀ c ∈ ([44, 41, 125, 93, 124, 40, 59, 46, 123, 91] : List UInt8), signsL.contains c = true ∧ c ≠ 45 ∧ c ≠ 61 ∧ c ≠ 47 ∧ c ≠ 62 := by decide
 obtain ⟨h1, h2, h3, h4, h5⟩ := this c hc; exact ⟨.inr ⟨rfl, .inr (.inr (.inr ⟨rfl, .inl ⟨c, rfl, h1⟩⟩))⟩, .inr ⟨rfl, c, rfl, fun d => by simp [sign2, h2, h3, h4, h5]⟩, h⟩
theorem fine_sp {r : List It} (h : Fine r) : Fine (sp :: r) := ⟨by decide, h⟩
theorem fine_t {k n : Int} {x : List UInt8} (ht : TokOk ⟨k, n, x, 0⟩) {r : List It} (hs : StopG (flat r)) (h : Fine r) : Fine (.t k n x :: r) := ⟨ht, .inl hs, h⟩
theorem ok_wd {x : List UInt8} (h : wordsS.contains x = true) : TokOk ⟨4, 0, x, 0⟩ := .inr ⟨rfl, .inr (.inr (.inl ⟨rfl, h⟩))⟩
theorem ok_sg {c : UInt8} (h : signsL.contains c = true) : TokOk ⟨5, 0, [c], 0⟩ := .inr ⟨rfl, .inr (.inr (.inr ⟨rfl, .inl ⟨c, rfl, h⟩⟩))⟩
theorem ok_to : TokOk ⟨5, 0, sTo, 0⟩ := .inr ⟨rfl, .inr (.inr (.inr ⟨rfl, .inr ⟨45, 62, rfl, by decide⟩⟩))⟩
theorem FI.brack {x : List It} (h : FI x) : FI (inBr x) := fun r hr _ => by
 unfold inBr; simp only [List.cons_append, List.append_assoc, List.nil_append]; exact fine_sg (by decide) (h _ (fine_sg (by decide) hr) (stop_sg (by decide) r))
theorem FI.oper {a : Nd} {x : List It} (h : FI x) : FI (operI a x) := by unfold operI; split; exact h.brack; exact h
theorem FI.clld {a : Nd} {x : List It} (h : FI x) : FI (callI a x) := by unfold callI; split; exact h; exact h.brack
theorem fine_sep {s : List It} (h1 : ∀ r, Fine r → Fine (s ++ r)) (h2 : ∀ r, StopG (flat (s ++ r))) : ∀ (ls : List (List It)), (∀ i (h : i < ls.length), FI ls[i]) → ∀ r, Fine r → StopG (flat r) → Fine (sepI s ls ++ r)
 | [], _, r, hr, _ => hr
 | [x], h, r, hr, hs => h 0 (by simp) r hr hs
 | x :: y :: q, h, r, hr, hs => by
  have ih := fine_sep h1 h2 (y :: q) (fun i hi => h (i + 1) (by simpa using hi)) r hr hs; show Fine (x ++ s ++ sepI s (y :: q) ++ r); rw [List.append_assoc, List.append_assoc]; exact h 0 (by simp) _ (h1 _ ih) (h2 _)
theorem fine_comma {ls : List (List It)} (h : ∀ i (h : i < ls.length), FI ls[i]) {r : List It} (hr : Fine r) (hs : StopG (flat r)) : Fine (sepI comma ls ++ r) :=
 fine_sep (fun r h => fine_sg (by decide) h) (fun r => stop_sg (by decide) r) ls h r hr hs
theorem fine_commaB {ls : List (List It)} (h : ∀ i (h : i < ls.length), FI ls[i]) {r : List It} (hr : Fine r) (hs : StopG (flat r)) : Fine (sepI commaB ls ++ r) :=
 fine_sep (fun r h => fine_sg (by decide) (fine_sp h)) (fun r => stop_sg (by decide) _) ls h r hr hs
theorem fine_semiB {ls : List (List It)} (h : ∀ i (h : i < ls.length), FI ls[i]) {r : List It} (hr : Fine r) (hs : StopG (flat r)) : Fine (sepI semiB ls ++ r) :=
 fine_sep (fun r h => fine_sg (by decide) (fine_sp h)) (fun r => stop_sg (by decide) _) ls h r hr hs
theorem FI.tail {gs bs : List (List It)} (hg : ∀ i (h : i < gs.length), FI gs[i]) (hb : ∀ i (h : i < bs.length), FI bs[i]) : FI (tailI gs bs) := fun r hr hs => by
 unfold tailI; have h2 : Fine (sp :: .t 5 0 sTo :: sp :: sepI commaB bs ++ r) := fine_sp (fine_t ok_to (stop_sp _) (fine_sp (fine_commaB hb hr hs))); rw [List.append_assoc]
 split
 ·exact h2
 ·simp only [List.cons_append] at h2 ⊢; exact fine_sp (fine_t (ok_wd (by decide)) (stop_sp _) (fine_sp (fine_commaB hg h2 (stop_sp _))))
theorem stop_tail (gs bs : List (List It)) (r : List It) : StopG (flat (tailI gs bs ++ r)) := by
 unfold tailI
 split
 ·exact stop_sp _
 ·exact stop_sp _
theorem fi_ls {l : List Nd} {ls : List (List It)} (hl : ls.length = l.length) (h : ∀ i (h : i < l.length) (h' : i < ls.length), FI ls[i]) : ∀ i (h : i < ls.length), FI ls[i] := fun i hi => h i (by omega) hi
theorem sep_stop (s : List It) : ∀ ls : List (List It), ls ≠ [] → (∀ i (h : i < ls.length), ∀ r, StopG (flat (ls[i] ++ r))) → ∀ r, StopG (flat (sepI s ls ++ r))
 | [], h0, _, _ => absurd rfl h0
 | [x], _, h, r => h 0 (by simp) r
 | x :: y :: q, _, h, r => by
  show StopG (flat (x ++ s ++ sepI s (y :: q) ++ r)); rw [List.append_assoc, List.append_assoc]; exact h 0 (by simp) _
theorem ls_ne2 {l : List Nd} {ls : List (List It)} (hl : ls.length = l.length) (h : l ≠ []) : ls ≠ [] := by rintro rfl; exact h (List.eq_nil_of_length_eq_zero hl.symm)
def FC (j : Nat) (x : List It) : Prop := FI x ∧ (j = 4 ∨ j = 2 → ∀ r, StopG (flat (x ++ r)))
theorem FC.of {x : List It} {j : Nat} (h : FI x) (hj : ¬ (j = 4 ∨ j = 2)) : FC j x := ⟨h, fun h => absurd h hj⟩
theorem fc_ls {j : Nat} {l : List Nd} {ls : List (List It)} (hl : ls.length = l.length) (h : ∀ i (h : i < l.length) (h' : i < ls.length), FC j ls[i]) : ∀ i (h : i < ls.length), FI ls[i] := fun i hi => (h i (by omega) hi).1
theorem pr_fine {j : Nat} {a : Nd} {x : List It} (h : Pr j a x) : FC j x := by
 have he : ∀ r, Fine r → StopG (flat r) → Fine (sp :: wd sEnd :: r) := fun r hr hs => fine_sp (fine_t (ok_wd (by decide)) hs hr)
 induction h with
 | leaf h h3 => exact FC.of (fun r hr hs => fine_t h hs hr) (by decide)
 | tuple hl h ih =>
  refine FC.of (fun r hr hs => ?_) (by decide); simp only [List.cons_append, List.append_assoc, List.nil_append]; exact fine_sg (by decide) (fine_comma (fc_ls hl ih) (fine_sg (by decide) hr) (stop_sg (by decide) r))
 | nil => exact FC.of (fun r hr hs => fine_sg (by decide) (fine_sg (by decide) hr)) (by decide)
 | cons ha ht iha iht =>
  refine FC.of (fun r hr hs => ?_) (by decide); simp only [List.cons_append, List.append_assoc, List.nil_append]; exact fine_sg (by decide) (iha.1 _ (iht.1 r hr hs) (iht.2 (.inl rfl) r))
 | rest_nil => exact ⟨fun r hr hs => fine_sg (by decide) hr, fun _ r => stop_sg (by decide) r⟩
 | rest_cons ha ht iha iht =>
  refine ⟨fun r hr hs => ?_, fun _ r => stop_sg (by decide) _⟩; simp only [List.cons_append, List.append_assoc, List.nil_append]; exact fine_sg (by decide) (iha.1 _ (iht.1 r hr hs) (iht.2 (.inl rfl) r))
 | rest_bar ht h5 h6 iht =>
  refine ⟨fun r hr hs => ?_, fun _ r => stop_sg (by decide) _⟩; simp only [List.cons_append, List.append_assoc, List.nil_append]; exact fine_sg (by decide) (iht.1 _ (fine_sg (by decide) hr) (stop_sg (by decide) _))
 | call hn hl h ih =>
  refine FC.of (fun r hr hs => ?_) (by decide); simp only [List.cons_append, List.append_assoc, List.nil_append]; exact fine_t hn (stop_sg (by decide) _) (fine_sg (by decide) (fine_comma (fc_ls hl ih) (fine_sg (by decide) hr) (stop_sg (by decide) r)))
 | apply hf hl h ihf ih =>
  refine FC.of (fun r hr hs => ?_) (by decide); simp only [List.cons_append, List.append_assoc, List.nil_append]; exact (FI.clld ihf.1) _ (fine_sg (by decide) (fine_comma (fc_ls hl ih) (fine_sg (by decide) hr) (stop_sg (by decide) r))) (stop_sg (by decide) _)
 | op hu ht hk h4 ha hb iha ihb =>
  refine FC.of (fun r hr hs => ?_) (by decide); simp only [List.cons_append, List.append_assoc, List.nil_append]; exact (FI.oper iha.1) _ (fine_sp (fine_t hk (stop_sp _) (fine_sp ((FI.oper ihb.1) r hr hs)))) (stop_sp _)
 | un ht hk h4 ha iha =>
  refine FC.of (fun r hr hs => ?_) (by decide); simp only [List.cons_append, List.append_assoc, List.nil_append]; exact fine_t hk (stop_sp _) (fine_sp ((FI.oper iha.1) r hr hs))
 | mat ha hb iha ihb =>
  refine FC.of (fun r hr hs => ?_) (by decide); simp only [List.cons_append, List.append_assoc, List.nil_append]; exact (FI.oper iha.1) _ (fine_sp (fine_t (ok_sg (by decide)) (stop_sp _) (fine_sp ((FI.oper ihb.1) r hr hs)))) (stop_sp _)
 | send ha hb iha ihb =>
  refine FC.of (fun r hr hs => ?_) (by decide); simp only [List.cons_append, List.append_assoc, List.nil_append]; exact (FI.oper iha.1) _ (fine_sp (fine_t (ok_sg (by decide)) (stop_sp _) (fine_sp ((FI.oper ihb.1) r hr hs)))) (stop_sp _)
 | fn h0 hl h ih =>
  refine FC.of (fun r hr hs => ?_) (by decide); simp only [List.cons_append, List.append_assoc, List.nil_append]; exact fine_t (ok_wd (by decide)) (sep_stop _ _ (ls_ne2 hl h0) (fun i hi => (ih i (by omega) hi).2 (.inr rfl)) _) (fine_semiB (fc_ls hl ih) (he r hr hs) (stop_sp _))
 | case ha h0 hl h iha ih =>
  refine FC.of (fun r hr hs => ?_) (by decide); simp only [List.cons_append, List.append_assoc, List.nil_append]; exact fine_t (ok_wd (by decide)) (stop_sp _) (fine_sp (iha.1 _ (fine_sp (fine_t (ok_wd (by decide)) (stop_sp _) (fine_sp (fine_semiB (fc_ls hl ih) (he r hr hs) (stop_sp _))))) (stop_sp _)))
 | tr hb0 hbl hb h0 hl h ihb ih =>
  refine FC.of (fun r hr hs => ?_) (by decide); simp only [List.cons_append, List.append_assoc, List.nil_append]; exact fine_t (ok_wd (by decide)) (stop_sp _) (fine_sp (fine_commaB (fc_ls hbl ihb) (fine_sp (fine_t (ok_wd (by decide)) (stop_sp _) (fine_sp (fine_semiB (fc_ls hl ih) (he r hr hs) (stop_sp _))))) (stop_sp _)))
 | recv h0 hl h ih =>
  refine FC.of (fun r hr hs => ?_) (by decide); simp only [List.cons_append, List.append_assoc, List.nil_append]; exact fine_t (ok_wd (by decide)) (stop_sp _) (fine_sp (fine_semiB (fc_ls hl ih) (he r hr hs) (stop_sp _)))
 | @recvA l b ls bs a x hl h ha hb0 hbl hb ih iha ihb =>
  refine FC.of (fun r hr hs => ?_) (by decide)
  have h2 : Fine (sp :: wd sAfter :: sp :: (x ++ sp :: .t 5 0 sTo :: sp :: (sepI commaB bs ++ sp :: wd sEnd :: r))) :=
   fine_sp (fine_t (ok_wd (by decide)) (stop_sp _) (fine_sp (iha.1 _ (fine_sp (fine_t ok_to (stop_sp _) (fine_sp (fine_commaB (fc_ls hbl ihb) (he r hr hs) (stop_sp _))))) (stop_sp _))))
  split
  ·simp only [List.cons_append, List.append_assoc, List.nil_append]; exact fine_t (ok_wd (by decide)) (stop_sp _) h2
  ·simp only [List.cons_append, List.append_assoc, List.nil_append]; exact fine_t (ok_wd (by decide)) (stop_sp _) (fine_sp (fine_semiB (fc_ls hl ih) h2 (stop_sp _)))
 | arm hp hgl hg hb0 hbl hb ihp ihg ihb =>
  refine FC.of (fun r hr hs => ?_) (by decide); rw [List.append_assoc]; exact ihp.1 _ ((FI.tail (fc_ls hgl ihg) (fc_ls hbl ihb)) r hr hs) (stop_tail _ _ r)
 | head hpl hp hgl hg hb0 hbl hb ihp ihg ihb =>
  refine ⟨fun r hr hs => ?_, fun _ r => stop_sg (by decide) _⟩; simp only [List.cons_append, List.append_assoc, List.nil_append]; exact fine_sg (by decide) (fine_comma (fc_ls hpl ihp) (fine_sg (by decide) ((FI.tail (fc_ls hgl ihg) (fc_ls hbl ihb)) r hr hs)) (stop_sg (by decide) _))
 | fhead hn hpl hp hgl hg hb0 hbl hb ihp ihg ihb =>
  refine FC.of (fun r hr hs => ?_) (by decide); simp only [List.cons_append, List.append_assoc, List.nil_append]; exact fine_t hn (stop_sg (by decide) _) (fine_sg (by decide) (fine_comma (fc_ls hpl ihp) (fine_sg (by decide) ((FI.tail (fc_ls hgl ihg) (fc_ls hbl ihb)) r hr hs)) (stop_sg (by decide) _)))
theorem escLen_le (c : UInt8) : (escL c).length ≤ 4 := by unfold escL; split <;> (try split) <;> simp
theorem flatEscLen_le (l : List UInt8) : (l.flatMap escL).length ≤ 4 * l.length := by
 induction l with
 | nil => simp
 | cons c r ih => have := escLen_le c; simp only [List.flatMap_cons, List.length_append, List.length_cons]; omega
theorem decLen_le : ∀ (k u : Nat), 1 ≤ k → u < 10 ^ k → (Lib.decDigits u).length ≤ k
 | 0, _, h, _ => absurd h (by omega)
 | k + 1, u, _, hu => by
  rw [Lib.decDigits]
  split
  ·simp
  ·rename_i h
   have hk : 1 ≤ k := by
    rcases k with _ | k
    ·simp at hu; omega
    ·omega
   have := decLen_le k (u / 10) hk (by rw [Nat.pow_succ] at hu; omega); simp only [List.length_append, List.length_cons, List.length_nil]
   omega
theorem piece_len {k n : Int} {x : List UInt8} (h : TokOk ⟨k, n, x, 0⟩) : (It.t k n x).text.length ≤ 1100 := by
 show (if k = 1 then Lib.itoa n else if k = 2 then nameL x else x).length ≤ 1100; unfold TokOk at h; simp only at h; rcases h with ⟨rfl, rfl, m, rfl, hn⟩ | ⟨rfl, ⟨rfl, h1, h2⟩ | ⟨rfl, h1, h2, c, r, rfl, hg⟩ | ⟨rfl, hw⟩ | ⟨rfl, ⟨c, rfl, hc⟩ | ⟨c, d, rfl, hc⟩⟩⟩
 ·rw [if_pos rfl]; have hi : Lib.itoa (m : Int) = Lib.decDigits m := by unfold Lib.itoa; rw [if_neg (by omega)]; simp
  rw [hi]; have := decLen_le 20 m (by omega) (by omega)
  omega
 ·rw [if_neg (by decide), if_pos rfl]; unfold nameL
  split
  ·omega
  ·unfold quoteL; have := flatEscLen_le x; simp only [List.length_cons, List.length_append, List.length_nil]
   omega
 ·rw [if_neg (by decide), if_neg (by decide)]; omega
 ·have hall : ∀ s ∈ wordsS, s.length ≤ 255 := by decide
  have := hall x (List.contains_iff_mem.1 hw); rw [if_neg (by decide), if_neg (by decide)]; omega
 ·rw [if_neg (by decide), if_neg (by decide)]; simp
 ·rw [if_neg (by decide), if_neg (by decide)]; simp
theorem flat_len : ∀ l : List It, Fine l → (flat l).length ≤ 1100 * l.length
 | [], _ => Nat.zero_le _
 | .b c :: r, h => by
  have := flat_len r h.2; rw [flat_cons, List.length_append, List.length_cons]; show 1 + _ ≤ _
  omega
 | .t k n x :: r, h => by
  have h1 := flat_len r h.2.2; have h2 := piece_len h.1; rw [flat_cons, List.length_append, List.length_cons]
  omega
theorem FI.fine {x : List It} (h : FI x) : Fine x := by have := h [] trivial (.inl rfl); rwa [List.append_nil] at this
theorem PrF.fine {l : List Nd} {x : List It} (h : PrF l x) : ∀ r, Fine r → Fine (x ++ r) := fun r hr => by
 cases h with
 | mk h0 hl h =>
  unfold funI; rw [List.append_assoc]; exact fine_semiB (fc_ls hl fun i h1 h2 => pr_fine (h i h1 h2)) (fine_sg (by decide) ⟨by decide, hr⟩) (stop_sg (by decide) _)
theorem PrG.fine : ∀ (fs : List (List Nd)) (xs : List (List It)), PrG fs xs → Fine xs.flatten
 | [], [], _ => trivial
 | [], _ :: _, ⟨h, _⟩ => by simp at h
 | _ :: _, [], ⟨h, _⟩ => by simp at h
 | a :: l, x :: xs, h => by
  obtain ⟨h1, h2⟩ := PrG.cons_iff.1 h; rw [List.flatten_cons]; exact h1.fine _ (PrG.fine l xs h2)
open Go.RowKit Go.Emb
def StrE (w : World) (L : List UInt8) (e : Ending) (w' : World) : Prop := (∃ X : ByteArray, e = .returned (.string X) ∧ X.data.toList = L) ∧ Keep [] w w'
def TxT (B : Nat) (n : Nd) (x : List It) : Prop := ∀ (w : World) (S : Nat → Prop) (cs : List Value), TabOk B w → NdR S w false cs n → Calls Tryz.prog 10 #[.agg cs.toArray] w (StrE w (flat x))
theorem flat_sep (s : List It) : ∀ ls : List (List It), flat (sepI s ls) = Lib.join (ls.map flat) (flat s)
 | [] => rfl
 | [x] => (Lib.join_one _ _).symm
 | x :: y :: r => by
  have ih := flat_sep s (y :: r); rw [sep_cons, flat_app, flat_app, ih]; show _ = Lib.join (flat x :: (y :: r).map flat) (flat s); rw [Lib.join_cons, List.map_cons, Lib.join_cons]; simp [Lib.joinTail]
def SRow (w : World) (Ls : List (List UInt8)) (v : Value) (wr : World) : Prop :=
 ∃ o, Row wr 9 1 v Ls.length (Ls.map strV) o ∧ (∀ b, o = some b → w.heap.size ≤ b) ∧ Keep [] w wr
theorem strs_info : (Tryz.prog.info? 9).map (fun i => (i.zero, i.size, i.bytes)) = some (some (.string ⟨#[]⟩), 1, 16) := by kernel_rfl
theorem SRow.nil (w : World) : SRow w [] (.slice none 0 0) w := ⟨none, Row.nil _ _ _, by simp, Keep.refl _ _⟩
theorem SRow.form {w wr : World} {Ls : List (List UInt8)} {v : Value} (h : SRow w Ls v wr) : ∃ a c, v = .slice a Ls.length c := by
 obtain ⟨o, h, -, -⟩ := h; obtain ⟨-, ⟨-, h, hn⟩ | ⟨_, _, _, _, -, h, -⟩⟩ := h
 ·exact ⟨none, 0, by rw [h, hn]⟩
 ·exact ⟨_, _, h⟩
theorem SRow.keep {w wr w2 : World} {Ls : List (List UInt8)} {v : Value} (h : SRow w Ls v wr) (hk : Keep [] wr w2) : SRow w Ls v w2 := by
 obtain ⟨o, h1, h2, h3⟩ := h; exact ⟨o, Row.keep h1 hk (by simp), h2, h3.trans hk (by simp)⟩
theorem SRow.push {w w1 w2 : World} {Ls : List (List UInt8)} {g off cap : Nat} {o : Option Nat} {S : ByteArray} {L : List UInt8} (ho : ∀ b, o = some b → w.heap.size ≤ b) (hkw : Keep [] w w1)
  (hr : Row w2 9 1 (.slice (some ⟨g, off, none⟩) (Ls.length + 1) cap) (Ls.length + 1) (Ls.map strV ++ [Value.string S]) (some g)) (hk2 : Keep o.toList w1 w2) (hg : o = some g ∨ w1.heap.size ≤ g) (hS : S.data.toList = L) :
  SRow w (Ls ++ [L]) (.slice (some ⟨g, off, none⟩) (Ls.length + 1) cap) w2 := by
 refine ⟨some g, ?_, ?_, hkw.trans hk2 (fun x hx => .inr ?_)⟩
 ·have e : (Ls ++ [L]).map strV = Ls.map strV ++ [Value.string S] := by
   rw [List.map_append, ← hS]; rfl
  rw [e, List.length_append]; exact hr
 ·rintro b ⟨⟩; rcases hg with h | h
  ·exact ho _ h
  ·have := hkw.size; omega
 ·cases o with
  | none => simp at hx
  | some y => simp at hx; subst hx; exact ho _ rfl
theorem p_join {w wr : World} {Ls : List (List UInt8)} {v : Value} (h : SRow w Ls v wr) (sep : ByteArray) (hlen : (Lib.join Ls sep.data.toList).length ≤ 140737488355328) (hN : Ls.length ≤ 140737488355328) :
  Calls Tryz.prog 53 #[v, .string sep] wr (StrE wr (Lib.join Ls sep.data.toList)) := by
 obtain ⟨o, ⟨-, ⟨-, rfl, hn⟩ | ⟨b, off, cap, cs, -, rfl, hb, hcap, hmax, hcs, hcell⟩⟩, -, -⟩ := h
 ·have := List.eq_nil_of_length_eq_zero hn; subst this; refine (Tryz.strings_Join_none none 0 sep wr).mono ?_; rintro e w' ⟨rfl, rfl⟩; exact ⟨⟨_, rfl, rfl⟩, Keep.refl _ _⟩
 ·have hl : (Ls.map fun l => (⟨l.toArray⟩ : ByteArray)).length = Ls.length := by simp
  have hm : (Ls.map fun l => (⟨l.toArray⟩ : ByteArray)).map (·.data.toList) = Ls := by rw [List.map_map]; exact List.map_id _
  have hj := Tryz.strings_Join b off cap (Ls.map fun l => (⟨l.toArray⟩ : ByteArray)) sep wr (fun j x hx => by
    have hj : j < Ls.length := by rw [← hl]; exact (List.getElem?_eq_some_iff.1 hx).1
    have h1 := hcell j (by omega); simp only [World.cell?, hb]; rw [List.getElem?_map] at hx; rw [h1, List.getElem?_map]
    cases hq : Ls[j]? with
    | none => rw [hq] at hx; cases hx
    | some q => rw [hq] at hx; cases hx; rfl) (Array.getElem?_eq_some_iff.1 hb).1 (by rw [hl]; exact hN) (by rw [hl]; exact hcap) (by rw [hm]; exact hlen)
  rw [hl, hm] at hj; refine hj.mono ?_; rintro e w' ⟨rfl, hbl⟩; exact ⟨⟨_, rfl, by simp⟩, Keep.of_below (F := []) hbl⟩
theorem p_texts {w : World} {B : Nat} {S : Nat → Prop} {v : Value} {l : List Nd} {ls : List (List It)} {s : List It} {sep : ByteArray} (ht : TabOk B w) (h : NsR S w false v l) (hl : ls.length = l.length) (hx : ∀ i (h : i < l.length) (h' : i < ls.length), TxT B l[i] ls[i])
  (hs : sep.data.toList = flat s) (hlen : (flat (sepI s ls)).length ≤ 140737488355328) (hN : l.length ≤ 1000000) : Calls Tryz.prog 31 #[v, .string sep] w (StrE w (flat (sepI s ls))) := by
 rw [flat_sep] at hlen ⊢; obtain ⟨va, vc, rfl⟩ := h.form; obtain ⟨i0, hi, hz0, hz1, hz2⟩ := info_parts strs_info; have HI := hyd hi; have HT := hyd ht; have HH := hyd h; have HX := hyd (And.intro hl hx); have HS := hyd hs; have HLEN := hyd hlen; clear h ht hi hx hs hlen hl; go_enter Tryz.func31, Tryz.ntmps31; go_wp2_with fail
 go_loopw [5, 10] (fun v i wr => ∃ k : Nat, k ≤ l.length ∧ i = .int .i64 k ∧ SRow w ((ls.take k).map flat) v wr) (fun _ i _ => l.length - (RowKit.intOf i).toNat)
 case atStart => exact ⟨0, Nat.zero_le _, rfl, SRow.nil w⟩
 case round =>
  obtain ⟨k, hk, rfl, hrow⟩ := hrel; have hkl : ((ls.take k).map flat).length = k := by rw [List.length_map, List.length_take, HX.o.1]; omega
  obtain ⟨ra, rc, hrv⟩ := hrow.form; rw [hkl] at hrv; subst hrv; have HROW := hyd hrow; have HKL := hyd hkl; have hkw : Keep [] w wr := by obtain ⟨o, -, -, h⟩ := hrow; exact h
  have HKW := hyd hkw; clear hrow hkl hkw
  by_cases hlt : k < l.length
  ·have q0 : (0 : Int) ≤ (k : Int) := by omega
   have q1 : (k : Int) < (l.length : Int) := by omega
   obtain ⟨ab, aoff, csa, rfl, -, hnd, hcell⟩ := (HH.o.keep HKW.o (by simp)).at7 hlt; obtain ⟨kd, nu, at1, nm, p1, n1, c1, p2, n2, c2, p3, n3, c3, rfl, -⟩ := id hnd.un7s; have hleA0 := hcell 0 (by decide); have hleA1 := hcell 1 (by decide); have hleA2 := hcell 2 (by decide); have hleA3 := hcell 3 (by decide); have hleA4 := hcell 4 (by decide); have hleA5 := hcell 5 (by decide); have hleA6 := hcell 6 (by decide); simp only [Nat.add_zero, List.getElem?_cons_zero, List.getElem?_cons_succ] at hleA0 hleA1 hleA2 hleA3 hleA4 hleA5 hleA6; have hk5 := (Keep.refl [] wr).alloc (.cells #[.int .i64 kd, .int .i64 nu, .string ⟨nm.toArray⟩, .int .i64 at1, .slice p1 n1 c1, .slice p2 n2 c2, .slice p3 n3 c3] 29); have hb5 := heap_alloc_new wr (.cells #[.int .i64 kd, .int .i64 nu, .string ⟨nm.toArray⟩, .int .i64 at1, .slice p1 n1 c1, .slice p2 n2 c2, .slice p3 n3 c3] 29); have hcall := HX.o.2 k hlt (by rw [HX.o.1]; exact hlt) (wr.alloc (.cells #[.int .i64 kd, .int .i64 nu, .string ⟨nm.toArray⟩, .int .i64 at1, .slice p1 n1 c1, .slice p2 n2 c2, .slice p3 n3 c3] 29)) S _ (HT.o.keep0 (HKW.o.trans hk5 (by simp))) (hnd.keep hk5 (by simp)); have HCALL := hyd hcall; have HR5 := hyd (HROW.o.keep hk5); obtain ⟨d0, d1, d2, d3, d4, d5, d6⟩ := cells7 hb5; clear hcall hcell hnd hb5 hk5; go_wp2_with fail; refine HCALL.o.mono ?_; rintro e w6 ⟨⟨X, rfl, hX⟩, hk6⟩; have hr6 := HR5.o.keep hk6; generalize wr.alloc _ = w5 at *; have HR6 := hyd hr6; have HXX := hyd hX; clear hr6 hX hk6 d0 d1 d2 d3 d4 d5 d6 hleA0 hleA1 hleA2 hleA3 hleA4 hleA5 hleA6; obtain ⟨o, hro, ho, hko⟩ := HR6.o; have t1 := src_blk (P := Tryz.prog) (k := 1) Tryz.underlying90 (heap_alloc_new w6 (.cells #[.string X] 9)) rfl (by intro u hu; simp at hu; subst hu; rfl); have t2 := Row.keep hro ((Keep.refl [] w6).alloc (.cells #[.string X] 9)) (by simp); rw [HKL.o] at t2; have T1 := hyd t1; have T2 := hyd t2; have HO := hyd ho; have HKO := hyd hko; clear t1 t2 hro ho hko
   go_wp2_with (at_builtin; refine wpList_append_row _ rfl _ _ 90 90 rfl 9 i0 (.string ⟨#[]⟩) 1 16 Tryz.underlying90 HI.o hz0 hz1 hz2 rfl _ k _ o rfl T2.o _ rfl 1 _ T1.o (by omega) (by first | (unfold maxLen; omega) | (simp [maxLen] <;> omega)) (by omega) ?_)
   intro g off cap w9 hr9 hk9 hg9; have hpush := SRow.push (Ls := (ls.take k).map flat) (S := X) HO.o HKO.o (by rw [HKL.o]; simpa using hr9) (((Keep.refl o.toList w6).alloc _).trans hk9 (fun b hb => .inl hb)) (by rcases hg9 with h | h; (· exact .inl h); exact .inr (by first | omega | (simp at h; omega))) HXX.o; rw [HKL.o] at hpush; have HPUSH := hyd hpush; clear hr9 hk9 hg9 hpush T1 T2; go_wp2_with fail; go_roundw
   case rel => exact ⟨k + 1, by omega, by go_num, by have h := HPUSH.o; rwa [show (ls.take (k + 1)).map flat = (ls.take k).map flat ++ [flat (ls[k]'(by rw [HX.o.1]; exact hlt))] from by rw [List.take_succ_eq_append_getElem (by rw [HX.o.1]; exact hlt), List.map_append]; rfl]⟩
   case measure => simp [intOf]; omega
  ·obtain rfl : k = l.length := by omega
   have q1 : ¬ (l.length : Int) < (l.length : Int) := by omega
   have hrow := HROW.o; rw [List.take_of_length_le (by rw [HX.o.1]; exact Nat.le_refl _)] at hrow; have hj := p_join hrow sep (by rw [HS.o]; exact HLEN.o) (by rw [List.length_map, HX.o.1]; omega); have HJ := hyd hj; clear hrow hj; go_wp2_with fail; refine HJ.o.mono ?_; rintro e w6 ⟨⟨X, rfl, hX⟩, hk6⟩; have HK6 := hyd (And.intro hX (HKW.o.trans hk6 (by simp))); clear hX hk6; go_wp2_with fail; go_ret; exact ⟨⟨X, rfl, by rw [HK6.o.1, HS.o]⟩, HK6.o.2⟩
theorem size_list (X : ByteArray) : X.size = X.data.toList.length := by rw [Array.length_toList]; rfl
theorem p_operand {w : World} {B : Nat} {S : Nat → Prop} {cs : List Value} {n : Nd} {x : List It} (ht : TabOk B w) (h : NdR S w false cs n) (hx : TxT B n x) (hlen : (flat x).length ≤ 140737488355000) : Calls Tryz.prog 34 #[.agg cs.toArray] w (StrE w (flat (operI n x))) := by
 obtain ⟨kd, nu, at1, nm, a, b, c, va, vb, vc, rfl, rfl, h1, h2, h3⟩ := id h.un7; obtain ⟨p1, c1, rfl⟩ := h1.form; obtain ⟨p2, c2, rfl⟩ := h2.form; obtain ⟨p3, c3, rfl⟩ := h3.form; obtain ⟨n1, hn1⟩ : ∃ n1, n1 = a.length := ⟨_, rfl⟩; obtain ⟨n2, hn2⟩ : ∃ n2, n2 = b.length := ⟨_, rfl⟩; obtain ⟨n3, hn3⟩ : ∃ n3, n3 = c.length := ⟨_, rfl⟩; rw [← hn1, ← hn2, ← hn3] at h ⊢; have hk5 := (Keep.refl [] w).alloc (.cells #[.int .i64 kd, .int .i64 nu, .string ⟨nm.toArray⟩, .int .i64 at1, .slice p1 n1 c1, .slice p2 n2 c2, .slice p3 n3 c3] 29); have hb5 := heap_alloc_new w (.cells #[.int .i64 kd, .int .i64 nu, .string ⟨nm.toArray⟩, .int .i64 at1, .slice p1 n1 c1, .slice p2 n2 c2, .slice p3 n3 c3] 29); have hcall := hx (w.alloc (.cells #[.int .i64 kd, .int .i64 nu, .string ⟨nm.toArray⟩, .int .i64 at1, .slice p1 n1 c1, .slice p2 n2 c2, .slice p3 n3 c3] 29)) S _ (ht.keep0 hk5) (h.keep hk5 (by simp)); have HCALL := hyd hcall; have HLEN := hyd hlen; have HK5 := hyd hk5; obtain ⟨d0, d1, d2, d3, d4, d5, d6⟩ := cells7 hb5; have hv : operI (.mk kd nu nm a b c) x = if kd = 9 ∨ kd = 10 ∨ kd = 11 ∨ kd = 12 then inBr x else x := rfl
 clear hcall hb5 hk5 h ht hx hlen h1 h2 h3 hn1 hn2 hn3; go_enter Tryz.func34, Tryz.ntmps34
 by_cases hk : kd = 9 ∨ kd = 10 ∨ kd = 11 ∨ kd = 12
 ·rw [if_pos hk] at hv; rw [hv]; clear hv; rcases hk with rfl | rfl | rfl | rfl
  all_goals
   go_wp2_with fail; refine HCALL.o.mono ?_; rintro e w6 ⟨⟨X, rfl, hX⟩, hk6⟩; have HK6 := hyd (And.intro hX (HK5.o.trans hk6 (by simp))); have hxs : X.size ≤ 140737488355000 := by rw [size_list, hX]; exact HLEN.o
   clear hX hk6; go_wp2_with fail; go_ret; exact ⟨⟨_, rfl, by simp [HK6.o.1, flat_cons, flat_app, flat_nil, inBr, It.text]⟩, HK6.o.2⟩
 ·rw [if_neg hk] at hv; rw [hv]; clear hv; have e9 : (kd == 9) = false := beq_eq_false_iff_ne.2 (fun h => hk (by simp [h])); have e10 : (kd == 10) = false := beq_eq_false_iff_ne.2 (fun h => hk (by simp [h])); have e11 : (kd == 11) = false := beq_eq_false_iff_ne.2 (fun h => hk (by simp [h])); have e12 : (kd == 12) = false := beq_eq_false_iff_ne.2 (fun h => hk (by simp [h])); go_wp2_with fail; refine HCALL.o.mono ?_; rintro e w6 ⟨⟨X, rfl, hX⟩, hk6⟩; have HK6 := hyd (And.intro hX (HK5.o.trans hk6 (by simp))); have hxs : X.size ≤ 140737488355000 := by rw [size_list, hX]; exact HLEN.o
  clear hX hk6; go_wp2_with fail; go_ret; exact ⟨⟨_, rfl, by simp [HK6.o.1, flat_cons, flat_app, flat_nil, inBr, It.text]⟩, HK6.o.2⟩
theorem p_called {w : World} {B : Nat} {S : Nat → Prop} {cs : List Value} {n : Nd} {x : List It} (ht : TabOk B w) (h : NdR S w false cs n) (hx : TxT B n x) (hlen : (flat x).length ≤ 140737488355000) : Calls Tryz.prog 33 #[.agg cs.toArray] w (StrE w (flat (callI n x))) := by
 obtain ⟨kd, nu, at1, nm, a, b, c, va, vb, vc, rfl, rfl, h1, h2, h3⟩ := id h.un7; obtain ⟨p1, c1, rfl⟩ := h1.form; obtain ⟨p2, c2, rfl⟩ := h2.form; obtain ⟨p3, c3, rfl⟩ := h3.form; obtain ⟨n1, hn1⟩ : ∃ n1, n1 = a.length := ⟨_, rfl⟩; obtain ⟨n2, hn2⟩ : ∃ n2, n2 = b.length := ⟨_, rfl⟩; obtain ⟨n3, hn3⟩ : ∃ n3, n3 = c.length := ⟨_, rfl⟩; rw [← hn1, ← hn2, ← hn3] at h ⊢; have hk5 := (Keep.refl [] w).alloc (.cells #[.int .i64 kd, .int .i64 nu, .string ⟨nm.toArray⟩, .int .i64 at1, .slice p1 n1 c1, .slice p2 n2 c2, .slice p3 n3 c3] 29); have hb5 := heap_alloc_new w (.cells #[.int .i64 kd, .int .i64 nu, .string ⟨nm.toArray⟩, .int .i64 at1, .slice p1 n1 c1, .slice p2 n2 c2, .slice p3 n3 c3] 29); have hcall := hx (w.alloc (.cells #[.int .i64 kd, .int .i64 nu, .string ⟨nm.toArray⟩, .int .i64 at1, .slice p1 n1 c1, .slice p2 n2 c2, .slice p3 n3 c3] 29)) S _ (ht.keep0 hk5) (h.keep hk5 (by simp)); have HCALL := hyd hcall; have HLEN := hyd hlen; have HK5 := hyd hk5; obtain ⟨d0, d1, d2, d3, d4, d5, d6⟩ := cells7 hb5; have hv : callI (.mk kd nu nm a b c) x = if kd = 3 ∨ kd = 7 ∨ kd = 8 then x else inBr x := rfl
 clear hcall hb5 hk5 h ht hx hlen h1 h2 h3 hn1 hn2 hn3; go_enter Tryz.func33, Tryz.ntmps33
 by_cases hk : kd = 3 ∨ kd = 7 ∨ kd = 8
 ·rw [if_pos hk] at hv; rw [hv]; clear hv; rcases hk with rfl | rfl | rfl
  all_goals
   go_wp2_with fail; refine HCALL.o.mono ?_; rintro e w6 ⟨⟨X, rfl, hX⟩, hk6⟩; have HK6 := hyd (And.intro hX (HK5.o.trans hk6 (by simp))); have hxs : X.size ≤ 140737488355000 := by rw [size_list, hX]; exact HLEN.o
   clear hX hk6; go_wp2_with fail; go_ret; exact ⟨⟨_, rfl, by simp [HK6.o.1, flat_cons, flat_app, flat_nil, inBr, It.text]⟩, HK6.o.2⟩
 ·rw [if_neg hk] at hv; rw [hv]; clear hv; have e3 : (kd == 3) = false := beq_eq_false_iff_ne.2 (fun h => hk (by simp [h])); have e7 : (kd == 7) = false := beq_eq_false_iff_ne.2 (fun h => hk (by simp [h])); have e8 : (kd == 8) = false := beq_eq_false_iff_ne.2 (fun h => hk (by simp [h])); go_wp2_with fail; refine HCALL.o.mono ?_; rintro e w6 ⟨⟨X, rfl, hX⟩, hk6⟩; have HK6 := hyd (And.intro hX (HK5.o.trans hk6 (by simp))); have hxs : X.size ≤ 140737488355000 := by rw [size_list, hX]; exact HLEN.o
  clear hX hk6; go_wp2_with fail; go_ret; exact ⟨⟨_, rfl, by simp [HK6.o.1, flat_cons, flat_app, flat_nil, inBr, It.text]⟩, HK6.o.2⟩
theorem p_arm {w : World} {B : Nat} {S : Nat → Prop} {cs : List Value} {nm : List UInt8} {p g b : List Nd} {gs bs : List (List It)} (ht : TabOk B w) (h : NdR S w true cs (.mk 0 0 nm p g b))
  (hgl : gs.length = g.length) (hg : ∀ i (h : i < g.length) (h' : i < gs.length), TxT B g[i] gs[i]) (hbl : bs.length = b.length) (hb : ∀ i (h : i < b.length) (h' : i < bs.length), TxT B b[i] bs[i])
  (hlen : (flat (tailI gs bs)).length ≤ 140737488355000) (hN : g.length ≤ 1000000 ∧ b.length ≤ 1000000) : Calls Tryz.prog 52 #[.agg cs.toArray] w (StrE w (flat (tailI gs bs))) := by
 obtain ⟨at1, nm', a', g', b', va, vb, vc, rfl, e, h1, h2, h3⟩ := id h.un5; injection e with e1 e2 e3 e4 e5 e6; subst e3 e4 e5 e6; obtain ⟨p1, c1, rfl⟩ := h1.form; obtain ⟨p2, c2, rfl⟩ := h2.form; obtain ⟨p3, c3, rfl⟩ := h3.form; have hk5 := (Keep.refl [] w).alloc (.cells #[.slice p1 p.length c1, .slice p2 g.length c2, .slice p3 b.length c3, .string ⟨nm.toArray⟩, .int .i64 at1] 52); have hb5 := heap_alloc_new w (.cells #[.slice p1 p.length c1, .slice p2 g.length c2, .slice p3 b.length c3, .string ⟨nm.toArray⟩, .int .i64 at1] 52)
 have hfl : flat (tailI gs bs) = (if gs = [] then [] else [32, 119, 104, 101, 110, 32] ++ flat (sepI commaB gs)) ++ ([32, 45, 62, 32] ++ flat (sepI commaB bs)) := by
  unfold tailI
  split <;> simp [flat_cons, flat_app, flat_nil, It.text]
 have HFL := hyd hfl; rw [hfl] at hlen; have hT := ht.keep0 hk5; have hcB := fun W (k : Keep [] (w.alloc (.cells #[.slice p1 p.length c1, .slice p2 g.length c2, .slice p3 b.length c3, .string ⟨nm.toArray⟩, .int .i64 at1] 52)) W) => p_texts (w := W) (s := commaB) (sep := ⟨#[44, 32]⟩) (hT.keep0 k) ((h3.keep hk5 (by simp)).keep k (by simp)) hbl hb rfl (by simp only [List.length_append] at hlen; omega) hN.2
 have HCB := hyd hcB; have HLB := hyd (show (flat (sepI commaB bs)).length ≤ 140737488355000 by simp only [List.length_append] at hlen; omega); have HK5 := hyd hk5; obtain ⟨d0, d1, d2, d3, d4⟩ := cells5 hb5
 by_cases hg0 : g = []
 ·subst hg0; have := List.eq_nil_of_length_eq_zero hgl; subst this; clear hfl hlen hT hcB h h1 h2 h3 ht hb hg hb5 hk5; go_enter Tryz.func52, Tryz.ntmps52; go_wp2_with fail; refine (HCB.o _ (Keep.refl _ _)).mono ?_; rintro e w6 ⟨⟨X, rfl, hX⟩, hk6⟩; have HK6 := hyd (And.intro hX (HK5.o.trans hk6 (by simp))); have hxs : X.size ≤ 140737488355000 := by rw [size_list, hX]; exact HLB.o
  clear hX hk6; go_wp2_with fail; go_ret; exact ⟨⟨_, rfl, by rw [HFL.o]; simp [HK6.o.1]⟩, HK6.o.2⟩
 ·have hgs : gs ≠ [] := by rintro rfl; exact hg0 (List.eq_nil_of_length_eq_zero hgl.symm)
  have hgp : (0 : Int) < (g.length : Int) := by have := List.length_pos_iff.2 hg0; omega
  rw [if_neg hgs] at hlen; have hcG := p_texts (s := commaB) (sep := ⟨#[44, 32]⟩) hT (h2.keep hk5 (by simp)) hgl hg rfl (by simp only [List.length_append] at hlen; omega) hN.1; have HCG := hyd hcG; have HLG := hyd (show (flat (sepI commaB gs)).length + (flat (sepI commaB bs)).length ≤ 140737488355000 by simp only [List.length_append] at hlen; omega); clear hfl hlen hT hcB hcG h h1 h2 h3 ht hb hg hb5 hk5; go_enter Tryz.func52, Tryz.ntmps52; go_wp2_with fail; refine HCG.o.mono ?_; rintro e w6 ⟨⟨X, rfl, hX⟩, hk6⟩; have HK6 := hyd (And.intro hX hk6); have hxs : X.size + (flat (sepI commaB bs)).length ≤ 140737488355000 := by rw [size_list, hX]; exact HLG.o
  have f2 := (hk6.cell (p := ⟨w.heap.size, 2, none⟩) (by simp) (by simp)).trans d2; clear hX hk6 d0 d1 d2 d3 d4; generalize w.alloc _ = w5 at *; go_wp2_with fail; refine (HCB.o _ HK6.o.2).mono ?_; rintro e w7 ⟨⟨Y, rfl, hY⟩, hk7⟩; have hys : X.size + Y.size ≤ 140737488355000 := by rw [size_list Y, hY]; exact hxs
  have HK7 := hyd (And.intro hY ((HK5.o.trans HK6.o.2 (by simp)).trans hk7 (by simp))); clear hY hk7; go_wp2_with fail; go_ret; exact ⟨⟨_, rfl, by rw [HFL.o, if_neg hgs]; simp [HK6.o.1, HK7.o.1]⟩, HK7.o.2⟩
theorem step_append_rowB {P : Program} (w : World) {ops : Array Oper} {o : Oper} {a : Act} {K : Act → World → Prop} {Q : Exit → Act → World → Prop} {X : Prop} (hw : Region.wanted o (yielded ops a.tmps) = true) (s x : Operand) (T tx : TypeId) (ho : o.op = .call { callee := .builtin .append, args := #[s, x], argTypes := #[T, tx] })
  (E : TypeId) (i : TypeInfo) (z : Value) (k bytes : Nat) (ht : P.underlying T = some (.slice E)) (hi : P.info? E = some i) (hz : i.zero = some z) (hik : i.size = k) (hib : i.bytes = bytes) (hzs : z.cells.size = k)
  (v : Value) (n : Nat) (xs : List Value) (r : Option Nat) (hs : a.eval s = v) (hown : Row w E k v n xs r) (xv : Value) (hx : a.eval x = xv) (m : Nat) (news : List Value) (hsrc : Src P k tx xv m news w) (hpos : 0 < m) (h63 : n + m ≤ maxLen) (hbytes : (n + m) * bytes ≤ 140737488355328)
  (h : ∀ g off cap w', Row w' E k (.slice (some ⟨g, off, none⟩) (n + m) cap) (n + m) (xs ++ news) (some g) → Keep r.toList w w' → (r = some g ∨ w.heap.size ≤ g) → K (a.put o.dst (.slice (some ⟨g, off, none⟩) (n + m) cap)) w') :
  if Region.wanted o (yielded ops a.tmps) = true then Oper.wp P o a w K Q else X := by
 rw [if_pos hw]; obtain ⟨g, off, cap, w', hr, h2, h3, h4⟩ := run_append_row (P := P) (w := w) (ty := o.type) ht hi hz hik hib hzs hown hsrc hpos h63 hbytes; unfold Oper.wp execOp; simp only [ho, resolve, invoke, builtin, Sem.run_bind, Sem.run_pure, Result.andThen_ok, List.map_toArray, List.map_cons, List.map_nil, hs, hx, hr]; exact h g off cap w' h2 h3 h4
def TL (B : Nat) (l : List Nd) (ls : List (List It)) : Prop := ls.length = l.length ∧ l.length ≤ 1000000 ∧ ∀ i (_ : i < l.length) (_ : i < ls.length), TxT B l[i] ls[i]
def ClT (B : Nat) (c : Nd) (nm : List UInt8) (ps gs bs : List (List It)) : Prop := ∃ p g b, c = .mk 0 0 nm p g b ∧ TL B p ps ∧ TL B g gs ∧ TL B b bs
theorem p_arms {w : World} {B : Nat} {S : Nat → Prop} {v : Value} {l : List Nd} {ls : List (List It)} (ht : TabOk B w) (h : NsR S w true v l) (hl : ls.length = l.length) (hx : ∀ i (h : i < l.length) (h' : i < ls.length), ∃ nm ps gs bs, ClT B l[i] nm ps gs bs ∧ ls[i] = sepI comma ps ++ tailI gs bs)
  (hsz : ∀ i (h : i < ls.length), (flat ls[i]).length ≤ 140737488355000) (hlen : (flat (sepI semiB ls)).length ≤ 140737488355328) (hN : l.length ≤ 1000000) : Calls Tryz.prog 35 #[v] w (StrE w (flat (sepI semiB ls))) := by
 rw [flat_sep] at hlen ⊢; obtain ⟨va, vc, rfl⟩ := h.form; obtain ⟨i0, hi, hz0, hz1, hz2⟩ := info_parts strs_info; have HI := hyd hi; have HT := hyd ht; have HH := hyd h; have HX := hyd (And.intro hl hx); have HSZ := hyd hsz; have HLEN := hyd hlen; clear h ht hi hx hlen hl hsz; go_enter Tryz.func35, Tryz.ntmps35; go_wp2_with fail
 go_loopw [3, 8] (fun v i wr => ∃ k : Nat, k ≤ l.length ∧ i = .int .i64 k ∧ SRow w ((ls.take k).map flat) v wr) (fun _ i _ => l.length - (RowKit.intOf i).toNat)
 case atStart => exact ⟨0, Nat.zero_le _, rfl, SRow.nil w⟩
 case round =>
  obtain ⟨k, hk, rfl, hrow⟩ := hrel; have hkl : ((ls.take k).map flat).length = k := by rw [List.length_map, List.length_take, HX.o.1]; omega
  obtain ⟨ra, rc, hrv⟩ := hrow.form; rw [hkl] at hrv; subst hrv; have HROW := hyd hrow; have HKL := hyd hkl; have hkw : Keep [] w wr := by obtain ⟨o, -, -, h⟩ := hrow; exact h
  have HKW := hyd hkw; clear hrow hkl hkw
  by_cases hlt : k < l.length
  ·have q0 : (0 : Int) ≤ (k : Int) := by omega
   have q1 : (k : Int) < (l.length : Int) := by omega
   obtain ⟨ab, aoff, csa, rfl, -, hnd, hcell⟩ := (HH.o.keep HKW.o (by simp)).atk hlt; obtain ⟨nm, ps, gs, bs, ⟨p, g, b, ec, hp, hg, hb⟩, hex⟩ := HX.o.2 k hlt (by rw [HX.o.1]; exact hlt); have hszk := HSZ.o k (by rw [HX.o.1]; exact hlt); rw [hex, flat_app, List.length_append] at hszk; rw [ec] at hnd; obtain ⟨at1, nm', a', g', b', va1, vb1, vc1, rfl, e, h1, h2, h3⟩ := id hnd.un5; injection e with e1 e2 e3 e4 e5 e6; subst e3 e4 e5 e6; obtain ⟨p1, c1, rfl⟩ := h1.form; obtain ⟨p2, c2, rfl⟩ := h2.form; obtain ⟨p3, c3, rfl⟩ := h3.form; have hA0 := hcell 0 (by decide); have hA1 := hcell 1 (by decide); have hA2 := hcell 2 (by decide); have hA3 := hcell 3 (by decide); have hA4 := hcell 4 (by decide); simp only [wid, if_true, Nat.add_zero, List.getElem?_cons_zero, List.getElem?_cons_succ] at hA0 hA1 hA2 hA3 hA4; have hk5 := (Keep.refl [] wr).alloc (.cells #[.slice p1 p.length c1, .slice p2 g.length c2, .slice p3 b.length c3, .string ⟨nm.toArray⟩, .int .i64 at1] 52); have hb5 := heap_alloc_new wr (.cells #[.slice p1 p.length c1, .slice p2 g.length c2, .slice p3 b.length c3, .string ⟨nm.toArray⟩, .int .i64 at1] 52); have HB5 := hyd hb5; have hT := HT.o.keep0 (HKW.o.trans hk5 (by simp)); have HCP := hyd (fun W (k : Keep [] (wr.alloc (.cells #[.slice p1 p.length c1, .slice p2 g.length c2, .slice p3 b.length c3, .string ⟨nm.toArray⟩, .int .i64 at1] 52)) W) => p_texts (w := W) (s := comma) (sep := ⟨#[44]⟩) (hT.keep0 k) ((h1.keep hk5 (by simp)).keep k (by simp)) hp.1 hp.2.2 rfl (by omega) hp.2.1); have HCA := hyd (fun W (k : Keep [] (wr.alloc (.cells #[.slice p1 p.length c1, .slice p2 g.length c2, .slice p3 b.length c3, .string ⟨nm.toArray⟩, .int .i64 at1] 52)) W) => p_arm (w := W) (hT.keep0 k) ((hnd.keep hk5 (by simp)).keep k (by simp)) hg.1 hg.2.2 hb.1 hb.2.2 (by omega) ⟨hg.2.1, hb.2.1⟩); have HR5 := hyd (HROW.o.keep hk5); have HEX := hyd hex; have HSZ2 := hyd hszk; clear hcell hnd hb5 hk5 hT h1 h2 h3 hp hg hb hex hszk ec e1 e2; go_wp2_with fail; generalize wr.alloc _ = w5 at *; clear hA0 hA1 hA2 hA3 hA4; refine wp_regionB [2, 3] (fun w' => Keep [] w5 w') (by kernel_rfl) ?_; refine tkY 0 ?vA0 rfl ?runA0 ?_
   case runA0 => (intro w9 _; go_simp; try exact rfl)
   try simp only [Act.put, lA, lZ, lS]
   refine tkY 1 ?vA1 rfl ?runA1 ?_
   case runA1 => (intro w9 _; go_simp; try exact rfl)
   try simp only [Act.put, lA, lZ, lS]
   refine tkB [2, 3] 4 ?vA4 rfl ?runA4 ((Keep.refl [] w5).drew) ?_
   case runA4 => (intro w9 hS9; obtain ⟨f0, f1, f2, f3, f4⟩ := cells5 (blkK HB5.o hS9 (by simp)); go_simp; try exact rfl)
   try simp only [Act.put, lA, lZ, lS]
   refine tkB [] 2 ?vA2 rfl ?runA2 ((Keep.refl [] w5).drew) ?_
   case runA2 => (intro w9 hS9; obtain ⟨f0, f1, f2, f3, f4⟩ := cells5 (blkK HB5.o hS9 (by simp)); go_simp; try exact rfl)
   try simp only [Act.put, lA, lZ, lS]
   refine rdB 3 rfl (fun K hK => ?_); go_simp; refine (HCP.o _ ((Keep.refl [] w5).drew)).mono ?_; rintro e w6 ⟨⟨X, rfl, hX⟩, hk6⟩; have HK6 := hyd (And.intro hX (((Keep.refl [] w5).drew).trans hk6 (by simp))); have hxs : X.size + (flat (tailI gs bs)).length ≤ 140737488355000 := by rw [size_list, hX]; exact HSZ2.o
   clear hX hk6; go_simp; refine hK.out _ _ (fun h => HK6.o.2) ?_; clear hK K
   try simp only [Act.put, lA, lZ, lS]
   refine rdB 5 rfl (fun K hK => ?_); go_simp; refine (HCA.o _ HK6.o.2).mono ?_; rintro e w7 ⟨⟨Y, rfl, hY⟩, hk7⟩; have HK7 := hyd (And.intro hY (HK6.o.2.trans hk7 (by simp))); have hys : X.size + Y.size ≤ 140737488355000 := by rw [size_list Y, hY]; exact hxs
   clear hY hk7; go_simp; refine hK.out _ _ (fun h => (nomatch h)) ?_; clear hK K
   try simp only [Act.put, lA, lZ, lS]
   refine tkY 6 (.string (X ++ Y)) rfl ?runA6 ?_
   case runA6 => (intro w9 _; go_simp; omega)
   try simp only [Act.put, lA, lZ, lS]
   have hr7 := HR5.o.keep HK7.o.2; obtain ⟨o, hro, ho, hko⟩ := hr7; have HO := hyd ho; have HKO := hyd hko; have HRO := hyd hro; clear ho hko hro; refine rdB 7 rfl (fun K hK => ?_); go_simp; refine hK.out _ _ (fun h => (nomatch h)) ?_; clear hK K
   try simp only [Act.put, lA, lZ, lS]
   have t1 := src_blk (P := Tryz.prog) (k := 1) Tryz.underlying90 (heap_alloc_new w7 (.cells #[.string (X ++ Y)] 9)) rfl (by intro u hu; simp at hu; subst hu; rfl); have t2 := Row.keep HRO.o ((Keep.refl [] w7).alloc (.cells #[.string (X ++ Y)] 9)) (by simp); rw [HKL.o] at t2; have T1 := hyd t1; have T2 := hyd t2; clear t1 t2; refine rdB 8 rfl (fun K hK => ?_); refine step_append_rowB _ (by kernel_rfl) _ _ 90 90 rfl 9 i0 (.string ⟨#[]⟩) 1 16 Tryz.underlying90 HI.o hz0 hz1 hz2 rfl _ k _ o rfl T2.o _ rfl 1 _ T1.o (by omega) (by first | (unfold maxLen; omega) | (simp [maxLen] <;> omega)) (by omega) ?_; intro g9 off9 cap9 w9 hr9 hk9 hg9; have hpush := SRow.push (Ls := (ls.take k).map flat) (S := X ++ Y) (L := flat (ls[k]'(by rw [HX.o.1]; exact hlt))) HO.o HKO.o (by rw [HKL.o]; simpa using hr9) (((Keep.refl o.toList w7).alloc _).trans hk9 (fun b hb => .inl hb)) (by rcases hg9 with h | h; (· exact .inl h); exact .inr (by first | omega | (simp at h; omega))) (by rw [HEX.o, flat_app, ← HK6.o.1, ← HK7.o.1]; simp); rw [HKL.o] at hpush; have HPUSH := hyd hpush; clear hr9 hk9 hg9 hpush T1 T2; refine hK.out _ _ (fun h => (nomatch h)) ?_; clear hK K
   try simp only [Act.put, lA, lZ, lS]
   refine tkY 9 ?vA9 rfl ?runA9 ?_
   case runA9 => (intro w9 _; go_simp; try exact rfl)
   try simp only [Act.put, lA, lZ, lS]
   refine wpAnyB_done (by kernel_rfl) ?_ _; go_wp2_with fail; go_roundw
   case rel => exact ⟨k + 1, by omega, by go_num, by have h := HPUSH.o; rwa [show (ls.take (k + 1)).map flat = (ls.take k).map flat ++ [flat (ls[k]'(by rw [HX.o.1]; exact hlt))] from by rw [List.take_succ_eq_append_getElem (by rw [HX.o.1]; exact hlt), List.map_append]; rfl]⟩
   case measure => simp [intOf]; omega
  ·obtain rfl : k = l.length := by omega
   have q1 : ¬ (l.length : Int) < (l.length : Int) := by omega
   have hrow := HROW.o; rw [List.take_of_length_le (by rw [HX.o.1]; exact Nat.le_refl _)] at hrow; have hj := p_join hrow ⟨#[59, 32]⟩ HLEN.o (by rw [List.length_map, HX.o.1]; omega); have HJ := hyd hj; clear hrow hj; go_wp2_with fail; refine HJ.o.mono ?_; rintro e w6 ⟨⟨X, rfl, hX⟩, hk6⟩; have HK6 := hyd (And.intro hX (HKW.o.trans hk6 (by simp))); clear hX hk6; go_wp2_with fail; go_ret; exact ⟨⟨X, rfl, by rw [HK6.o.1]; rfl⟩, HK6.o.2⟩
end Go.Proofs.YtdmmhfbafinkpaaGreatDoor
