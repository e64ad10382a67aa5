/- A part of the proof (St14, St15, St16), joined by squeeze2.py. -/
import Derived.Test.YtimpadpeibgmoaaGreatYd38
set_option maxHeartbeats 8000000
set_option maxRecDepth 100000
namespace Go.Proofs.YtimpadpeibgmoaaGreat
open Go.RowKit Go.Emb Go.Lib Go.Emb.Ext Go.Shelf
attribute [local go_sem] Oper.semAt_some
theorem RB.brd {S : Nat → Prop} {w : World} {v : Value} {bs : List UInt8} {o : Option Nat} (h : RB w v bs o) (hsz : bs.length ≤ 1000000000) (hs : ∀ b, o = some b → S b) : BRd S w v bs := by
 obtain ⟨o', h1, h2⟩ := Row.rd h
 refine ⟨⟨o', h1, fun b hb => ?_⟩, hsz⟩
 rcases h2 with h2 | h2
 ·rw [h2] at hb; cases hb
 ·rw [h2] at hb
  exact ⟨RB.lt h b hb, hs b hb⟩
theorem encP_len (l : List PlV) : (l.flatMap encP).length = l.length * 3 := by
 induction l with
 | nil => rfl
 | cons x l ih => rw [List.flatMap_cons, List.length_append, ih, List.length_cons]; show 3 + _ = _; omega
theorem encP_set (ys : List PlV) (x : PlV) (r : List PlV) (u : Value) (k : Nat) (hk : ys.length = k) : ((ys ++ x :: r).flatMap encP).set (k * 3 + 2) u = ((ys ++ [(⟨x.p, u⟩ : PlV)]) ++ r).flatMap encP := by
 subst hk
 rw [List.append_assoc, List.flatMap_append, List.flatMap_append, List.flatMap_cons, List.set_append, if_neg (by rw [encP_len]; omega), encP_len]
 have e : ys.length * 3 + 2 - ys.length * 3 = 2 := by omega
 rw [e]
 rfl
theorem results_cell1 {P : Program} {fn : Func} {p : Tmp} {ty : TypeId} (h : fn.results = #[.cell p ty]) (tmps : Array Value) (w : World) (g : Nat) (tt : TypeId) (cs : Array Value) (fr : Nat × Nat) (d : TypeDesc)
  (hp : tmps.getD p undef = .pointer (some ⟨g, 0, none⟩)) (hg : w.heap[g]? = some (.cells cs tt fr))
  (hu : P.underlying ty = some d) (hd : (match d with | .struct _ | .array _ _ => true | _ => false) = true) (hi : (P.info? ty).map (·.size) = some cs.size) :
  (results fn tmps).run P w = .ok (.agg cs) w := by
 have hp' : tmps[p]?.getD undef = .pointer (some ⟨g, 0, none⟩) := by simpa using hp
 simp [results, h, hp', asAddr, run_loadVar_row w g tt ty cs fr d hg hu hd hi]
theorem set5c {w : World} {q : Nat} {v0 v1 v2 v3 v4 : Value} {t : TypeId} (h : w.heap[q]? = some (.cells #[v0, v1, v2, v3, v4] t (0, 0))) (u0 u1 u2 u3 u4 : Value) :
  (((((w.setCell ⟨q, 0, none⟩ u0).setCell ⟨q, 1, none⟩ u1).setCell ⟨q, 2, none⟩ u2).setCell ⟨q, 3, none⟩ u3).setCell ⟨q, 4, none⟩ u4).heap[q]? = some (.cells #[u0, u1, u2, u3, u4] t (0, 0)) ∧
  Keep [q] w (((((w.setCell ⟨q, 0, none⟩ u0).setCell ⟨q, 1, none⟩ u1).setCell ⟨q, 2, none⟩ u2).setCell ⟨q, 3, none⟩ u3).setCell ⟨q, 4, none⟩ u4) := by
 refine ⟨?_, ?_⟩
 ·have h8 := set_of (set_of (set_of (set_of (set_of h 0 u0) 1 u1) 2 u2) 3 u3) 4 u4
  simpa using h8
 ·exact ((((Keep.set1 w ⟨q, 0, none⟩ u0).setCell (.inl (by simp)) u1).setCell (.inl (by simp)) u2).setCell (.inl (by simp)) u3).setCell (.inl (by simp)) u4
def CopyP (w : World) (m : MnV) (e : Ending) (w' : World) : Prop := ∃ m' : MnV, e = .returned (aggM m') ∧ m'.man = m.man ∧ m'.s = m.s ∧ MRd (fun b => w.heap.size ≤ b) w' m' ∧ Keep [] w w'
def CpI (w w2 : World) (pa : Option Addr) (n pc : Nat) (po : Option Nat) (m : MnV) (k : Nat) (wr : World) : Prop :=
 ∃ ys : List PlV, ys.length = k ∧ ys.map (·.p) = (m.places.take k).map (·.p) ∧ Row wr 48 3 (.slice pa n pc) n ((ys ++ m.places.drop k).flatMap encP) po ∧ (∀ y ∈ ys, XRd (fun b => w.heap.size + 2 ≤ b ∧ po ≠ some b) wr y.v y.p.pieces) ∧ Keep po.toList w2 wr
theorem st_copied {w : World} {S : Nat → Prop} {m : MnV} (h : MRd S w m) (hpl : m.places.length ≤ 1000000) (hpp : ∀ x ∈ m.places, x.p.pieces.length ≤ 1000000) :
  Calls Tryz.prog 34 #[aggM m] w (CopyP w m) := by
 obtain ⟨⟨ra, rc, hrv⟩, pa, pc, hpv⟩ := h.forms
 have hag : aggM m = .agg #[.string m.s, .int .i64 m.area.1, .int .i64 m.area.2, .slice ra m.rest.length rc, .slice pa m.places.length pc] := by unfold aggM; rw [hrv, hpv]
 rw [hag]
 have H := hyd h
 have HV := hyd (And.intro hrv hpv)
 have hk1 : Keep [] w ((w.alloc (.cells #[.string m.s, .int .i64 m.area.1, .int .i64 m.area.2, .slice ra m.rest.length rc, .slice pa m.places.length pc] 38)).alloc (.cells #[.string ⟨#[]⟩, .int .i64 0, .int .i64 0, .slice none 0 0, .slice none 0 0] 38)) := ((Keep.refl [] w).alloc _).alloc _
 have hb1 := lit_alloc (heap_new w (.cells #[.string m.s, .int .i64 m.area.1, .int .i64 m.area.2, .slice ra m.rest.length rc, .slice pa m.places.length pc] 38)) (.cells #[.string ⟨#[]⟩, .int .i64 0, .int .i64 0, .slice none 0 0, .slice none 0 0] 38)
 have hb2 := heap_new (w.alloc (.cells #[.string m.s, .int .i64 m.area.1, .int .i64 m.area.2, .slice ra m.rest.length rc, .slice pa m.places.length pc] 38)) (.cells #[.string ⟨#[]⟩, .int .i64 0, .int .i64 0, .slice none 0 0, .slice none 0 0] 38)
 rw [size_alloc] at hb2
 have hs1 : ((w.alloc (.cells #[.string m.s, .int .i64 m.area.1, .int .i64 m.area.2, .slice ra m.rest.length rc, .slice pa m.places.length pc] 38)).alloc (.cells #[.string ⟨#[]⟩, .int .i64 0, .int .i64 0, .slice none 0 0, .slice none 0 0] 38)).heap.size = w.heap.size + 2 := by simp
 have HK1 := hyd hk1
 have HB1 := hyd hb1
 have HB2 := hyd hb2
 have HS1 := hyd hs1
 have HPP := hyd hpp
 have hrl : m.rest.length ≤ 1000000000 := h.2.2.1.2
 have HN := hyd hpl
 clear h hk1 hb1 hb2 hs1 hpp hpl hrv hpv hag
 go_enter Tryz.func34, Tryz.ntmps34
 go_upto_region 1 with fail
 generalize (w.alloc (.cells #[.string m.s, .int .i64 m.area.1, .int .i64 m.area.2, .slice ra m.rest.length rc, .slice pa m.places.length pc] 38)).alloc (.cells #[.string ⟨#[]⟩, .int .i64 0, .int .i64 0, .slice none 0 0, .slice none 0 0] 38) = w1 at *
 obtain ⟨c0, c1, c2, c3, c4⟩ := cells5 HB1.o
 obtain ⟨⟨ro, hrr, hro⟩, -⟩ := H.o.2.2.1
 rw [HV.o.1] at hrr
 have HRR := hyd hrr
 clear hrr
 go_wp2_with fail
 refine (p_clone (HRR.o.keep HK1.o (by simp)) hrl).mono ?_
 rintro e w2 ⟨rv2, ro2, rfl, hrb2, hro2, hk2⟩
 obtain ⟨ra2, rc2, R2, hR2, rfl⟩ : ∃ a c n, n = m.rest.length ∧ rv2 = .slice a n c := by
  obtain ⟨a, c, h, -⟩ := hrb2.form
  exact ⟨a, c, _, rfl, h⟩
 have hb12 := blkk HB1.o hk2 (by simp)
 have HB12 := hyd hb12
 have HRB2 := hyd hrb2
 have HRO2 := hyd hro2
 have HK2 := hyd (HK1.o.trans hk2 (by simp))
 have HR2 := hyd hR2
 have HB22 := hyd (blkk HB2.o hk2 (by simp))
 have HS2 := hyd (show w.heap.size + 2 ≤ w2.heap.size from by have h1 := hk2.size; have h2 := HS1.o; omega)
 have HS12 := hyd (show w1.heap.size = w.heap.size + 2 ∧ w1.heap.size ≤ w2.heap.size from ⟨HS1.o, hk2.size⟩)
 clear c0 c1 c2 c3 c4 hrb2 hro2 hk2 hR2 hb12
 obtain ⟨c0, c1, c2, c3, c4⟩ := cells5 HB12.o
 have fb := frozen4 HB12.o
 go_upto_region 2 with fail
 have hb3 := set_of HB12.o 3 (.slice ra2 R2 rc2)
 have hb3' : (w2.setCell ⟨w.heap.size, 3, none⟩ (.slice ra2 R2 rc2)).heap[w.heap.size]? = some (.cells #[.string m.s, .int .i64 m.area.1, .int .i64 m.area.2, .slice ra2 R2 rc2, .slice pa m.places.length pc] 38 (0, 0)) := by simpa using hb3
 have hk3 : Keep [w.heap.size] w2 (w2.setCell ⟨w.heap.size, 3, none⟩ (.slice ra2 R2 rc2)) := Keep.set1 w2 ⟨w.heap.size, 3, none⟩ _
 have HB3 := hyd hb3'
 have HK3 := hyd (HK2.o.trans hk3 (by simp))
 have HK23 := hyd hk3
 clear c0 c1 c2 c3 c4 fb hb3 hb3' hk3
 generalize w2.setCell ⟨w.heap.size, 3, none⟩ (.slice ra2 R2 rc2) = w3 at *
 obtain ⟨c0, c1, c2, c3, c4⟩ := cells5 HB3.o
 obtain ⟨⟨po, hpr, hpo⟩, hp1, -⟩ := H.o.2.2.2
 rw [HV.o.2] at hpr
 have HPR := hyd hpr
 have HP1 := hyd hp1
 clear hpr hp1
 go_wp2_with fail
 refine (p_cloneP (HPR.o.keep HK3.o (by simp)) (fun y hy => by obtain ⟨a, c, h, -⟩ := (HP1.o y hy).2.2.form; rw [h]; rfl) HN.o).mono ?_
 rintro e w4 ⟨pv2, po2, rfl, hrow, hpo2, hk4⟩
 obtain ⟨pa2, pc2, n, hn, rfl⟩ : ∃ a c n, n = m.places.length ∧ pv2 = .slice a n c := by
  obtain ⟨o5, ⟨-, a, c, h, -⟩, -⟩ := hrow.rd
  exact ⟨a, c, _, rfl, h⟩
 rw [← hn] at hrow
 have HB4 := hyd (blkk HB3.o hk4 (by simp))
 have HK4 := hyd (HK3.o.trans hk4 (by simp))
 have HK34 := hyd hk4
 have HN4 := hyd hn
 have HROW := hyd hrow
 have HPO2 := hyd hpo2
 have HS3 := hyd (show w2.heap.size ≤ w3.heap.size from HK23.o.size)
 clear hk4 hn hrow hpo2 c0 c1 c2 c3 c4
 obtain ⟨c0, c1, c2, c3, c4⟩ := cells5 HB4.o
 have fb := frozen4 HB4.o
 go_upto_region 3 with fail
 have hb5 := set_of HB4.o 4 (.slice pa2 n pc2)
 have hb5' : (w4.setCell ⟨w.heap.size, 4, none⟩ (.slice pa2 n pc2)).heap[w.heap.size]? = some (.cells #[.string m.s, .int .i64 m.area.1, .int .i64 m.area.2, .slice ra2 R2 rc2, .slice pa2 n pc2] 38 (0, 0)) := by simpa using hb5
 have hk5 : Keep [w.heap.size] w4 (w4.setCell ⟨w.heap.size, 4, none⟩ (.slice pa2 n pc2)) := Keep.set1 w4 ⟨w.heap.size, 4, none⟩ _
 have hr5 := HROW.o.keep hk5 (fun b hb hm => by
   have h1 := HPO2.o b hb
   have h2 := HS2.o
   have h3 := HS3.o
   simp at hm
   omega)
 have HB5 := hyd hb5'
 have HK5 := hyd (HK4.o.trans hk5 (by simp))
 have HK45 := hyd hk5
 have HR5 := hyd hr5
 clear c0 c1 c2 c3 c4 fb hb5 hb5' hk5 hr5
 generalize w4.setCell ⟨w.heap.size, 4, none⟩ (.slice pa2 n pc2) = w5 at *
 have hpon : ∀ b, po2 = some b → w.heap.size + 2 ≤ b := fun b hb => by
  have h1 := HPO2.o b hb
  have h2 := HS2.o
  have h3 := HS3.o
  omega
 have HPON := hyd hpon
 have hnot : w.heap.size ∉ po2.toList := fun hm => by have := hpon _ (by simpa using hm); omega
 have HNOT := hyd hnot
 have HK35 := hyd (HK34.o.size)
 clear hpon hnot
 obtain ⟨c0, c1, c2, c3, c4⟩ := cells5 HB5.o
 go_wp2_with fail
 go_loopw [15] (fun i wr => ∃ (k : Nat), k ≤ n ∧ i = .int .i64 k ∧ CpI w w5 pa2 n pc2 po2 m k wr) (fun i _ => n - (intOf i).toNat)
 case atStart => exact ⟨0, Nat.zero_le _, rfl, [], rfl, by simp, by simpa using HR5.o, by simp, Keep.refl _ _⟩
 case round =>
  obtain ⟨k, hk, rfl, ys, hyk, hyp, hrow, hyx, hkw⟩ := hrel
  have HYK := hyd hyk
  have HYP := hyd hyp
  have HROWR := hyd hrow
  have HYX := hyd hyx
  have HKW := hyd hkw
  have HBR := hyd (blkk HB5.o hkw HNOT.o)
  clear hyk hyp hrow hyx hkw c0 c1 c2 c3 c4
  have hn6 : n ≤ 1000000 := by have h1 := HN4.o; have h2 := HN.o; omega
  by_cases hlt : k < n
  ·have hltm : k < m.places.length := by have := HN4.o; omega
   have hdk : m.places.drop k = m.places[k] :: m.places.drop (k + 1) := List.drop_eq_getElem_cons hltm
   have hp1 := HP1.o _ (List.getElem_mem hltm)
   have hpk := HPP.o _ (List.getElem_mem hltm)
   have htk : (m.places.take (k + 1)).map (·.p) = (m.places.take k).map (·.p) ++ [m.places[k].p] := by rw [List.take_succ_eq_append_getElem hltm, List.map_append]; rfl
   obtain ⟨x, hx⟩ : ∃ x, x = m.places[k] := ⟨_, rfl⟩
   rw [← hx] at hdk hp1 hpk htk
   clear hx
   obtain ⟨xa, xc, hxv, -⟩ := hp1.2.2.form
   obtain ⟨xn, hxn⟩ : ∃ z, z = x.p.pieces.length := ⟨_, rfl⟩
   rw [← hxn] at hxv hpk
   have hrr := HROWR.o
   rw [hdk] at hrr
   obtain ⟨pb, off, rfl, rfl⟩ : ∃ b off, pa2 = some ⟨b, off, none⟩ ∧ po2 = some b := by
    obtain ⟨-, ⟨-, -, h⟩ | ⟨b, off, cap, cs, h1, h2, -⟩⟩ := hrr
    ·omega
    ·injection h2 with h2
     exact ⟨b, off, h2, h1⟩
   have hcell : ∀ W, Keep [] wr W → W.cell? ⟨pb, off + k * 3 + 2, none⟩ = some (.slice xa xn xc) := fun W hkW => by
    obtain ⟨o5, ⟨-, a, c, e, -, -, h3⟩, -⟩ := (Row.keep hrr hkW (by simp)).rd
    injection e with e1
    rcases h3 with ⟨h3, -⟩ | ⟨b', off', e2, -, h4⟩
    ·omega
    ·rw [e2] at e1
     injection e1 with e1
     injection e1 with e3 e4
     subst e3; subst e4
     have := h4 (k * 3 + 2) (by omega)
     rw [← Nat.add_assoc] at this
     rw [this, List.flatMap_append, List.getElem?_append_right (by rw [encP_len, HYK.o]; omega), encP_len, HYK.o, List.flatMap_cons]
     have e5 : k * 3 + 2 - k * 3 = 2 := by omega
     rw [e5, ← hxv]
     rfl
   have HCELL := hyd hcell
   have HRR := hyd hrr
   obtain ⟨xo, hxr, hxro⟩ := hp1.2.2.rde
   have hkwr : Keep (some pb).toList w wr := (HK5.o.mono (by simp)).trans HKW.o (fun b hb => .inl hb)
   have hxrw : RdE wr x.v x.p.pieces xo := hxr.keep hkwr (fun b hb hm => by
     have h1 := (hxro b hb).1
     have h2 := HPON.o pb rfl
     simp at hm
     omega)
   rw [hxv] at hxrw
   have HCL := hyd (fun (W : World) (hkW : Keep [] wr W) => p_cloneX (w := W) (hxrw.keep hkW (by simp)) (by omega))
   have HXN := hyd hxn
   have HXO := hyd hp1.2.2.2.1
   have HXL := hyd hp1.2.2.2.2
   have HTK := hyd htk
   have HDK := hyd hdk
   have HKWR := hyd hkwr
   have HCS := hyd (fun (W : World) (hkW : Keep [] wr W) => And.intro (cells5 (blkk HBR.o hkW (by simp))) (hcell W hkW))
   clear hcell hrr hxr hxro hxrw hp1 hxv hxn htk hdk hkwr hltm
   have i0' : (0 : Int) ≤ (k : Int) := by omega
   have i1' : (k : Int) < (n : Int) := by omega
   go_upto_region 6 with fail
   refine wp_regionB [1, 4, 6, 7, 8, 9] (fun W => Keep [] wr W) (by kernel_rfl) ?_
   have HC0 := hyd (Keep.refl [] wr).drew
   refine tkY 0 ?vR0 rfl ?runR0 ?_
   case runR0 => (intro w9 _; go_simp; try exact rfl)
   try simp only [Act.put, lA, lZ, lS]
   refine tkY 2 ?vR2 rfl ?runR2 ?_
   case runR2 => (intro w9 _; go_simp; try exact rfl)
   try simp only [Act.put, lA, lZ, lS]
   refine tkY 3 ?vR3 rfl ?runR3 ?_
   case runR3 => (intro w9 _; go_simp; try exact rfl)
   try simp only [Act.put, lA, lZ, lS]
   refine tkY 5 ?vR5 rfl ?runR5 ?_
   case runR5 => (intro w9 _; go_simp; try exact rfl)
   try simp only [Act.put, lA, lZ, lS]
   refine tkB [4, 6, 7, 8, 9] 1 ?vR1 rfl ?runR1 (HC0.o) ?_
   case runR1 => (intro w9 hS9; obtain ⟨⟨c0, c1, c2, c3, c4⟩, g0⟩ := HCS.o w9 hS9; go_simp; try exact rfl)
   try simp only [Act.put, lA, lZ, lS]
   refine tkB [] 4 ?vR4 rfl ?runR4 (HC0.o) ?_
   case runR4 => (intro w9 hS9; obtain ⟨⟨c0, c1, c2, c3, c4⟩, g0⟩ := HCS.o w9 hS9; go_simp; try exact rfl)
   try simp only [Act.put, lA, lZ, lS]
   refine tkB [] 6 ?vR6 rfl ?runR6 (HC0.o) ?_
   case runR6 => (intro w9 hS9; obtain ⟨⟨c0, c1, c2, c3, c4⟩, g0⟩ := HCS.o w9 hS9; go_simp; try exact rfl)
   try simp only [Act.put, lA, lZ, lS]
   refine tkB [] 7 ?vR7 rfl ?runR7 (HC0.o) ?_
   case runR7 => (intro w9 hS9; obtain ⟨⟨c0, c1, c2, c3, c4⟩, g0⟩ := HCS.o w9 hS9; go_simp; try exact rfl)
   try simp only [Act.put, lA, lZ, lS]
   refine tkB [] 8 ?vR8 rfl ?runR8 (HC0.o) ?_
   case runR8 => (intro w9 hS9; obtain ⟨⟨c0, c1, c2, c3, c4⟩, g0⟩ := HCS.o w9 hS9; go_simp; try exact rfl)
   try simp only [Act.put, lA, lZ, lS]
   refine rdB 9 rfl (fun K hK => ?_)
   go_simp
   refine (HCL.o _ HC0.o).mono ?_
   rintro e w7 ⟨v7, o7, rfl, hr7, ho7, hk7⟩
   obtain ⟨xa7, xc7, N7, hN7, rfl⟩ : ∃ a c n, n = x.p.pieces.length ∧ v7 = .slice a n c := by
    obtain ⟨a, c, h⟩ := hr7.form
    exact ⟨a, c, _, rfl, h⟩
   have HR7 := hyd hr7
   have HN7 := hyd hN7
   have HO7 := hyd (show ∀ b, o7 = some b → wr.heap.size ≤ b from ho7)
   have HC7 := hyd (HC0.o.trans hk7 (by simp))
   clear hr7 hN7 ho7 hk7
   go_wp2_with fail
   refine hK.out _ _ (fun h => HC7.o) ?_
   clear hK K
   try simp only [Act.put, lA, lZ, lS]
   refine tkY 10 ?vR10 rfl ?runR10 ?_
   case runR10 => (intro w9 _; go_simp; try exact rfl)
   try simp only [Act.put, lA, lZ, lS]
   refine tkY 11 ?vR11 rfl ?runR11 ?_
   case runR11 => (intro w9 _; go_simp; try exact rfl)
   try simp only [Act.put, lA, lZ, lS]
   have hrow7 := Row.keep HRR.o HC7.o (by simp)
   have HROW7 := hyd hrow7
   have fz := hrow7.notFrozen
   have hc7 := HCELL.o _ HC7.o
   clear hrow7
   refine rdB 12 rfl (fun K hK => ?_)
   go_simp
   refine hK.out _ _ (fun h => (nomatch h)) ?_
   clear hK K
   try simp only [Act.put, lA, lZ, lS]
   refine wpAnyB_done (by kernel_rfl) ?_ _
   go_wp2_with fail
   have hpbl : pb < wr.heap.size := Row.lt HROWR.o pb rfl
   have hkp : Keep [pb] w7 (w7.setCell ⟨pb, off + k * 3 + 2, none⟩ (.slice xa7 N7 xc7)) := Keep.set1 w7 ⟨pb, off + k * 3 + 2, none⟩ _
   have hset := HROW7.o.setAt (k * 3 + 2) (by omega) (.slice xa7 N7 xc7)
   rw [encP_set ys x _ _ k HYK.o, ← Nat.add_assoc] at hset
   have hxnew : XRd (fun b => w.heap.size + 2 ≤ b ∧ some pb ≠ some b) w7 (.slice xa7 N7 xc7) x.p.pieces := HR7.o.xrd HXO.o HXL.o (fun b hb => by
     have h1 := HO7.o b hb
     have h2 := HPON.o pb rfl
     refine ⟨by omega, fun h => ?_⟩
     injection h with h
     omega)
   have hnp : ∀ b ∈ [pb], b < w7.heap.size → ¬ (w.heap.size + 2 ≤ b ∧ some pb ≠ some b) := fun b hb _ h => by
    simp at hb
    exact h.2 (by rw [hb])
   go_roundw
   case rel =>
    refine ⟨k + 1, by omega, by go_num, ys ++ [⟨x.p, .slice xa7 N7 xc7⟩], by rw [List.length_append, HYK.o]; rfl, by rw [List.map_append, HYP.o, HTK.o]; rfl, hset, fun y hy => ?_, (HKW.o.trans (HC7.o.mono (G := (some pb).toList) (by simp)) (fun b hb => .inl hb)).trans (hkp.mono (G := (some pb).toList) (by simp)) (fun b hb => .inl hb)⟩
    rcases List.mem_append.1 hy with hy | hy
    ·exact ((HYX.o y hy).keep HC7.o (by simp)).keep hkp hnp
    ·obtain rfl := List.mem_singleton.1 hy
     exact hxnew.keep hkp hnp
   case measure => show n - (k + 1) < n - k; omega
  ·obtain rfl : k = n := by omega
   have hdr : m.places.drop k = [] := List.drop_eq_nil_of_le (by have := HN4.o; omega)
   have htk : m.places.take k = m.places := List.take_of_length_le (by have := HN4.o; omega)
   have hrow2 := HROWR.o
   rw [hdr, List.append_nil] at hrow2
   have hyp2 := HYP.o
   rw [htk] at hyp2
   have HROW2 := hyd hrow2
   have HYP2 := hyd hyp2
   clear hrow2 hyp2 hdr htk
   have hkwr : Keep po2.toList w wr := (HK5.o.mono (by simp)).trans HKW.o (fun b hb => .inl hb)
   have hb2 := blkk (blkk (blkk (blkk (blkk HB22.o HK23.o (by simp)) HK34.o (by simp)) HK45.o (by simp)) HKW.o (fun hm => by have := HPON.o _ (by simpa using hm); omega)) (Keep.refl [] wr) (by simp)
   have HB2R := hyd hb2
   have HS5 := hyd (set5c hb2 (.string m.s) (.int .i64 m.area.1) (.int .i64 m.area.2) (.slice ra2 R2 rc2) (.slice pa2 k pc2))
   have HKWR := hyd hkwr
   obtain ⟨c0, c1, c2, c3, c4⟩ := cells5 HBR.o
   obtain ⟨d0, d1, d2, d3, d4⟩ := cells5 hb2
   have fb := frozen4 hb2
   clear hb2 hkwr
   go_wp2_with fail
   refine bodyPost_ret (results_cell1 (ty := 38) rfl _ _ (w.heap.size + 1) _ _ _ _ rfl HS5.o.1 Tryz.underlying38 rfl man_size) rfl ?_
   have hkf := HS5.o.2
   have hno : ∀ b, po2 = some b → b ∉ [w.heap.size + 1] := fun b hb hm => by have := HPON.o b hb; simp at hm; omega
   have hs2 := HS2.o
   have hs12 := HS12.o
   have hro2 := HRO2.o
   have hrbr := ((((HRB2.o.keep HK23.o (fun b hb hm => by have := hro2 b hb; simp at hm; omega)).keep HK34.o (by simp)).keep HK45.o (fun b hb hm => by have := hro2 b hb; simp at hm; omega)).keep HKW.o (fun b hb hm => by
     have h1 := HPO2.o b (by simpa using hm)
     have h2 := RB.lt HRB2.o b hb
     have h3 := HS3.o
     omega)).keep hkf (fun b hb hm => by have := hro2 b hb; simp at hm; omega)
   refine ⟨⟨m.s, m.area, .slice ra2 R2 rc2, m.rest, .slice pa2 k pc2, ys⟩, rfl, ?_, rfl, ⟨H.o.1, H.o.2.1, hrbr.brd H.o.2.2.1.2 (fun b hb => by have := hro2 b hb; omega), ?_, ?_, ?_⟩, (HK5.o.trans HKW.o (fun b hb => ?_)).trans hkf (fun b hb => ?_)⟩
   ·unfold MnV.man
    simp only
    rw [HYP2.o]
   ·obtain ⟨o6, h6, h7⟩ := (HROW2.o.keep hkf hno).rd
    have hl : ys.length = k := HYK.o
    refine ⟨o6, by rw [hl]; exact h6, fun b hb => ?_⟩
    rcases h7 with h7 | h7
    ·rw [h7] at hb; cases hb
    ·rw [h7] at hb
     exact ⟨Row.lt (HROW2.o.keep hkf hno) b hb, by have := HPON.o b hb; omega⟩
   ·intro y hy
    have hym : y.p ∈ m.places.map (·.p) := by rw [← HYP2.o]; exact List.mem_map.2 ⟨y, hy, rfl⟩
    obtain ⟨z, hz, e⟩ := List.mem_map.1 hym
    have hz1 := HP1.o z hz
    refine ⟨by rw [← e]; exact hz1.1, by rw [← e]; exact hz1.2.1, ((HYX.o y hy).keep hkf (fun b hb hlt h => ?_)).mono (fun b _ h => by omega)⟩
    simp at hb
    omega
   ·show ys.length ≤ _
    rw [HYK.o]
    omega
   ·simp at hb
    exact .inr (by have := HPON.o b hb; omega)
   ·simp at hb
    exact .inr (by omega)
theorem p_concat0 {w : World} :
  Calls Tryz.prog 49 #[.slice none 0 0] w fun e w' => ∃ v' o', e = .returned v' ∧ RB w' v' [] o' ∧ (∀ b, o' = some b → w.heap.size ≤ b) ∧ Keep [] w w' := by
 have hgr := p_grow (w := w) (n := 0) (by omega)
 have HGR := hyd hgr
 clear hgr
 go_enter Tryz.func49, Tryz.ntmps49
 go_wp2_with fail
 go_loop [3, 11] (fun n i => i = .int .i64 0 ∧ n = .int .i64 0) (fun _ i => 1 - (RowKit.intOf i).toNat)
 case atStart => exact ⟨rfl, rfl⟩
 case round =>
  obtain ⟨rfl, rfl⟩ := hrel
  go_wp2_with fail
  refine HGR.o.mono ?_
  rintro e w2 ⟨v2, o2, rfl, hr2, ho2, hk2⟩
  have HR2 := hyd hr2
  have HO2 := hyd ho2
  have HK2 := hyd hk2
  clear hr2 ho2 hk2 HGR
  go_wp2_with fail
  go_loopw [6, 27] (fun v i wr => wr = w2 ∧ i = .int .i64 0 ∧ v = v2) (fun _ i _ => 1 - (RowKit.intOf i).toNat)
  case atStart => exact ⟨rfl, rfl, rfl⟩
  case round =>
   obtain ⟨rfl, rfl, rfl⟩ := hrel
   go_wp2_with fail
   go_ret
   exact ⟨_, o2, rfl, HR2.o, HO2.o, HK2.o⟩
def zW (sz k : Nat) : List (Nat × List UInt8) := (List.range k).map fun j => (j, List.replicate sz 0)
theorem zW_succ (sz k : Nat) : zW sz (k + 1) = zW sz k ++ [(k, List.replicate sz 0)] := by unfold zW; rw [List.range_succ, List.map_append]; rfl
theorem writeD_nil (d : DS) (k : Int) : writeD d k [] = writeD d k (List.replicate d.sz 0) := by
 have e : ∀ j, putB d j [] = putB d j (List.replicate d.sz 0) := fun j => by
  unfold putB
  simp
 unfold writeD
 rw [e]
 simp
theorem zW_fit {d : DS} {k : Nat} (hk : k ≤ d.n) : ∀ x ∈ zW d.sz k, FitW d x := fun x hx => by
 obtain ⟨j, hj, rfl⟩ := List.mem_map.1 hx
 have := List.mem_range.1 hj
 exact ⟨by show j < d.n; omega, by simp⟩
def zMn : MnV := ⟨⟨#[]⟩, (0, 0), .slice none 0 0, [], .slice none 0 0, []⟩
def zSV (a : Int) : SV := ⟨(2, a), ⟨0, [], 0, 0⟩, .slice none 0 0, zMn, ⟨0, [], 0, 0⟩, .slice none 0 0, zMn, false⟩
theorem zMn_rd (S : Nat → Prop) (w : World) : MRd S w zMn := ⟨by decide, by unfold ExtOk zMn I64; simp, BRd.nil S w, PRd.nil S w⟩
def FormatP (w : World) (q : Nat) (lm : List Int) (D : List Nat) (d : DS) (A : Nat) (e : Ending) (w' : World) : Prop :=
 ∃ s D', e = .returned (.tuple #[.pointer (some ⟨s, 0, none⟩), .int .i64 0]) ∧ w.heap.size ≤ s ∧ STD w' s q (lm ++ (runW d (zW d.sz (A + 2))).2.2) D' (runW d (zW d.sz (A + 2))).2.1 (zSV A) ∧ (∀ b ∈ D', b ∈ D ∨ w.heap.size ≤ b) ∧ Keep D w w'
theorem st_format {w : World} {q : Nat} {lm : List Int} {D : List Nat} {d : DS} {A : Nat} (h : DK w q lm D d) (hoff : d.off = false) (hleft : d.left < 0) (hlm : lm.length ≤ 900000) (h1 : 1 ≤ A) (h2 : A + 3 ≤ d.n) :
  Calls Tryz.prog 10 #[.pointer (some ⟨q, 0, none⟩), .int .i64 A] w (FormatP w q lm D d A) := by
 have hok := h.isok
 have hn := hok.2.1
 have HBS := hyd (by
   obtain ⟨gb, c, logv, logs, lo, s', r, -, h1, -, -, -, -, ok⟩ := h
   exact p_blocks (n := d.n) h1 rfl (by have := ok.2.2.1; omega) ok.2.1)
 have H := hyd h
 clear h
 have h1' : ¬ (A : Int) < 1 := by omega
 have h2' : ¬ (d.n : Int) - 2 - 1 < (A : Int) := by omega
 have hw1 : IntKind.i64.wrap ((d.n : Int) - 2) = (d.n : Int) - 2 := IntWalk.i64_in _ (by omega)
 have hw2 : IntKind.i64.wrap ((d.n : Int) - 2 - 1) = (d.n : Int) - 2 - 1 := IntWalk.i64_in _ (by omega)
 have hw3 : IntKind.i64.wrap (2 + (A : Int)) = 2 + (A : Int) := IntWalk.i64_in _ (by omega)
 have HALL := hyd (fun (k : Nat) (hk : k ≤ d.n) => runW_all (zW d.sz k) hok (zW_fit hk) hoff hleft)
 have HRO := hyd (fun (k : Nat) (hk : k ≤ d.n) => runW_ok (zW d.sz k) hok (zW_fit hk))
 have HLEN := hyd (fun (k : Nat) => runW_len (zW d.sz k) d)
 go_enter Tryz.func10, Tryz.ntmps10
 go_wp2_with fail
 refine HBS.o.mono ?_
 rintro e w2 ⟨rfl, hk2⟩
 have HK2 := hyd hk2
 clear hk2 HBS
 go_wp2_with fail
 go_loopw [24] (fun i wr => ∃ (k : Nat) (D' : List Nat), k ≤ A + 2 ∧ i = .int .i64 k ∧ DK wr q (lm ++ (runW d (zW d.sz k)).2.2) D' (runW d (zW d.sz k)).2.1 ∧ (∀ b ∈ D', b ∈ D ∨ w.heap.size ≤ b) ∧ Keep D w wr) (fun i _ => A + 2 - (intOf i).toNat)
 case atStart => exact ⟨0, D, Nat.zero_le _, rfl, by simpa [zW, runW] using H.o.keep0 HK2.o, fun b hb => .inl hb, HK2.o.mono (by simp)⟩
 case round =>
  obtain ⟨k, D', hk, rfl, hdk, hD', hkw⟩ := hrel
  have HDK := hyd hdk
  have HD' := hyd hD'
  have HKW := hyd hkw
  clear hdk hD' hkw
  by_cases hlt : k < A + 2
  ·have hlt' : (k : Int) < 2 + (A : Int) := by omega
   have hl := HLEN.o k
   have hzl : (zW d.sz k).length = k := by unfold zW; simp
   have hwr := d_writeG (p := []) HDK.o (by rw [List.length_append]; omega) p_concat0 (by simp) (k : Int)
   unfold WriteP at hwr
   rw [writeD_nil, (HRO.o k (by omega)).2.2.1] at hwr
   have hsn := runW_snoc (x := (k, List.replicate d.sz 0)) (HALL.o k (by omega))
   rw [← zW_succ] at hsn
   have hc := HALL.o (k + 1) (by omega)
   rw [hsn] at hc
   simp only at hc
   rw [hc] at hwr
   have HWR := hyd hwr
   have HSN := hyd hsn
   have HC := hyd hc
   clear hl hzl hwr hsn hc
   go_wp2_with fail
   refine HWR.o.mono ?_
   rintro e w4 ⟨D4, rfl, hdk4, hD4, hk4, -⟩
   have hDa : ∀ b ∈ D4, b ∈ D ∨ w.heap.size ≤ b := fun b hb => by
    rcases hD4 b hb with h | h
    ·exact HD'.o b h
    ·have := HKW.o.size
     exact .inr (by omega)
   have hka : Keep D w w4 := HKW.o.trans hk4 (fun b hb => HD'.o b hb)
   have HDK4 := hyd hdk4
   have HDA := hyd hDa
   have HKA := hyd hka
   clear hdk4 hD4 hk4 hDa hka
   go_wp2_with fail
   go_roundw
   case rel =>
    refine ⟨k + 1, D4, by omega, by go_num, ?_, HDA.o, HKA.o⟩
    rw [HSN.o]
    simp only
    rw [HC.o, if_pos rfl]
    have h := HDK4.o
    unfold logW at h
    rw [if_pos rfl, List.append_assoc] at h
    exact h
   case measure => show A + 2 - (k + 1) < A + 2 - k; omega
  ·obtain rfl : k = A + 2 := by omega
   have hlt' : ¬ ((A + 2 : Nat) : Int) < 2 + (A : Int) := by omega
   go_wp2_with fail
   go_ret2
   exact ⟨wr.heap.size, D', rfl, HKW.o.size, ⟨HDK.o.keep0 ((Keep.refl [] wr).alloc _), heap_new wr (.cells (stCells q (zSV A)) 84), ⟨XRd.nil _ _, zMn_rd _ _, XRd.nil _ _, zMn_rd _ _⟩⟩, HD'.o, HKW.o.alloc _⟩
end Go.Proofs.YtimpadpeibgmoaaGreat
