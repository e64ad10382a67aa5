/- A part of the proof (St5, ExtLaws, ExtLaws2, StQ), joined by squeeze2.py. -/
import Derived.Test.YtimpadpeibgmoaaGreatYd28
import Derived.Test.YtimpadpeibgmoaaGreatYd30
import Derived.Test.YtimpadpeibgmoaaGreatYd26
import Derived.Test.YtimpadpeibgmoaaGreatYd03
import Derived.Test.YtimpadpeibgmoaaGreatYd23
set_option maxHeartbeats 8000000
set_option maxRecDepth 100000
namespace Go.Proofs.YtimpadpeibgmoaaGreat
open Go.RowKit Go.Emb Go.Emb.Ext
attribute [local go_sem] Oper.semAt_some
def fitL (x : Sup) : List UInt8 := numL x.ps.length 0 ++ (numL x.len.toNat 0 ++ numL x.ep.toNat 0) ++ x.ps.flatMap extU
theorem fitL_len (x : Sup) : (fitL x).length = (loadL x).length := by
 unfold fitL loadL
 simp only [List.length_append]
 omega
theorem st_fits {w : World} {size : Nat} {x : Sup} {pv : Value} {o : Option Nat} (hr : RdE w pv x.ps o) (hps : x.ps.length ≤ 1000) (hin : ∀ e ∈ x.ps, 0 ≤ e.1 ∧ e.1 ≤ 1000000 ∧ 0 ≤ e.2 ∧ e.2 ≤ 1000000) (hlen : 0 ≤ x.len ∧ x.len ≤ 1000000000) (hep : 0 ≤ x.ep ∧ x.ep ≤ 1000000000) :
  Calls Tryz.prog 63 #[.int .i64 size, aggS x pv] w fun e w' => e = .returned (.bool (decide ((loadL x).length ≤ roomN size))) ∧ Keep [] w w' := by
 obtain ⟨pa, pc, rfl⟩ : ∃ a c, pv = .slice a x.ps.length c := by obtain ⟨-, a, c, h, -⟩ := hr; exact ⟨a, c, h⟩
 have HFL := hyd (fitL_len x)
 have HX := hyd (show fitL x = numL x.ps.length 0 ++ (numL x.len.toNat 0 ++ numL x.ep.toNat 0) ++ x.ps.flatMap extU from rfl)
 obtain ⟨LL, hLL⟩ : ∃ n, n = (loadL x).length := ⟨_, rfl⟩
 rw [← hLL] at HFL ⊢
 obtain ⟨FL, hFL⟩ : ∃ n, n = fitL x := ⟨_, rfl⟩
 rw [← hFL] at HFL HX
 clear hLL hFL
 obtain ⟨gen, ps, len, ep⟩ := x
 unfold aggS
 simp only at *
 have hk1 : Keep [] w (w.alloc (.cells #[.int .u64 gen, .slice pa ps.length pc, .int .i64 len, .int .i64 ep] 56)) := (Keep.refl [] w).alloc _
 have hb1 := heap_new w (.cells #[.int .u64 gen, .slice pa ps.length pc, .int .i64 len, .int .i64 ep] 56)
 have HR := hyd hr
 have HK1 := hyd hk1
 have HB1 := hyd hb1
 have HIN := hyd hin
 have hwl : IntKind.u64.wrap (ps.length : Int) = (ps.length : Int) := IntWalk.u64_in _ (by omega)
 obtain ⟨ln, rfl⟩ : ∃ n : Nat, len = n := ⟨len.toNat, by omega⟩
 obtain ⟨en, rfl⟩ : ∃ n : Nat, ep = n := ⟨ep.toNat, by omega⟩
 have hw1 : IntKind.u64.wrap (ln : Int) = (ln : Int) := IntWalk.u64_in _ (by omega)
 have hw2 : IntKind.u64.wrap (en : Int) = (en : Int) := IntWalk.u64_in _ (by omega)
 obtain ⟨c0, c1, c2, c3⟩ := cells4s hb1
 rw [Int.toNat_natCast, Int.toNat_natCast] at HX
 have hnl : (numL ps.length 0 ++ (numL ln 0 ++ numL en 0)).length ≤ 27 := by
  have h1 := (numL_length ps.length 0).1
  have h2 := (numL_length ln 0).1
  have h3 := (numL_length en 0).1
  simp only [List.length_append]
  omega
 have hn1 := num_lit (w := w.alloc (.cells #[.int .u64 gen, .slice pa ps.length pc, .int .i64 (ln : Nat), .int .i64 (en : Nat)] 56)) (w0 := w.alloc (.cells #[.int .u64 gen, .slice pa ps.length pc, .int .i64 (ln : Nat), .int .i64 (en : Nat)] 56)) (ns := [ps.length, ln, en]) (RB.nil _) (Keep.refl [] _) (by simp) (by simp; omega) (by simp) (by simp only [List.flatMap_cons, List.flatMap_nil, List.append_nil, List.nil_append]; omega)
 simp only [List.nil_append, List.flatMap_cons, List.flatMap_nil, List.append_nil, List.map_cons, List.map_nil, List.length_cons, List.length_nil, Nat.zero_add] at hn1
 have HN1 := hyd hn1
 obtain ⟨N0, hN0⟩ : ∃ z, z = numL ps.length 0 ++ (numL ln 0 ++ numL en 0) := ⟨_, rfl⟩
 rw [← hN0] at HX HN1 hnl
 clear hr hk1 hb1 hin hn1 hN0
 go_enter Tryz.func63, Tryz.ntmps63
 go_upto_region 1 with fail
 generalize w.alloc (.cells #[.int .u64 gen, .slice pa ps.length pc, .int .i64 (ln : Nat), .int .i64 (en : Nat)] 56) = w1 at *
 go_wp2_with fail
 refine HN1.o.mono ?_
 rintro e w5 ⟨v5, o5, rfl, hrb, hfr, hk5⟩
 obtain ⟨va, vc, rfl, -⟩ := hrb.form
 obtain ⟨d0, d1, d2, d3⟩ := cells4s (blkk HB1.o hk5 (by simp))
 have HRB := hyd hrb
 have HFR := hyd hfr
 have HK5 := hyd hk5
 clear hrb hfr hk5 c0 c1 c2 c3 HN1
 go_wp2_with fail
 clear d0 d1 d2 d3
 go_loopw [5, 23] (fun l i wr => ∃ (k : Nat) (o' : Option Nat), k ≤ ps.length ∧ i = .int .i64 k ∧ RB wr l (N0 ++ (ps.take k).flatMap extU) o' ∧ (∀ b, o' = some b → w1.heap.size ≤ b) ∧ Keep [] w1 wr) (fun _ i _ => ps.length - (RowKit.intOf i).toNat)
 case atStart => exact ⟨0, o5, Nat.zero_le _, rfl, by simpa using HRB.o, HFR.o, HK5.o⟩
 case round =>
  obtain ⟨k, o6, hk, rfl, hrb, hfr, hkw⟩ := hrel
  obtain ⟨bs, hbs⟩ : ∃ z, z = N0 ++ (ps.take k).flatMap extU := ⟨_, rfl⟩
  rw [← hbs] at hrb
  have HBS := hyd hbs
  have hbl0 : bs.length ≤ 18027 := by
   have h1 := flat_le (ps.take k)
   rw [List.length_take] at h1
   rw [hbs, List.length_append]
   omega
  clear hbs
  obtain ⟨va, vc, rfl, -⟩ := hrb.form
  have HRB6 := hyd hrb
  have HFR6 := hyd hfr
  have HKW := hyd hkw
  clear hrb hfr hkw
  by_cases hlt : k < ps.length
  ·have hts := List.take_succ_eq_append_getElem hlt
   have hoke := HIN.o _ (List.getElem_mem hlt)
   obtain ⟨b, off, rfl, -, e0, e1⟩ := HR.o.at hlt
   have d0 := (HK1.o.trans HKW.o (by simp)).cellOf e0 (by simp)
   have d1 := (HK1.o.trans HKW.o (by simp)).cellOf e1 (by simp)
   have q0 : (0 : Int) ≤ (k : Int) := by omega
   have q1 : (k : Int) < (ps.length : Int) := by omega
   have HTS := hyd hts
   clear e0 e1 hts
   generalize ps[k] = x at *
   obtain ⟨f, m'⟩ := x
   simp only at d0 d1 hoke
   obtain ⟨fn, rfl⟩ : ∃ n : Nat, f = n := ⟨f.toNat, by omega⟩
   obtain ⟨mn, rfl⟩ : ∃ n : Nat, m' = n := ⟨m'.toNat, by omega⟩
   have hw3 : IntKind.u64.wrap (fn : Int) = (fn : Int) := IntWalk.u64_in _ (by omega)
   have hw4 : IntKind.u64.wrap (mn : Int) = (mn : Int) := IntWalk.u64_in _ (by omega)
   have hn2 := num_lit (w := wr.alloc (.cells #[.int .i64 fn, .int .i64 mn] 34)) (w0 := w1) (ns := [fn, mn]) (HRB6.o.keep ((Keep.refl [] wr).alloc _) (by simp)) (HKW.o.alloc _) HFR6.o (by simp; omega) (by simp) (by
     have h2 := (numL_length fn 0).1
     have h3 := (numL_length mn 0).1
     simp only [List.length_append, List.flatMap_cons, List.flatMap_nil, List.length_nil]
     omega)
   simp only [List.flatMap_cons, List.flatMap_nil, List.append_nil, List.map_cons, List.map_nil, List.length_cons, List.length_nil, Nat.zero_add, size_alloc] at hn2
   obtain ⟨bs2, hbs2⟩ : ∃ z, z = bs ++ (numL fn 0 ++ numL mn 0) := ⟨_, rfl⟩
   have hst : bs2 = N0 ++ (ps.take (k + 1)).flatMap extU := by
    rw [HTS.o, hbs2, HBS.o]
    simp [extU]
   rw [← hbs2] at hn2
   have HN2 := hyd hn2
   have HST := hyd hst
   clear hn2 hst hoke hbs2
   go_wp2_with fail
   refine HN2.o.mono ?_
   rintro e w6 ⟨v7, o7, rfl, hrb7, hfr7, hk7⟩
   obtain ⟨vb, vd, rfl, -⟩ := hrb7.form
   have HRB7 := hyd hrb7
   have HFR7 := hyd hfr7
   have HK7 := hyd hk7
   clear hrb7 hfr7 hk7
   go_wp2_with fail
   go_roundw
   case rel => exact ⟨k + 1, o7, by omega, by go_num, by rw [← HST.o]; exact HRB7.o, HFR7.o, HK7.o⟩
   case measure => show ps.length - (k + 1) < ps.length - k; omega
  ·have hbs2 : bs = FL := by rw [HBS.o, HX.o, List.take_of_length_le (by omega)]
   have q1 : ¬ (k : Int) < (ps.length : Int) := by omega
   subst hbs2
   have hl := HFL.o
   have HRM := hyd (fun W => p_room (size : Int) W)
   rw [roomI_nat] at HRM
   by_cases hle : bs.length ≤ roomN size
   ·have hle' : (bs.length : Int) ≤ (roomN size : Int) := by omega
    have HV := hyd (show decide (LL ≤ roomN size) = true from decide_eq_true (by omega))
    clear hl
    go_wp2_with fail
    refine (HRM.o _).mono ?_
    rintro e w' ⟨rfl, rfl⟩
    go_wp2_with fail
    go_ret
    exact ⟨by rw [HV.o]; rfl, HK1.o.trans HKW.o (by simp)⟩
   ·have hle' : ¬ (bs.length : Int) ≤ (roomN size : Int) := by omega
    have HV := hyd (show decide (LL ≤ roomN size) = false from decide_eq_false (by omega))
    clear hl
    go_wp2_with fail
    refine (HRM.o _).mono ?_
    rintro e w' ⟨rfl, rfl⟩
    go_wp2_with fail
    go_ret
    exact ⟨by rw [HV.o]; rfl, HK1.o.trans HKW.o (by simp)⟩
end Go.Proofs.YtimpadpeibgmoaaGreat

namespace Go.Emb.Ext
theorem JoinRes.oneX {x : E} {a : List E} {e : Int} (hx : right x = true) (h : JoinRes [x] a e) : e = 0 ∧ a = [x] :=
 JoinRes.sorted (by simp) (by simpa using hx) (by simp [joinS, joinR, jstep]) h
end Go.Emb.Ext
namespace Go.Proofs.YtimpadpeibgmoaaGreat
open Go.RowKit Go.Emb Go.Lib Go.Emb.Ext Go.Shelf Go.Sort
end Go.Proofs.YtimpadpeibgmoaaGreat

namespace Go.Emb.Ext
theorem JoinRes.to {l a out : List E} {e : Int} (hr : ∀ x ∈ l, right x = true) (hd : Disj l) (hp : Plain out) (hc : ∀ i, cov out i ↔ cov l i) (h : JoinRes l a e) : e = 0 ∧ a = out := by
 rcases h with ⟨_, _, x, hx, hn⟩ | ⟨_, _, _, hn⟩ | ⟨h0, _, hok, _⟩
 ·rw [hr x hx] at hn; cases hn
 ·exact absurd hd hn
 ·exact ⟨h0, Plain.eq hok.plain hp fun i => by rw [hok.same, hc]⟩
theorem JoinRes.plain {l a : List E} {e : Int} (hp : Plain l) (hr : ∀ x ∈ l, right x = true) (h : JoinRes l a e) : e = 0 ∧ a = l := JoinRes.to hr hp.disj hp (fun _ => Iff.rfl) h
theorem JoinRes.nil {l a : List E} {e : Int} (h : JoinRes l a e) (he : e ≠ 0) : a = [] := by
 rcases h with ⟨_, h, _⟩ | ⟨_, h, _⟩ | ⟨h0, _⟩
 ·exact h
 ·exact h
 ·exact absurd h0 he
theorem len_le_sum {l : List E} (h : ∀ x ∈ l, 1 ≤ x.2) : (l.length : Int) ≤ sumL l := by
 induction l with
 | nil => simp [sumL]
 | cons x l ih =>
  have h1 := ih (fun y hy => h y (by simp [hy]))
  have h2 := h x (by simp)
  rw [sumL_cons, List.length_cons]
  omega
theorem disj_append {a b : List E} (ha : Disj a) (hb : Disj b) (h : ∀ i, cov a i → ¬ cov b i) : Disj (a ++ b) :=
 List.pairwise_append.2 ⟨ha, hb, fun x hx y hy i h1 h2 => h i ⟨x, hx, h1⟩ ⟨y, hy, h2⟩⟩
theorem disj_cov {a b : List E} (h : Disj (a ++ b)) (i : Int) : cov a i → ¬ cov b i := by
 rintro ⟨x, hx, h1⟩ ⟨y, hy, h2⟩
 exact (List.pairwise_append.1 h).2.2 x hx y hy i h1 h2
end Go.Emb.Ext

namespace Go.Proofs.YtimpadpeibgmoaaGreat
open Go.RowKit Go.Emb Go.Emb.Ext
theorem right_of_cov {l m : List E} (hp : ∀ x ∈ l, 1 ≤ x.2) (hr : ∀ x ∈ m, right x = true) (hc : ∀ i, cov l i → cov m i) : ∀ x ∈ l, right x = true := by
 intro x hx
 have h1 := hp x hx
 obtain ⟨a1, a2⟩ := cov_range hr (hc x.1 ⟨x, hx, by unfold covers; omega⟩)
 obtain ⟨b1, b2⟩ := cov_range hr (hc (x.1 + x.2 - 1) ⟨x, hx, by unfold covers; omega⟩)
 rw [right_iff]
 omega
structure TakeOk (n most : Int) (l got left : List E) : Prop where
 n0 : 0 ≤ n
 pl : Plain left
 rl : ∀ x ∈ left, right x = true
 pg : Plain got
 rg : ∀ x ∈ got, right x = true
 same : ∀ i, cov l i ↔ cov got i ∨ cov left i
 apart : ∀ i, cov got i → ¬ cov left i
 sum : sumL got = n
 all : sumL got + sumL left = sumL l
 len : (got.length : Int) ≤ most
theorem take_ok {n most : Int} {l got left : List E} (hp : Plain l) (hr : ∀ x ∈ l, right x = true) (h : TakeRes n most l got left 0) : TakeOk n most l got left := by
 rcases h with ⟨-, h, -⟩ | ⟨⟨hn, hm⟩, a, e1, hj, h⟩
 ·cases h
 ·obtain ⟨rfl, rfl⟩ := JoinRes.plain hp hr hj
  rcases h with ⟨h, -⟩ | ⟨-, -, h, -⟩ | ⟨-, hs, g, ht, hg, hj2⟩
  ·exact absurd rfl h
  ·cases h
  ·obtain ⟨hi, hl⟩ := takeL_inv most.toNat (TInv.start hp n) hs hn ht
   have hjo := JoinRes.ok hj2
   have hsame : ∀ i, cov a i ↔ cov got i ∨ cov left i := fun i => by
    rw [← hi.same i, cov_append, hjo.2.1.same i]
   refine ⟨hn, hi.plain, right_of_cov hi.plain.pos hr (fun i h => (hsame i).2 (.inr h)), hjo.2.1.plain, hjo.2.2, hsame, fun i h => disj_cov hi.disj i ((hjo.2.1.same i).1 h), by rw [hjo.2.1.sum, hi.sumG]; omega, by rw [hjo.2.1.sum]; exact hi.sum, ?_⟩
   have := hjo.2.1.len
   simp only [List.length_nil, Nat.zero_add] at hl
   omega
theorem plain_len {l : List E} (h : Plain l) : (l.length : Int) ≤ sumL l := len_le_sum h.pos
theorem plain_sum (n : Int) : ∀ {l : List E} (p : Int), Plain l → (∀ x ∈ l, p ≤ x.1 ∧ x.1 + x.2 ≤ n) → p ≤ n → sumL l ≤ n - p
 | [], p, _, _, hp => by simp [sumL]; omega
 | x :: l, p, h, hb, _ => by
  have hx := hb x (by simp)
  have h1 := h.pos x (by simp)
  have hg := (List.pairwise_cons.1 h.gap).1
  have := plain_sum n (l := l) (x.1 + x.2) h.tail (fun y hy => ⟨by have := hg y hy; omega, (hb y (by simp [hy])).2⟩) hx.2
  rw [sumL_cons]
  omega
inductive Tkn (rm : Int) (f0 : List E) : List Plc → List E → Prop
 | nil : Tkn rm f0 [] f0
 | snoc {pl f p f'} : Tkn rm f0 pl f → TakeRes (needE p.len rm) 16384 f p.pieces f' 0 → Tkn rm f0 (pl ++ [p]) f'
def plcX (pl : List Plc) : List E := pl.flatMap (·.pieces)
structure TknOk (rm : Int) (f0 : List E) (pl : List Plc) (f : List E) : Prop where
 plain : Plain f
 rf : ∀ x ∈ f, right x = true
 disj : Disj (plcX pl ++ f)
 same : ∀ i, cov f0 i ↔ cov (plcX pl) i ∨ cov f i
 sum : sumL (plcX pl) + sumL f = sumL f0
 each : ∀ p ∈ pl, Plain p.pieces ∧ (∀ x ∈ p.pieces, right x = true) ∧ sumL p.pieces = needE p.len rm
theorem Tkn.ok {rm : Int} {f0 : List E} (hp : Plain f0) (hr : ∀ x ∈ f0, right x = true) {pl : List Plc} {f : List E} (h : Tkn rm f0 pl f) : TknOk rm f0 pl f := by
 induction h with
 | nil => exact ⟨hp, hr, by simpa [plcX] using hp.disj, fun i => by simp [plcX, cov], by simp [plcX, sumL], fun p hp => by cases hp⟩
 | @snoc pl f p f' _ ht ih =>
  have hk := take_ok ih.plain ih.rf ht
  have e : plcX (pl ++ [p]) = plcX pl ++ p.pieces := by simp [plcX]
  have hdp : ∀ i, cov (plcX pl) i → ¬ cov f i := fun i => disj_cov ih.disj i
  refine ⟨hk.pl, hk.rl, ?_, fun i => ?_, ?_, fun q hq => ?_⟩
  ·rw [e, List.append_assoc]
   refine disj_append (List.pairwise_append.1 ih.disj).1 (disj_append hk.pg.disj hk.pl.disj hk.apart) (fun i h1 h2 => hdp i h1 ((hk.same i).2 ((cov_append _ _ i).1 h2)))
  ·rw [ih.same i, e, cov_append, hk.same i, or_assoc]
  ·rw [e, sumL_append]; have h1 := hk.all; have h2 := ih.sum; omega
  ·rcases List.mem_append.1 hq with hq | hq
   ·exact ih.each q hq
   ·obtain rfl := List.mem_singleton.1 hq
    exact ⟨hk.pg, hk.rg, hk.sum⟩
end Go.Proofs.YtimpadpeibgmoaaGreat
