/- A part of the proof (Su14, Su15), joined by squeeze2.py. -/
import Derived.Test.YtimpadpeibgmoaaGreatYd13
import Derived.Test.YtimpadpeibgmoaaGreatYd20
import Derived.Test.YtimpadpeibgmoaaGreatYd10
import Derived.Test.YtimpadpeibgmoaaGreatYd03
set_option maxHeartbeats 8000000
set_option maxRecDepth 100000
namespace Go.Proofs.YtimpadpeibgmoaaGreat
open Go.RowKit Go.Emb Go.Emb.Ext
structure Sup where
 gen : Nat
 ps : List E
 len : Int
 ep : Int
def aggS (x : Sup) (pv : Value) : Value := .agg #[.int .u64 x.gen, pv, .int .i64 x.len, .int .i64 x.ep]
def okE (n : Nat) (e : E) : Prop := 2 ≤ e.1 ∧ e.1 < n ∧ 1 ≤ e.2 ∧ e.2 ≤ n - e.1
def apart (x y : E) : Prop := x.1 + x.2 ≤ y.1 ∨ y.1 + y.2 ≤ x.1
def okHead (x : Sup) : Prop := x.gen ≠ 0 ∧ 0 ≤ x.ep ∧ x.ep ≤ 16777215 ∧ 0 ≤ x.len ∧ x.len ≤ 1048576 ∧ x.ps.length ≤ 8
def okS (n : Nat) (x : Sup) : Prop := okHead x ∧ (∀ e ∈ x.ps, okE n e) ∧ x.ps.Pairwise apart
theorem apart_symm : ∀ {x y : E}, apart x y → apart y x := fun h => h.symm
theorem apart_perm {s l : List E} (h : s.Perm l) : s.Pairwise apart ↔ l.Pairwise apart := h.pairwise_iff apart_symm
theorem chain_apart : ∀ (s : List E), s.Pairwise (fun x y => x.1 ≤ y.1) → (∀ e ∈ s, 1 ≤ e.2) → ((∀ i (h : i + 1 < s.length), s[i].1 + s[i].2 ≤ s[i + 1].1) ↔ s.Pairwise apart)
 | [], _, _ => by simp
 | [x], _, _ => by simp
 | x :: y :: l, hs, hl => by
  have ih := chain_apart (y :: l) hs.of_cons (fun e he => hl e (by simp at he ⊢; exact .inr he))
  rw [List.pairwise_cons] at hs
  constructor
  ·intro h
   rw [List.pairwise_cons]
   have h0 := h 0 (by simp)
   simp at h0
   refine ⟨fun e he => .inl ?_, ih.1 (fun i hi => ?_)⟩
   ·rcases List.mem_cons.1 he with rfl | he
    ·exact h0
    ·have h2 := hs.2
     rw [List.pairwise_cons] at h2
     have := h2.1 e he
     omega
   ·have := h (i + 1) (by simp at hi ⊢; omega)
    simpa using this
  ·intro h i hi
   rw [List.pairwise_cons] at h
   cases i with
   | zero =>
    simp
    rcases h.1 y (by simp) with h | h
    ·exact h
    ·have h1 := hs.1 y (by simp)
     have h2 := hl y (by simp)
     omega
   | succ i =>
    have := ih.2 h.2 i (by simp at hi ⊢; omega)
    simpa using this
def SuCheckP (w : World) (n : Nat) (x : Sup) (e : Ending) (w' : World) : Prop := ∃ c : Int, e = .returned (.int .i64 c) ∧ (c = 0 ∧ okS n x ∨ c = 2 ∧ ¬ okS n x) ∧ Keep [] w w'
theorem cells4s {w : World} {q : Nat} {a b c d : Value} {t : TypeId} (h : w.heap[q]? = some (.cells #[a, b, c, d] t (0, 0))) : w.cell? ⟨q, 0, none⟩ = some a ∧ w.cell? ⟨q, 1, none⟩ = some b ∧ w.cell? ⟨q, 2, none⟩ = some c ∧ w.cell? ⟨q, 3, none⟩ = some d := by
 refine ⟨?_, ?_, ?_, ?_⟩ <;> simp [World.cell?, h]
theorem su_check {w : World} {n : Nat} {x : Sup} {pv : Value} {o : Option Nat} (hr : RdE w pv x.ps o) (ho : ∀ b, o = some b → b < w.heap.size) (hn : n ≤ 16384) (hsz : x.ps.length ≤ 1000000) :
  Calls Tryz.prog 94 #[.int .i64 n, aggS x pv] w (SuCheckP w n x) := by
 obtain ⟨pa, pc, rfl⟩ : ∃ a c, pv = .slice a x.ps.length c := by obtain ⟨-, a, c, h, -⟩ := hr; exact ⟨a, c, h⟩
 obtain ⟨gen, ps, len, ep⟩ := x
 unfold aggS
 simp only at *
 have hk1 : Keep [] w (w.alloc (.cells #[.int .u64 gen, .slice pa ps.length pc, .int .i64 len, .int .i64 ep] 56)) := (Keep.refl [] w).alloc _
 have hb1 := heap_alloc_new w (.cells #[.int .u64 gen, .slice pa ps.length pc, .int .i64 len, .int .i64 ep] 56)
 have HR := hyd hr
 have HO := hyd ho
 have HK1 := hyd hk1
 have HB1 := hyd hb1
 obtain ⟨c0, c1, c2, c3⟩ := cells4s hb1
 clear hr ho hk1 hb1
 by_cases hh : okHead ⟨gen, ps, len, ep⟩
 ·have HH := hyd hh
  obtain ⟨g1, g2, g3, g4, g5, g6⟩ := hh
  simp only at g1 g2 g3 g4 g5 g6
  have g1' : ((gen : Int) == 0) = false := beq_eq_false_iff_ne.2 (by omega)
  have g2' : ¬ ep < 0 := by omega
  have g3' : ¬ 16777215 < ep := by omega
  have g4' : ¬ len < 0 := by omega
  have g5' : ¬ 1048576 < len := by omega
  have g6' : ¬ (8 : Int) < (ps.length : Int) := by omega
  clear g1 g2 g3 g4 g5
  go_enter Tryz.func94, Tryz.ntmps94
  go_wp2_with fail
  clear c0 c1 c2 c3
  generalize w.alloc (.cells #[.int .u64 gen, .slice pa ps.length pc, .int .i64 len, .int .i64 ep] 56) = w1 at *
  go_loopw [41] (fun i wr => ∃ k : Nat, k ≤ ps.length ∧ i = .int .i64 k ∧ (∀ e ∈ ps.take k, okE n e) ∧ Keep [] w1 wr) (fun i _ => ps.length - (RowKit.intOf i).toNat)
  case atStart => exact ⟨0, Nat.zero_le _, rfl, by simp, Keep.refl _ _⟩
  case round =>
   obtain ⟨k, hk, rfl, hok, hkw⟩ := hrel
   have HKW := hyd hkw
   have HOK := hyd hok
   clear hkw hok
   by_cases hlt : k < ps.length
   ·have hts := List.take_succ_eq_append_getElem hlt
    have hmem := List.getElem_mem hlt
    obtain ⟨b, off, rfl, -, e0, e1⟩ := HR.o.at hlt
    have d0 := (HK1.o.trans HKW.o (by simp)).cellOf e0
    have d1 := (HK1.o.trans HKW.o (by simp)).cellOf e1
    have q0 : (0 : Int) ≤ (k : Int) := by omega
    have q1 : (k : Int) < (ps.length : Int) := by omega
    have HTS := hyd hts
    have HMEM := hyd hmem
    clear e0 e1 hts hmem
    generalize ps[k] = x at *
    obtain ⟨f, m⟩ := x
    simp only at d0 d1
    have hkx : Keep [] w1 (wr.alloc (.cells #[.int .i64 f, .int .i64 m] 34)) := HKW.o.alloc _
    have HKX := hyd hkx
    clear hkx
    by_cases he : okE n (f, m)
    ·have HE := hyd he
     obtain ⟨h1, h2, h3, h4⟩ := he
     simp only at h1 h2 h3 h4
     have h1' : ¬ f < 2 := by omega
     have h2' : ¬ (n : Int) ≤ f := by omega
     have h3' : ¬ m < 1 := by omega
     have h4' : ¬ (n : Int) - f < m := by omega
     have hw : IntKind.i64.wrap ((n : Int) - f) = (n : Int) - f := IntWalk.i64_in _ (by omega)
     clear h1 h2 h3 h4
     go_wp2_with fail
     go_roundw
     case rel => exact ⟨k + 1, by omega, by go_num, fun e he => by rw [HTS.o] at he; rcases List.mem_append.1 he with he | he; exact HOK.o e he; simp at he; subst he; exact HE.o, HKX.o⟩
     case measure => first | (simp [RowKit.intOf]; omega) | omega
    ·have hno : ¬ okS n ⟨gen, ps, len, ep⟩ := fun h => he (h.2.1 _ HMEM.o)
     have HNO := hyd hno
     clear hno
     by_cases h1 : f < 2
     ·go_wp2_with fail
      refine bodyPost_ret (results_tmp rfl _ _ _) rfl ?_
      exact ⟨2, rfl, .inr ⟨rfl, HNO.o⟩, HK1.o.trans HKX.o (by simp)⟩
     ·by_cases h2 : (n : Int) ≤ f
      ·go_wp2_with fail
       refine bodyPost_ret (results_tmp rfl _ _ _) rfl ?_
       exact ⟨2, rfl, .inr ⟨rfl, HNO.o⟩, HK1.o.trans HKX.o (by simp)⟩
      ·by_cases h3 : m < 1
       ·go_wp2_with fail
        refine bodyPost_ret (results_tmp rfl _ _ _) rfl ?_
        exact ⟨2, rfl, .inr ⟨rfl, HNO.o⟩, HK1.o.trans HKX.o (by simp)⟩
       ·have h4 : (n : Int) - f < m := by
         by_cases h4 : (n : Int) - f < m
         ·exact h4
         ·exact absurd ⟨by show 2 ≤ f; omega, by show f < (n : Int); omega, by show 1 ≤ m; omega, by show m ≤ (n : Int) - f; omega⟩ he
        have hw : IntKind.i64.wrap ((n : Int) - f) = (n : Int) - f := IntWalk.i64_in _ (by omega)
        clear he
        go_wp2_with fail
        refine bodyPost_ret (results_tmp rfl _ _ _) rfl ?_
        exact ⟨2, rfl, .inr ⟨rfl, HNO.o⟩, HK1.o.trans HKX.o (by simp)⟩
   ·have hall : ∀ e ∈ ps, okE n e := by
     have := HOK.o
     rwa [List.take_of_length_le (by omega)] at this
    have HALL := hyd hall
    have q1 : ¬ (k : Int) < (ps.length : Int) := by omega
    obtain ⟨d0, d1, d2, d3⟩ := cells4s (blkk HB1.o HKW.o (by simp))
    clear hall
    go_wp2_with fail
    refine (values_any _ _ ⟨_, _, _, rfl⟩).mono ?_
    rintro e w2 ⟨rfl, rfl⟩
    have hka := (HK1.o.trans HKW.o (by simp)).alloc (.cells #[.slice pa ps.length pc] 46)
    have hsf := sortedFunc_anyS (w := wr.alloc (.cells #[.slice pa ps.length pc] 46)) (B := wr.heap.size) (v := .slice pa ps.length pc) (by simp) (HR.o.keep hka (by simp)) (by omega) (fun e he => by have := HALL.o e he; unfold okE at this; unfold SmallE; omega) (fun b hb => Nat.lt_of_lt_of_le (HO.o b hb) hka.size)
    have HSF := hyd hsf
    have HKA := hyd hka
    clear hsf hka d0 d1 d2 d3
    go_wp2_with fail
    refine HSF.o.mono ?_
    rintro e w3 ⟨v3, o3, s, rfl, hp, hpw, hrow, hfr, hk3⟩
    obtain ⟨o4, hrd, -⟩ := Row.rd hrow
    have hrd2 : RdE w3 v3 s o4 := hrd
    obtain ⟨sa, sc, rfl⟩ : ∃ a c, v3 = .slice a s.length c := by obtain ⟨-, a, c, h, -⟩ := hrd; exact ⟨a, c, h⟩
    have hsl : s.length ≤ 8 := by rw [hp.length_eq]; omega
    have HRS := hyd hrd2
    have HP := hyd hp
    have hall2 : ∀ e ∈ s, okE n e := fun e he => HALL.o e (hp.mem_iff.1 he)
    have HALL2 := hyd hall2
    have hch := chain_apart s hpw (fun e he => (hall2 e he).2.2.1)
    rw [apart_perm hp] at hch
    have HCH := hyd hch
    have HK3 := hyd (HKA.o.trans hk3 (by simp))
    clear hrow hfr hk3 hrd hrd2 hp hall2 hch hpw HSF
    go_wp2_with fail
    go_loopw [8] (fun i wq => ∃ k : Nat, 1 ≤ k ∧ (k ≤ s.length ∨ k = 1) ∧ i = .int .i64 k ∧ (∀ j (h : j + 1 < s.length), j + 1 < k → s[j].1 + s[j].2 ≤ s[j + 1].1) ∧ Keep [] w3 wq) (fun i _ => s.length - (RowKit.intOf i).toNat)
    case atStart => exact ⟨1, by omega, .inr rfl, rfl, fun j h1 h2 => by omega, Keep.refl _ _⟩
    case round =>
     rename World => wq
     obtain ⟨i, hi1, hi2, rfl, hadj, hkq⟩ := hrel
     have HKQ := hyd hkq
     have HADJ := hyd hadj
     clear hkq hadj
     by_cases hlt2 : i < s.length
     ·obtain ⟨j, rfl⟩ : ∃ j, i = j + 1 := ⟨i - 1, by omega⟩
      have hj1 : j < s.length := by omega
      obtain ⟨b, off, rfl, -, e0, e1⟩ := HRS.o.at hj1
      obtain ⟨b', off', hbb, -, e2, e3⟩ := HRS.o.at hlt2
      cases hbb
      have d0 := HKQ.o.cellOf e0
      have d1 := HKQ.o.cellOf e1
      have d2 := HKQ.o.cellOf e2
      have hm1 := HALL2.o _ (List.getElem_mem hj1)
      have hm2 := HALL2.o _ (List.getElem_mem hlt2)
      unfold okE at hm1 hm2
      have hw2 : IntKind.i64.wrap (s[j].1 + s[j].2) = s[j].1 + s[j].2 := IntWalk.i64_in _ (by omega)
      have hw1 : IntKind.i64.wrap (((j + 1 : Nat) : Int) - 1) = (j : Int) := (IntWalk.i64_in _ (by omega)).trans (by omega)
      obtain ⟨i, hij⟩ : ∃ i, i = j + 1 := ⟨_, rfl⟩
      have hst : s[j + 1].1 + 0 = s[j + 1].1 := by omega
      obtain ⟨y, hy⟩ : ∃ y, y = s[j + 1].1 := ⟨_, rfl⟩
      obtain ⟨z, hz⟩ : ∃ z, z = s[j].1 := ⟨_, rfl⟩
      obtain ⟨u, hu⟩ : ∃ u, u = s[j].2 := ⟨_, rfl⟩
      rw [← hy, ← hij] at d2
      rw [← hz] at d0 hw2
      rw [← hu] at d1 hw2
      rw [← hij] at hw1 hlt2 ⊢
      have HS := hyd (show s[j].1 + s[j].2 ≤ s[j + 1].1 ↔ z + u ≤ y by rw [hy, hz, hu])
      have HIJ := hyd hij
      have q0 : (0 : Int) ≤ (j : Int) := by omega
      have q1 : (j : Int) < (s.length : Int) := by omega
      have q2 : (0 : Int) ≤ (i : Int) := by omega
      have q3 : (i : Int) < (s.length : Int) := by omega
      clear e0 e1 e2 e3 hm1 hm2 hy hz hu hst hij
      by_cases hgap : y < z + u
      ·go_upto_region 13 with fail
       go_quiet (fail)
       go_wp2_with fail
       refine bodyPost_ret (results_tmp rfl _ _ _) rfl ?_
       refine ⟨2, rfl, .inr ⟨rfl, fun h => ?_⟩, by repeat (first | exact HK3.o.trans HKQ.o (by simp) | refine Keep.drewN ?_ _ | refine Keep.drew ?_)⟩
       have h1 := HCH.o.2 h.2.2 j (by omega)
       have h2 := HS.o.1 h1
       omega
      ·go_upto_region 13 with fail
       go_quiet (fail)
       go_wp2_with fail
       go_roundw
       case rel =>
        refine ⟨i + 1, by omega, .inl (by omega), by go_num, fun t h1 h2 => ?_, by repeat (first | exact HKQ.o | refine Keep.drewN ?_ _ | refine Keep.drew ?_)⟩
        by_cases htj : t = j
        ·subst htj
         exact HS.o.2 (by omega)
        ·exact HADJ.o t h1 (by have := HIJ.o; omega)
       case measure => first | (simp [RowKit.intOf]; omega) | omega
     ·have hall3 : ps.Pairwise apart := HCH.o.1 (fun j h => HADJ.o j h (by omega))
      have q3 : ¬ (i : Int) < (s.length : Int) := by omega
      have HALL3 := hyd hall3
      clear hall3
      go_wp2_with fail
      refine bodyPost_ret (results_tmp rfl _ _ _) rfl ?_
      exact ⟨0, rfl, .inl ⟨rfl, HH.o, HALL.o, HALL3.o⟩, HK3.o.trans HKQ.o (by simp)⟩
 ·have hno : ¬ okS n ⟨gen, ps, len, ep⟩ := fun h => hh h.1
  have HNO := hyd hno
  clear hno
  unfold okHead at hh
  simp only at hh
  by_cases h1 : gen = 0
  ·clear hh
   have h1' : ((gen : Int) == 0) = true := by rw [h1]; rfl
   clear h1
   go_enter Tryz.func94, Tryz.ntmps94
   go_wp2_with fail
   refine bodyPost_ret (results_tmp rfl _ _ _) rfl ?_
   exact ⟨2, rfl, .inr ⟨rfl, HNO.o⟩, HK1.o⟩
  ·skip
   have h1' : ((gen : Int) == 0) = false := beq_eq_false_iff_ne.2 (by omega)
   by_cases h2 : ep < 0
   ·clear hh
    go_enter Tryz.func94, Tryz.ntmps94
    go_wp2_with fail
    refine bodyPost_ret (results_tmp rfl _ _ _) rfl ?_
    exact ⟨2, rfl, .inr ⟨rfl, HNO.o⟩, HK1.o⟩
   ·skip
    by_cases h3 : 16777215 < ep
    ·clear hh
     go_enter Tryz.func94, Tryz.ntmps94
     go_wp2_with fail
     refine bodyPost_ret (results_tmp rfl _ _ _) rfl ?_
     exact ⟨2, rfl, .inr ⟨rfl, HNO.o⟩, HK1.o⟩
    ·skip
     by_cases h4 : len < 0
     ·clear hh
      go_enter Tryz.func94, Tryz.ntmps94
      go_wp2_with fail
      refine bodyPost_ret (results_tmp rfl _ _ _) rfl ?_
      exact ⟨2, rfl, .inr ⟨rfl, HNO.o⟩, HK1.o⟩
     ·skip
      by_cases h5 : 1048576 < len
      ·clear hh
       go_enter Tryz.func94, Tryz.ntmps94
       go_wp2_with fail
       refine bodyPost_ret (results_tmp rfl _ _ _) rfl ?_
       exact ⟨2, rfl, .inr ⟨rfl, HNO.o⟩, HK1.o⟩
      ·skip
       have h6 : (8 : Int) < (ps.length : Int) := by omega
       clear hh
       go_enter Tryz.func94, Tryz.ntmps94
       go_wp2_with fail
       refine bodyPost_ret (results_tmp rfl _ _ _) rfl ?_
       exact ⟨2, rfl, .inr ⟨rfl, HNO.o⟩, HK1.o⟩
def extU (e : E) : List UInt8 := numL e.1.toNat 0 ++ numL e.2.toNat 0
def loadL (x : Sup) : List UInt8 := numL x.ps.length 0 ++ x.ps.flatMap extU ++ (numL x.len.toNat 0 ++ numL x.ep.toNat 0)
open Classical in
noncomputable def swrite (d : DS) (x : Sup) : Int × DS :=
 if ¬ okS d.n x then (2, d) else if roomN d.sz < (loadL x).length then (1, d) else writeD d ((x.gen % 2 : Nat) : Int) (sealL d.sz ⟨83, x.gen, loadL x⟩)
def SWP (w : World) (q : Nat) (m : List Int) (D : List Nat) (d : DS) (x : Sup) (e : Ending) (w' : World) : Prop :=
 ∃ D', e = .returned (.int .i64 (swrite d x).1) ∧ DK w' q (logW (swrite d x).1 ((x.gen % 2 : Nat) : Int) m) D' (swrite d x).2 ∧ (∀ b ∈ D', b ∈ D ∨ w.heap.size ≤ b) ∧ Keep D w w'
theorem SWP.same {w w' : World} {q : Nat} {m : List Int} {D : List Nat} {d : DS} {x : Sup} {c : Int} (h : DK w q m D d) (hk : Keep [] w w') (he : swrite d x = (c, d)) (hc : c ≠ 0 := by decide) : SWP w q m D d x (.returned (.int .i64 c)) w' :=
 ⟨D, by rw [he], by rw [he]; unfold logW; rw [if_neg hc]; exact h.keep0 hk, fun b hb => .inl hb, hk.mono (by simp)⟩
theorem flat_le (l : List E) : (l.flatMap extU).length ≤ l.length * 18 := by
 induction l with
 | nil => simp
 | cons x l ih =>
  rw [List.flatMap_cons, List.length_append, List.length_cons, Nat.succ_mul]
  have h1 := (numL_length x.1.toNat 0).1
  have h2 := (numL_length x.2.toNat 0).1
  have : (extU x).length ≤ 18 := by unfold extU; rw [List.length_append]; omega
  omega
theorem loadL_len {x : Sup} (h : x.ps.length ≤ 8) : (loadL x).length ≤ 171 := by
 have h1 := flat_le x.ps
 have h2 := (numL_length x.ps.length 0).1
 have h3 := (numL_length x.len.toNat 0).1
 have h4 := (numL_length x.ep.toNat 0).1
 unfold loadL
 simp only [List.length_append]
 omega
theorem num_lit {w w0 : World} {v : Value} {bs : List UInt8} {o : Option Nat} {ns : List Nat} (h : RB w v bs o) (hk : Keep [] w0 w) (ho : ∀ b, o = some b → w0.heap.size ≤ b) (hok : ∀ x ∈ ns, x < 18446744073709551616) (hns : ns.length ≤ 100) (hsz : (bs ++ ns.flatMap fun x => numL x 0).length ≤ 1000000000) :
  Calls Tryz.prog 90 #[v, .slice (some ⟨w.heap.size, 0, none⟩) ns.length ns.length] (w.alloc (.cells (ns.map fun x => Value.int .u64 ((x : Nat) : Int)).toArray 54))
   fun e w' => ∃ v' o', e = .returned v' ∧ RB w' v' (bs ++ ns.flatMap fun x => numL x 0) o' ∧ (∀ b, o' = some b → w0.heap.size ≤ b) ∧ Keep [] w0 w' := by
 have hka := (Keep.refl [] w).alloc (.cells (ns.map fun x => Value.int .u64 ((x : Nat) : Int)).toArray 54)
 have hb := heap_alloc_new w (.cells (ns.map fun x => Value.int .u64 ((x : Nat) : Int)).toArray 54)
 refine (p_num (ns := ns) (ol := some w.heap.size) (h.keep hka (by simp)) (rd_block (n := ns.length) (k := 1) hb (by simp) (by unfold maxLen; omega)) (fun b hb2 => by cases hb2; exact ⟨by simp, fun e => by have := h.lt _ e.symm; omega⟩) hok hsz).mono ?_
 rintro e w' ⟨v', o', rfl, hr, hk2, hf⟩
 refine ⟨v', o', rfl, hr, fun b hb3 => ?_, (hk.trans hka (by simp)).trans hk2 (fun x hx => .inr (ho x (by simpa using hx)))⟩
 rcases hf with rfl | hf
 ·exact ho b hb3
 ·exact Nat.le_trans (Nat.le_trans hk.size hka.size) (hf b hb3)
theorem s_write {w : World} {q : Nat} {m : List Int} {D : List Nat} {d : DS} {x : Sup} {pv : Value} {o : Option Nat} (h : DK w q m D d) (hm : m.length ≤ 1000000) (hr : RdE w pv x.ps o) (ho : ∀ b, o = some b → b < w.heap.size) (hsz : x.ps.length ≤ 1000000) (hg : x.gen < 18446744073709551616) :
  Calls Tryz.prog 65 #[.pointer (some ⟨q, 0, none⟩), aggS x pv] w (SWP w q m D d x) := by
 obtain ⟨pa, pc, rfl⟩ : ∃ a c, pv = .slice a x.ps.length c := by obtain ⟨-, a, c, h, -⟩ := hr; exact ⟨a, c, h⟩
 have hX := hyd (show ∃ y, y = x from ⟨_, rfl⟩)
 obtain ⟨gen, ps, len, ep⟩ := x
 unfold aggS
 simp only at *
 have hk1 : Keep [] w (w.alloc (.cells #[.int .u64 gen, .slice pa ps.length pc, .int .i64 len, .int .i64 ep] 56)) := (Keep.refl [] w).alloc _
 have hb1 := heap_alloc_new w (.cells #[.int .u64 gen, .slice pa ps.length pc, .int .i64 len, .int .i64 ep] 56)
 have hck := fun (w2 : World) (hk2 : Keep [] w w2) => su_check (w := w2) (n := d.n) (x := ⟨gen, ps, len, ep⟩) (hr.keep hk2 (by simp)) (fun b hb => Nat.lt_of_lt_of_le (ho b hb) hk2.size) (by obtain ⟨gb, c, logv, logs, lo, s, r, -, -, -, -, -, -, ok⟩ := h; exact ok.2.1) hsz
 have H := hyd h
 have HR := hyd hr
 have HO := hyd ho
 have HCK := hyd hck
 unfold aggS at HCK
 have HBL := hyd (fun (w2 : World) (hk2 : Keep [] w w2) => by
   obtain ⟨gb, c, logv, logs, lo, s, r, -, h1, -, -, -, -, ok⟩ := h.keep0 hk2
   exact p_blocks h1 rfl (by have := ok.2.2.1; omega) ok.2.1)
 have HSZ := hyd (fun (w2 : World) (hk2 : Keep [] w w2) => by
   obtain ⟨gb, c, logv, logs, lo, s, r, -, h1, -, -, -, -, ok⟩ := h.keep0 hk2
   exact p_size h1)
 have HOK := hyd (show d.ok by obtain ⟨gb, c, logv, logs, lo, s, r, -, -, -, -, -, -, ok⟩ := h; exact ok)
 have HK1 := hyd hk1
 have HB1 := hyd hb1
 clear h hr ho hck hk1 hb1
 go_enter Tryz.func65, Tryz.ntmps65
 go_upto_region 3 with fail
 generalize w.alloc (.cells #[.int .u64 gen, .slice pa ps.length pc, .int .i64 len, .int .i64 ep] 56) = w1 at *
 refine wp_region_held_drew (S := fun w' => Keep [] w1 w' ∧ w'.heap[w.heap.size]? = some (.cells #[.int .u64 gen, .slice pa ps.length pc, .int .i64 len, .int .i64 ep] 56)) (by kernel_rfl) ⟨(Keep.refl [] w1).drew, HB1.o⟩ (fun hHeld => ?_)
 have HS0 := hyd hHeld
 clear hHeld
 have hHeld := HS0.o
 generalize w1.drew = w2 at *
 refine tkL 0 ?vA0 rfl ?runA0 hHeld ?_
 case runA0 => (intro w9 hS9; obtain ⟨c0, c1, c2, c3⟩ := cells4s hS9.2; go_simp; try exact rfl)
 try simp only [Act.put, lA, lZ, lS]
 refine tkL 2 ?vA2 rfl ?runA2 hHeld ?_
 case runA2 => (intro w9 hS9; obtain ⟨c0, c1, c2, c3⟩ := cells4s hS9.2; go_simp; try exact rfl)
 try simp only [Act.put, lA, lZ, lS]
 refine rdH 1 rfl (fun K hK => ?_)
 go_simp
 refine (HBL.o _ (HK1.o.trans HS0.o.1 (by simp))).mono ?_
 rintro e w3 ⟨rfl, hk3⟩
 have HS1 := hyd (And.intro (HS0.o.1.trans hk3 (by simp)) (blkk HS0.o.2 hk3 (by simp)))
 clear hk3 hHeld
 go_wp2_with fail
 refine hK.out _ _ HS1.o (fun hHeld => ?_)
 clear hK K
 try simp only [Act.put, lA, lZ, lS]
 refine rdH 3 rfl (fun K hK => ?_)
 go_simp
 refine (HCK.o _ (HK1.o.trans HS1.o.1 (by simp))).mono ?_
 rintro e w4 ⟨cc, rfl, hcc, hk4⟩
 have HS2 := hyd (And.intro (HS1.o.1.trans hk4 (by simp)) (blkk HS1.o.2 hk4 (by simp)))
 have HCC := hyd hcc
 clear hk4 hHeld hcc
 go_wp2_with fail
 refine hK.out _ _ HS2.o (fun hHeld => ?_)
 clear hK K
 try simp only [Act.put, lA, lZ, lS]
 refine tkL 4 ?vA4 rfl ?runA4 hHeld ?_
 case runA4 => (intro w9 hS9; obtain ⟨c0, c1, c2, c3⟩ := cells4s hS9.2; go_simp; try exact rfl)
 try simp only [Act.put, lA, lZ, lS]
 refine wpAnyH_done (by kernel_rfl) ?_ _
 clear hHeld
 by_cases hcc : cc = 0
 ·have hoks : okS d.n ⟨gen, ps, len, ep⟩ := by
   rcases HCC.o with ⟨-, h⟩ | ⟨h, -⟩
   ·exact h
   ·omega
  have HOKS := hyd hoks
  subst hcc
  have hps := hoks.1.2.2.2.2.2
  have hlen := hoks.1.2.2.2.1
  have hlen2 := hoks.1.2.2.2.2.1
  have hep := hoks.1.2.1
  have hep2 := hoks.1.2.2.1
  simp only at hps hlen hlen2 hep hep2
  have hwl : IntKind.u64.wrap (ps.length : Int) = (ps.length : Int) := IntWalk.u64_in _ (by omega)
  obtain ⟨ln, rfl⟩ : ∃ n : Nat, len = n := ⟨len.toNat, by omega⟩
  obtain ⟨en, rfl⟩ : ∃ n : Nat, ep = n := ⟨ep.toNat, by omega⟩
  obtain ⟨c0, c1, c2, c3⟩ := cells4s HS2.o.2
  have hn1 := num_lit (w := w4) (w0 := w1) (ns := [ps.length]) (RB.nil w4) HS2.o.1 (by simp) (by simp; omega) (by simp) (by have := (numL_length ps.length 0).1; simp; omega)
  simp only [List.nil_append, List.flatMap_cons, List.flatMap_nil, List.append_nil, List.map_cons, List.map_nil, List.length_cons, List.length_nil, Nat.zero_add] at hn1
  have HN1 := hyd hn1
  clear hn1 hoks
  go_wp2_with fail
  refine HN1.o.mono ?_
  rintro e w5 ⟨v5, o5, rfl, hrb, hfr, hk5⟩
  obtain ⟨va, vc, rfl, -⟩ := hrb.form
  obtain ⟨d0, d1, d2, d3⟩ := cells4s (blkk HB1.o hk5 (by simp))
  have HRB := hyd hrb
  have HFR := hyd hfr
  have HK5 := hyd hk5
  clear hrb hfr hk5 c0 c1 c2 c3 HN1
  go_wp2_with fail
  clear d0 d1 d2 d3
  go_loopw [6, 29] (fun l i wr => ∃ (k : Nat) (o' : Option Nat), k ≤ ps.length ∧ i = .int .i64 k ∧ RB wr l (numL ps.length 0 ++ (ps.take k).flatMap extU) o' ∧ (∀ b, o' = some b → w1.heap.size ≤ b) ∧ Keep [] w1 wr) (fun _ i _ => ps.length - (RowKit.intOf i).toNat)
  case atStart => exact ⟨0, o5, Nat.zero_le _, rfl, by simpa using HRB.o, HFR.o, HK5.o⟩
  case round =>
   obtain ⟨k, o6, hk, rfl, hrb, hfr, hkw⟩ := hrel
   obtain ⟨bs, hbs⟩ : ∃ z, z = numL ps.length 0 ++ (ps.take k).flatMap extU := ⟨_, rfl⟩
   rw [← hbs] at hrb
   have HBS := hyd hbs
   have hbl0 : bs.length ≤ 153 := by
    have h1 := flat_le (ps.take k)
    have h2 := (numL_length ps.length 0).1
    rw [List.length_take] at h1
    rw [hbs, List.length_append]
    omega
   clear hbs
   obtain ⟨va, vc, rfl, -⟩ := hrb.form
   have HRB6 := hyd hrb
   have HFR6 := hyd hfr
   have HKW := hyd hkw
   clear hrb hfr hkw
   by_cases hlt : k < ps.length
   ·have hts := List.take_succ_eq_append_getElem hlt
    have hoke := (HOKS.o.2.1) _ (List.getElem_mem hlt)
    obtain ⟨b, off, rfl, -, e0, e1⟩ := HR.o.at hlt
    have d0 := (HK1.o.trans HKW.o (by simp)).cellOf e0
    have d1 := (HK1.o.trans HKW.o (by simp)).cellOf e1
    have q0 : (0 : Int) ≤ (k : Int) := by omega
    have q1 : (k : Int) < (ps.length : Int) := by omega
    have HTS := hyd hts
    clear e0 e1 hts
    have hdn := HOK.o.2.1
    generalize ps[k] = x at *
    obtain ⟨f, m'⟩ := x
    unfold okE at hoke
    simp only at d0 d1 hoke
    obtain ⟨fn, rfl⟩ : ∃ n : Nat, f = n := ⟨f.toNat, by omega⟩
    obtain ⟨mn, rfl⟩ : ∃ n : Nat, m' = n := ⟨m'.toNat, by omega⟩
    have hw1 : IntKind.u64.wrap (fn : Int) = (fn : Int) := IntWalk.u64_in _ (by omega)
    have hw2 : IntKind.u64.wrap (mn : Int) = (mn : Int) := IntWalk.u64_in _ (by omega)
    have hn2 := num_lit (w := wr.alloc (.cells #[.int .i64 fn, .int .i64 mn] 34)) (w0 := w1) (ns := [fn, mn]) (HRB6.o.keep ((Keep.refl [] wr).alloc _) (by simp)) (HKW.o.alloc _) HFR6.o (by simp; omega) (by simp) (by
      have h2 := (numL_length fn 0).1
      have h3 := (numL_length mn 0).1
      simp only [List.length_append, List.flatMap_cons, List.flatMap_nil, List.length_nil]
      omega)
    simp only [List.flatMap_cons, List.flatMap_nil, List.append_nil, List.map_cons, List.map_nil, List.length_cons, List.length_nil, Nat.zero_add, size_alloc] at hn2
    obtain ⟨bs2, hbs2⟩ : ∃ z, z = bs ++ (numL fn 0 ++ numL mn 0) := ⟨_, rfl⟩
    have hst : bs2 = numL ps.length 0 ++ (ps.take (k + 1)).flatMap extU := by
     rw [HTS.o, hbs2, HBS.o]
     simp [extU]
    rw [← hbs2] at hn2
    have HN2 := hyd hn2
    have HST := hyd hst
    clear hn2 hst hoke hdn hbs2
    go_wp2_with fail
    refine HN2.o.mono ?_
    rintro e w6 ⟨v7, o7, rfl, hrb7, hfr7, hk7⟩
    obtain ⟨vb, vd, rfl, -⟩ := hrb7.form
    have HRB7 := hyd hrb7
    have HFR7 := hyd hfr7
    have HK7 := hyd hk7
    clear hrb7 hfr7 hk7
    go_wp2_with fail
    go_roundw
    case rel => exact ⟨k + 1, o7, by omega, by go_num, by rw [← HST.o]; exact HRB7.o, HFR7.o, HK7.o⟩
    case measure => first | (simp [RowKit.intOf]; omega) | omega
   ·have hbs2 : bs = numL ps.length 0 ++ ps.flatMap extU := by rw [HBS.o, List.take_of_length_le (by omega)]
    have q1 : ¬ (k : Int) < (ps.length : Int) := by omega
    have hw1 : IntKind.u64.wrap (ln : Int) = (ln : Int) := IntWalk.u64_in _ (by omega)
    have hw2 : IntKind.u64.wrap (en : Int) = (en : Int) := IntWalk.u64_in _ (by omega)
    obtain ⟨d0, d1, d2, d3⟩ := cells4s (blkk HB1.o HKW.o (by simp))
    have hn2 := num_lit (w := wr) (w0 := w1) (ns := [ln, en]) HRB6.o HKW.o HFR6.o (by simp; omega) (by simp) (by
      have h2 := (numL_length ln 0).1
      have h3 := (numL_length en 0).1
      simp only [List.length_append, List.flatMap_cons, List.flatMap_nil, List.length_nil]
      omega)
    simp only [List.flatMap_cons, List.flatMap_nil, List.append_nil, List.map_cons, List.map_nil, List.length_cons, List.length_nil, Nat.zero_add] at hn2
    have hst : bs ++ (numL ln 0 ++ numL en 0) = loadL ⟨gen, ps, ln, en⟩ := by rw [hbs2]; simp [loadL]
    rw [hst] at hn2
    have HN2 := hyd hn2
    have hll := loadL_len (x := ⟨gen, ps, ln, en⟩) hps
    obtain ⟨L, hL⟩ : ∃ z, z = loadL ⟨gen, ps, ln, en⟩ := ⟨_, rfl⟩
    rw [← hL] at HN2 hll
    have HL := hyd hL
    clear hn2 hst hbs2 hL HRB6 HBS
    go_wp2_with fail
    refine HN2.o.mono ?_
    rintro e w7 ⟨v7, o7, rfl, hrb7, hfr7, hk7⟩
    obtain ⟨vb, vd, rfl, -⟩ := hrb7.form
    have HRBL := hyd hrb7
    have HFRL := hyd hfr7
    have HKL := hyd hk7
    clear hrb7 hfr7 hk7 d0 d1 d2 d3 HN2
    go_upto_region 13 with fail
    refine wp_region_held_drew (S := fun w' => Keep [] w7 w' ∧ w'.heap[w.heap.size]? = some (.cells #[.int .u64 gen, .slice pa ps.length pc, .int .i64 ln, .int .i64 en] 56)) (by kernel_rfl) ⟨(Keep.refl [] w7).drew, blkk HB1.o HKL.o.drew (by simp)⟩ (fun hHeld => ?_)
    have HS0 := hyd hHeld
    clear hHeld
    have hHeld := HS0.o
    generalize w7.drew = w8 at *
    refine tkL 0 ?vB0 rfl ?runB0 hHeld ?_
    case runB0 => (intro w9 hS9; obtain ⟨c0, c1, c2, c3⟩ := cells4s hS9.2; go_simp; try exact rfl)
    try simp only [Act.put, lA, lZ, lS]
    refine tkL 2 ?vB2 rfl ?runB2 hHeld ?_
    case runB2 => (intro w9 hS9; obtain ⟨c0, c1, c2, c3⟩ := cells4s hS9.2; go_simp; try exact rfl)
    try simp only [Act.put, lA, lZ, lS]
    refine tkL 3 ?vB3 rfl ?runB3 hHeld ?_
    case runB3 => (intro w9 hS9; obtain ⟨c0, c1, c2, c3⟩ := cells4s hS9.2; go_simp; try exact rfl)
    try simp only [Act.put, lA, lZ, lS]
    refine tkL 4 ?vB4 rfl ?runB4 hHeld ?_
    case runB4 => (intro w9 hS9; obtain ⟨c0, c1, c2, c3⟩ := cells4s hS9.2; go_simp; try exact rfl)
    try simp only [Act.put, lA, lZ, lS]
    refine tkL 5 ?vB5 rfl ?runB5 hHeld ?_
    case runB5 => (intro w9 hS9; obtain ⟨c0, c1, c2, c3⟩ := cells4s hS9.2; go_simp; try exact rfl)
    try simp only [Act.put, lA, lZ, lS]
    refine rdH 1 rfl (fun K hK => ?_)
    go_simp
    refine (HSZ.o _ (HK1.o.trans (HKL.o.trans HS0.o.1 (by simp)) (by simp))).mono ?_
    rintro e w9 ⟨rfl, hk9⟩
    have HS3 := hyd (And.intro (HS0.o.1.trans hk9 (by simp)) (blkk HS0.o.2 hk9 (by simp)))
    clear hk9 hHeld
    go_wp2_with fail
    refine hK.out _ _ HS3.o (fun hHeld => ?_)
    clear hK K
    try simp only [Act.put, lA, lZ, lS]
    obtain ⟨lo8, hrd8, -⟩ := Row.rd HRBL.o
    have hput := sl_put (size := d.sz) (num := gen) (kind := 83) (hrd8.keep0 HS3.o.1) (by have := HOK.o.2.2.2.1; omega) hg (by omega)
    simp only [show (((83 : UInt8).toNat : Nat) : Int) = 83 from rfl] at hput
    have HPUT := hyd hput
    clear hput hrd8
    refine rdH 6 rfl (fun K hK => ?_)
    go_simp
    refine HPUT.o.mono ?_
    rintro e w10 ⟨hp, hk10⟩
    have HS4 := hyd (And.intro (HS3.o.1.trans hk10 (by simp)) (blkk HS3.o.2 hk10 (by simp)))
    have HK10 := hyd hk10
    clear hk10 hHeld
    have hp3 : ∃ (sv : Value) (c : Int), e = .returned (.tuple #[sv, .int .i64 c]) ∧ (roomN d.sz < L.length ∧ c = 1 ∨ L.length ≤ roomN d.sz ∧ c = 0 ∧ ∃ g, sv = .slice (some ⟨g, 0, none⟩) d.sz d.sz ∧ BB w10 g (sealL d.sz ⟨83, gen, L⟩) ∧ w9.heap.size ≤ g) := by
     have hok := HOK.o
     have hr0 : roomN d.sz ≠ 0 := by unfold roomN; rw [if_neg (by have := hok.2.2.1; have := hok.2.2.2.1; omega)]; have := hok.2.2.1; omega
     rcases hp with ⟨h, -⟩ | ⟨-, h1, h2⟩ | ⟨-, h1, g, h2, h3, h4⟩
     ·exact absurd h (by rintro (h | h); exact hr0 h; exact absurd h (by show ¬ ((83 : UInt8) = 0); decide))
     ·exact ⟨_, 1, h2, .inl ⟨h1, rfl⟩⟩
     ·exact ⟨_, 0, h2, .inr ⟨h1, rfl, g, rfl, h3, h4⟩⟩
    clear hp
    obtain ⟨sv, c, rfl, hp⟩ := hp3
    have HP := hyd hp
    clear hp
    go_wp2_with fail
    refine hK.out _ _ HS4.o (fun hHeld => ?_)
    clear hK K
    try simp only [Act.put, lA, lZ, lS]
    refine tkL 7 ?vB7 rfl ?runB7 hHeld ?_
    case runB7 => (intro w9 hS9; obtain ⟨c0, c1, c2, c3⟩ := cells4s hS9.2; go_simp; try exact rfl)
    try simp only [Act.put, lA, lZ, lS]
    refine tkL 8 ?vB8 rfl ?runB8 hHeld ?_
    case runB8 => (intro w9 hS9; obtain ⟨c0, c1, c2, c3⟩ := cells4s hS9.2; go_simp; try exact rfl)
    try simp only [Act.put, lA, lZ, lS]
    refine tkL 9 ?vB9 rfl ?runB9 hHeld ?_
    case runB9 => (intro w9 hS9; obtain ⟨c0, c1, c2, c3⟩ := cells4s hS9.2; go_simp; try exact rfl)
    try simp only [Act.put, lA, lZ, lS]
    refine tkL 10 ?vB10 rfl ?runB10 hHeld ?_
    case runB10 => (intro w9 hS9; obtain ⟨c0, c1, c2, c3⟩ := cells4s hS9.2; go_simp; try exact rfl)
    try simp only [Act.put, lA, lZ, lS]
    refine tkL 11 ?vB11 rfl ?runB11 hHeld ?_
    case runB11 => (intro w9 hS9; obtain ⟨c0, c1, c2, c3⟩ := cells4s hS9.2; go_simp; try exact rfl)
    try simp only [Act.put, lA, lZ, lS]
    refine wpAnyH_done (by kernel_rfl) ?_ _
    clear hHeld
    rcases HP.o with ⟨hbig, rfl⟩ | ⟨hfit, rfl, g, rfl, hbb, hgl⟩
    ·have HBIG := hyd hbig
     clear hbig
     go_wp2_with fail
     refine bodyPost_ret (results_tmp rfl _ _ _) rfl ?_
     exact SWP.same H.o ((HK1.o.trans HKL.o (by simp)).trans HS4.o.1 (by simp)) (by unfold swrite; rw [if_neg (not_not_intro HOKS.o), ← HL.o, if_pos HBIG.o])
    ·have hlen : (sealL d.sz ⟨83, gen, L⟩).length = d.sz := sealL_len ⟨by have hok := HOK.o; unfold roomN; rw [if_neg (by have := hok.2.2.1; have := hok.2.2.2.1; omega)]; have := hok.2.2.1; omega, by show (83 : UInt8) ≠ 0; decide, hfit, hg⟩
     have hs1 := HOK.o.2.2.2.1
     obtain ⟨c0, c1, c2, c3⟩ := cells4s HS4.o.2
     have hkw := (HK1.o.trans HKL.o (by simp)).trans HS4.o.1 (by simp)
     have hka := hkw.alloc (.cells #[.slice (some ⟨g, 0, none⟩) d.sz d.sz] 35)
     have hrd := hbb.rd (off := 0) (n := d.sz) (c := d.sz) (by omega) (Nat.le_refl _) (by unfold maxLen; omega)
     rw [List.drop_zero, List.take_of_length_le (by omega)] at hrd
     have hdw := d_write (lc := 1) (H.o.keep0 hka) hm (cell_new w10 (.slice (some ⟨g, 0, none⟩) d.sz d.sz) 35) (hrd.keep0 ((Keep.refl [] w10).alloc _)) (by omega) (((gen % 2 : Nat) : Int))
     have hmod : (gen : Int).tmod 2 = ((gen % 2 : Nat) : Int) := by rw [Int.tmod_eq_emod_of_nonneg (by omega)]; omega
     have hmw : IntKind.u64.wrap ((gen : Int).tmod 2) = ((gen % 2 : Nat) : Int) := by rw [hmod]; exact IntWalk.u64_in _ (by omega)
     have hmw2 : IntKind.i64.wrap ((gen % 2 : Nat) : Int) = ((gen % 2 : Nat) : Int) := IntWalk.i64_in _ (by omega)
     have hfitN : ¬ roomN d.sz < L.length := by omega
     have hsw : swrite d ⟨gen, ps, ln, en⟩ = writeD d ((gen % 2 : Nat) : Int) (sealL d.sz ⟨83, gen, L⟩) := by unfold swrite; rw [if_neg (not_not_intro HOKS.o), ← HL.o, if_neg hfitN]
     have hke : ((gen % 2 : Nat) : Int) = (gen : Int) % 2 := by omega
     rw [hke] at hdw hsw
     have HDW := hyd hdw
     have HKA := hyd hka
     have HSW := hyd hsw
     clear hdw hka hrd hbb hlen hfit hkw hsw hmod hfitN hke
     go_wp2_with fail
     refine HDW.o.mono ?_
     rintro e w11 ⟨D', rfl, hdk, hD, hk11, -⟩
     have HFIN := hyd (show SWP w q m D d ⟨gen, ps, ln, en⟩ (.returned (.int .i64 (writeD d ((gen : Int) % 2) (sealL d.sz ⟨83, gen, L⟩)).1)) w11 from ⟨D', by rw [HSW.o], by rw [HSW.o]; exact hdk, fun b hb => (hD b hb).imp id (fun h => Nat.le_trans HKA.o.size h), (HKA.o.mono (by simp)).trans hk11 (fun x hx => .inl hx)⟩)
     clear hdk hD hk11
     go_wp2_with fail
     refine bodyPost_ret (results_tmp rfl _ _ _) rfl ?_
     exact HFIN.o
 ·have hno : ¬ okS d.n ⟨gen, ps, len, ep⟩ := by
   rcases HCC.o with ⟨h, -⟩ | ⟨-, h⟩
   ·exact absurd h hcc
   ·exact h
  have hc2 : cc = 2 := by
   rcases HCC.o with ⟨h, -⟩ | ⟨h, -⟩
   ·exact absurd h hcc
   ·exact h
  subst hc2
  have HNO := hyd hno
  clear hno
  go_wp2_with fail
  refine bodyPost_ret (results_tmp rfl _ _ _) rfl ?_
  exact SWP.same H.o (HK1.o.trans HS2.o.1 (by simp)) (by unfold swrite; rw [if_pos HNO.o])
end Go.Proofs.YtimpadpeibgmoaaGreat
