/- A part of the proof (St4, St8, BaseRnd, StP), joined by squeeze2.py. -/
import Derived.Test.YtimpadpeibgmoaaGreatYd27
import Derived.Test.YtimpadpeibgmoaaGreatYd12
import Derived.RangeFuncCalls
import Derived.Test.YtimpadpeibgmoaaGreatYd04
import Derived.Test.YtimpadpeibgmoaaGreatYd08
import Derived.OrdersIn
import Derived.Test.YtimpadpeibgmoaaGreatYd24
set_option maxHeartbeats 8000000
set_option maxRecDepth 100000
namespace Go.Proofs.YtimpadpeibgmoaaGreat
open Go.RowKit Go.Emb Go.Lib Go.Emb.Ext Go.Shelf
attribute [local go_sem] Oper.semAt_some
theorem cell1 {w : World} {b : Nat} {v : Value} {t : TypeId} (h : w.heap[b]? = some (.cells #[v] t (0, 0))) : w.cell? ⟨b, 0, none⟩ = some v := by simp [World.cell?, h]
def blkE (e : E) : List Nat := (List.range e.2.toNat).map (e.1.toNat + ·)
def blkL (l : List E) : List Nat := l.flatMap blkE
theorem blkL_succ {l : List E} {k : Nat} (h : k < l.length) : blkL (l.take (k + 1)) = blkL (l.take k) ++ blkE l[k] := by
 unfold blkL
 rw [List.take_succ_eq_append_getElem h, List.flatMap_append]
 simp
theorem blkL_le {l : List E} {k : Nat} : (blkL (l.take k)).length ≤ (blkL l).length := by
 unfold blkL
 conv => rhs; rw [← List.take_append_drop k l]
 rw [List.flatMap_append, List.length_append]
 omega
theorem mem_blkL {l : List E} {e : E} (he : e ∈ l) {j : Nat} (hj : j < e.2.toNat) : e.1.toNat + j ∈ blkL l :=
 List.mem_flatMap.2 ⟨e, he, List.mem_map.2 ⟨j, List.mem_range.2 hj, rfl⟩⟩
theorem blkE_len (e : E) : (blkE e).length = e.2.toNat := by simp [blkE]
theorem range_snoc (f j : Nat) : (List.range (j + 1)).map (f + ·) = (List.range j).map (f + ·) ++ [f + j] := by
 rw [List.range_succ, List.map_append]; rfl
theorem p_blocksF {w : World} {a : Option Addr} {n c : Nat} : Calls Tryz.prog 68 #[.slice a n c] w fun e w' => e = .returned (.func (.func 107) #[] #[.pointer (some ⟨w.heap.size, 0, none⟩)]) ∧ w' = w.alloc (.cells #[.slice a n c] 46) := by
 go_enter Tryz.func68, Tryz.ntmps68
 go_wp2_with fail
 go_ret
 exact ⟨rfl, rfl⟩
def KpT (T : Nat → Prop) (A B : World) : Prop := A.heap.size ≤ B.heap.size ∧ (∀ (b : Nat) (o : Obj), T b → A.heap[b]? = some o → o.isCells = true → B.heap[b]? = some o) ∧ ∀ (b : Nat) (cs : Array Value), A.heap[b]? = some (.cells cs 34 (0, 0)) → B.heap[b]? = some (.cells cs 34 (0, 0))
theorem KpT.refl (T : Nat → Prop) (A : World) : KpT T A A := ⟨Nat.le_refl _, fun _ _ _ h _ => h, fun _ _ h => h⟩
theorem KpT.trans {T : Nat → Prop} {A B C : World} (h : KpT T A B) (k : KpT T B C) : KpT T A C := ⟨Nat.le_trans h.1 k.1, fun b o hb h1 h2 => k.2.1 b o hb (h.2.1 b o hb h1 h2) h2, fun b cs hb => k.2.2 b cs (h.2.2 b cs hb)⟩
theorem KpT.of_keep0 {T : Nat → Prop} {A B : World} (h : Keep [] A B) : KpT T A B := ⟨h.size, fun _ _ _ hb _ => blkk hb h (by simp), fun _ _ hb => blkk hb h (by simp)⟩
theorem KpT.of_keep {T : Nat → Prop} {F : List Nat} {A B : World} (h : Keep F A B) (hF : ∀ b ∈ F, ¬ T b ∧ ∀ cs, A.heap[b]? ≠ some (.cells cs 34 (0, 0))) : KpT T A B :=
 ⟨h.size, fun b o hT hb _ => blkk hb h (fun hm => (hF b hm).1 hT), fun b cs hb => blkk hb h (fun hm => (hF b hm).2 cs hb)⟩
theorem KpT.putObj (T : Nat → Prop) (W : World) (l : Nat) (o o' : Obj) (hl : W.heap[l]? = some o) (ho : o.isCells = false) : KpT T W (W.putObj l o') := by
 have hg := grownBy_putObj' W l o'
 refine ⟨hg.size, fun b ob _ hb hc => ?_, fun b cs hb => ?_⟩
 ·have hlt := (Array.getElem?_eq_some_iff.1 hb).1
  rw [hg.block b hlt (fun e => by cases e; rw [hl] at hb; cases hb; rw [ho] at hc; cases hc)]
  exact hb
 ·have hlt := (Array.getElem?_eq_some_iff.1 hb).1
  rw [hg.block b hlt (fun e => by cases e; rw [hl] at hb; cases hb; cases ho)]
  exact hb
theorem cells_of_cell {w : World} {p : Addr} {v : Value} (h : w.cell? p = some v) : ∃ o, w.heap[p.block]? = some o ∧ o.isCells = true := by
 unfold World.cell? at h
 cases hb : w.heap[p.block]? with
 | none => rw [hb] at h; cases h
 | some o =>
  rw [hb] at h
  cases o with
  | cells cs t f => exact ⟨_, rfl, rfl⟩
  | _ => cases h
theorem KpT.rd {T : Nat → Prop} {A B : World} (h : KpT T A B) {v : Value} {l : List E} {o : Option Nat} (hr : RdE A v l o) (hT : ∀ b, o = some b → T b) : RdE B v l o := by
 obtain ⟨hl, a, c, e, h1, h2, h3⟩ := hr
 refine ⟨hl, a, c, e, h1, h2, h3.imp id ?_⟩
 rintro ⟨b, off, e1, e2, e3⟩
 refine ⟨b, off, e1, e2, fun i hi => ?_⟩
 rw [← e3 i hi]
 have hx : (l.flatMap encE)[i]? ≠ none := by rw [List.getElem?_eq_getElem (by omega)]; simp
 obtain ⟨x, hx⟩ := Option.ne_none_iff_exists'.1 hx
 rw [← e3 i hi] at hx
 obtain ⟨ob, hob, hc⟩ := cells_of_cell hx
 exact World.cell?_of_block ((h.2.1 b ob (hT b e2) hob hc).trans hob.symm)
theorem blk_prefix {xs : List E} {k fn mn j z : Nat} {hzm : z ∈ blkL xs} (h1 : blkL (xs.take (k + 1)) = blkL (xs.take k) ++ blkE ((fn : Int), (mn : Int))) {pre : List {k : Nat // k ∈ blkL xs}} (h2 : pre.map (·.1) = blkL (xs.take k) ++ (List.range j).map (fn + ·)) (hj : j < mn) (h3 : (List.range (j + 1)).map (fn + ·) = (List.range j).map (fn + ·) ++ [z]) :
  ∃ rest, (pre ++ [(⟨z, hzm⟩ : {k : Nat // k ∈ blkL xs})]).map (·.1) ++ rest = blkL xs := by
 have h4 : blkL xs = blkL (xs.take (k + 1)) ++ blkL (xs.drop (k + 1)) := by
  unfold blkL
  rw [← List.flatMap_append, List.take_append_drop]
 have h5 : blkE ((fn : Int), (mn : Int)) = (List.range (j + 1)).map (fn + ·) ++ ((List.range mn).drop (j + 1)).map (fn + ·) := by
  unfold blkE
  simp only [Int.toNat_natCast]
  rw [← List.map_append]
  congr 1
  have h6 : List.range (j + 1) = (List.range mn).take (j + 1) := by rw [List.take_range, Nat.min_eq_left (by omega)]
  rw [h6, List.take_append_drop]
 refine ⟨((List.range mn).drop (j + 1)).map (fn + ·) ++ blkL (xs.drop (k + 1)), ?_⟩
 refine Eq.trans ?_ h4.symm
 rw [h1, h5, h3, List.map_append, h2]
 simp
theorem blkT1_in (T : Nat → Prop) (l Bs : Nat) (v : Value) (xs : List E) (o : Option Nat) (hsz : xs.length ≤ 1000000000) (hpos : ∀ e ∈ xs, 0 ≤ e.1 ∧ e.1 ≤ 1000000000 ∧ 0 ≤ e.2 ∧ e.2 ≤ 1000000000) (n : Nat) (hn : 1 ≤ n) (J Jx : List {k : Nat // k ∈ blkL xs} → World → Prop)
  (hY : ∀ pre x W, J pre W → pre.length < (blkL xs).length → YieldAt Fence.wide (n - 1) Tryz.prog l #[.int .i64 (x.1 : Nat)] W fun e W' =>
    (e = .returned (.bool true) ∧ J (pre ++ [x]) W' ∧ KpT T W W') ∨ (e = .returned (.bool false) ∧ Jx (pre ++ [x]) W'))
  (W : World) (hJ : AbidesFrom W.heap.size J) (hBs : W.heap[Bs]? = some (.cells #[v] 46 (0, 0))) (hTs : T Bs) (hr : RdE W v xs o) (hTo : ∀ b, o = some b → T b) (h0 : J [] W) :
  CallsIn Fence.wide n Tryz.prog 107 #[.func (.yield l) #[] #[], .pointer (some ⟨Bs, 0, none⟩)] W fun e W' => (∃ v, e = .returned v) ∧
   ((∃ ys, ys.map (·.1) = blkL xs ∧ J ys W') ∨ (∃ pre, (∃ rest, pre.map (·.1) ++ rest = blkL xs) ∧ Jx pre W')) := by
 obtain ⟨a, c, rfl⟩ : ∃ a c, v = .slice a xs.length c := by obtain ⟨-, a, c, h, -⟩ := hr; exact ⟨a, c, h⟩
 have c0 := cell1 hBs
 have HR := hyd hr
 have HJ := hyd hJ
 have HY := hyd hY
 have HP := hyd hpos
 have HTO := hyd hTo
 clear hr hJ hY hpos hBs hTo hTs
 refine callsIn_of_wp Tryz.func107 rfl trivial ?_ rfl
 simp only [Tryz.ntmps107, List.size_toArray, List.length_cons, List.length_nil, Nat.reduceAdd, Nat.reduceSub, Array.replicate_succ, Array.replicate_zero, List.push_toArray, List.append_toArray, List.nil_append, List.cons_append]
 gi_wp2
 clear c0
 gi_loopw [8] (fun i wr => ∃ k : Nat, k ≤ xs.length ∧ i = .int .i64 k ∧ (∃ pre, pre.map (·.1) = blkL (xs.take k) ∧ J pre wr) ∧ KpT T W wr) (fun i _ => xs.length - (intOf i).toNat)
 case atStart => exact ⟨0, Nat.zero_le _, rfl, ⟨[], rfl, h0⟩, KpT.refl _ _⟩
 case round =>
  obtain ⟨k, hk, rfl, ⟨pre, hpre, hJs⟩, hkp⟩ := hrel
  have HJS := hyd hJs
  have HPRE := hyd hpre
  have HKP := hyd hkp
  clear hJs hkp h0 hpre
  by_cases hlt : k < xs.length
  ·have hrd := HKP.o.rd HR.o HTO.o
   obtain ⟨b, off, rfl, -, g0, g1⟩ := hrd.at hlt
   have hps := HP.o _ (List.getElem_mem hlt)
   have hmem : ∀ j, j < xs[k].2.toNat → xs[k].1.toNat + j ∈ blkL xs := fun j hj => mem_blkL (List.getElem_mem hlt) hj
   have HTS := hyd (blkL_succ hlt)
   have HLE := hyd (blkL_le (l := xs) (k := k + 1))
   have hja := fun ob => HJ.o _ _ _ none HJS.o (World.grownBy_alloc wr ob none) (fun r e => by cases e)
   have hkeep : Keep [] wr (wr.alloc (.cells #[.int .i64 xs[k].1, .int .i64 xs[k].2] 34)) := (Keep.refl [] wr).alloc _
   generalize xs[k] = x at *
   obtain ⟨x1, x2⟩ := x
   simp only at g0 g1 hps hmem
   obtain ⟨fn, rfl⟩ : ∃ n : Nat, x1 = n := ⟨x1.toNat, by omega⟩
   obtain ⟨mn, rfl⟩ : ∃ n : Nat, x2 = n := ⟨x2.toNat, by omega⟩
   have HJA := hyd (hja (.cells #[.int .i64 fn, .int .i64 mn] 34))
   have HB := hyd (heap_new wr (.cells #[.int .i64 fn, .int .i64 mn] 34))
   have HKA := hyd (HKP.o.trans (KpT.of_keep0 hkeep))
   have i0 : (0 : Int) ≤ (k : Int) := by omega
   have i1 : (k : Int) < (xs.length : Int) := by omega
   have HMEM := hyd (show ∀ j, j < mn → fn + j ∈ blkL xs from hmem)
   clear hrd hja hkeep hmem
   gi_wp2
   generalize wr.heap.size = Bx at *
   generalize wr.alloc (.cells #[.int .i64 fn, .int .i64 mn] 34) = W1 at *
   clear g0 g1
   gi_loopw [14] (fun i wr => ∃ j : Nat, j ≤ mn ∧ i = .int .i64 j ∧ (∃ pre, pre.map (·.1) = blkL (xs.take k) ++ (List.range j).map (fn + ·) ∧ J pre wr) ∧ KpT T W1 wr) (fun i _ => mn - (intOf i).toNat)
   case atStart => exact ⟨0, Nat.zero_le _, rfl, ⟨pre, by simpa using HPRE.o, HJA.o⟩, KpT.refl _ _⟩
   case round =>
    obtain ⟨j, hj, rfl, ⟨pre2, hpre2, hJs2⟩, hkp2⟩ := hrel
    have HPRE2 := hyd hpre2
    clear hpre2
    obtain ⟨cx0, cx1, -⟩ : wr.cell? ⟨Bx, 0, none⟩ = some (.int .i64 fn) ∧ wr.cell? ⟨Bx, 1, none⟩ = some (.int .i64 mn) ∧ True := by
     have hb := hkp2.2.2 Bx _ HB.o
     refine ⟨?_, ?_, trivial⟩ <;> simp [World.cell?, hb]
    by_cases hlj : j < mn
    ·have hlj' : (j : Int) < (mn : Int) := by omega
     obtain ⟨z, hz⟩ : ∃ z : Nat, z = fn + j := ⟨_, rfl⟩
     have hcast : (fn : Int) + (j : Int) = (z : Int) := by omega
     have hzl : (z : Int) ≤ 4000000000 := by omega
     have hlen : pre2.length < (blkL xs).length := by
      rw [show pre2.length = (pre2.map (·.1)).length from by simp, HPRE2.o]
      have h1 := HLE.o
      rw [HTS.o, List.length_append, blkE_len] at h1
      simp only [List.length_append, List.length_map, List.length_range]
      simp at h1
      omega
     have hzm : z ∈ blkL xs := by rw [hz]; exact HMEM.o j hlj
     have hyy := HY.o _ ⟨z, hzm⟩ wr hJs2 hlen
     have hsn : (List.range (j + 1)).map (fn + ·) = (List.range j).map (fn + ·) ++ [z] := by rw [range_snoc, hz]
     have HSN := hyd hsn
     have HKP2 := hyd hkp2
     obtain ⟨fn', tmps, assign, body, hy, hR⟩ := hyy
     have HRR := hyd hR
     have HZM := hyd hzm
     clear hR hlen hsn hkp2 hJs2 hz
     gi_wp2
     refine HRR.o.mono ?_
     rintro e W3 (⟨rfl, hJ3, hk3⟩ | ⟨rfl, hJx3⟩)
     ·have HJ3 := hyd hJ3
      have HK3 := hyd hk3
      clear hJ3 hk3
      gi_wp2
      go_roundw
      case rel => exact ⟨j + 1, by omega, by simp, ⟨_, by rw [List.map_append, HPRE2.o, HSN.o, List.append_assoc]; rfl, HJ3.o⟩, HKP2.o.trans HK3.o⟩
      case measure => simp [intOf]; omega
     ·gi_wp2
      refine bodyPost_ret (results_none rfl _ _ _) rfl ?_
      exact ⟨⟨_, rfl⟩, .inr ⟨_, blk_prefix HTS.o HPRE2.o hlj HSN.o, hJx3⟩⟩
    ·obtain rfl : j = mn := by omega
     have HJ2 := hyd hJs2
     have HKP2 := hyd hkp2
     clear hJs2 hkp2
     gi_wp2
     go_roundw
     case rel => exact ⟨k + 1, by omega, by simp, ⟨pre2, by rw [HTS.o]; exact HPRE2.o, HJ2.o⟩, HKA.o.trans HKP2.o⟩
     case measure => simp [intOf]; omega
  ·gi_wp2
   go_end0
   exact ⟨⟨_, rfl⟩, .inl ⟨pre, by have := HPRE.o; rwa [List.take_of_length_le (by omega)] at this, HJS.o⟩⟩
theorem blkT_stops (T : Nat → Prop) (n : Nat) (hn : 1 ≤ n) (Bs : Nat) (v : Value) (xs : List E) (o : Option Nat) (hsz : xs.length ≤ 1000000000) (hpos : ∀ e ∈ xs, 0 ≤ e.1 ∧ e.1 ≤ 1000000000 ∧ 0 ≤ e.2 ∧ e.2 ≤ 1000000000) (w : World) (hBs : w.heap[Bs]? = some (.cells #[v] 46 (0, 0))) (hTs : T Bs) (hr : RdE w v xs o) (hTo : ∀ b, o = some b → T b) :
  SeqStopsK Fence.wide n Tryz.prog 107 #[.pointer (some ⟨Bs, 0, none⟩)] (fun x : {k : Nat // k ∈ blkL xs} => #[.int .i64 (x.1 : Nat)]) (KpT T) (fun ys => ys.map (·.1) = blkL xs) (fun pre => ∃ rest, pre.map (·.1) ++ rest = blkL xs) (blkL xs).length w := fun l J Jx W hW hJ _ hY h0 => by
 have hk : Keep [] w W := Keep.of_below hW
 exact blkT1_in T l Bs v xs o hsz hpos n hn J Jx hY W hJ (blkk hBs hk (by simp)) hTs (hr.keep hk (by simp)) hTo h0
end Go.Proofs.YtimpadpeibgmoaaGreat

namespace Go.Emb
open Go.RowKit
theorem rows_wide {n : Nat} {P : Program} {row : String} {args : Array Value} {w : World} {R : Value → World → Prop} (h : Rows P row args w R) : RowsIn Fence.wide n P row args w R := fun c cs _ => by
 obtain ⟨v, w', r, s⟩ := h c cs
 exact ⟨v, w', r, stepsIn_wide.2 s⟩
theorem wp_round {P : Program} {o : Oper} {a : Act} {w : World} {K : Act → World → Prop} {Q : Exit → Act → World → Prop} {l n : Nat} (hd : ∀ c, o.op ≠ .defer c) (h : o.wp P a w K Q) : o.wpIn (Fence.wide.inRound l) n P a w K Q := by
 unfold Oper.wpIn
 refine ⟨fun _ _ => trivial, ?_⟩
 rw [Oper.semAt_eq _ _ _ hd]
 unfold Oper.wp at h
 generalize (execOp a.eval o).run P w = r at *
 cases r with
 | ok x w' =>
  cases x with
  | value v => exact h
  | skip => exact h
  | defer d => exact h
  | enter f args => exact ⟨(fun h => by cases h), CallsIn.inRound l (callsIn_wide.2 h)⟩
  | row row args => exact ⟨(fun h => by cases h), rows_wide h⟩
  | round l f tmps assign body => exact h.elim
  | _ => exact h.elim
 | halt x w' =>
  cases x with
  | panic v => exact h
  | _ => exact h.elim
def noDefer (ops : Array Oper) : Bool := ops.all fun o => match o.op with | .defer _ => false | _ => true
theorem wpOp_round {P : Program} {ops : Array Oper} {Q : Exit → Act → World → Prop} {l n i : Nat} (hd : noDefer ops = true) (hq : ∀ a w, ¬ Q .outgrown a w) {K : Act → World → Prop} {a : Act} {w : World} (h : wpOp P ops Q i K a w) : wpOpIn (Fence.wide.inRound l) n P ops Q i K a w := by
 unfold wpOp at h
 unfold wpOpIn
 cases ho : ops[i]? with
 | none => simpa [ho] using h
 | some o =>
  simp only [ho] at h ⊢
  have hdo : ∀ c, o.op ≠ .defer c := fun c e => by
   unfold noDefer at hd
   rw [Array.all_eq_true] at hd
   obtain ⟨hi, he⟩ := Array.getElem?_eq_some_iff.1 ho
   have := hd i hi
   rw [he, e] at this
   cases this
  split
  ·rename_i hw
   rw [if_pos hw] at h
   rcases h with h | ⟨-, a', w', h⟩
   ·exact wp_round hdo h
   ·exact absurd h (hq a' w')
  ·rename_i hw
   rw [if_neg hw] at h
   exact ⟨fun _ _ => trivial, h⟩
theorem wpAny_round {P : Program} {ops : Array Oper} {Q : Exit → Act → World → Prop} {md : Region.Mode} {l n : Nat} (hd : noDefer ops = true) (hq : ∀ a w, ¬ Q .outgrown a w) : ∀ (fuel : Nat) (listed : Array Bool) (a : Act) (w : World), wpAny P md ops Q fuel listed a w → wpAnyIn (Fence.wide.inRound l) n P md ops Q fuel listed a w
 | 0, _, _, _, h => h
 | fuel + 1, _, _, _, h => ⟨h.1, fun i hi => wpOpIn_mono (fun a' w' h' => wpAny_round hd hq fuel _ a' w' h') (wpOp_round hd hq (h.2 i hi))⟩
theorem region_round {P : Program} {ops : Array Oper} {Q : Exit → Act → World → Prop} {S : World → Prop} {id l n : Nat} {a : Act} {w : World} (hm : P.follows .mixedOrders = true) (hd : noDefer ops = true) (hq : ∀ a w, ¬ Q .outgrown a w) (hS : S w.drew)
  (h : S w.drew → wpAnyH P .any ops Q S ops.size (Array.replicate ops.size false) a w.drew) : (Code.region id ops true).wpIn (Fence.wide.inRound l) n P Q a w :=
 wpIn_region_any hm (wpAny_round hd hq _ _ _ _ (wpAny_of_held _ _ _ _ (h hS)))
theorem region_roundB {P : Program} {ops : Array Oper} {Q : Exit → Act → World → Prop} (Bs : List Nat) (S : World → Prop) {id l n : Nat} {a : Act} {w : World} (hm : P.follows .mixedOrders = true) (hd : noDefer ops = true) (hq : ∀ a w, ¬ Q .outgrown a w)
  (h : wpAnyB P .any ops Q Bs S ops.size (Array.replicate ops.size false) a w.drew) : (Code.region id ops true).wpIn (Fence.wide.inRound l) n P Q a w :=
 wpIn_region_any hm (wpAny_round hd hq _ _ _ _ (wpAny_of_B _ _ _ _ h))
end Go.Emb

namespace Go.Proofs.YtimpadpeibgmoaaGreat
open Go.RowKit Go.Emb Go.Emb.Ext
def cnt (n : Nat) (l : List UInt8) : Nat := (l.length + n - 1) / n
def chunk (n : Nat) (l : List UInt8) (i : Nat) : List UInt8 := (l.drop (i * n)).take n
def chunks (n : Nat) (l : List UInt8) : List (List UInt8) := (List.range (cnt n l)).map (chunk n l)
theorem chunks_len (n : Nat) (l : List UInt8) : (chunks n l).length = cnt n l := by simp [chunks]
theorem chunks_at {n : Nat} {l : List UInt8} {i : Nat} (h : i < cnt n l) : (chunks n l)[i]? = some (chunk n l i) := by
 unfold chunks
 rw [List.getElem?_map, List.getElem?_range h]
 rfl
theorem chunk_le (n : Nat) (l : List UInt8) (i : Nat) : (chunk n l i).length ≤ n := by unfold chunk; rw [List.length_take]; omega
theorem chunks_le {n : Nat} {l c : List UInt8} (h : c ∈ chunks n l) : c.length ≤ n := by
 unfold chunks at h
 obtain ⟨i, -, rfl⟩ := List.mem_map.1 h
 exact chunk_le n l i
theorem cnt_mul {n : Nat} (hn : 0 < n) (l : List UInt8) : l.length ≤ cnt n l * n := by
 unfold cnt
 have h1 := Nat.div_add_mod (l.length + n - 1) n
 have h2 := Nat.mod_lt (l.length + n - 1) hn
 rw [Nat.mul_comm] at h1
 omega
theorem cnt_lt {n : Nat} (hn : 0 < n) {l : List UInt8} {i : Nat} : i < cnt n l ↔ i * n < l.length := by
 unfold cnt
 rw [Nat.lt_iff_add_one_le, Nat.le_div_iff_mul_le hn, Nat.add_mul, Nat.one_mul]
 omega
theorem chunks_take (n : Nat) (l : List UInt8) : ∀ k, ((List.range k).map (chunk n l)).flatten = l.take (k * n)
 | 0 => by simp
 | k + 1 => by
  rw [List.range_succ, List.map_append, List.flatten_append, chunks_take n l k, Nat.add_mul, Nat.one_mul, List.take_add]
  simp [chunk]
theorem chunks_flat {n : Nat} (hn : 0 < n) (l : List UInt8) : (chunks n l).flatten = l := by
 unfold chunks
 rw [chunks_take, List.take_of_length_le (cnt_mul hn l)]
theorem need_cnt {n : Nat} (hn : 1 ≤ n) (l : List UInt8) : needE l.length n = cnt n l := by
 unfold needE cnt
 by_cases h : l.length = 0
 ·rw [if_pos (by omega), h, Nat.div_eq_of_lt (by omega)]; rfl
 ·rw [if_neg (by omega)]
  have h1 : l.length + n - 1 = (l.length - 1) + n := by omega
  rw [h1, Nat.add_div_right _ (by omega)]
  have h2 : ((l.length : Int) - 1) = ((l.length - 1 : Nat) : Int) := by omega
  rw [h2]
  push_cast
  omega
def secs (sz : Nat) (kind : UInt8) (num : Nat) (bs : List UInt8) : List (List UInt8) := (chunks (roomN sz) bs).map fun c => sealL sz ⟨kind, num, c⟩
theorem secs_len (sz : Nat) (kind : UInt8) (num : Nat) (bs : List UInt8) : (secs sz kind num bs).length = cnt (roomN sz) bs := by unfold secs; rw [List.length_map, chunks_len]
def Holds (d : DS) (bl : List Nat) (kind : UInt8) (num : Nat) (bs : List UInt8) : Prop := bl.map (blkOf d) = secs d.sz kind num bs
theorem room_ok {d : DS} (h : d.ok) : roomN d.sz = d.sz - 15 ∧ 49 ≤ roomN d.sz := by
 have h1 := h.2.2.1
 have h2 := h.2.2.2.1
 unfold roomN
 rw [if_neg (by omega)]
 omega
theorem seal_ok {d : DS} (h : d.ok) {kind : UInt8} {num : Nat} {c : List UInt8} (hk : kind ≠ 0) (hn : num < 18446744073709551616) (hc : c.length ≤ roomN d.sz) : SealOk d.sz ⟨kind, num, c⟩ :=
 ⟨by have := room_ok h; omega, hk, hc, hn⟩
theorem Holds.len {d : DS} {bl : List Nat} {kind : UInt8} {num : Nat} {bs : List UInt8} (h : Holds d bl kind num bs) : bl.length = cnt (roomN d.sz) bs := by
 have := congrArg List.length h
 rwa [List.length_map, secs_len] at this
theorem Holds.at {d : DS} {bl : List Nat} {kind : UInt8} {num : Nat} {bs : List UInt8} (h : Holds d bl kind num bs) (hd : d.ok) (hk : kind ≠ 0) (hn : num < 18446744073709551616) {i k : Nat} (hi : bl[i]? = some k) :
  openS (blkOf d k) = some ⟨kind, num, chunk (roomN d.sz) bs i⟩ := by
 have h1 : (bl.map (blkOf d))[i]? = some (blkOf d k) := by rw [List.getElem?_map, hi]; rfl
 have hl : i < cnt (roomN d.sz) bs := by rw [← h.len]; exact (List.getElem?_eq_some_iff.1 hi).1
 rw [h] at h1
 unfold secs at h1
 rw [List.getElem?_map, chunks_at hl] at h1
 injection h1 with h1
 rw [← h1]
 exact openS_sealL (seal_ok hd hk hn (chunk_le _ _ _))
def runW (d : DS) : List (Nat × List UInt8) → Int × DS × List Int
 | [] => (0, d, [])
 | x :: l => if (writeD d x.1 x.2).1 = 0 then ((runW (writeD d x.1 x.2).2 l).1, (runW (writeD d x.1 x.2).2 l).2.1, (x.1 : Int) :: (runW (writeD d x.1 x.2).2 l).2.2) else ((writeD d x.1 x.2).1, (writeD d x.1 x.2).2, [])
theorem runW_cons_ok {d : DS} {x : Nat × List UInt8} {l : List (Nat × List UInt8)} (h : (writeD d x.1 x.2).1 = 0) : runW d (x :: l) = ((runW (writeD d x.1 x.2).2 l).1, (runW (writeD d x.1 x.2).2 l).2.1, (x.1 : Int) :: (runW (writeD d x.1 x.2).2 l).2.2) := if_pos h
theorem runW_cons_no {d : DS} {x : Nat × List UInt8} {l : List (Nat × List UInt8)} (h : (writeD d x.1 x.2).1 ≠ 0) : runW d (x :: l) = ((writeD d x.1 x.2).1, (writeD d x.1 x.2).2, []) := if_neg h
theorem runW_append : ∀ (a b : List (Nat × List UInt8)) (d : DS), runW d (a ++ b) = if (runW d a).1 = 0 then ((runW (runW d a).2.1 b).1, (runW (runW d a).2.1 b).2.1, (runW d a).2.2 ++ (runW (runW d a).2.1 b).2.2) else runW d a
 | [], b, d => by simp [runW]
 | x :: a, b, d => by
  by_cases h : (writeD d x.1 x.2).1 = 0
  ·rw [List.cons_append, runW_cons_ok h, runW_cons_ok h, runW_append a b]
   simp only
   split <;> rfl
  ·rw [List.cons_append, runW_cons_no h, runW_cons_no h, if_neg h]
theorem runW_snoc {d : DS} {a : List (Nat × List UInt8)} {x : Nat × List UInt8} (h : (runW d a).1 = 0) : runW d (a ++ [x]) = ((writeD (runW d a).2.1 x.1 x.2).1, (writeD (runW d a).2.1 x.1 x.2).2, if (writeD (runW d a).2.1 x.1 x.2).1 = 0 then (runW d a).2.2 ++ [(x.1 : Int)] else (runW d a).2.2) := by
 rw [runW_append, if_pos h]
 by_cases h2 : (writeD (runW d a).2.1 x.1 x.2).1 = 0
 ·rw [runW_cons_ok h2, if_pos h2]; simp [runW, h2]
 ·rw [runW_cons_no h2, if_neg h2]; simp
def FitW (d : DS) (x : Nat × List UInt8) : Prop := x.1 < d.n ∧ x.2.length = d.sz
theorem writeD_fit {d : DS} {x : Nat × List UInt8} (h : FitW d x) : writeD d x.1 x.2 = if d.off = true then (20, d) else if d.left = 0 then (20, { d with off := true }) else (0, { d with left := if 0 < d.left then d.left - 1 else d.left, L := putB d x.1 x.2 }) := by
 unfold writeD
 rw [if_neg (by have := h.1; omega), if_neg (by have := h.2; omega), Int.toNat_natCast]
theorem writeD_ok {d : DS} (hd : d.ok) {x : Nat × List UInt8} (h : FitW d x) : (writeD d x.1 x.2).2.ok ∧ (writeD d x.1 x.2).2.n = d.n ∧ (writeD d x.1 x.2).2.sz = d.sz ∧ ((writeD d x.1 x.2).1 = 0 ∨ (writeD d x.1 x.2).1 = 20) := by
 rw [writeD_fit h]
 split
 ·exact ⟨hd, rfl, rfl, .inr rfl⟩
 ·split
  ·exact ⟨hd, rfl, rfl, .inr rfl⟩
  ·refine ⟨⟨hd.1, hd.2.1, hd.2.2.1, hd.2.2.2.1, putB_len hd h.1 (by have := h.2; omega), ?_⟩, rfl, rfl, .inl rfl⟩
   have h1 := hd.2.2.2.2.2
   dsimp only
   split <;> omega
theorem writeD_same {d : DS} {x : Nat × List UInt8} (h : FitW d x) (hc : (writeD d x.1 x.2).1 ≠ 0) (j : Nat) : blkOf (writeD d x.1 x.2).2 j = blkOf d j := by
 rw [writeD_fit h] at hc ⊢
 split
 ·rfl
 ·split
  ·rfl
  ·rename_i h1 h2
   rw [if_neg h1, if_neg h2] at hc
   exact absurd rfl hc
theorem writeD_at {d : DS} (hd : d.ok) {x : Nat × List UInt8} (h : FitW d x) (hc : (writeD d x.1 x.2).1 = 0) : blkOf (writeD d x.1 x.2).2 x.1 = x.2 ∧ (∀ j, j < d.n → j ≠ x.1 → blkOf (writeD d x.1 x.2).2 j = blkOf d j) ∧ (writeD d x.1 x.2).2.off = d.off ∧ (d.left < 0 → (writeD d x.1 x.2).2.left = d.left) := by
 rw [writeD_fit h] at hc ⊢
 split
 ·rename_i h1; rw [if_pos h1] at hc; cases hc
 ·rename_i h1
  rw [if_neg h1] at hc
  split
  ·rename_i h2; rw [if_pos h2] at hc; cases hc
  ·exact ⟨blk_put_same hd h.1 h.2 _, fun j hj hne => blk_put_other hd h.1 hj hne (by have := h.2; omega) _, rfl, fun hl => by dsimp only; rw [if_neg (by omega)]⟩
theorem FitW.turn {d : DS} (hd : d.ok) {x y : Nat × List UInt8} (hx : FitW d x) (hy : FitW d y) : FitW (writeD d x.1 x.2).2 y := by
 have h := writeD_ok hd hx
 exact ⟨by rw [h.2.1]; exact hy.1, by rw [h.2.2.1]; exact hy.2⟩
theorem runW_ok : ∀ (l : List (Nat × List UInt8)) {d : DS}, d.ok → (∀ x ∈ l, FitW d x) → (runW d l).2.1.ok ∧ (runW d l).2.1.n = d.n ∧ (runW d l).2.1.sz = d.sz ∧ ((runW d l).1 = 0 ∨ (runW d l).1 = 20) ∧ (∀ j, j < d.n → j ∉ l.map (·.1) → blkOf (runW d l).2.1 j = blkOf d j)
 | [], d, hd, _ => ⟨hd, rfl, rfl, .inl rfl, fun _ _ _ => rfl⟩
 | x :: l, d, hd, hf => by
  have hx := hf x (by simp)
  have h1 := writeD_ok hd hx
  by_cases h : (writeD d x.1 x.2).1 = 0
  ·have ih := runW_ok l h1.1 (fun y hy => hx.turn hd (hf y (by simp [hy])))
   rw [runW_cons_ok h]
   refine ⟨ih.1, ih.2.1.trans h1.2.1, ih.2.2.1.trans h1.2.2.1, ih.2.2.2.1, fun j hj hn => ?_⟩
   simp only [List.map_cons, List.mem_cons, not_or] at hn
   exact (ih.2.2.2.2 j (by rw [h1.2.1]; exact hj) hn.2).trans ((writeD_at hd hx h).2.1 j hj hn.1)
  ·rw [runW_cons_no h]
   exact ⟨h1.1, h1.2.1, h1.2.2.1, h1.2.2.2, fun j _ _ => writeD_same hx h j⟩
theorem runW_at : ∀ (l : List (Nat × List UInt8)) {d : DS}, d.ok → (∀ x ∈ l, FitW d x) → (l.map (·.1)).Nodup → (runW d l).1 = 0 → (∀ x ∈ l, blkOf (runW d l).2.1 x.1 = x.2) ∧ (runW d l).2.1.off = d.off ∧ (runW d l).2.2 = l.map (fun x => (x.1 : Int)) ∧ (d.left < 0 → (runW d l).2.1.left = d.left)
 | [], d, _, _, _, _ => ⟨by simp, rfl, rfl, fun _ => rfl⟩
 | x :: l, d, hd, hf, hn, hc => by
  have hx := hf x (by simp)
  have h1 := writeD_ok hd hx
  simp only [List.map_cons, List.nodup_cons] at hn
  by_cases h : (writeD d x.1 x.2).1 = 0
  ·have hf' := fun y (hy : y ∈ l) => hx.turn hd (hf y (by simp [hy]))
   rw [runW_cons_ok h] at hc ⊢
   have ih := runW_at l h1.1 hf' hn.2 hc
   have ho := runW_ok l h1.1 hf'
   have ha := writeD_at hd hx h
   refine ⟨fun y hy => ?_, ih.2.1.trans ha.2.2.1, by rw [List.map_cons, ih.2.2.1], fun hl => (ih.2.2.2 (by rw [ha.2.2.2 hl]; exact hl)).trans (ha.2.2.2 hl)⟩
   rcases List.mem_cons.1 hy with rfl | hy
   ·exact (ho.2.2.2.2 y.1 (by rw [h1.2.1]; exact hx.1) hn.1).trans ha.1
   ·exact ih.1 y hy
  ·rw [runW_cons_no h] at hc
   exact absurd hc h
theorem runW_all : ∀ (l : List (Nat × List UInt8)) {d : DS}, d.ok → (∀ x ∈ l, FitW d x) → d.off = false → d.left < 0 → (runW d l).1 = 0
 | [], _, _, _, _, _ => rfl
 | x :: l, d, hd, hf, ho, hl => by
  have hx := hf x (by simp)
  have h : (writeD d x.1 x.2).1 = 0 := by rw [writeD_fit hx, if_neg (by rw [ho]; simp), if_neg (by omega)]
  have ha := writeD_at hd hx h
  rw [runW_cons_ok h]
  exact runW_all l (writeD_ok hd hx).1 (fun y hy => hx.turn hd (hf y (by simp [hy]))) (ha.2.2.1.trans ho) (by rw [ha.2.2.2 hl]; exact hl)
def layW (sz : Nat) (bl : List Nat) (kind : UInt8) (num : Nat) (bs : List UInt8) : List (Nat × List UInt8) := bl.zip (secs sz kind num bs)
theorem layW_fit {d : DS} (hd : d.ok) {bl : List Nat} {kind : UInt8} {num : Nat} {bs : List UInt8} (hk : kind ≠ 0) (hn : num < 18446744073709551616) (hb : ∀ k ∈ bl, k < d.n) : ∀ x ∈ layW d.sz bl kind num bs, FitW d x := by
 intro x hx
 obtain ⟨h1, h2⟩ := List.of_mem_zip hx
 refine ⟨hb _ h1, ?_⟩
 unfold secs at h2
 obtain ⟨c, hc, h2⟩ := List.mem_map.1 h2
 rw [← h2]
 exact sealL_len (seal_ok hd hk hn (chunks_le hc))
theorem layW_fst {sz : Nat} {bl : List Nat} {kind : UInt8} {num : Nat} {bs : List UInt8} (h : bl.length = cnt (roomN sz) bs) : (layW sz bl kind num bs).map (·.1) = bl := by
 unfold layW
 exact List.map_fst_zip (by rw [secs_len]; omega)
theorem zip_map_eq {α β : Type} {f : α → β} : ∀ {a : List α} {b : List β}, a.length = b.length → (∀ x ∈ a.zip b, f x.1 = x.2) → a.map f = b
 | [], [], _, _ => rfl
 | [], _ :: _, h, _ => by simp at h
 | _ :: _, [], h, _ => by simp at h
 | x :: a, y :: b, h, hx => by
  rw [List.map_cons, hx (x, y) (by simp), zip_map_eq (by simpa using h) (fun z hz => hx z (by simp [hz]))]
theorem holds_of {d : DS} {bl : List Nat} {kind : UInt8} {num : Nat} {bs : List UInt8} (hl : bl.length = cnt (roomN d.sz) bs) (h : ∀ x ∈ layW d.sz bl kind num bs, blkOf d x.1 = x.2) : Holds d bl kind num bs :=
 zip_map_eq (by rw [secs_len]; exact hl) h
theorem Holds.same {d d' : DS} {bl : List Nat} {kind : UInt8} {num : Nat} {bs : List UInt8} (h : Holds d bl kind num bs) (hs : d'.sz = d.sz) (hb : ∀ k ∈ bl, blkOf d' k = blkOf d k) : Holds d' bl kind num bs := by
 unfold Holds at h ⊢
 rw [hs, ← h]
 exact List.map_congr_left hb
theorem SlotIs.same {d d' : DS} {k : Nat} {ox : Option Sup} (h : SlotIs d k ox) (hn : d'.n = d.n) (hb : blkOf d' k = blkOf d k) : SlotIs d' k ox := by
 unfold SlotIs at h ⊢
 rw [hn, hb]
 exact h
theorem blkOf_cut (d : DS) (a : Int) (k : Nat) : blkOf (cutD d a) k = blkOf d k := by unfold cutD; split <;> rfl
end Go.Proofs.YtimpadpeibgmoaaGreat
