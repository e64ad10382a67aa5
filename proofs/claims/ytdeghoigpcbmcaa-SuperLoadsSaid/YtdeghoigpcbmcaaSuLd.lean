/- Joined of Su27, Su28, Su29, Su30, Su31, Su32, Su33, Su34, SuLoads by joinx.py. -/
import Derived.Test.YtdeghoigpcbmcaaSuSwitches
import Derived.Test.YtdeghoigpcbmcaaBaseIn
import Derived.RangeFuncCalls
import Derived.ControlIn
import Derived.Test.YtdeghoigpcbmcaaBaseAny
import Derived.Test.YtdeghoigpcbmcaaSu2
import Derived.Test.YtdeghoigpcbmcaaSu4
import Derived.Test.YtdeghoigpcbmcaaSuT12
import Derived.Test.YtdeghoigpcbmcaaSu12
import Derived.Test.YtdeghoigpcbmcaaSu25
import Derived.Lib.ConvBytes
import Derived.Deep.CutRange
import Derived.Deep.CutBlock
/- Super: the blocks of pieces, one after another (the iterator). -/
namespace Go.Proofs.Ytdeghoigpcbmcaa
open Go.RowKit Go.Emb Go.Lib Go.Emb.Ext Go.Shelf

attribute [local go_sem] Oper.semAt_some
/-- the blocks of pieces -/
def blkE (e : E) : List Nat := (List.range e.2.toNat).map (e.1.toNat + ·)
def blkL (l : List E) : List Nat := l.flatMap blkE
/-- extents, and slices of extents in boxes, stay as they are -/
def KpX (A B : World) : Prop := A.heap.size ≤ B.heap.size ∧ ∀ (b : Nat) (cs : Array Value) (t : TypeId), (t = 54 ∨ t = 23) → A.heap[b]? = some (.cells cs t (0, 0)) → B.heap[b]? = some (.cells cs t (0, 0))
theorem KpX.refl (A : World) : KpX A A := ⟨Nat.le_refl _, fun _ _ _ _ h => h⟩
theorem KpX.trans {A B C : World} (h : KpX A B) (k : KpX B C) : KpX A C := ⟨Nat.le_trans h.1 k.1, fun b cs t ht hb => k.2 b cs t ht (h.2 b cs t ht hb)⟩
theorem KpX.of_keep {A B : World} (h : Keep [] A B) : KpX A B := ⟨h.size, fun _ _ _ _ hb => blkk hb h (by simp)⟩
theorem KpX.putObj (W : World) (l : Nat) (o o' : Obj) (hl : W.heap[l]? = some o) (ho : o.isCells = false) : KpX W (W.putObj l o') := by
  have hg := grownBy_putObj' W l o'
  refine ⟨hg.size, fun b cs t _ hb => ?_⟩
  have hlt := (Array.getElem?_eq_some_iff.1 hb).1
  rw [hg.block b hlt (fun e => by cases e; rw [hl] at hb; cases hb; cases ho)]
  exact hb
theorem KpX.row {A B : World} (h : KpX A B) {v : Value} {l : List E} {o : Option Nat} (hr : RowE A v l o) : RowE B v l o := by
  obtain ⟨hl, hr⟩ := hr
  refine ⟨hl, hr.imp id ?_⟩
  rintro ⟨b, off, cap, cs, e1, e2, e3, e4⟩
  exact ⟨b, off, cap, cs, e1, e2, h.2 b cs _ (.inl rfl) e3, e4⟩
theorem blkL_succ {l : List E} {k : Nat} (h : k < l.length) : blkL (l.take (k + 1)) = blkL (l.take k) ++ blkE l[k] := by
  unfold blkL
  rw [List.take_succ_eq_append_getElem h, List.flatMap_append]
  simp
theorem blkL_le {l : List E} {k : Nat} : (blkL (l.take k)).length ≤ (blkL l).length := by
  unfold blkL
  conv => rhs; rw [← List.take_append_drop k l]
  rw [List.flatMap_append, List.length_append]
  omega
theorem mem_blkL {l : List E} {e : E} (he : e ∈ l) {j : Nat} (hj : j < e.2.toNat) : e.1.toNat + j ∈ blkL l :=
  List.mem_flatMap.2 ⟨e, he, List.mem_map.2 ⟨j, List.mem_range.2 hj, rfl⟩⟩
theorem blkE_len (e : E) : (blkE e).length = e.2.toNat := by simp [blkE]
theorem range_snoc (f j : Nat) : (List.range (j + 1)).map (f + ·) = (List.range j).map (f + ·) ++ [f + j] := by
  rw [List.range_succ, List.map_append]; rfl
set_option maxRecDepth 100000 in
set_option maxHeartbeats 4000000 in
/-- the closure of blocks -/
theorem blocks1_in (l Bs : Nat) (v : Value) (xs : List E) (o : Option Nat) (hsz : xs.length ≤ 1000000000) (hpos : ∀ e ∈ xs, 0 ≤ e.1 ∧ e.1 ≤ 1000000000 ∧ 0 ≤ e.2 ∧ e.2 ≤ 1000000000) (n : Nat) (hn : 1 ≤ n) (J Jx : List {k : Nat // k ∈ blkL xs} → World → Prop)
    (hY : ∀ pre x W, J pre W → pre.length < (blkL xs).length → YieldAt Fence.wide (n - 1) Try.prog l #[.int .i64 (x.1 : Nat)] W fun e W' =>
      (e = .returned (.bool true) ∧ J (pre ++ [x]) W' ∧ KpX W W') ∨ (e = .returned (.bool false) ∧ Jx (pre ++ [x]) W'))
    (W : World) (hJ : AbidesFrom W.heap.size J) (hBs : W.heap[Bs]? = some (.cells #[v] 23 (0, 0))) (hr : RowE W v xs o) (h0 : J [] W) :
    CallsIn Fence.wide n Try.prog 50 #[.func (.yield l) #[] #[], .pointer (some ⟨Bs, 0, none⟩)] W fun e W' => (∃ v, e = .returned v) ∧
      ((∃ ys, ys.map (·.1) = blkL xs ∧ J ys W') ∨ (∃ pre, True ∧ Jx pre W')) := by
  obtain ⟨a, c, rfl⟩ : ∃ a c, v = .slice a xs.length c := hr.form
  have c0 := cell1 hBs
  have HR := Lib.hid hr
  have HJ := Lib.hid hJ
  have HY := Lib.hid hY
  have HP := Lib.hid hpos
  clear hr hJ hY hpos hBs
  refine callsIn_of_wp Try.func50 rfl trivial ?_ rfl
  simp only [Try.ntmps50, List.size_toArray, List.length_cons, List.length_nil, Nat.reduceAdd, Nat.reduceSub, Array.replicate_succ, Array.replicate_zero, List.push_toArray, List.append_toArray, List.nil_append, List.cons_append]
  gi_wp2
  clear c0
  gi_loopw [8] (fun i wr => ∃ k : Nat, k ≤ xs.length ∧ i = .int .i64 k ∧ (∃ pre, pre.map (·.1) = blkL (xs.take k) ∧ J pre wr) ∧ KpX W wr) (fun i _ => xs.length - (intOf i).toNat)
  case atStart => exact ⟨0, Nat.zero_le _, rfl, ⟨[], rfl, h0⟩, KpX.refl _⟩
  case round =>
    obtain ⟨k, hk, rfl, ⟨pre, hpre, hJs⟩, hkp⟩ := hrel
    have HJS := Lib.hid hJs
    have HPRE := Lib.hid hpre
    have HKP := Lib.hid hkp
    clear hJs hkp h0 hpre
    by_cases hlt : k < xs.length
    · obtain ⟨o', hrd, -⟩ := RowE.rde (HKP.out.row HR.out)
      obtain ⟨b, off, rfl, -, g0, g1⟩ := hrd.at hlt
      have hps := HP.out _ (List.getElem_mem hlt)
      have hmem : ∀ j, j < xs[k].2.toNat → xs[k].1.toNat + j ∈ blkL xs := fun j hj => mem_blkL (List.getElem_mem hlt) hj
      have HTS := Lib.hid (blkL_succ hlt)
      have HLE := Lib.hid (blkL_le (l := xs) (k := k + 1))
      have hja := fun ob => HJ.out _ _ _ none HJS.out (World.grownBy_alloc wr ob none) (fun r e => by cases e)
      have hkeep : Keep [] wr (wr.alloc (.cells #[.int .i64 xs[k].1, .int .i64 xs[k].2] 54)) := (Keep.refl [] wr).alloc _
      generalize xs[k] = x at *
      obtain ⟨x1, x2⟩ := x
      simp only at g0 g1 hps hmem
      obtain ⟨fn, rfl⟩ : ∃ n : Nat, x1 = n := ⟨x1.toNat, by omega⟩
      obtain ⟨mn, rfl⟩ : ∃ n : Nat, x2 = n := ⟨x2.toNat, by omega⟩
      have HJA := Lib.hid (hja (.cells #[.int .i64 fn, .int .i64 mn] 54))
      have HB := Lib.hid (heap_new wr (.cells #[.int .i64 fn, .int .i64 mn] 54))
      have HKA := Lib.hid (HKP.out.trans (KpX.of_keep hkeep))
      have i0 : (0 : Int) ≤ (k : Int) := by omega
      have i1 : (k : Int) < (xs.length : Int) := by omega
      have HMEM := Lib.hid (show ∀ j, j < mn → fn + j ∈ blkL xs from hmem)
      clear hrd hja hkeep hmem
      gi_wp2
      generalize wr.heap.size = Bx at *
      generalize wr.alloc (.cells #[.int .i64 fn, .int .i64 mn] 54) = W1 at *
      clear g0 g1
      gi_loopw [14] (fun i wr => ∃ j : Nat, j ≤ mn ∧ i = .int .i64 j ∧ (∃ pre, pre.map (·.1) = blkL (xs.take k) ++ (List.range j).map (fn + ·) ∧ J pre wr) ∧ KpX W1 wr) (fun i _ => mn - (intOf i).toNat)
      case atStart => exact ⟨0, Nat.zero_le _, rfl, ⟨pre, by simpa using HPRE.out, HJA.out⟩, KpX.refl _⟩
      case round =>
        obtain ⟨j, hj, rfl, ⟨pre2, hpre2, hJs2⟩, hkp2⟩ := hrel
        have HPRE2 := Lib.hid hpre2
        clear hpre2
        obtain ⟨cx0, cx1, -⟩ : wr.cell? ⟨Bx, 0, none⟩ = some (.int .i64 fn) ∧ wr.cell? ⟨Bx, 1, none⟩ = some (.int .i64 mn) ∧ True := by
          have hb := hkp2.2 Bx _ _ (.inl rfl) HB.out
          refine ⟨?_, ?_, trivial⟩ <;> simp [World.cell?, hb]
        by_cases hlj : j < mn
        · have hlj' : (j : Int) < (mn : Int) := by omega
          obtain ⟨z, hz⟩ : ∃ z : Nat, z = fn + j := ⟨_, rfl⟩
          have hcast : (fn : Int) + (j : Int) = (z : Int) := by omega
          have hzl : (z : Int) ≤ 4000000000 := by omega
          have hlen : pre2.length < (blkL xs).length := by
            rw [show pre2.length = (pre2.map (·.1)).length from by simp, HPRE2.out]
            have h1 := HLE.out
            rw [HTS.out, List.length_append, blkE_len] at h1
            simp only [List.length_append, List.length_map, List.length_range]
            simp at h1
            omega
          have hzm : z ∈ blkL xs := by rw [hz]; exact HMEM.out j hlj
          have hyy := HY.out _ ⟨z, hzm⟩ wr hJs2 hlen
          have hsn : (List.range (j + 1)).map (fn + ·) = (List.range j).map (fn + ·) ++ [z] := by rw [range_snoc, hz]
          have HSN := Lib.hid hsn
          have HKP2 := Lib.hid hkp2
          obtain ⟨fn', tmps, assign, body, hy, hR⟩ := hyy
          have HRR := Lib.hid hR
          have HZM := Lib.hid hzm
          clear hR hlen hsn hkp2 hJs2 hz
          gi_wp2
          refine HRR.out.mono ?_
          rintro e W3 (⟨rfl, hJ3, hk3⟩ | ⟨rfl, hJx3⟩)
          · have HJ3 := Lib.hid hJ3
            have HK3 := Lib.hid hk3
            clear hJ3 hk3
            gi_wp2
            go_roundw
            case rel => exact ⟨j + 1, by omega, by simp, ⟨_, by rw [List.map_append, HPRE2.out, HSN.out, List.append_assoc]; rfl, HJ3.out⟩, HKP2.out.trans HK3.out⟩
            case measure => simp [intOf]; omega
          · gi_wp2
            refine bodyPost_ret (results_none rfl _ _ _) rfl ?_
            exact ⟨⟨_, rfl⟩, .inr ⟨_, trivial, hJx3⟩⟩
        · obtain rfl : j = mn := by omega
          have HJ2 := Lib.hid hJs2
          have HKP2 := Lib.hid hkp2
          clear hJs2 hkp2
          gi_wp2
          go_roundw
          case rel => exact ⟨k + 1, by omega, by simp, ⟨pre2, by rw [HTS.out]; exact HPRE2.out, HJ2.out⟩, HKA.out.trans HKP2.out⟩
          case measure => simp [intOf]; omega
    · gi_wp2
      go_end0
      exact ⟨⟨_, rfl⟩, .inl ⟨pre, by have := HPRE.out; rwa [List.take_of_length_le (by omega)] at this, HJS.out⟩⟩
theorem blocks_stops (n : Nat) (hn : 1 ≤ n) (Bs : Nat) (v : Value) (xs : List E) (o : Option Nat) (hsz : xs.length ≤ 1000000000) (hpos : ∀ e ∈ xs, 0 ≤ e.1 ∧ e.1 ≤ 1000000000 ∧ 0 ≤ e.2 ∧ e.2 ≤ 1000000000) (w : World) (hBs : w.heap[Bs]? = some (.cells #[v] 23 (0, 0))) (hr : RowE w v xs o) :
    SeqStopsK Fence.wide n Try.prog 50 #[.pointer (some ⟨Bs, 0, none⟩)] (fun x : {k : Nat // k ∈ blkL xs} => #[.int .i64 (x.1 : Nat)]) KpX (fun ys => ys.map (·.1) = blkL xs) (fun _ => True) (blkL xs).length w := fun l J Jx W hW hJ _ hY h0 => by
  have hk : Keep [] w W := Keep.of_below hW
  exact blocks1_in l Bs v xs o hsz hpos n hn J Jx hY W hJ (blkk hBs hk (by simp)) (hr.keep hk (by simp)) h0
set_option maxRecDepth 100000 in
theorem p_blocksF {w : World} {a : Option Addr} {n c : Nat} : Calls Try.prog 38 #[.slice a n c] w fun e w' => e = .returned (.func (.func 50) #[] #[.pointer (some ⟨w.heap.size, 0, none⟩)]) ∧ w' = w.alloc (.cells #[.slice a n c] 23) := by
  go_enter Try.func38, Try.ntmps38
  go_wp2_with fail
  go_ret
  exact ⟨rfl, rfl⟩
end Go.Proofs.Ytdeghoigpcbmcaa

/- Super: Load. Printed by gen-su28.py. -/
namespace Go.Proofs.Ytdeghoigpcbmcaa
open Go.RowKit Go.Emb Go.Lib Go.Emb.Ext Go.Shelf

attribute [local go_sem] Oper.semAt_some
/-- what blocks hold, one behind the other -/
noncomputable def loadAt (d : DS) (k : Nat) : List UInt8 := match openS (blkOf d k) with
  | some y => y.load
  | none => []
noncomputable def outL (d : DS) (l : List Nat) : List UInt8 := l.flatMap (loadAt d)
/-- what a body must achieve that does not panic -/
def postN (F : Fence) (n : Nat) (P : Program) (fn : Func) (R : Ending → World → Prop) : Exit → Act → World → Prop
  | .panic _, _, _ => False
  | .normal, a, w => bodyPostM F n P fn R .normal a w
  | .ret, a, w => bodyPostM F n P fn R .ret a w
  | .outgrown, _, w => R .outgrown w
  | _, _, _ => False
theorem postN_post {F : Fence} {n : Nat} {P : Program} {fn : Func} {R : Ending → World → Prop} : ∀ e a w, postN F n P fn R e a w → bodyPostM F n P fn R e a w
  | .panic _, _, _, h => h.elim
  | .normal, _, _, h => h
  | .ret, _, _, h => h
  | .outgrown, _, _, h => h
  | .exit _, _, _, h => h.elim
  | .goto _, _, _, h => h.elim
def LoadP (w : World) (d : DS) (x : Sup) (e : Ending) (w' : World) : Prop :=
  (((outL d (blkL x.ps)).length = x.len ∧ ∃ v o, e = .returned (.tuple #[v, .int .i64 0]) ∧ RB w' v (outL d (blkL x.ps)) o ∧ ∀ b, o = some b → w.heap.size ≤ b) ∨ ((outL d (blkL x.ps)).length ≠ x.len ∧ e = .returned (.tuple #[.slice none 0 0, .int .i64 30]))) ∧ Keep [] w w'
theorem KpX.of_keepT {F : List Nat} {A B : World} (h : Keep F A B) (hF : ∀ b ∈ F, ∃ cs t, A.heap[b]? = some (.cells cs t (0, 0)) ∧ t ≠ 54 ∧ t ≠ 23) : KpX A B :=
  ⟨h.size, fun b cs t ht hb => blkk hb h (fun hm => by
    obtain ⟨cs', t', h1, h2, h3⟩ := hF b hm
    rw [h1] at hb
    injection hb with hb
    injection hb with _ hb
    subst hb
    rcases ht with ht | ht
    · exact h2 ht
    · exact h3 ht)⟩
/-- between two rounds of Load -/
def LdI (Wb : World) (Bo : Nat) (d : DS) (ps : List E) (pre : List {k : Nat // k ∈ blkL ps}) (W : World) : Prop :=
  ∃ v o, W.heap[Bo]? = some (.cells #[v] 38 (0, 0)) ∧ RB W v (outL d (pre.map (·.1))) o ∧ (∀ b, o = some b → Bo < b) ∧ Keep [Bo] Wb W
theorem ldI_own (Wb : World) (Bo : Nat) (d : DS) (ps : List E) (hBo : Bo < Wb.heap.size) : OwnFrom Wb.heap.size (LdI Wb Bo d ps) := by
  intro s W W' row hs hg hr
  obtain ⟨v, o, h1, h2, h3, h4⟩ := hs
  refine ⟨v, o, ?_, Row.grown h2 hg (fun r e => (hr r e).2), h3, h4.grown hg (fun k e => .inr (hr k e).1)⟩
  rw [hg.block Bo (Array.getElem?_eq_some_iff.1 h1).1 (fun e => by have := (hr Bo e.symm).1; omega)]
  exact h1
theorem outL_snoc (d : DS) (l : List Nat) (k : Nat) : outL d (l ++ [k]) = outL d l ++ loadAt d k := by simp [outL, List.flatMap_append]
theorem byte_one (l : List UInt8) : ∀ u ∈ Lib.byteCells l, u.oneCell' = true := by
  intro u hu
  obtain ⟨c, -, rfl⟩ := List.mem_map.1 (show u ∈ l.map _ from hu)
  rfl
theorem u8_infoS : (Try.prog.info? 5).map (fun i => (i.zero, i.size, i.bytes)) = some (some (.int .u8 0), 1, 1) := by kernel_rfl
theorem load_le {d : DS} (hd : d.ok) {k : Nat} (hk : k < d.n) : (loadAt d k).length ≤ 4096 := by
  unfold loadAt
  split
  · rename_i y hy
    have h1 := openS_seal hy
    have h2 := blkOf_len hd hk
    have h3 := hd.2.2.2.1
    have h4 : y = sealOf (blkOf d k) := by
      unfold openS at hy
      split at hy
      · exact (Option.some.inj hy).symm
      · cases hy
    rw [h4]
    unfold sealOf sealLoad
    simp only [List.length_take, List.length_drop]
    omega
  · simp
theorem outL_le {d : DS} (hd : d.ok) : ∀ (l : List Nat), (∀ k ∈ l, k < d.n) → (outL d l).length ≤ l.length * 4096
  | [], _ => by simp [outL]
  | k :: l, h => by
    have h1 := outL_le hd l (fun j hj => h j (by simp [hj]))
    have h2 := load_le hd (h k (by simp))
    unfold outL at h1 ⊢
    rw [List.flatMap_cons, List.length_append, List.length_cons]
    omega
theorem blkL_lt {n : Nat} {l : List E} (h : ∀ e ∈ l, okE n e) : ∀ k ∈ blkL l, k < n := by
  intro k hk
  obtain ⟨e, he, hk⟩ := List.mem_flatMap.1 hk
  obtain ⟨j, hj, rfl⟩ := List.mem_map.1 hk
  have h1 := h e he
  unfold okE at h1
  have := List.mem_range.1 hj
  omega
theorem blkL_len {n : Nat} {l : List E} (h : ∀ e ∈ l, okE n e) : (blkL l).length ≤ l.length * n := by
  induction l with
  | nil => simp [blkL]
  | cons e l ih =>
    have h1 := h e (by simp)
    unfold okE at h1
    have h2 := ih (fun x hx => h x (by simp [hx]))
    unfold blkL at h2 ⊢
    rw [List.flatMap_cons, List.length_append, blkE_len, List.length_cons, Nat.succ_mul]
    omega
/-- the end of a function with two results in boxes, behind a range over a function -/
theorem boxes_done {W : World} {g4 g5 D0 : Nat} {v4 v5 x4 x5 : Value} {t4 t5 : TypeId} (h4 : W.heap[g4]? = some (.cells #[x4] t4 (0, 0))) (h5 : W.heap[g5]? = some (.cells #[x5] t5 (0, 0))) (hne : g4 ≠ g5) (hD : W.heap[D0]? = some (.deferred (some []))) :
    ((W.setCell ⟨g4, 0, none⟩ v4).setCell ⟨g5, 0, none⟩ v5).heap[D0]? = some (.deferred (some [])) ∧
    (((W.setCell ⟨g4, 0, none⟩ v4).setCell ⟨g5, 0, none⟩ v5).putObj D0 (.deferred none)).cell? ⟨g4, 0, none⟩ = some v4 ∧
    (((W.setCell ⟨g4, 0, none⟩ v4).setCell ⟨g5, 0, none⟩ v5).putObj D0 (.deferred none)).cell? ⟨g5, 0, none⟩ = some v5 ∧
    Keep [g4, g5, D0] W (((W.setCell ⟨g4, 0, none⟩ v4).setCell ⟨g5, 0, none⟩ v5).putObj D0 (.deferred none)) := by
  have n4 : g4 ≠ D0 := fun e => by rw [e, hD] at h4; cases h4
  have n5 : g5 ≠ D0 := fun e => by rw [e, hD] at h5; cases h5
  have k1 : Keep [g4] W (W.setCell ⟨g4, 0, none⟩ v4) := Keep.set1 W ⟨g4, 0, none⟩ v4
  have k2 : Keep [g5] (W.setCell ⟨g4, 0, none⟩ v4) ((W.setCell ⟨g4, 0, none⟩ v4).setCell ⟨g5, 0, none⟩ v5) := Keep.set1 _ ⟨g5, 0, none⟩ v5
  have b4 := heap_setCell_at (i := 0) h4 v4
  have b5 := heap_setCell_at (i := 0) (blkk h5 k1 (by simpa using fun e => hne e.symm)) v5
  have b4' := blkk b4 k2 (by simpa using hne)
  have hD1 := (k2.block D0 (by have := (Array.getElem?_eq_some_iff.1 hD).1; have := k1.size; omega) (by simpa using fun e => n5 e.symm)).trans ((k1.block D0 (Array.getElem?_eq_some_iff.1 hD).1 (by simpa using fun e => n4 e.symm)).trans hD)
  have kp : Keep [D0] ((W.setCell ⟨g4, 0, none⟩ v4).setCell ⟨g5, 0, none⟩ v5) (((W.setCell ⟨g4, 0, none⟩ v4).setCell ⟨g5, 0, none⟩ v5).putObj D0 (.deferred none)) :=
    (Keep.refl [D0] _).grown (grownBy_putObj' _ D0 _) (fun k e => .inl (by cases e; simp))
  refine ⟨hD1, ?_, ?_, ?_⟩
  · exact cell1 (by simpa using blkk b4' kp (by simpa using n4))
  · exact cell1 (by simpa using blkk b5 kp (by simpa using n5))
  · exact ((k1.mono (by simp)).trans (k2.mono (F := [g5]) (G := [g4, g5, D0]) (by simp)) (fun b hb => .inl hb)).trans (kp.mono (F := [D0]) (G := [g4, g5, D0]) (by simp)) (fun b hb => .inl hb)
set_option maxRecDepth 100000 in
set_option maxHeartbeats 4000000 in
theorem s_load {w : World} {q m : Nat} {D : List Nat} {d : DS} {x : Sup} {pv : Value} {o : Option Nat} (h : DK w q m D d) (hoff : d.off = false) (hr : RowE w pv x.ps o) (hx : okS d.n x) (hall : ∀ k ∈ blkL x.ps, ∃ y, openS (blkOf d k) = some y) :
    Calls Try.prog 21 #[.pointer (some ⟨q, 0, none⟩), aggS x pv] w (LoadP w d x) := by
  have hps := hx.1.2.2.2.2.2
  obtain ⟨o', hrd, ho'⟩ := RowE.rde hr
  have hol : ∀ b, o' = some b → b < w.heap.size := fun b hb => by
    rcases ho' with h | h
    · rw [h] at hb; cases hb
    · rw [h] at hb; exact Row.lt hr b hb
  have hck := fun (w2 : World) (hk2 : Keep [] w w2) => p_check (w := w2) (n := d.n) (x := x) (hrd.keep hk2 (by simp)) (fun b hb => Nat.lt_of_lt_of_le (hol b hb) hk2.size) (by have := h.isok; exact this.2.1) (by omega)
  have HCK := Lib.hid hck
  have H := Lib.hid h
  have HR := Lib.hid hr
  have HX := Lib.hid hx
  have HALL := Lib.hid hall
  have HOFF := Lib.hid hoff
  obtain ⟨pa, pc, rfl⟩ := hr.form
  clear hck h hr hx hall hrd ho' hol hoff
  obtain ⟨gen, ps, len, ep⟩ := x
  unfold aggS at HCK ⊢
  simp only at HR HALL hps HCK ⊢
  have hk1 : Keep [] w ((((w.alloc (.cells #[.pointer (some ⟨q, 0, none⟩)] 27)).alloc (.cells #[.int .u64 gen, .slice pa ps.length pc, .int .i64 len, .int .i64 ep] 25)).alloc (.cells #[.slice none 0 0] 38)).alloc (.cells #[.int .i64 0] 28)) := ((((Keep.refl [] w).alloc (.cells #[.pointer (some ⟨q, 0, none⟩)] 27)).alloc (.cells #[.int .u64 gen, .slice pa ps.length pc, .int .i64 len, .int .i64 ep] 25)).alloc (.cells #[.slice none 0 0] 38)).alloc (.cells #[.int .i64 0] 28)
  have hb0 := lit_alloc (lit_alloc (lit_alloc (heap_new w (.cells #[.pointer (some ⟨q, 0, none⟩)] 27)) (.cells #[.int .u64 gen, .slice pa ps.length pc, .int .i64 len, .int .i64 ep] 25)) (.cells #[.slice none 0 0] 38)) (.cells #[.int .i64 0] 28)
  have hb1 := lit_alloc (lit_alloc (heap_new (w.alloc (.cells #[.pointer (some ⟨q, 0, none⟩)] 27)) (.cells #[.int .u64 gen, .slice pa ps.length pc, .int .i64 len, .int .i64 ep] 25)) (.cells #[.slice none 0 0] 38)) (.cells #[.int .i64 0] 28)
  have hb2 := lit_alloc (heap_new ((w.alloc (.cells #[.pointer (some ⟨q, 0, none⟩)] 27)).alloc (.cells #[.int .u64 gen, .slice pa ps.length pc, .int .i64 len, .int .i64 ep] 25)) (.cells #[.slice none 0 0] 38)) (.cells #[.int .i64 0] 28)
  have hb3 := heap_new (((w.alloc (.cells #[.pointer (some ⟨q, 0, none⟩)] 27)).alloc (.cells #[.int .u64 gen, .slice pa ps.length pc, .int .i64 len, .int .i64 ep] 25)).alloc (.cells #[.slice none 0 0] 38)) (.cells #[.int .i64 0] 28)
  simp only [size_alloc] at hb1 hb2 hb3
  have HK1 := Lib.hid hk1
  have HB0 := Lib.hid hb0
  have HB1 := Lib.hid hb1
  have HB2 := Lib.hid hb2
  have HB3 := Lib.hid hb3
  have hsz1 : ((((w.alloc (.cells #[.pointer (some ⟨q, 0, none⟩)] 27)).alloc (.cells #[.int .u64 gen, .slice pa ps.length pc, .int .i64 len, .int .i64 ep] 25)).alloc (.cells #[.slice none 0 0] 38)).alloc (.cells #[.int .i64 0] 28)).heap.size = w.heap.size + 4 := by simp
  have HSZ1 := Lib.hid hsz1
  clear hk1 hb0 hb1 hb2 hb3 hsz1
  refine (callsIn_wide (n := 6)).1 ?_
  have hro : Fence.wide.round = none := rfl
  refine callsIn_of_wp_marks Try.func21 rfl trivial ?_ hro
  simp only [Try.ntmps21, List.size_toArray, List.length_cons, List.length_nil, Nat.reduceAdd, Nat.reduceSub, Array.replicate_succ, Array.replicate_zero, List.push_toArray, List.append_toArray, List.nil_append, List.cons_append]
  refine wpIn_wide.2 (wp_mono (Q := postN Fence.wide 6 Try.prog Try.f21 (LoadP w d ⟨gen, ps, len, ep⟩)) ?_ postN_post)
  go_upto_region 3 with fail
  generalize (((w.alloc (.cells #[.pointer (some ⟨q, 0, none⟩)] 27)).alloc (.cells #[.int .u64 gen, .slice pa ps.length pc, .int .i64 len, .int .i64 ep] 25)).alloc (.cells #[.slice none 0 0] 38)).alloc (.cells #[.int .i64 0] 28) = w1 at *
  refine wp_region_held_drew (S := fun w' => Keep [] w1 w') (by kernel_rfl) ((Keep.refl [] w1).drew) (fun hHeld => ?_)
  have HC0 := Lib.hid hHeld
  refine wpAnyH_takeL (i := 0) (v := ?vR0) rfl (by kernel_rfl) (by kernel_rfl) (by kernel_rfl) (fun _ _ _ h => h) (Or.inl ⟨by kernel_rfl, ?runR0⟩) hHeld ?_
  case runR0 => (intro w9 hS9; obtain ⟨d0, c0, c1, c2, c3⟩ := (And.intro (cell1 (blkk HB0.out hS9 (by simp))) (cells4s (blkk HB1.out hS9 (by simp)))); go_simp; try exact rfl)
  try simp only [Act.put, List.setIfInBounds_toArray, List.set_cons_zero, List.set_cons_succ]
  refine wpAnyH_takeL (i := 2) (v := ?vR2) rfl (by kernel_rfl) (by kernel_rfl) (by kernel_rfl) (fun _ _ _ h => h) (Or.inl ⟨by kernel_rfl, ?runR2⟩) hHeld ?_
  case runR2 => (intro w9 hS9; obtain ⟨d0, c0, c1, c2, c3⟩ := (And.intro (cell1 (blkk HB0.out hS9 (by simp))) (cells4s (blkk HB1.out hS9 (by simp)))); go_simp; try exact rfl)
  try simp only [Act.put, List.setIfInBounds_toArray, List.set_cons_zero, List.set_cons_succ]
  refine wpAnyH_ready (rs := [1]) (by kernel_rfl) (by simp) ?_
  refine AllReadyH.consL rfl (fun K hK => ?_) AllReadyH.nil
  go_simp
  refine (dk_blocks (H.out.keep0 (HK1.out.trans HC0.out (by simp)))).mono ?_
  rintro e wc1 ⟨rfl, hc1⟩
  have HC1 := Lib.hid (HC0.out.trans hc1 (by simp))
  clear hc1
  go_wp2_with fail
  refine hK.out _ _ HC1.out (fun hHeld2 => ?_)
  clear hK K hHeld
  have hHeld := hHeld2
  clear hHeld2
  try simp only [Act.put, List.setIfInBounds_toArray, List.set_cons_zero, List.set_cons_succ]
  refine wpAnyH_ready (rs := [3]) (by kernel_rfl) (by simp) ?_
  refine AllReadyH.consL rfl (fun K hK => ?_) AllReadyH.nil
  go_simp
  refine (HCK.out _ (HK1.out.trans HC1.out (by simp))).mono ?_
  rintro e wc2 ⟨c, rfl, hcc, hc2⟩
  have HC2 := Lib.hid (HC1.out.trans hc2 (by simp))
  clear hc2
  go_wp2_with fail
  refine hK.out _ _ HC2.out (fun hHeld2 => ?_)
  clear hK K hHeld
  have hHeld := hHeld2
  clear hHeld2
  try simp only [Act.put, List.setIfInBounds_toArray, List.set_cons_zero, List.set_cons_succ]
  refine wpAnyH_takeL (i := 4) (v := ?vR4) rfl (by kernel_rfl) (by kernel_rfl) (by kernel_rfl) (fun _ _ _ h => h) (Or.inl ⟨by kernel_rfl, ?runR4⟩) hHeld ?_
  case runR4 => (intro w9 hS9; obtain ⟨d0, c0, c1, c2, c3⟩ := (And.intro (cell1 (blkk HB0.out hS9 (by simp))) (cells4s (blkk HB1.out hS9 (by simp)))); go_simp; try exact rfl)
  try simp only [Act.put, List.setIfInBounds_toArray, List.set_cons_zero, List.set_cons_succ]
  refine wpAnyH_done (by kernel_rfl) ?_ _
  clear hHeld
  obtain rfl : c = 0 := by
    rcases hcc with ⟨h, -⟩ | ⟨-, h⟩
    · exact h
    · exact absurd HX.out h
  have hb1 := blkk HB1.out HC2.out (by simp)
  obtain ⟨c0, c1, c2, c3⟩ := cells4s hb1
  have hlt1 := (Array.getElem?_eq_some_iff.1 hb1).1
  clear hcc hb1
  go_wp2_with (go_at_call 38; refine p_blocksF.mono ?_; rintro e w5 ⟨rfl, rfl⟩)
  refine (wpIn_wide (n := 6)).1 ?_
  have hlt0 : w.heap.size + 4 ≤ wc2.heap.size := by have h1 := HC2.out.size; have h2 := HSZ1.out; omega
  have hkb : Keep [] w ((wc2.alloc (.cells #[.slice none 0 0] 38)).alloc (.cells #[.slice pa ps.length pc] 23)) := (((HK1.out.trans HC2.out (by simp))).alloc (.cells #[.slice none 0 0] 38)).alloc (.cells #[.slice pa ps.length pc] 23)
  have hbo : ((wc2.alloc (.cells #[.slice none 0 0] 38)).alloc (.cells #[.slice pa ps.length pc] 23)).heap[wc2.heap.size]? = some (.cells #[.slice none 0 0] 38) := lit_alloc (heap_new wc2 (.cells #[.slice none 0 0] 38)) (.cells #[.slice pa ps.length pc] 23)
  have hbp : ((wc2.alloc (.cells #[.slice none 0 0] 38)).alloc (.cells #[.slice pa ps.length pc] 23)).heap[wc2.heap.size + 1]? = some (.cells #[.slice pa ps.length pc] 23) := by have := heap_new (wc2.alloc (.cells #[.slice none 0 0] 38)) (.cells #[.slice pa ps.length pc] 23); rwa [size_alloc] at this
  have hszb : ((wc2.alloc (.cells #[.slice none 0 0] 38)).alloc (.cells #[.slice pa ps.length pc] 23)).heap.size = wc2.heap.size + 2 := by simp
  have hd0 := blkk (lit_alloc (lit_alloc (blkk HB0.out HC2.out (by simp)) (.cells #[.slice none 0 0] 38)) (.cells #[.slice pa ps.length pc] 23)) (Keep.refl [] _) (by simp)
  have hd1 := blkk (lit_alloc (lit_alloc (blkk HB1.out HC2.out (by simp)) (.cells #[.slice none 0 0] 38)) (.cells #[.slice pa ps.length pc] 23)) (Keep.refl [] _) (by simp)
  have hd2 := blkk (lit_alloc (lit_alloc (blkk HB2.out HC2.out (by simp)) (.cells #[.slice none 0 0] 38)) (.cells #[.slice pa ps.length pc] 23)) (Keep.refl [] _) (by simp)
  have hd3 := blkk (lit_alloc (lit_alloc (blkk HB3.out HC2.out (by simp)) (.cells #[.slice none 0 0] 38)) (.cells #[.slice pa ps.length pc] 23)) (Keep.refl [] _) (by simp)
  have HKB := Lib.hid hkb
  have HBO := Lib.hid hbo
  have HBP := Lib.hid hbp
  have HSZB := Lib.hid hszb
  have HD0 := Lib.hid hd0
  have HD1 := Lib.hid hd1
  have HD2 := Lib.hid hd2
  have HD3 := Lib.hid hd3
  have HLT0 := Lib.hid hlt0
  clear hlt0 hkb hbo hbp hszb hd0 hd1 hd2 hd3 hlt1 c0 c1 c2 c3
  generalize (wc2.alloc (.cells #[.slice none 0 0] 38)).alloc (.cells #[.slice pa ps.length pc] 23) = Wb at *
  generalize wc2.heap.size = Bo at *
  refine wpIn_rangeFunc_ownH hro (by omega) (gf := 50) (lb := #[.pointer (some ⟨Bo + 1, 0, none⟩)]) rfl trivial (enters_of Try.func50 (by kernel_rfl) rfl)
    (blocks_stops (6 - 1) (by omega) (Bo + 1) (.slice pa ps.length pc) ps o (by omega) (fun e he => by have h1 := HX.out.2.1 e he; have h2 := H.out.isok; unfold okE at h1; have := h2.2.1; omega) Wb HBP.out (HR.out.keep HKB.out (by simp))) KpX.trans (fun W l o o' _ hl ho _ => KpX.putObj W l o o' hl ho) (Below.refl _ _) (fun _ => rfl)
    (LdI Wb Bo d ps) (fun _ _ _ => False) (ldI_own Wb Bo d ps (by have := HSZB.out; omega)) (fun _ _ _ _ _ hs _ _ => hs)
    ⟨_, none, HBO.out, RB.nil _, by simp, Keep.refl _ _⟩
    (fun x a' _ => a' = { tmps := #[.pointer (some ⟨q, 0, none⟩), .agg #[.int .u64 gen, .slice pa ps.length pc, .int .i64 len, .int .i64 ep], .pointer (some ⟨w.heap.size, 0, none⟩), .pointer (some ⟨w.heap.size + 1, 0, none⟩), .pointer (some ⟨w.heap.size + 1 + 1, 0, none⟩), .pointer (some ⟨w.heap.size + 1 + 1 + 1, 0, none⟩), .int .i64 0, .pointer (some ⟨Bo, 0, none⟩), .int .i64 (x.1 : Nat), undef, undef, undef, .pointer (some ⟨q, 0, none⟩), .bool false, .pointer (some ⟨q, 0, none⟩), .int .i64 d.n, .agg #[.int .u64 gen, .slice pa ps.length pc, .int .i64 len, .int .i64 ep], .int .i64 0, .int .i64 0, .bool false, undef, .pointer (some ⟨w.heap.size + 1, 1, none⟩), .slice pa ps.length pc, .func (.func 50) #[] #[.pointer (some ⟨Bo + 1, 0, none⟩)], .int .i64 (x.1 : Nat), undef, undef, undef, undef, undef, undef, undef, undef, undef, undef, undef, undef, undef, undef, undef, undef, undef, undef, undef, undef, undef, undef, undef, undef, undef, undef], defers := [] }) (fun _ _ _ _ _ _ h _ _ => h)
    ?assign ?body ?done ?stop
  case assign =>
    rintro l pre x W K hI hK
    obtain ⟨v1, o1, hbx, hrb, hlo, hkw⟩ := id hI
    gi_wp2
    exact hK _ _ ((KeepsOthers.refl _).from _) (KpX.refl _) hI rfl
  case body =>
    rintro l pre x a' W hl hloop ⟨v1, o1, hbx, hrb, hlo, hkw⟩ rfl hlt
    obtain ⟨k, hkm⟩ := x
    simp only
    obtain ⟨va, vc, rfl, -⟩ := hrb.form
    have hpre := outL_le H.out.isok (pre.map (·.1)) (fun j hj => by obtain ⟨z, -, rfl⟩ := List.mem_map.1 hj; exact blkL_lt HX.out.2.1 _ z.2)
    rw [List.length_map] at hpre
    have hN := blkL_len HX.out.2.1
    have hdn := H.out.isok.2.1
    have hkn : k < d.n := blkL_lt HX.out.2.1 k hkm
    obtain ⟨y, hy⟩ := HALL.out k hkm
    have hla : loadAt d k = y.load := by unfold loadAt; rw [hy]
    have hyl := load_le H.out.isok hkn
    rw [hla] at hyl
    have hN2 : (blkL ps).length ≤ 8 * 16384 := Nat.le_trans hN (Nat.mul_le_mul hps hdn)
    have hdw : DK W q m D d := (H.out.keep HKB.out (by simp)).keep hkw (fun b hb => by have := H.out.lt b hb; have := HLT0.out; simp; omega)
    have d0 := cell1 (blkk HD0.out hkw (by have := HLT0.out; simp; omega))
    have hrd := p_read hdw (k : Int)
    have HRD := Lib.hid hrd
    have HKW := Lib.hid hkw
    have HBX := Lib.hid hbx
    have HRB := Lib.hid hrb
    have HLO := Lib.hid hlo
    have HY := Lib.hid hy
    have HLA := Lib.hid hla
    have HKN2 := Lib.hid hkn
    have hkn' : (0 : Int) ≤ k ∧ (k : Int) < d.n := by omega
    have HKN := Lib.hid hkn'
    have hol : (outL d (pre.map (·.1))).length ≤ 600000000 := by omega
    have HPT := Lib.hid (show outL d ((pre ++ [(⟨k, hkm⟩ : {k : Nat // k ∈ blkL ps})]).map (fun z => z.1)) = outL d (pre.map (·.1)) ++ y.load by rw [List.map_append]; show outL d (pre.map (·.1) ++ [k]) = _; rw [outL_snoc, hla])
    have HYL := Lib.hid hyl
    obtain ⟨L, hL⟩ : ∃ z, z = outL d (pre.map (·.1)) := ⟨_, rfl⟩
    rw [← hL] at HRB HPT HBX hol
    obtain ⟨i0, hi, hz0, hz1, hz2⟩ := info_parts u8_infoS
    have HI := Lib.hid hi
    clear hrd hkw hbx hrb hlo hy hla hkn' hN hpre hyl hdw hloop hL hi hN2
    gi_wp2_with fail
    refine ⟨trivial, (CallsIn.inRound l (callsIn_wide.2 HRD.out)).mono ?_⟩
    rintro e W2 ⟨(⟨hh, -⟩ | ⟨-, hh, -⟩ | ⟨-, -, v2, o2, rfl, hr2, ho2⟩), hk2⟩
    · exact absurd HKN.out hh
    · rw [HOFF.out] at hh; cases hh
    rw [Int.toNat_natCast] at hr2
    obtain ⟨a2, c2, rfl, -⟩ := hr2.form
    obtain ⟨o2', hrd2, ho2'⟩ := Row.rd hr2
    have HGET := Lib.hid (p_get hrd2 (fun c hc => by
      rcases ho2' with h | h
      · rw [h] at hc; cases hc
      · rw [h] at hc; exact hr2.lt c hc) (by have := blkOf_len H.out.isok HKN2.out; have := H.out.isok.2.2.2.1; omega))
    have HK2 := Lib.hid hk2
    clear hr2 ho2 hk2 hrd2 ho2' d0
    gi_wp2_with fail
    refine ⟨trivial, (CallsIn.inRound l (callsIn_wide.2 HGET.out)).mono ?_⟩
    rintro e W3 ⟨(⟨hh, -⟩ | ⟨y', lv, lo3, hh, rfl, hr3, ho3⟩), hk3⟩
    · rw [HY.out] at hh; cases hh
    rw [HY.out] at hh
    obtain rfl := Option.some.inj hh
    obtain ⟨la, lc, rfl, -⟩ := hr3.form
    have hk3' := HK2.out.trans hk3 (by simp)
    have hbx3 := blkk HBX.out hk3' (by simp)
    have e0 := cell1 hbx3
    have f0 := frozen4 hbx3
    have hlt3 := (Array.getElem?_eq_some_iff.1 hbx3).1
    have hka := (Keep.refl [] W3).alloc (.cells #[.int .u8 (y.kind.toNat : Int), .int .u64 (y.num : Nat), .slice la y.load.length lc] 52)
    have hrow4 : Row _ 5 1 (.slice va L.length vc) L.length (Lib.byteCells L) o1 := (HRB.out.keep hk3' (by simp)).keep hka (by simp)
    obtain ⟨o3', hrd4, -⟩ := Row.rd (hr3.keep hka (by simp))
    have HROW4 := Lib.hid hrow4
    have HRD4 := Lib.hid hrd4
    have HBX4 := Lib.hid (lit_alloc hbx3 (.cells #[.int .u8 (y.kind.toNat : Int), .int .u64 (y.num : Nat), .slice la y.load.length lc] 52))
    have HK4 := Lib.hid (hk3'.trans hka (by simp))
    have hyl := HYL.out
    clear hk3 hk3' hbx3 hr3 ho3 hh HGET HRD hka hrow4 hrd4
    gi_wp2_with (gi_at_builtin; refine wpListIn_append_any _ rfl (.tmp 41) (.tmp 43) 38 38 rfl 5 5 i0 (.int .u8 0) 1 1 Try.underlying38 Try.underlying38 HI.out hz0 hz1 hz2 rfl (.slice va L.length vc) L.length (Lib.byteCells L) o1 rfl HROW4.out _ rfl y.load.length (Lib.byteCells y.load) o3' HRD4.out (byte_one _) (by unfold maxLen; omega) (by omega) ?_; intro v5 o5 w5 hrow5 hk5 ho5; have hrb5 : RB w5 v5 (L ++ y.load) o5 := (by unfold RB; rw [List.length_append]; simpa [Lib.byteCells, List.map_append] using hrow5); obtain ⟨a5, c5, rfl, -⟩ := hrb5.form; have hbx5 := blkk HBX4.out hk5 (by intro hm; have := HLO.out Bo (by simpa using hm); omega); have e5 := cell1 hbx5; have f5 := frozen4 hbx5; have HBX5 := Lib.hid hbx5; have HK5 := Lib.hid hk5; have HRB5 := Lib.hid hrb5; have HO5 := Lib.hid ho5; clear hrow5 hk5 ho5 hrb5 hbx5 e0 f0)
    have hks : Keep [Bo] w5 (w5.setCell ⟨Bo, 0, none⟩ (.slice a5 (L ++ y.load).length c5)) := Keep.set1 w5 ⟨Bo, 0, none⟩ _
    have hcl : ∀ b ∈ o1.toList, ∃ cs t, W.heap[b]? = some (.cells cs t (0, 0)) ∧ t = 5 := by
      intro b hb
      obtain rfl : o1 = some b := by simpa using hb
      obtain ⟨cs, h⟩ := row_blk (show Row W _ _ _ _ _ (some b) from HRB.out)
      exact ⟨cs, _, h, rfl⟩
    have hkw5 : Keep o1.toList W w5 := (HK4.out.mono (by simp)).trans HK5.out (fun b hb => .inl hb)
    have hkall : Keep (Bo :: o1.toList) W (w5.setCell ⟨Bo, 0, none⟩ (.slice a5 (L ++ y.load).length c5)) := (hkw5.mono (fun b hb _ => by simp at hb; simp [hb])).trans (hks.mono (G := Bo :: o1.toList) (by simp)) (fun b hb => .inl hb)
    have hbn : ∀ b, o5 = some b → Bo < b := fun b hb => by
      rcases HO5.out b hb with h | h
      · exact HLO.out b h
      · have h1 := HK4.out.size
        have h2 := (Array.getElem?_eq_some_iff.1 HBX.out).1
        omega
    rw [← show (L ++ y.load).length = L.length + y.load.length from List.length_append]
    refine ⟨(hkall.others (fun b hb => ?_)).from _, KpX.of_keepT hkall ?_, .slice a5 (L ++ y.load).length c5, o5, (by simpa using heap_setCell_at (i := 0) HBX5.out (.slice a5 (L ++ y.load).length c5)), ?_, hbn, ?_⟩
    · rcases List.mem_cons.1 hb with rfl | hb
      · exact ⟨_, HBX.out, rfl⟩
      · obtain ⟨cs, t, h, -⟩ := hcl b hb
        exact ⟨_, h, rfl⟩
    · intro b hb
      rcases List.mem_cons.1 hb with rfl | hb
      · exact ⟨_, _, HBX.out, by decide, by decide⟩
      · obtain ⟨cs, t, h, rfl⟩ := hcl b hb
        exact ⟨cs, _, h, by decide, by decide⟩
    · rw [HPT.out]
      exact HRB5.out.keep hks (fun b hb => by have := hbn b hb; simp; omega)
    · refine HKW.out.trans (hkall.mono (G := Bo :: o1.toList) (fun b hb _ => hb)) (fun b hb => ?_)
      rcases List.mem_cons.1 hb with rfl | hb
      · exact .inl (by simp)
      · obtain ⟨cs, t, h, rfl⟩ := hcl b hb
        have h1 := HLO.out b (by simpa using hb)
        have h2 := HSZB.out
        have h3 : b ≠ Bo + 1 := by
          intro e
          rw [e, blkk HBP.out HKW.out (by simp)] at h
          injection h with h
          injection h with _ h
          exact absurd h (by decide)
        exact .inr (by omega)
  case done =>
    rintro D0 zs W hD hzs ⟨v1, o1, hbx, hrb, hlo, hkw⟩ hK
    rw [hzs] at hrb
    obtain ⟨va, vc, rfl, -⟩ := hrb.form
    have hb0 := cell1 hbx
    have hltb := (Array.getElem?_eq_some_iff.1 hbx).1
    obtain ⟨c0, c1, c2, c3⟩ := cells4s (blkk HD1.out hkw (by have := HLT0.out; simp; omega))
    have HRB := Lib.hid hrb
    have HKW := Lib.hid hkw
    have h4 := blkk HD2.out hkw (by have := HLT0.out; simp; omega)
    have h5 := blkk HD3.out hkw (by have := HLT0.out; simp; omega)
    have e4 := cell1 h4
    have e5 := cell1 h5
    have f4 := frozen4 h4
    have f5 := frozen4 h5
    have HBD := Lib.hid (fun (v4 v5 : Value) => boxes_done (v4 := v4) (v5 := v5) h4 h5 (by omega) hK)
    have HLO := Lib.hid hlo
    have HBX := Lib.hid hbx
    have HDK := Lib.hid hK
    clear hrb hkw hlo hbx h4 h5 hK
    by_cases hlen : ((outL d (blkL ps)).length : Int) = len
    · have hlen' : (((outL d (blkL ps)).length : Int) != len) = false := by simp [hlen]
      have HLEN := Lib.hid hlen
      clear hlen
      go_wp2_with fail
      obtain ⟨hD1, g4, g5, hkf⟩ := HBD.out (.slice va (outL d (blkL ps)).length vc) (.int .i64 0)
      refine ⟨by simp, .inl ⟨_, _, rfl, run_takeDeferred hD1, ?_⟩⟩
      refine ⟨.tuple #[.slice va (outL d (blkL ps)).length vc, .int .i64 0], by simp [results, Try.results21, go_sem, g4, g5], ?_⟩
      refine ⟨.inl ⟨HLEN.out, _, o1, rfl, HRB.out.keep hkf (fun b hb => ?_), fun b hb => ?_⟩, (HKB.out.trans HKW.out (fun b hb => by have := HLT0.out; simp at hb; subst hb; exact .inr (by omega))).trans hkf (fun b hb => ?_)⟩
      · have h1 := HLO.out b hb
        have h2 := HLT0.out
        subst hb
        obtain ⟨cs, hcs⟩ := row_blk (show Row _ _ _ _ _ _ (some b) from HRB.out)
        have h3 : b ≠ D0 := fun e => by rw [e, HDK.out] at hcs; cases hcs
        simp
        omega
      · have h1 := HLO.out b hb
        have h2 := HLT0.out
        omega
      · have h2 := HLT0.out
        have h3 := HKB.out.size
        simp at hb
        rcases hb with rfl | rfl | rfl
        · exact .inr (by omega)
        · exact .inr (by omega)
        · exact .inr (by omega)
    · have hlen' : (((outL d (blkL ps)).length : Int) != len) = true := by rw [bne_iff_ne]; exact hlen
      have HLEN := Lib.hid hlen
      clear hlen
      go_wp2_with fail
      obtain ⟨hD1, g4, g5, hkf⟩ := HBD.out (.slice none 0 0) (.int .i64 30)
      refine ⟨by simp, .inl ⟨_, _, rfl, run_takeDeferred hD1, ?_⟩⟩
      refine ⟨.tuple #[.slice none 0 0, .int .i64 30], by simp [results, Try.results21, go_sem, g4, g5], ?_⟩
      refine ⟨.inr ⟨HLEN.out, rfl⟩, (HKB.out.trans HKW.out (fun b hb => by have := HLT0.out; simp at hb; subst hb; exact .inr (by omega))).trans hkf (fun b hb => ?_)⟩
      have h2 := HLT0.out
      have h3 := HKB.out.size
      simp at hb
      rcases hb with rfl | rfl | rfl
      · exact .inr (by omega)
      · exact .inr (by omega)
      · exact .inr (by omega)
  case stop =>
    rintro D0 c pre W _ _ h _
    exact h.elim
end Go.Proofs.Ytdeghoigpcbmcaa


/- Super: the document's Crc. -/
namespace Go.Proofs.Ytdeghoigpcbmcaa
open Go.RowKit Go.Emb

set_option maxRecDepth 100000 in
set_option maxHeartbeats 1000000 in
theorem r_crc {w : World} {bv : Value} {bs : List UInt8} {o : Option Nat} (hr : Rd w 1 bv bs.length (Lib.byteCells bs) o) (hn : bs.length ≤ 1000000000) :
    Calls Try.prog 37 #[bv] w fun e w' => e = .returned (.int .u32 (crcL bs : Nat)) ∧ w = w' := by
  obtain ⟨va, vc, rfl⟩ : ∃ a c, bv = .slice a bs.length c := by obtain ⟨-, a, c, h, -⟩ := hr; exact ⟨a, c, h⟩
  have HRD := Lib.hid hr
  clear hr
  go_enter Try.func37, Try.ntmps37
  go_wp2_with fail
  go_loop [3, 4] (fun s i => ∃ k : Nat, k ≤ bs.length ∧ i = .int .i64 k ∧ s = .int .u32 (crcFrom 4294967295 (bs.take k) : Nat)) (fun _ i => bs.length - (RowKit.intOf i).toNat)
  case atStart => exact ⟨0, Nat.zero_le _, rfl, rfl⟩
  case round =>
    obtain ⟨k, hk, rfl, rfl⟩ := hrel
    have hlt32 := crcFrom_lt (bs.take k) (s := 4294967295) (by decide)
    by_cases hlt : k < bs.length
    · have hsn : crcFrom 4294967295 (bs.take (k + 1)) = crcByte (crcFrom 4294967295 (bs.take k)) bs[k] := by rw [List.take_succ_eq_append_getElem hlt, crc_snoc]
      obtain ⟨S, hS⟩ : ∃ S, S = crcFrom 4294967295 (bs.take k) := ⟨_, rfl⟩
      rw [← hS] at hsn hlt32 ⊢
      obtain ⟨b, off, rfl, c0⟩ := rdb_at HRD.out hlt
      obtain ⟨c, hc⟩ : ∃ c, c = bs[k] := ⟨_, rfl⟩
      rw [← hc] at c0 hsn
      have hcl := c.toNat_lt
      have hx1 := bits_xor32 S c.toNat hlt32 (by omega)
      have hw1 : IntKind.u32.wrap (c.toNat : Int) = (c.toNat : Int) := by rw [wrap_u32]; omega
      have hX := xor_lt32 hlt32 c
      have q0 : (0 : Int) ≤ (k : Int) := by omega
      have q1 : (k : Int) < (bs.length : Int) := by omega
      unfold crcByte at hsn
      obtain ⟨X, hXX⟩ : ∃ X, X = S ^^^ c.toNat := ⟨_, rfl⟩
      rw [← hXX] at hx1 hX hsn
      have HSN := Lib.hid hsn
      clear hS hc hsn hXX
      go_wp2_with fail
      go_loop [3, 5] (fun s i => ∃ j : Nat, j ≤ 8 ∧ i = .int .i64 j ∧ s = .int .u32 (Nat.repeat crcStep j X : Nat)) (fun _ i => 8 - (RowKit.intOf i).toNat)
      case atStart => exact ⟨0, by omega, rfl, rfl⟩
      case round =>
        obtain ⟨j, hj, rfl, rfl⟩ := hrel
        have hY := rep_lt j hX
        by_cases hj8 : j < 8
        · have hst : Nat.repeat crcStep (j + 1) X = crcStep (Nat.repeat crcStep j X) := rfl
          obtain ⟨Y, hYY⟩ : ∃ Y, Y = Nat.repeat crcStep j X := ⟨_, rfl⟩
          rw [← hYY] at hY hst ⊢
          have hand := bits_and32 Y hY
          have q2 : (j : Int) < 8 := by omega
          rcases Nat.mod_two_eq_zero_or_one Y with h0 | h1
          · rw [h0] at hand
            have hcs : crcStep Y = Y / 2 := by unfold crcStep; rw [h0]; simp
            have hx2 : (Y : Int) / 2 = ((Nat.repeat crcStep (j + 1) X : Nat) : Int) := by rw [hst, hcs]; omega
            have HX2 := Lib.hid hx2
            clear hYY hx2 hcs hst h0
            go_wp2_with fail
            go_round
            case rel => exact ⟨j + 1, by omega, by go_num, by rw [HX2.out]⟩
            case measure => simp [RowKit.intOf]; omega
          · rw [h1] at hand
            have hcs : crcStep Y = (Y / 2) ^^^ 2197175160 := by unfold crcStep; rw [h1]
            have hxx := bits_xor32 (Y / 2) 2197175160 (by omega) (by omega)
            rw [← hcs] at hxx
            have hx2 : bits BinOp.xor IntKind.u32 ((Y : Int) / 2) 2197175160 = ((Nat.repeat crcStep (j + 1) X : Nat) : Int) := by
              rw [hst, ← hxx]; congr 1
            have HX2 := Lib.hid hx2
            clear hYY hx2 hxx hst hcs h1
            go_wp2_with fail
            go_round
            case rel => exact ⟨j + 1, by omega, by go_num, by rw [HX2.out]⟩
            case measure => simp [RowKit.intOf]; omega
        · obtain rfl : j = 8 := by omega
          go_wp2_with fail
          go_round
          case rel => exact ⟨k + 1, by omega, by go_num, by rw [HSN.out]⟩
          case measure => simp [RowKit.intOf]; omega
    · obtain rfl : k = bs.length := by omega
      have q1 : ¬ (bs.length : Int) < (bs.length : Int) := by omega
      rw [List.take_length] at hlt32 ⊢
      have hnot := bits_not32 _ hlt32
      have hmax : IntKind.u32.max = 4294967295 := by decide
      go_wp2_with fail
      go_ret
      exact ⟨rfl, rfl⟩
end Go.Proofs.Ytdeghoigpcbmcaa

/- Super: the document's Put of a sealed block. Printed by gen-su30.py. -/
namespace Go.Proofs.Ytdeghoigpcbmcaa
open Go.RowKit Go.Emb

theorem r_room (n : Int) (w : World) : Calls Try.prog 36 #[.int .i64 n] w fun e w' => e = .returned (.int .i64 (roomI n)) ∧ w = w' := by
  by_cases h1 : n < 64
  · have hr : roomI n = 0 := by unfold roomI; rw [if_pos (.inl h1)]
    rw [hr]
    go_enter Try.func36, Try.ntmps36
    go_wp2_with fail
    go_ret
    exact ⟨rfl, rfl⟩
  · by_cases h2 : 4096 < n
    · have hr : roomI n = 0 := by unfold roomI; rw [if_pos (.inr h2)]
      rw [hr]
      go_enter Try.func36, Try.ntmps36
      go_wp2_with fail
      go_ret
      exact ⟨rfl, rfl⟩
    · have hr : roomI n = n - 15 := by unfold roomI; rw [if_neg (by omega)]
      have hw : IntKind.i64.wrap (n - 15) = n - 15 := IntWalk.i64_in _ (by omega)
      rw [hr]
      go_enter Try.func36, Try.ntmps36
      go_wp2_with fail
      go_ret
      exact ⟨rfl, rfl⟩
theorem zero_cells (z : Value) (m : Nat) : Builtin.zeroCells #[z] m = (List.replicate m z).toArray := by
  apply Array.ext_getElem?
  intro i
  simp only [Builtin.zeroCells]
  by_cases h : i < m
  · simp [h, Nat.mod_one]
  · simp [h]
/-- append(b, make([]byte, m)...) -/
theorem run_append_made {w : World} {ty b off n cap : Nat} {xs : List Value} (h : Row w 5 1 (.slice (some ⟨b, off, none⟩) n cap) n xs (some b)) (m : Nat) (h63 : n + m ≤ 1000000000) :
    ∃ v' o' w', (Builtin.append_ #[38, 3] ty #[.slice (some ⟨b, off, none⟩) n cap, .int .i64 m]).run Try.prog w = .ok v' w' ∧ Row w' 5 1 v' (n + m) (xs ++ List.replicate m (.int .u8 0)) o' ∧ Keep [b] w w' ∧ (∀ c, o' = some c → b = c ∨ w.heap.size ≤ c) := by
  obtain ⟨i, hi, hz, hik, hib⟩ := u8_ok
  have ht := Try.underlying38
  have htn := Try.underlying3
  have hw : IntKind.i64.wrap (m : Int) = m := IntWalk.i64_in _ (by omega)
  have hneg : ¬ ((m : Int) < 0) := by omega
  have h48i : ¬ (281474976710656 < (m : Int) * (i.bytes : Int)) := by rw [hib]; omega
  have hlen : (xs ++ List.replicate m (Value.int .u8 0)).length = (n + m) * 1 := by rw [List.length_append, h.1, List.length_replicate]; omega
  obtain ⟨hl, h⟩ := h
  rcases h with ⟨h, _⟩ | ⟨b', off', cap', cs, e1, e2, hb, h2, h3, h4, h5⟩
  · cases h
  cases e1; cases e2
  by_cases hroom : n + m ≤ cap
  · by_cases hm : m = 0
    · subst hm
      refine ⟨_, some b, w, ?_, ⟨hlen, .inr ⟨b, off, cap, cs, rfl, rfl, hb, hroom, h3, h4, ?_⟩⟩, Keep.refl _ _, by simp⟩
      · simp [Builtin.append_, run_underlying ht, run_underlying htn, sizeOf, typeInfo, zeroValue, hi, hz, asInt, asIntOf, show IntKind.i64.wrap 0 = 0 from rfl, h2, storeCells]
      · intro j hj
        simpa using h5 j (by omega)
    · have hst := run_storeCells_at Try.prog b (off + n * 1) 5 (List.replicate m (Value.int .u8 0)) 0 cs w hb (by simp; omega) (fun u hu => by rw [List.eq_of_mem_replicate hu]; rfl)
      simp only [Nat.add_zero] at hst
      have hns : ¬ (m * 1 = 0) := by omega
      have hz1 : (Value.int IntKind.u8 0).cells = #[Value.int .u8 0] := rfl
      have hr : (Builtin.append_ #[38, 3] ty #[.slice (some ⟨b, off, none⟩) n cap, .int .i64 m]).run Try.prog w = .ok (.slice (some ⟨b, off, none⟩) (n + m) cap) (w.setRow b (cs.toList.take (off + n * 1) ++ List.replicate m (Value.int .u8 0) ++ cs.toList.drop (off + n * 1 + (List.replicate m (Value.int .u8 0)).length)).toArray) := by
        simp [Builtin.append_, run_underlying ht, run_underlying htn, sizeOf, typeInfo, zeroValue, hi, hz, hik, asInt, asIntOf, hw, hneg, hm, h48i, hroom, hz1, zero_cells, Addr.add_lit] at hst ⊢
        rw [hst]
        simp
      refine ⟨_, some b, _, hr, ⟨hlen, .inr ⟨b, off, cap, _, rfl, rfl, setRow_heap w b cs _ _ _ hb, hroom, h3, ?_, ?_⟩⟩, ⟨rfl, rfl, rfl, by simp [World.setRow], fun k _ hk => setRow_other w b k _ (by simpa using hk)⟩, by simp⟩
      · simp only [List.size_toArray, List.length_append, List.length_take, List.length_drop, Array.length_toList, List.length_replicate]
        omega
      · intro j hj
        rw [List.getElem?_toArray, List.append_assoc]
        by_cases hjn : j < n
        · rw [List.getElem?_append_left (by simp; omega), List.getElem?_append_left (by omega), List.getElem?_take_of_lt (by omega), Array.getElem?_toList]
          exact h5 j (by omega)
        · have ht : (cs.toList.take (off + n * 1)).length = off + n * 1 := by simp; omega
          rw [List.getElem?_append_right (by omega), ht, List.getElem?_append_left (by simp; omega), List.getElem?_append_right (by omega), show off + j - (off + n * 1) = j - xs.length from by omega]
  · have hm : m ≠ 0 := by omega
    have hold : (Builtin.firstCells i.size n (.slice (some ⟨b, off, none⟩) n cap)).run Try.prog w.drew = .ok xs.toArray w.drew := by
      refine run_firstCells_some (P := Try.prog) w.drew i.size n _ n cap xs (by rw [hik]; exact hl) (fun j u hu => ?_)
      have hj : j < n * 1 := by
        rcases Nat.lt_or_ge j xs.length with h | h
        · omega
        · rw [List.getElem?_eq_none h] at hu; cases hu
      have hadd : (⟨b, off, none⟩ : Addr).add j = ⟨b, off + j, none⟩ := by unfold Addr.add; split <;> simp_all
      rw [hadd, ← hu, ← h5 j hj]
      show w.cell? _ = _
      simp [World.cell?, hb]
    have hz1 : (Value.int IntKind.u8 0).cells = #[Value.int .u8 0] := rfl
    have hfit := growslice_fits (need := n + m) (old := cap) (bytes := i.bytes) (by omega) (by rw [hib]; omega)
    have h48' : ¬ (281474976710656 < Builtin.nextslicecap (n + m) cap * i.bytes) := by omega
    have h63' : ¬ (9223372036854775807 < ((n : Int) + (m : Int))) := by omega
    have hr : (Builtin.append_ #[38, 3] ty #[.slice (some ⟨b, off, none⟩) n cap, .int .i64 m]).run Try.prog w = .ok (.slice (some ⟨w.heap.size, 0, none⟩) (n + m) (grownCap w (n + m) cap 5)) (w.drew.alloc (.cells ((xs ++ List.replicate m (Value.int .u8 0)).toArray ++ Builtin.zeroCells (Value.int .u8 0).cells (grownCap w (n + m) cap 5 - (n + m))) 5)) := by
      rw [hik] at hold
      simp [Builtin.append_, run_underlying ht, run_underlying htn, sizeOf, typeInfo, zeroValue, hi, hz, hik, asInt, asIntOf, hw, hneg, hm, h48i, hroom, h63', h48', hold, Question.forced, newRow, grownCap, hz1, zero_cells]
      refine congrArg (fun z : Array Value => w.drew.alloc (.cells z 5)) (Array.ext' ?_)
      simp [← List.replicate_append_replicate]
    have hge := grownCap_ge w (n + m) cap 5
    have hcm : grownCap w (n + m) cap 5 ≤ maxLen := grownCap_le_maxLen w (n + m) cap 5 (by unfold maxLen; omega)
    refine ⟨_, some w.heap.size, _, hr, ⟨hlen, .inr ⟨w.heap.size, 0, _, _, rfl, rfl, heap_alloc_new w.drew _, hge, hcm, ?_, ?_⟩⟩, (Keep.refl _ _).drew.alloc _, by simp⟩
    · rw [hz1, zero_cells]
      simp only [Array.size_append, List.size_toArray, hlen, List.length_replicate]
      omega
    · intro j hj
      rw [Nat.zero_add, Array.getElem?_append_left (by simp only [List.size_toArray, hlen]; exact hj)]
      simp
theorem wpList_append_made (w : World) {ops : Array Oper} {rest : List Oper} {o : Oper} {a : Act} {Q : Exit → Act → World → Prop} (hgd : o.guard = none) (s x : Operand) (ho : o.op = .call { callee := .builtin .append, args := #[s, x], argTypes := #[38, 3] })
    (b off n cap : Nat) (xs : List Value) (hs : a.eval s = .slice (some ⟨b, off, none⟩) n cap) (hown : Row w 5 1 (.slice (some ⟨b, off, none⟩) n cap) n xs (some b)) (m : Nat) (hx : a.eval x = .int .i64 m) (h63 : n + m ≤ 1000000000)
    (h : ∀ v' o' w', Row w' 5 1 v' (n + m) (xs ++ List.replicate m (.int .u8 0)) o' → Keep [b] w w' → (∀ c, o' = some c → b = c ∨ w.heap.size ≤ c) → wpList Try.prog ops Q rest (a.put o.dst v') w') : wpList Try.prog ops Q (o :: rest) a w := by
  refine wpList_plain hgd fun K' hK' => ?_
  obtain ⟨v', o', w', hr, h2, h3, h4⟩ := run_append_made (ty := o.type) hown m h63
  unfold Oper.wp execOp
  simp only [ho, resolve, invoke, builtin, Sem.run_bind, Sem.run_pure, Result.andThen_ok, List.map_toArray, List.map_cons, List.map_nil, hs, hx, hr]
  exact hK' _ _ (h v' o' w' h2 h3 h4)
theorem bytes_one (l : List UInt8) : ∀ u ∈ Lib.byteCells l, u.oneCell' = true := by
  intro u hu
  obtain ⟨c, -, rfl⟩ := List.mem_map.1 (show u ∈ l.map _ from hu)
  rfl
/-- a literal of bytes -/
theorem rb_lit (w : World) {cs : Array Value} {l : List UInt8} (h : cs = (Lib.byteCells l).toArray) (hl : l.length ≤ maxLen) : RB (w.alloc (.cells cs 5)) (.slice (some ⟨w.heap.size, 0, none⟩) l.length l.length) l (some w.heap.size) := by
  subst h
  have hbl : (Lib.byteCells l).length = l.length := by simp [Lib.byteCells]
  exact ⟨by rw [hbl]; omega, .inr ⟨w.heap.size, 0, l.length, _, rfl, rfl, heap_alloc_new w _, Nat.le_refl _, hl, by simp [hbl], fun j hj => by simp⟩⟩
end Go.Proofs.Ytdeghoigpcbmcaa


/- Super: the document's Put of a sealed block: the walk. Printed by gen-su31.py. -/
namespace Go.Proofs.Ytdeghoigpcbmcaa
open Go.RowKit Go.Emb

theorem src_lit (w : World) (xs : List Value) (h1 : ∀ u ∈ xs, u.oneCell' = true) (n B : Nat) (hn : xs.length = n) (hB : w.heap.size = B) (t : TypeId) : Src Try.prog 1 38 (.slice (some ⟨B, 0, none⟩) n n) n xs (w.alloc (.cells xs.toArray t)) := by
  subst hn hB
  exact Src.ofSlice _ Try.underlying38 ⟨w.heap.size, 0, none⟩ _ _ xs (by omega) (fun j u hj => by
    have h := heap_alloc_new w (.cells xs.toArray t)
    rw [show (⟨w.heap.size, 0, none⟩ : Addr).add j = ⟨w.heap.size, 0 + j, none⟩ by unfold Addr.add; split <;> simp_all, World.cell?, h]
    simpa using hj) h1
theorem hi2_cells (n : Nat) (h : n < 65536) : Lib.byteCells (hiL 2 n) = [.int .u8 ((n : Int) / 256), .int .u8 ((n : Int) % 256)] := by
  simp [Lib.byteCells, hiL]
  omega
theorem hi4_cells (n : Nat) (h : n < 4294967296) : Lib.byteCells (hiL 4 n) = [.int .u8 ((n : Int) / 16777216), .int .u8 ((n : Int) / 65536 % 256), .int .u8 ((n : Int) / 256 % 256), .int .u8 ((n : Int) % 256)] := by
  simp [Lib.byteCells, hiL]
  omega
/-- a row of bytes that is grown -/
theorem rb_grow {w : World} {v : Value} {bs news : List UInt8} {cs : List Value} {m : Nat} {o : Option Nat} (hm : news.length = m) (hcs : Lib.byteCells news = cs) (h : Row w 5 1 v (bs.length + m) (Lib.byteCells bs ++ cs) o) : RB w v (bs ++ news) o := by
  subst hm hcs
  unfold RB
  rw [List.length_append, ← byteCells_append]
  exact h
theorem row_grow {w : World} {v : Value} {n : Nat} {bs news : List UInt8} {cs : List Value} {o : Option Nat} (hcs : Lib.byteCells news = cs) (h : Row w 5 1 v n (Lib.byteCells bs ++ cs) o) : Row w 5 1 v n (Lib.byteCells (bs ++ news)) o := by
  subst hcs
  rw [← byteCells_append]
  exact h
set_option maxRecDepth 100000 in
set_option maxHeartbeats 4000000 in
theorem r_sput {w : World} {size num : Nat} {kind : UInt8} {lv : Value} {load : List UInt8} {lo : Option Nat} (hr : Rd w 1 lv load.length (Lib.byteCells load) lo) (hok : SealOk size ⟨kind, num, load⟩) :
    Calls Try.prog 20 #[.int .i64 size, .agg #[.int .u8 kind.toNat, .int .u64 num, lv]] w fun e w' => e = .returned (.tuple #[.string ⟨(sealL size ⟨kind, num, load⟩).toArray⟩, .int .i64 0]) ∧ Keep [] w w' := by
  obtain ⟨la, lc, rfl⟩ : ∃ a c, lv = .slice a load.length c := by obtain ⟨-, a, c, h, -⟩ := hr; exact ⟨a, c, h⟩
  have hsz : ¬ (size < 64 ∨ 4096 < size) := by
    intro h
    obtain ⟨h1, -⟩ := hok
    unfold roomN at h1
    rw [if_pos h] at h1
    exact h1 rfl
  have hrm : roomN size = size - 15 := by unfold roomN; rw [if_neg hsz]
  have hll : load.length ≤ size - 15 := by have := hok.2.2.1; rwa [hrm] at this
  have hnum : num < 18446744073709551616 := hok.2.2.2
  have hk0' : ((kind.toNat : Int) == 0) = false := beq_eq_false_iff_ne.2 (fun h => hok.2.1 (UInt8.toNat.inj (show kind.toNat = 0 by omega)))
  have hk1 : Keep [] w (w.alloc (.cells #[.int .u8 kind.toNat, .int .u64 num, .slice la load.length lc] 52)) := (Keep.refl [] w).alloc _
  have hb1 := heap_alloc_new w (.cells #[.int .u8 kind.toNat, .int .u64 num, .slice la load.length lc] 52)
  have hroom := r_room (size : Int)
  rw [roomI_nat, hrm] at hroom
  obtain ⟨rm, hrr⟩ : ∃ r, r = size - 15 := ⟨_, rfl⟩
  rw [← hrr] at hroom hll
  have HRR := Lib.hid hrr
  have HR := Lib.hid hr
  have HK1 := Lib.hid hk1
  have HB1 := Lib.hid hb1
  have HRM := Lib.hid (fun W => (hroom W).mono (R' := fun e w' => e = .returned (.int .i64 (rm : Nat)) ∧ Keep [] W w') (fun e w' h => ⟨h.1, h.2 ▸ Keep.refl [] _⟩))
  have HSZ := Lib.hid hsz
  have HOK := Lib.hid hok
  have q0 : ¬ (size : Int) < 64 := by omega
  have q1 : ¬ (4096 : Int) < (size : Int) := by omega
  have q2 : ¬ (rm : Int) < (load.length : Int) := by omega
  obtain ⟨i0, hi, hz0, hz1, hz2⟩ := u8_ok
  have HI := Lib.hid hi
  have hk8 : kind.toNat < 256 := kind.toNat_lt
  obtain ⟨c0, c1, c2⟩ := cells3b hb1
  clear hr hk1 hb1 hroom hrr hsz hrm hok hi
  go_enter Try.func20, Try.ntmps20
  go_upto_region 3 with fail
  generalize w.alloc (.cells #[.int .u8 kind.toNat, .int .u64 num, .slice la load.length lc] 52) = w1 at *
  refine wp_region_held_drew (S := fun w' => Keep [] w1 w') (by kernel_rfl) ((Keep.refl [] w1).drew) (fun hHeld => ?_)
  refine wpAnyH_takeL (i := 0) (v := ?vR0) rfl (by kernel_rfl) (by kernel_rfl) (by kernel_rfl) (fun _ _ _ h => h) (Or.inl ⟨by kernel_rfl, ?runR0⟩) hHeld ?_
  case runR0 => (intro w9 hS9; obtain ⟨c0, c1, c2⟩ := cells3b (blkk HB1.out hS9 (by simp)); go_simp; try exact rfl)
  try simp only [Act.put, List.setIfInBounds_toArray, List.set_cons_zero, List.set_cons_succ]
  refine wpAnyH_takeL (i := 1) (v := ?vR1) rfl (by kernel_rfl) (by kernel_rfl) (by kernel_rfl) (fun _ _ _ h => h) (Or.inl ⟨by kernel_rfl, ?runR1⟩) hHeld ?_
  case runR1 => (intro w9 hS9; obtain ⟨c0, c1, c2⟩ := cells3b (blkk HB1.out hS9 (by simp)); go_simp; try exact rfl)
  try simp only [Act.put, List.setIfInBounds_toArray, List.set_cons_zero, List.set_cons_succ]
  refine wpAnyH_takeL (i := 2) (v := ?vR2) rfl (by kernel_rfl) (by kernel_rfl) (by kernel_rfl) (fun _ _ _ h => h) (Or.inl ⟨by kernel_rfl, ?runR2⟩) hHeld ?_
  case runR2 => (intro w9 hS9; obtain ⟨c0, c1, c2⟩ := cells3b (blkk HB1.out hS9 (by simp)); go_simp; try exact rfl)
  try simp only [Act.put, List.setIfInBounds_toArray, List.set_cons_zero, List.set_cons_succ]
  refine wpAnyH_takeL (i := 3) (v := ?vR3) rfl (by kernel_rfl) (by kernel_rfl) (by kernel_rfl) (fun _ _ _ h => h) (Or.inl ⟨by kernel_rfl, ?runR3⟩) hHeld ?_
  case runR3 => (intro w9 hS9; obtain ⟨c0, c1, c2⟩ := cells3b (blkk HB1.out hS9 (by simp)); go_simp; try exact rfl)
  try simp only [Act.put, List.setIfInBounds_toArray, List.set_cons_zero, List.set_cons_succ]
  have HC0 := Lib.hid hHeld
  refine wpAnyH_ready (rs := [4]) (by kernel_rfl) (by simp) ?_
  refine AllReadyH.consL rfl (fun K hK => ?_) AllReadyH.nil
  go_simp
  refine (HRM.out _).mono ?_
  rintro e wc1 ⟨rfl, hc1⟩
  have HC1 := Lib.hid (HC0.out.trans hc1 (by simp))
  clear hc1
  go_wp2_with fail
  refine hK.out _ _ HC1.out (fun hHeld2 => ?_)
  clear hK K hHeld
  have hHeld := hHeld2
  clear hHeld2
  try simp only [Act.put, List.setIfInBounds_toArray, List.set_cons_zero, List.set_cons_succ]
  refine wpAnyH_takeL (i := 5) (v := .bool false) rfl (by kernel_rfl) (by kernel_rfl) (by kernel_rfl) (fun _ _ _ h => h) (Or.inl ⟨by kernel_rfl, ?runR5⟩) hHeld ?_
  case runR5 => (intro w9 hS9; obtain ⟨c0, c1, c2⟩ := cells3b (blkk HB1.out hS9 (by simp)); go_simp; first | done | exact rfl | omega | (simp [*]; done) | (simp; omega))
  try simp only [Act.put, List.setIfInBounds_toArray, List.set_cons_zero, List.set_cons_succ]
  refine wpAnyH_done (by kernel_rfl) ?_ _
  have hkc := HC1.out
  generalize wc1 = w2 at *
  clear c0 c1 c2 HC0 hHeld
  obtain ⟨c0, c1, c2⟩ := cells3b (blkk HB1.out hkc (by simp))
  have hszw : w.heap.size < w2.heap.size := (Array.getElem?_eq_some_iff.1 (blkk HB1.out hkc (by simp))).1
  clear hkc q0 q1
  have hrb0 := rb_lit w2 (cs := #[.int .u8 kind.toNat]) (l := [kind]) rfl (by simp [maxLen])
  have HRB0 := Lib.hid hrb0
  clear hrb0
  go_wp2_with fail
  go_loopw [6, 7] (fun v i wr => ∃ (j : Nat) (J : Int) (o' : Option Nat) (pre : List UInt8), j ≤ 8 ∧ .int .i64 J = i ∧ J = (j : Int) - 1 ∧ pre ++ hiL j num = kind :: hiL 8 num ∧ pre.length = 9 - j ∧ RB wr v pre o' ∧ Keep [] w2 wr ∧ (∀ b, o' = some b → w2.heap.size ≤ b)) (fun _ i _ => (intOf i + 1).toNat)
  case atStart => exact ⟨8, 7, some w2.heap.size, [kind], Nat.le_refl _, rfl, rfl, rfl, rfl, HRB0.out, (Keep.refl [] w2).alloc _, by rintro b ⟨⟩; exact Nat.le_refl _⟩
  case round =>
    obtain ⟨j, J, o', pre, hj, rfl, hJ, hpre, hpl, hrow, hk, ho⟩ := hrel
    obtain ⟨c0', c1', c2'⟩ := cells3b (blkk (blkk HB1.out HC1.out (by simp)) hk (by simp))
    obtain ⟨a', c', rfl, hc3, hc4⟩ := hrow.form
    have HR0 : Hid (Row wr 5 1 (.slice a' pre.length c') pre.length (Lib.byteCells pre) o') := hrow
    have HK := Lib.hid hk
    have HO := Lib.hid ho
    have HP := Lib.hid hpre
    have hpb : pre.length ≤ 9 := by omega
    have HPL := Lib.hid hpl
    clear hrow hk ho hpre hpl HRB0 c0 c1 c2
    by_cases hj0 : j = 0
    · subst hj0
      obtain rfl : J = -1 := by omega
      have htd : (load.length : Int).tdiv 256 = (load.length : Int) / 256 := Int.tdiv_eq_ediv_of_nonneg (by omega)
      have htm : (load.length : Int).tmod 256 = (load.length : Int) % 256 := Int.tmod_eq_emod_of_nonneg (by omega)
      obtain ⟨L, hL⟩ : ∃ L, L = load.length := ⟨_, rfl⟩
      have hLb : L ≤ 4081 := by have := HSZ.out; have := HRR.out; omega
      clear hJ hj
      clear hL L hLb
      have hL := HSZ.out
      have hL2 := HRR.out
      have q0 : (64 : Int) ≤ (size : Int) := by omega
      have q1 : (size : Int) ≤ 4096 := by omega
      obtain ⟨m, hm⟩ : ∃ m, m = size - 15 - load.length := ⟨_, rfl⟩
      have hmm : size = m + 15 + load.length := by omega
      have HM := Lib.hid hm
      have HMM := Lib.hid hmm
      have hLb : load.length ≤ 4081 := by omega
      have hmb : m ≤ 4081 := by omega
      clear hL hL2 hm hmm
      go_wp2_with (at_builtin; refine wpList_append_row _ rfl _ _ 38 38 rfl 5 i0 (.int .u8 0) 1 1 Try.underlying38 HI.out hz0 hz1 hz2 rfl _ _ _ o' rfl (Row.keep HR0.out (F := []) ((Keep.refl [] _).alloc _) (by simp)) _ rfl 2 _ (src_lit _ [_, _] (by simp [Value.oneCell']) 2 _ rfl rfl _) (by omega) (by unfold maxLen; omega) (by omega) ?_)
      intro g4 off4 cap4 w4 hr4 hk4 hg4
      have hkk4 : Keep [] w2 w4 := (HK.out.alloc _).trans hk4 (fun b hb => .inr (HO.out b (by simpa using hb)))
      have hgg4 : w2.heap.size ≤ g4 := by
        rcases hg4 with h | h
        · exact HO.out g4 h
        · have := HK.out.size; omega
      have HR4 := Lib.hid (row_grow (hi2_cells load.length (by omega)) hr4)
      have HKK4 := Lib.hid hkk4
      have hk04 : Keep [] w w4 := (HK1.out.trans HC1.out (by simp)).trans hkk4 (by simp)
      have HK04 := Lib.hid hk04
      obtain ⟨c0, c1, c2⟩ := cells3b (blkk (blkk HB1.out HC1.out (by simp)) hkk4 (by simp))
      clear hr4 hk4 hg4 hkk4 hk04 c0' c1' c2' HR0
      obtain ⟨P4, hP4⟩ : ∃ P, P = pre ++ hiL 2 load.length := ⟨_, rfl⟩
      rw [← hP4] at HR4
      have HP4 := Lib.hid hP4
      clear hP4
      go_wp2_with (at_builtin; refine wpList_append_rd _ rfl _ _ 38 38 rfl 5 5 i0 (.int .u8 0) 1 1 Try.underlying38 Try.underlying38 HI.out hz0 hz1 hz2 rfl _ _ _ _ _ rfl HR4.out _ rfl load.length _ lo (HR.out.keep HK04.out (by simp)) (bytes_one _) (by unfold maxLen; omega) (by omega) ?_)
      intro g5 off5 cap5 w5 hr5 hk5 hg5
      have hkk5 : Keep [] w2 w5 := HKK4.out.trans hk5 (fun b hb => .inr (by simp at hb; subst hb; exact hgg4))
      have hgg5 : w2.heap.size ≤ g5 := by
        rcases hg5 with h | h
        · rw [← h]; exact hgg4
        · have := HKK4.out.size; omega
      have HR5 := Lib.hid (row_grow rfl hr5)
      have HKK5 := Lib.hid hkk5
      clear hr5 hk5 hg5 hkk5 c0 c1 c2 HR4 hgg4
      obtain ⟨P5, hP5⟩ : ∃ P, P = P4 ++ load := ⟨_, rfl⟩
      rw [← hP5] at HR5
      have HP5 := Lib.hid hP5
      clear hP5
      go_wp2_with (at_builtin; refine wpList_append_made _ rfl _ _ rfl g5 off5 _ cap5 _ rfl HR5.out m (congrArg (Value.int .i64) (by have := HMM.out; have := HPL.out; omega)) (by omega) ?_)
      intro v6 o6 w6 hr6 hk6 hg6
      have hkk6 : Keep [] w2 w6 := HKK5.out.trans hk6 (fun b hb => .inr (by simp at hb; subst hb; exact hgg5))
      have hgg6 : ∀ c, o6 = some c → w2.heap.size ≤ c := by
        intro c hc
        rcases hg6 c hc with h | h
        · rw [← h]; exact hgg5
        · have := HKK5.out.size; omega
      have hz6 : Lib.byteCells (List.replicate m (0 : UInt8)) = List.replicate m (.int .u8 0) := by simp [Lib.byteCells]
      have hr6' := row_grow hz6 hr6
      obtain ⟨P6, hP6⟩ : ∃ P, P = sealHead size ⟨kind, num, load⟩ := ⟨_, rfl⟩
      have hPP : P5 ++ List.replicate m 0 = P6 := by
        have e := HP.out
        rw [show hiL 0 num = [] from rfl, List.append_nil] at e
        rw [hP6, HP5.out, HP4.out, e, HM.out]
        simp [sealHead]
      rw [hPP] at hr6'
      have hn6 : pre.length + 2 + load.length + m = P6.length := by
        rw [hP6, sealHead_len HOK.out]; have := HMM.out; have := HPL.out; omega
      rw [hn6] at hr6'
      obtain ⟨a6, c6, rfl, -, -⟩ := (show RB w6 v6 P6 o6 from hr6').form
      have hl6 : P6.length ≤ 4092 := by rw [← hn6]; have := HMM.out; have := HPL.out; omega
      obtain ⟨o6', hrd6, -⟩ := Row.rd hr6'
      have HCRC := Lib.hid (r_crc (w := w6) hrd6 (by omega))
      have HR6 := Lib.hid hr6'
      have HKK6 := Lib.hid hkk6
      have HG6 := Lib.hid hgg6
      have HP6 := Lib.hid hP6
      clear hr6 hr6' hk6 hg6 hkk6 hgg6 hz6 hPP hrd6 HR5 HKK5 hgg5 hP6
      clear hn6
      go_wp2_with fail
      refine HCRC.out.mono ?_
      rintro e w7 ⟨rfl, rfl⟩
      have hcl := crcL_lt P6
      obtain ⟨C, hC⟩ : ∃ C, C = crcL P6 := ⟨_, rfl⟩
      rw [← hC] at hcl ⊢
      have HC := Lib.hid hC
      clear hC
      go_wp2_with (at_builtin; refine wpList_append_row _ rfl _ _ 38 38 rfl 5 i0 (.int .u8 0) 1 1 Try.underlying38 HI.out hz0 hz1 hz2 rfl _ _ _ o6 rfl (Row.keep HR6.out (F := []) ((Keep.refl [] _).alloc _) (by simp)) _ rfl 4 _ (src_lit _ [_, _, _, _] (by simp [Value.oneCell']) 4 _ rfl rfl _) (by omega) (by unfold maxLen; omega) (by omega) ?_)
      intro g8 off8 cap8 w8 hr8 hk8 hg8
      have hkk8 : Keep [] w2 w8 := (HKK6.out.alloc _).trans hk8 (fun b hb => .inr (HG6.out b (by simpa using hb)))
      have hrb8 := rb_grow (bs := P6) (hiL_len 4 C) (hi4_cells C hcl) hr8
      obtain ⟨o8, hrd8, -⟩ := Row.rd hrb8
      have hsl : P6 ++ hiL 4 C = sealL size ⟨kind, num, load⟩ := by rw [HC.out, HP6.out]; rfl
      have hcv := rd_text (P := Try.prog) (src := 38) (e := 5) (dst := 9) hrd8 Try.underlying38 Try.underlying5 Try.underlying9
      rw [hsl] at hcv
      obtain ⟨S, hS⟩ : ∃ S, S = sealL size ⟨kind, num, load⟩ := ⟨_, rfl⟩
      rw [← hS] at hcv
      have HS := Lib.hid hS
      have HKK8 := Lib.hid hkk8
      clear hkk8 hr8 hk8 hg8 hrb8 hrd8 hsl hS HCRC HR6
      go_wp2_with fail
      refine bodyPost_ret (results_tmp2 rfl _ _ _) rfl ?_
      exact ⟨by rw [← HS.out]; rfl, (HK1.out.trans HC1.out (by simp)).trans HKK8.out (by simp)⟩
    · obtain ⟨k, rfl⟩ : ∃ k : Nat, j = k + 1 := ⟨j - 1, by omega⟩
      obtain rfl : J = (k : Int) := by omega
      have hby := byte_cell num k
      have hnx : (pre ++ [UInt8.ofNat (num / 256 ^ k)]) ++ hiL k num = kind :: hiL 8 num := by rw [← HP.out, hiL_cons]; simp
      have HBY := Lib.hid hby
      have HNX := Lib.hid hnx
      have q0 : (0 : Int) ≤ (k : Int) := by omega
      have q3 : (k : Int) ≤ 7 := by omega
      clear hby hnx hJ hj0
      go_wp2_with (at_builtin; refine wpList_append_row _ rfl _ _ 38 38 rfl 5 i0 (.int .u8 0) 1 1 Try.underlying38 HI.out hz0 hz1 hz2 rfl _ _ _ o' rfl (Row.keep HR0.out (F := []) ((Keep.refl [] _).alloc _) (by simp)) _ rfl 1 _ (src_lit _ [_] (by simp [Value.oneCell']) 1 _ rfl rfl _) (by omega) (by unfold maxLen; omega) (by omega) ?_)
      intro g off cap w3 hr3 hk3 hg3
      have hrb := rb_grow (bs := pre) (news := [UInt8.ofNat (num / 256 ^ k)]) rfl HBY.out hr3
      have hkk : Keep [] w2 w3 := (HK.out.alloc _).trans hk3 (fun b hb => .inr (HO.out b (by simpa using hb)))
      have hgg : w2.heap.size ≤ g := by
        rcases hg3 with h | h
        · exact HO.out g h
        · have := HK.out.size; omega
      have HRB := Lib.hid hrb
      have HKK := Lib.hid hkk
      have hpl' := HPL.out
      clear hr3 hk3 hg3 hrb hkk
      go_wp2_with fail
      go_roundw
      case rel => exact ⟨k, (k : Int) - 1, some g, _, by omega, rfl, rfl, HNX.out, by rw [List.length_append, hpl']; simp; omega, HRB.out, HKK.out, by rintro b ⟨⟩; exact hgg⟩
      case measure => simp [intOf]
end Go.Proofs.Ytdeghoigpcbmcaa


/- Super: the document's Parts (of blocks of 64 bytes). -/
namespace Go.Proofs.Ytdeghoigpcbmcaa
open Go.RowKit Go.Emb

def partsB (s : ByteArray) : Nat → List ByteArray
  | 0 => []
  | k + 1 => partsB s k ++ [s.extract (49 * k) (min (49 * k + 49) s.size)]
theorem partsB_len (s : ByteArray) (k : Nat) : (partsB s k).length = k := by
  induction k with
  | zero => rfl
  | succ k ih => simp [partsB, ih]
theorem partsB_at (s : ByteArray) : ∀ (k j : Nat), j < k → (partsB s k)[j]? = some (s.extract (49 * j) (min (49 * j + 49) s.size))
  | k + 1, j, h => by
    unfold partsB
    by_cases hj : j < k
    · rw [List.getElem?_append_left (by rw [partsB_len]; exact hj)]
      exact partsB_at s k j hj
    · obtain rfl : j = k := by omega
      rw [List.getElem?_append_right (by rw [partsB_len]; omega), partsB_len]
      simp
def RowS (w : World) (v : Value) (l : List ByteArray) (o : Option Nat) : Prop := Row w 9 1 v l.length (l.map .string) o
theorem RowS.form {w : World} {v : Value} {l : List ByteArray} {o : Option Nat} (h : RowS w v l o) : ∃ a c, v = .slice a l.length c := by
  obtain ⟨-, ⟨-, rfl, h0⟩ | ⟨b, off, cap, cs, rfl, rfl, h1, h2, h3, -⟩⟩ := h
  · exact ⟨none, 0, by rw [h0]⟩
  · exact ⟨_, _, rfl⟩
theorem str_info : (Try.prog.info? 9).map (fun i => (i.zero, i.size, i.bytes)) = some (some (.string ⟨#[]⟩), 1, 16) := by kernel_rfl
def strLen : Value → Nat
  | .string s => s.size
  | _ => 0
def PartsP (w : World) (s : ByteArray) (e : Ending) (w' : World) : Prop :=
  ∃ v K o, e = .returned v ∧ RowS w' v (partsB s K) o ∧ s.size ≤ 49 * K ∧ (K = 0 ∨ 49 * (K - 1) < s.size) ∧ Keep [] w w' ∧ ∀ b, o = some b → w.heap.size ≤ b
set_option maxRecDepth 100000 in
set_option maxHeartbeats 4000000 in
theorem r_parts {w : World} {s : ByteArray} (hs : s.size ≤ 1000000) :
    Calls Try.prog 19 #[.int .i64 64, .string s] w (PartsP w s) := by
  have hroom := (r_room (64 : Nat) w).mono (R' := fun e w' => e = .returned (.int .i64 49) ∧ w = w') (fun e w' h => by rw [roomI_nat] at h; exact h)
  have HRM := Lib.hid hroom
  obtain ⟨i0, hi, hz0, hz1, hz2⟩ := info_parts str_info
  have HI := Lib.hid hi
  clear hroom hi
  go_enter Try.func19, Try.ntmps19
  go_wp2_with fail
  refine HRM.out.mono ?_
  rintro e w1 ⟨rfl, rfl⟩
  go_wp2_with fail
  go_loopw [1, 6, 7] (fun p v _ wr => ∃ (j : Nat) (T : ByteArray) (o' : Option Nat), .string T = p ∧ T = s.extract (49 * j) s.size ∧ RowS wr v (partsB s j) o' ∧ (j = 0 ∨ 49 * (j - 1) < s.size) ∧ Keep [] w wr ∧ (∀ b, o' = some b → w.heap.size ≤ b)) (fun p _ _ _ => strLen p)
  case atStart => exact ⟨0, s, none, rfl, by simp, Row.nil _ _ _, .inl rfl, Keep.refl _ _, by simp⟩
  case round =>
    obtain ⟨j, T, o', rfl, hT, hrow, hj, hk, ho⟩ := hrel
    have hTs : T.size = s.size - 49 * j := by rw [hT]; simp
    obtain ⟨a, c, rfl⟩ := hrow.form
    have HROW := Lib.hid hrow
    have HT := Lib.hid hT
    have HK := Lib.hid hk
    have HO := Lib.hid ho
    have HJ := Lib.hid hj
    have HTS := Lib.hid hTs
    clear hrow hT hk ho
    rw [partsB_len] at *
    by_cases h0 : T.size = 0
    · clear hj hTs
      go_wp2_with fail
      go_ret
      exact ⟨_, j, o', rfl, HROW.out, by have := HTS.out; omega, HJ.out, HK.out, HO.out⟩
    · have hpos : 0 < T.size := by omega
      have hjb : j ≤ 1000000 := by omega
      obtain ⟨m, hm⟩ : ∃ m, m = min 49 T.size := ⟨_, rfl⟩
      have hm1 : m ≤ T.size := by omega
      have hm2 : m ≤ 49 := by omega
      have HM := Lib.hid hm
      have hmi : min (49 : Int) (T.size : Int) = (m : Int) := by omega
      have hmm : (0 : Int) ≤ (m : Int) ∧ (m : Int) ≤ (T.size : Int) := by omega
      have hpi : 0 < T.size := hpos
      clear hj hTs h0 hm hpos
      have hrow' : Row wr 9 1 (.slice a j c) j ((partsB s j).map .string) o' := by have h := HROW.out; unfold RowS at h; rwa [partsB_len] at h
      have HROW' := Lib.hid hrow'
      clear hrow' HROW
      go_wp2_with (at_builtin; (refine wpList_append_row _ rfl _ _ 47 47 rfl 9 i0 (.string ⟨#[]⟩) 1 16 Try.underlying47 HI.out hz0 hz1 hz2 rfl _ _ _ o' rfl (Row.keep HROW'.out (F := []) ((Keep.refl [] _).alloc _) (by simp)) _ rfl 1 _ (one_src Try.underlying47 wr _ rfl _) (by omega) (by unfold maxLen; omega) (by omega) ?_))
      intro g off cap w3 hr3 hk3 hg3
      have hkk : Keep [] w w3 := (HK.out.alloc _).trans hk3 (fun b hb => .inr (HO.out b (by simpa using hb)))
      have hgg : w.heap.size ≤ g := by
        rcases hg3 with h | h
        · exact HO.out g h
        · have := HK.out.size; omega
      have hts := HTS.out
      have hx1 : T.extract 0 m = s.extract (49 * j) (min (49 * j + 49) s.size) := by
        rw [HT.out]
        apply ByteArray.ext
        simp only [ByteArray.data_extract]
        rw [Array.extract_extract]
        congr 1
        omega
      have hx2 : T.extract m T.size = s.extract (49 * (j + 1)) s.size := by
        have hmm := HM.out
        by_cases h49 : 49 ≤ T.size
        · rw [hts, HT.out]
          apply ByteArray.ext
          simp only [ByteArray.data_extract]
          rw [Array.extract_extract]
          congr 1 <;> omega
        · apply ByteArray.ext
          simp only [ByteArray.data_extract]
          rw [Array.extract_empty_of_stop_le_start (by omega), Array.extract_empty_of_stop_le_start (by omega)]
      have hrow3 : RowS w3 (.slice (some ⟨g, off, none⟩) (j + 1) cap) (partsB s (j + 1)) (some g) := by
        unfold RowS
        rw [partsB_len]
        unfold partsB
        rw [List.map_append, ← hx1]
        exact hr3
      have HR3 := Lib.hid hrow3
      have HKK := Lib.hid hkk
      have HX2 := Lib.hid hx2
      have hjl : 49 * j < s.size := by omega
      have HJL := Lib.hid hjl
      clear hr3 hk3 hg3 hkk hrow3 hx1 hx2 hts hjl HROW'
      go_wp2_with fail
      go_roundw
      case rel => exact ⟨j + 1, _, some g, rfl, HX2.out, HR3.out, .inr (by have := HJL.out; omega), HKK.out, by rintro b ⟨⟩; exact hgg⟩
      case measure => simp [strLen]; omega
end Go.Proofs.Ytdeghoigpcbmcaa

/- Super: blocks that are laid one behind the other, as pieces. -/
namespace Go.Proofs.Ytdeghoigpcbmcaa
open Go.RowKit Go.Emb Go.Emb.Ext

/-- i blocks are laid as pieces, all of them ahead of 'at_' -/
structure Laid (pt : Nat → List UInt8) (d : DS) (ps : List E) (a : Nat) (i : Nat) : Prop where
  ok : d.ok
  n : d.n = 128
  sz : d.sz = 64
  off : d.off = false
  left : d.left = -1
  a2 : 2 ≤ a
  good : ∀ e ∈ ps, okE 128 e ∧ e.1 + e.2 ≤ a
  chain : ps.Pairwise (fun x y => x.1 + x.2 ≤ y.1)
  len : (blkL ps).length = i
  pl : ps.length ≤ i
  lt : ∀ k ∈ blkL ps, k < a
  holds : (blkL ps).map (fun k => openS (blkOf d k)) = (List.range i).map (fun j => some ⟨120, j, pt j⟩)
theorem Laid.up {pt : Nat → List UInt8} {d : DS} {ps : List E} {a b i : Nat} (h : Laid pt d ps a i) (hb : a ≤ b) : Laid pt d ps b i :=
  { h with a2 := by have := h.a2; omega, good := fun e he => ⟨(h.good e he).1, by have := (h.good e he).2; omega⟩, lt := fun k hk => by have := h.lt k hk; omega }
theorem blkL_app (l m : List E) : blkL (l ++ m) = blkL l ++ blkL m := by simp [blkL, List.flatMap_append]
theorem blkE_one (a : Nat) : blkE ((a : Int), (1 : Int)) = [a] := by simp [blkE, List.range_succ]
theorem blkE_more {f l : Int} {a : Nat} (hf : 0 ≤ f) (hl : 0 ≤ l) (h : f + l = a) : blkE (f, l + 1) = blkE (f, l) ++ [a] := by
  unfold blkE
  simp only
  rw [show (l + 1).toNat = l.toNat + 1 by omega, range_snoc]
  congr 2
  omega
/-- the disk behind one more block -/
def moreD (pt : Nat → List UInt8) (d : DS) (a i : Nat) : DS := { d with left := if 0 < d.left then d.left - 1 else d.left, L := putB d a (sealL 64 ⟨120, i, pt i⟩) }
theorem seal_ok {p : List UInt8} {i : Nat} (hp : p.length ≤ 49) (hi : i ≤ 1000000) : SealOk 64 ⟨120, i, p⟩ := ⟨by decide, (show (120 : UInt8) ≠ 0 by decide), (by show p.length ≤ 49; exact hp), (by show i < 18446744073709551616; omega)⟩
theorem Laid.write {pt : Nat → List UInt8} {d : DS} {ps : List E} {a i : Nat} (h : Laid pt d ps a i) (ha : a < 128) (hp : (pt i).length ≤ 49) (hi : i ≤ 1000000) :
    writeD d a (sealL 64 ⟨120, i, pt i⟩) = (0, moreD pt d a i) := by
  have hl := sealL_len (seal_ok (i := i) hp hi)
  unfold writeD
  rw [if_neg (by have := h.n; omega), if_neg (by rw [hl, h.sz]; omega), if_neg (by rw [h.off]; simp), if_neg (by rw [h.left]; decide), Int.toNat_natCast]
  rfl
theorem Laid.more {pt : Nat → List UInt8} {d : DS} {ps ps' : List E} {a i : Nat} (h : Laid pt d ps a i) (ha : a < 128) (hp : (pt i).length ≤ 49) (hi : i ≤ 1000000) (hb : blkL ps' = blkL ps ++ [a]) (hpl : ps'.length ≤ i + 1)
    (hg : ∀ e ∈ ps', okE 128 e ∧ e.1 + e.2 ≤ (a + 1 : Nat)) (hc : ps'.Pairwise (fun x y => x.1 + x.2 ≤ y.1)) : Laid pt (moreD pt d a i) ps' (a + 1) (i + 1) := by
  have hso := seal_ok (i := i) hp hi
  have hl := sealL_len hso
  have hsz := h.sz
  have hn := h.n
  have hl2 : (if 0 < d.left then d.left - 1 else d.left) = -1 := by rw [h.left]; rfl
  have hpb : (putB d a (sealL 64 ⟨120, i, pt i⟩)).length = d.n * d.sz := putB_len h.ok (by omega) (by omega)
  refine ⟨⟨h.ok.1, h.ok.2.1, h.ok.2.2.1, h.ok.2.2.2.1, hpb, ?_, ?_⟩, h.n, h.sz, h.off, hl2, by have := h.a2; omega, hg, hc, ?_, hpl, ?_, ?_⟩
  · show -1 ≤ (if 0 < d.left then d.left - 1 else d.left); omega
  · show (if 0 < d.left then d.left - 1 else d.left) ≤ _; omega
  · rw [hb, List.length_append, h.len, List.length_singleton]
  · intro k hk
    rw [hb] at hk
    rcases List.mem_append.1 hk with hk | hk
    · have := h.lt k hk; omega
    · simp at hk; omega
  · rw [hb, List.map_append, List.range_succ, List.map_append]
    have h1 : (blkL ps).map (fun k => openS (blkOf (moreD pt d a i) k)) = (blkL ps).map (fun k => openS (blkOf d k)) := by
      apply List.map_congr_left
      intro k hk
      have := h.lt k hk
      unfold moreD
      rw [blk_put_other h.ok (by omega) (by omega) (by omega) (by omega)]
    rw [h1, h.holds]
    congr 1
    simp only [List.map_cons, List.map_nil]
    unfold moreD
    rw [blk_put_same h.ok (by omega) (by omega), openS_sealL hso]
/-- a piece of its own -/
theorem Laid.push {pt : Nat → List UInt8} {d : DS} {ps : List E} {a i : Nat} (h : Laid pt d ps a i) (ha : a < 128) (hp : (pt i).length ≤ 49) (hi : i ≤ 1000000) : Laid pt (moreD pt d a i) (ps ++ [((a : Int), (1 : Int))]) (a + 1) (i + 1) := by
  have ha2 := h.a2
  refine h.more ha hp hi (by rw [blkL_app]; congr 1) (by have := h.pl; simp; omega) (fun e he => ?_) ?_
  · rcases List.mem_append.1 he with he | he
    · have := h.good e he; exact ⟨this.1, by omega⟩
    · obtain rfl := List.mem_singleton.1 he
      refine ⟨⟨?_, ?_, ?_, ?_⟩, ?_⟩ <;> simp only <;> omega
  · refine List.pairwise_append.2 ⟨h.chain, List.pairwise_singleton _ _, fun x hx y hy => ?_⟩
    simp at hy
    subst hy
    exact (h.good x hx).2
/-- the last piece is one longer -/
theorem Laid.grow {pt : Nat → List UInt8} {d : DS} {ps : List E} {f l : Int} {a i : Nat} (h : Laid pt d (ps ++ [(f, l)]) a i) (ha : a < 128) (hfl : f + l = a) (hp : (pt i).length ≤ 49) (hi : i ≤ 1000000) : Laid pt (moreD pt d a i) (ps ++ [(f, l + 1)]) (a + 1) (i + 1) := by
  have hg0 := h.good (f, l) (by simp)
  obtain ⟨⟨g1, g2, g3, g4⟩, g5⟩ := hg0
  simp only at g1 g2 g3 g4 g5
  refine h.more ha hp hi ?_ (by have := h.pl; simp at this ⊢; omega) (fun e he => ?_) ?_
  · rw [blkL_app, blkL_app, List.append_assoc]
    congr 1
    show blkE _ ++ [] = (blkE _ ++ []) ++ [a]
    rw [List.append_nil, List.append_nil, blkE_more (by omega) (by omega) hfl]
  · rcases List.mem_append.1 he with he | he
    · have := h.good e (by simp [he]); exact ⟨this.1, by omega⟩
    · obtain rfl := List.mem_singleton.1 he
      refine ⟨⟨?_, ?_, ?_, ?_⟩, ?_⟩ <;> simp only <;> omega
  · have hc := List.pairwise_append.1 h.chain
    refine List.pairwise_append.2 ⟨hc.1, List.pairwise_singleton _ _, fun x hx y hy => ?_⟩
    simp at hy
    subst hy
    exact hc.2.2 x hx (f, l) (by simp)
theorem flat_map (g : Option Seal → List UInt8) (f : Nat → Option Seal) : ∀ l : List Nat, l.flatMap (fun k => g (f k)) = (l.map f).flatMap g
  | [] => rfl
  | k :: l => by rw [List.flatMap_cons, List.map_cons, List.flatMap_cons, flat_map g f l]
/-- what Load makes of them -/
theorem Laid.out {pt : Nat → List UInt8} {d : DS} {ps : List E} {a i : Nat} (h : Laid pt d ps a i) : outL d (blkL ps) = (List.range i).flatMap pt := by
  let g : Option Seal → List UInt8 := fun o => match o with | some y => y.load | none => []
  have h1 : outL d (blkL ps) = ((blkL ps).map (fun k => openS (blkOf d k))).flatMap g := by
    rw [← flat_map g (fun k => openS (blkOf d k))]
    rfl
  rw [h1, h.holds, ← flat_map g (fun j => some ⟨120, j, pt j⟩)]
theorem Laid.all {pt : Nat → List UInt8} {d : DS} {ps : List E} {a i : Nat} (h : Laid pt d ps a i) : ∀ k ∈ blkL ps, ∃ y, openS (blkOf d k) = some y := by
  intro k hk
  have h1 : openS (blkOf d k) ∈ (blkL ps).map (fun k => openS (blkOf d k)) := List.mem_map.2 ⟨k, hk, rfl⟩
  rw [h.holds] at h1
  obtain ⟨j, -, hj⟩ := List.mem_map.1 h1
  exact ⟨_, hj.symm⟩
theorem Laid.okS {pt : Nat → List UInt8} {d : DS} {ps : List E} {a i : Nat} (h : Laid pt d ps a i) (h8 : ps.length ≤ 8) {n : Int} (h0 : 0 ≤ n) (hn : n ≤ 1048576) : okS d.n ⟨5, ps, n, 0⟩ := by
  rw [h.n]
  refine ⟨⟨(show (5 : Nat) ≠ 0 by decide), (show (0 : Int) ≤ 0 by decide), (show (0 : Int) ≤ 16777215 by decide), h0, hn, h8⟩, fun e he => (h.good e he).1, ?_⟩
  exact h.chain.imp (fun hxy => .inl hxy)
theorem Laid.none {pt : Nat → List UInt8} : Laid pt ⟨128, 64, List.replicate (128 * 64) 0, -1, false⟩ [] 2 0 :=
  ⟨⟨by decide, by decide, by decide, by decide, List.length_replicate, by decide, by decide⟩, rfl, rfl, rfl, rfl, Nat.le_refl _, (by simp), List.Pairwise.nil, rfl, Nat.le_refl _, (by simp [blkL]), rfl⟩
/-- the parts of a text, one behind the other, are the text -/
def ptB (s : ByteArray) (j : Nat) : List UInt8 := (s.extract (49 * j) (min (49 * j + 49) s.size)).data.toList
theorem ptB_len (s : ByteArray) (j : Nat) : (ptB s j).length ≤ 49 := by
  have : (ptB s j).length = (s.extract (49 * j) (min (49 * j + 49) s.size)).size := by simp [ptB]; omega
  rw [this]
  simp
  omega
theorem ptB_flat (s : ByteArray) (K : Nat) : (List.range K).flatMap (ptB s) = s.data.toList.take (49 * K) := by
  induction K with
  | zero => simp
  | succ K ih =>
    rw [List.range_succ, List.flatMap_append, ih]
    simp only [List.flatMap_cons, List.flatMap_nil, List.append_nil]
    unfold ptB
    have hsz : s.data.toList.length = s.size := by simp
    have : (s.extract (49 * K) (min (49 * K + 49) s.size)).data.toList = (s.data.toList.drop (49 * K)).take 49 := by
      simp only [ByteArray.data_extract, Array.toList_extract, List.extract]
      rw [List.take_eq_take_iff.2]
      rw [List.length_drop, hsz]
      omega
    rw [this, Nat.mul_succ, List.take_add]
theorem ptB_all (s : ByteArray) {K : Nat} (h : s.size ≤ 49 * K) : (List.range K).flatMap (ptB s) = s.data.toList := by
  rw [ptB_flat, List.take_of_length_le]
  simpa using h
end Go.Proofs.Ytdeghoigpcbmcaa

/- SuperLoads: the world of its loop. -/
namespace Go.Proofs.Ytdeghoigpcbmcaa
open Go.RowKit Go.Emb Go.Emb.Ext

/-- '[]byte(s)': a new row -/
theorem conv_bytes {P : Program} (w : World) (src dst e : TypeId) (s : ByteArray) {u : TypeDesc} (hs : P.underlying src = some u) (hd : P.underlying dst = some (.slice e)) (he : P.underlying e = some (.int .u8)) (hsz : s.size ≤ 1000000000) :
    ∃ c w', (convert src dst (.string s)).run P w = .ok (.slice (some ⟨w.heap.size, 0, none⟩) s.size c) w' ∧ Rd w' 1 (.slice (some ⟨w.heap.size, 0, none⟩) s.size c) s.data.toList.length (Lib.byteCells s.data.toList) (some w.heap.size) ∧ Keep [] w w' ∧ w'.heap.size = w.heap.size + 1 := by
  refine ⟨_, _, Lib.run_convert_string_bytes w src dst e s hs hd he, ?_, ?_, Lib.bytesWorld_size w e s⟩
  · have hl : s.data.toList.length = s.size := by simp
    rw [hl]
    refine ⟨by simp [Lib.byteCells], _, _, rfl, grownCap_ge w s.size 0 e, grownCap_le_maxLen w s.size 0 e (by simp only [maxLen]; omega), .inr ⟨w.heap.size, 0, rfl, rfl, fun i hi => ?_⟩⟩
    rw [Nat.zero_add, Lib.bytesWorld_cell w e s i (by omega)]
    have hi' : i < s.data.toList.length := by omega
    simp only [Lib.byteCells, List.getElem?_map, List.getElem?_eq_getElem hi', Option.map_some, List.getD_eq_getElem?_getD, Option.getD_some]
  · exact ⟨rfl, rfl, rfl, by rw [Lib.bytesWorld_size]; omega, fun b hb _ => Lib.bytesWorld_at_old w e s b hb⟩
theorem RowS.at {W : World} {a : Option Addr} {n c : Nat} {l : List ByteArray} {so : Option Nat} (h : RowS W (.slice a n c) l so) {k : Nat} (hk : k < l.length) : ∃ b off, a = some ⟨b, off, none⟩ ∧ W.cell? ⟨b, off + k, none⟩ = some (.string l[k]) := by
  obtain ⟨o', ⟨-, a', c', hv, -, -, h3⟩, -⟩ := Row.rd h
  cases hv
  rcases h3 with ⟨h3, _⟩ | ⟨b, off, rfl, -, h3⟩
  · omega
  · exact ⟨b, off, rfl, by rw [h3 k (by omega)]; simp [hk]⟩
structure LSt (w W : World) (q Sx m : Nat) (Pd : DS → Prop) (s : ByteArray) (K : Nat) (ps : List E) (pv sv : Value) (po : Option Nat) (len : Int) : Prop where
  ex : ∃ D d, DK W q m D d ∧ Pd d ∧ ∀ b ∈ D, w.heap.size ≤ b
  sx : W.heap[Sx]? = some (.cells #[.int .u64 5, pv, .int .i64 len, .int .i64 0] 25 (0, 0))
  hs : w.heap.size ≤ Sx
  row : RowE W pv ps po
  ho : ∀ b, po = some b → w.heap.size ≤ b
  parts : ∃ so, RowS W sv (partsB s K) so
  keep : Keep [] w W
section
variable {w W W' : World} {q Sx m : Nat} {Pd : DS → Prop} {s : ByteArray} {K : Nat} {ps : List E} {pv sv : Value} {po : Option Nat} {len : Int}
theorem LSt.keep0 (h : LSt w W q Sx m Pd s K ps pv sv po len) (hk : Keep [] W W') : LSt w W' q Sx m Pd s K ps pv sv po len := by
  obtain ⟨D, d, h1, h2, h3⟩ := h.ex
  obtain ⟨so, hp⟩ := h.parts
  exact ⟨⟨D, d, h1.keep0 hk, h2, h3⟩, blkk h.sx hk (by simp), h.hs, h.row.keep hk (by simp), h.ho, ⟨so, Row.keep hp hk (by simp)⟩, h.keep.trans hk (by simp)⟩
theorem LSt.imp (h : LSt w W q Sx m Pd s K ps pv sv po len) {Pd' : DS → Prop} (hp : ∀ d, Pd d → Pd' d) : LSt w W q Sx m Pd' s K ps pv sv po len := by
  obtain ⟨D, d, h1, h2, h3⟩ := h.ex
  exact { h with ex := ⟨D, d, h1, hp d h2, h3⟩ }
theorem rowS_ne {v : Value} {l : List ByteArray} {so : Option Nat} {b : Nat} {cs : Array Value} {t : TypeId} (h : RowS W v l so) (hb : W.heap[b]? = some (.cells cs t (0, 0))) (ht : t ≠ 9) : ∀ c, so = some c → c ≠ b :=
  row_ne h hb (fun cs h => by injection h with _ h _; exact ht h)
/-- a block is written -/
theorem LSt.put (h : LSt w W q Sx m Pd s K ps pv sv po len) (hm : m ≤ 1000000) {p : List UInt8} {k : Int} {Qd : DS → Prop} (hq : ∀ d, Pd d → ∃ d', writeD d k p = (0, d') ∧ Qd d') {lb lo' lc : Nat} {bv : Value} {o : Option Nat} (hcell : W.cell? ⟨lb, lo', none⟩ = some bv) (hr : Rd W 1 bv p.length (Lib.byteCells p) o) (hp : p.length ≤ 1000000000) :
    Calls Try.prog 16 #[.pointer (some ⟨q, 0, none⟩), .int .i64 k, .slice (some ⟨lb, lo', none⟩) 1 lc] W fun e W' => e = .returned (.int .i64 0) ∧ LSt w W' q Sx (m + 1) Qd s K ps pv sv po len := by
  obtain ⟨D, d, h1, h2, h3⟩ := h.ex
  obtain ⟨so, hsr⟩ := h.parts
  obtain ⟨d', hwd, hqd⟩ := hq d h2
  refine (d_write h1 hm hcell hr hp k).mono ?_
  rintro e W' ⟨D', rfl, hd', hD', hk⟩
  rw [hwd] at hd' ⊢
  refine ⟨rfl, ⟨D', d', hd', hqd, fun b hb => ?_⟩, blkk h.sx hk (h1.notin h.sx (by decide) (by decide) (by decide)), h.hs, h.row.keep hk (fun b hb => ?_), h.ho, ⟨so, Row.keep hsr hk (fun b hb => ?_)⟩, h.keep.trans hk (fun b hb => .inr (h3 b hb))⟩
  · rcases hD' b hb with h' | h'
    · exact h3 b h'
    · exact Nat.le_trans h.keep.size h'
  · subst hb
    obtain ⟨cs, hcs⟩ := row_blk (show Row _ _ _ _ _ _ (some b) from h.row)
    exact h1.notin hcs (by decide) (by decide) (by decide)
  · subst hb
    obtain ⟨cs, hcs⟩ := row_blk (show Row _ _ _ _ _ _ (some b) from hsr)
    exact h1.notin hcs (by decide) (by decide) (by decide)
/-- the super's box is written -/
theorem LSt.box (h : LSt w W q Sx m Pd s K ps pv sv po len) {pv' : Value} {len' : Int} {ps' : List E} {po' : Option Nat} (hk : Keep [Sx] W W') (hb : W'.heap[Sx]? = some (.cells #[.int .u64 5, pv', .int .i64 len', .int .i64 0] 25 (0, 0))) (hrow : RowE W' pv' ps' po') (ho : ∀ b, po' = some b → w.heap.size ≤ b) :
    LSt w W' q Sx m Pd s K ps' pv' sv po' len' := by
  obtain ⟨D, d, h1, h2, h3⟩ := h.ex
  obtain ⟨so, hsr⟩ := h.parts
  refine ⟨⟨D, d, h1.keep hk (fun c hc => by simp; rintro rfl; exact h1.notin h.sx (by decide) (by decide) (by decide) hc), h2, h3⟩, hb, h.hs, hrow, ho, ⟨so, Row.keep hsr hk (fun b hb => by simpa using rowS_ne hsr h.sx (by decide) b hb)⟩, h.keep.trans hk (fun b hb => .inr (by simp at hb; subst hb; exact h.hs))⟩
/-- the pieces' row is written -/
theorem LSt.turnR (h : LSt w W q Sx m Pd s K ps pv sv po len) {ps' : List E} {pv' : Value} {po' : Option Nat} (hk : Keep po.toList W W') (_hrow : RowE W' pv' ps' po') (ho : ∀ b, po' = some b → po = some b ∨ W.heap.size ≤ b) :
    (∃ D d, DK W' q m D d ∧ Pd d ∧ ∀ b ∈ D, w.heap.size ≤ b) ∧ W'.heap[Sx]? = some (.cells #[.int .u64 5, pv, .int .i64 len, .int .i64 0] 25 (0, 0)) ∧ (∃ so, RowS W' sv (partsB s K) so) ∧ Keep [] w W' ∧ ∀ b, po' = some b → w.heap.size ≤ b ∧ b ≠ Sx := by
  obtain ⟨D, d, h1, h2, h3⟩ := h.ex
  obtain ⟨so, hsr⟩ := h.parts
  have hne : ∀ c, po = some c → c ≠ Sx := row_neS h.row h.sx
  refine ⟨⟨D, d, h1.keep hk (fun c hc hcm => ?_), h2, h3⟩, blkk h.sx hk (fun hm => ?_), ⟨so, Row.keep hsr hk (fun b hb hbm => ?_)⟩, h.keep.trans hk (fun b hb => .inr (h.ho b (by simpa using hb))), fun b hb => ?_⟩
  · obtain rfl : po = some c := by simpa using hcm
    obtain ⟨cs, hcs⟩ := row_blk (show Row _ _ _ _ _ _ (some c) from h.row)
    exact h1.notin hcs (by decide) (by decide) (by decide) hc
  · exact hne Sx (by simpa using hm) rfl
  · obtain rfl : po = some b := by simpa using hbm
    obtain ⟨cs, hcs⟩ := row_blk (show Row _ _ _ _ _ _ (some b) from h.row)
    exact rowS_ne hsr hcs (by decide) b hb rfl
  · rcases ho b hb with h' | h'
    · exact ⟨h.ho b h', hne b h'⟩
    · have h4 := h.keep.size
      have h5 := (Array.getElem?_eq_some_iff.1 h.sx).1
      exact ⟨by omega, by omega⟩
/-- the row is written, the box stays -/
theorem LSt.turn (h : LSt w W q Sx m Pd s K ps pv sv po len) {ps' : List E} {po' : Option Nat} (hk : Keep po.toList W W') (hrow : RowE W' pv ps' po') (ho : ∀ b, po' = some b → po = some b ∨ W.heap.size ≤ b) : LSt w W' q Sx m Pd s K ps' pv sv po' len := by
  obtain ⟨t1, t2, t3, t4, t5⟩ := h.turnR hk hrow ho
  exact ⟨t1, t2, h.hs, hrow, fun b hb => (t5 b hb).1, t3, t4⟩
/-- the row is written, then the box -/
theorem LSt.push {W1 W2 : World} (h : LSt w W q Sx m Pd s K ps pv sv po len) {ps' : List E} {pv' : Value} {po' : Option Nat} (hk1 : Keep [] W W1) (hk : Keep po.toList W1 W2) (hrow : RowE W2 pv' ps' po') (ho : ∀ b, po' = some b → po = some b ∨ W1.heap.size ≤ b) :
    W2.heap[Sx]? = some (.cells #[.int .u64 5, pv, .int .i64 len, .int .i64 0] 25 (0, 0)) ∧ LSt w (W2.setCell ⟨Sx, 1, none⟩ pv') q Sx m Pd s K ps' pv' sv po' len := by
  obtain ⟨⟨D, d, t1, tp, tf⟩, t2, ⟨so, t3⟩, t4, t5⟩ := (h.keep0 hk1).turnR hk hrow ho
  have hks : Keep [Sx] W2 (W2.setCell ⟨Sx, 1, none⟩ pv') := Keep.set1 W2 ⟨Sx, 1, none⟩ pv'
  refine ⟨t2, ⟨D, d, t1.keep hks (fun c hc => by simp; rintro rfl; exact t1.notin t2 (by decide) (by decide) (by decide) hc), tp, tf⟩, by simpa using heap_setCell_at (i := 1) t2 pv', h.hs, hrow.keep hks (fun b hb => by simpa using (t5 b hb).2), fun b hb => (t5 b hb).1, ⟨so, Row.keep t3 hks (fun b hb => by simpa using rowS_ne t3 t2 (by decide) b hb)⟩, t4.trans hks (fun b hb => .inr (by simp at hb; subst hb; exact h.hs))⟩
theorem src_ext (W : World) (x : E) (t : TypeId) : Src Try.prog 2 23 (.slice (some ⟨W.heap.size, 0, none⟩) 1 1) 1 (encE x) (W.alloc (.cells #[.int .i64 x.1, .int .i64 x.2] t)) := by
  refine Src.ofSlice _ Try.underlying23 ⟨W.heap.size, 0, none⟩ 1 1 (encE x) rfl (fun j u hj => ?_) (encE_one x)
  have h := heap_alloc_new W (.cells #[.int .i64 x.1, .int .i64 x.2] t)
  rw [show (⟨W.heap.size, 0, none⟩ : Addr).add j = ⟨W.heap.size, 0 + j, none⟩ by unfold Addr.add; split <;> simp_all, World.cell?, h]
  match j, hj with
  | 0, hj => simpa [encE] using hj
  | 1, hj => simpa [encE] using hj
  | j + 2, hj => simp [encE] at hj
end
/-- the last piece's length is written -/
theorem row_last {W : World} {b off c n : Nat} {ps : List E} {f l : Int} {po : Option Nat} (h : RowE W (.slice (some ⟨b, off, none⟩) n c) (ps ++ [(f, l)]) po) (l' : Int) :
    RowE (W.setCell ⟨b, off + ps.length * 2 + 1, none⟩ (.int .i64 l')) (.slice (some ⟨b, off, none⟩) n c) (ps ++ [(f, l')]) po ∧ po = some b := by
  obtain ⟨hl, h⟩ := h
  rcases h with ⟨-, h, -⟩ | ⟨b', off', cap', cs, rfl, e1, hb, h2, h3, h4, h5⟩
  · cases h
  cases e1
  have hlen : (ps.flatMap encE).length = ps.length * 2 := by rw [flatN_len (m := 2) (fun _ => rfl)]
  have e0 : (ps ++ [(f, l)]).length = ps.length + 1 := by simp
  have e1 : (ps ++ [(f, l')]).length = ps.length + 1 := by simp
  rw [e0] at h2 h5
  refine ⟨⟨by rw [flatN_len (m := 2) (fun _ => rfl)], .inr ⟨b, off, c, cs.setIfInBounds (off + ps.length * 2 + 1) (.int .i64 l'), rfl, ?_, heap_setCell_at hb _, by rw [e1]; exact h2, h3, by simpa using h4, fun j hj => ?_⟩⟩, rfl⟩
  · rw [e0, e1]
  · rw [e1] at hj
    by_cases hji : j = ps.length * 2 + 1
    · subst hji
      rw [show off + (ps.length * 2 + 1) = off + ps.length * 2 + 1 by omega, Array.getElem?_setIfInBounds_self_of_lt (by omega)]
      rw [List.flatMap_append, List.getElem?_append_right (by omega), hlen]
      simp [encE]
    · rw [Array.getElem?_setIfInBounds_ne (by omega), h5 j hj, List.flatMap_append, List.flatMap_append]
      by_cases hj2 : j < ps.length * 2
      · rw [List.getElem?_append_left (by omega), List.getElem?_append_left (by omega)]
      · obtain rfl : j = ps.length * 2 := by omega
        rw [List.getElem?_append_right (by omega), List.getElem?_append_right (by omega), hlen]
        simp [encE]
end Go.Proofs.Ytdeghoigpcbmcaa

/- SuperLoads: the walk. Printed by gen-suloads.py. -/
namespace Go.Proofs.Ytdeghoigpcbmcaa
open Go.RowKit Go.Emb Go.Emb.Ext

theorem row_lastC {W : World} {v : Value} {ps : List E} {f l : Int} {po : Option Nat} {n c : Nat} {a : Option Addr} (hv : v = .slice a n c) (h : RowE W v (ps ++ [(f, l)]) po) :
    ∃ b off, a = some ⟨b, off, none⟩ ∧ po = some b ∧ W.cell? ⟨b, off + ps.length * 2, none⟩ = some (.int .i64 f) ∧ W.cell? ⟨b, off + ps.length * 2 + 1, none⟩ = some (.int .i64 l) ∧ ∀ i, W.frozen? ⟨b, i, none⟩ = false := by
  subst hv
  obtain ⟨o, hrd, ho⟩ := RowE.rde h
  obtain ⟨b, off, rfl, rfl, c0, c1⟩ := hrd.at (k := ps.length) (by simp)
  have e0 : (ps ++ [(f, l)])[ps.length]'(by simp) = (f, l) := by simp
  rw [e0] at c0 c1
  obtain rfl : po = some b := by rcases ho with h | h <;> simp_all
  obtain ⟨cs, hcs⟩ := row_blk (show Row _ _ _ _ _ _ (some b) from h)
  exact ⟨b, off, rfl, rfl, c0, c1, frozen4 hcs⟩

theorem row_snocE {W : World} {v : Value} {l : List E} {x : E} {o : Option Nat} {n : Nat} (hn : n = l.length) (h : Row W 54 2 v (n + 1) (l.flatMap encE ++ encE x) o) : RowE W v (l ++ [x]) o := by
  subst hn
  unfold RowE
  rw [List.flatMap_append, show (l ++ [x]).length = l.length + 1 by simp, show [x].flatMap encE = encE x by simp]
  exact h
theorem LSt.load {w W W' : World} {q Sx K a : Nat} {S : ByteArray} {ps : List E} {pv sv pv' : Value} {po po' : Option Nat} {len0 len : Int} {bs : List UInt8} (h : LSt w W q Sx K (fun d => Laid (ptB S) d ps a K) S K ps pv sv po len0) (hS : S.data.toList = bs) (hK : S.size ≤ 49 * K) (h8 : ps.length ≤ 8) (hk : Keep [] W W') (hr : RowE W' pv' ps po') (h0 : 0 ≤ len) (hlen : len ≤ 1048576) :
    Calls Try.prog 21 #[.pointer (some ⟨q, 0, none⟩), aggS ⟨5, ps, len, 0⟩ pv'] W' fun e w' => Keep [] W' w' ∧ ((bs.length = len ∧ ∃ v o, e = .returned (.tuple #[v, .int .i64 0]) ∧ RB w' v bs o ∧ ∀ b, o = some b → W'.heap.size ≤ b) ∨ (bs.length ≠ len ∧ e = .returned (.tuple #[.slice none 0 0, .int .i64 30]))) := by
  obtain ⟨D, d, h1, h2, -⟩ := h.ex
  have hout : outL d (blkL ps) = bs := by rw [h2.out, ptB_all S hK, hS]
  refine (s_load (x := ⟨5, ps, len, 0⟩) (h1.keep0 hk) h2.off hr (h2.okS h8 h0 hlen) h2.all).mono ?_
  rintro e w' ⟨h3, h4⟩
  simp only [hout] at h3
  exact ⟨h4, h3⟩

set_option maxRecDepth 100000 in
set_option maxHeartbeats 8000000 in
theorem loads_walk {w : World} {pv0 fv : Value} {bs : List UInt8} {fs : List Int} (hp : RdB w.heap.size w pv0 bs) (hf : RdI w.heap.size w fv fs) : Calls Try.prog 5 #[pv0, fv] w fun e w' => e = .returned (.bool true) ∧ Keep [] w w' := by
  obtain ⟨pa, pc, rfl⟩ : ∃ p c, pv0 = .slice p bs.length c := by obtain ⟨⟨o, ⟨-, p, c, h, -⟩, -⟩, -⟩ := hp; exact ⟨p, c, h⟩
  obtain ⟨fa, fc, rfl⟩ : ∃ p c, fv = .slice p fs.length c := by obtain ⟨⟨o, ⟨-, p, c, h, -⟩, -⟩, -, -⟩ := hf; exact ⟨p, c, h⟩
  have hfl : fs.length * 8 ≤ 140737488355328 := hf.2.2
  have hpl : bs.length ≤ 140737488355328 := hp.2
  have HP := Lib.hid hp
  have HF := Lib.hid hf
  clear hp hf
  by_cases h1 : 3000 < bs.length
  · have h1' : (3000 : Int) < (bs.length : Int) := by omega
    go_enter Try.func5, Try.ntmps5
    go_wp2_with (go_at_call 7; refine live_any.mono ?_; rintro e wl ⟨rfl, hkl⟩; have HKL := Lib.hid hkl; clear hkl)
    go_ret
    exact ⟨rfl, HKL.out⟩
  by_cases h2 : 60 < fs.length
  · have h1' : ¬ (3000 : Int) < (bs.length : Int) := by omega
    have h2' : (60 : Int) < (fs.length : Int) := by omega
    go_enter Try.func5, Try.ntmps5
    go_wp2_with (go_at_call 7; refine live_any.mono ?_; rintro e wl ⟨rfl, hkl⟩; have HKL := Lib.hid hkl; clear hkl)
    go_ret
    exact ⟨rfl, HKL.out⟩
  have h1' : ¬ (3000 : Int) < (bs.length : Int) := by omega
  have h2' : ¬ (60 : Int) < (fs.length : Int) := by omega
  have hcv := fun W (hW : Keep [] w W) => rd_text (P := Try.prog) (src := 38) (e := 5) (dst := 9) (bs := bs) (v := .slice pa bs.length pc) (HP.out.1.choose_spec.1.keep hW (by simp)) Try.underlying38 Try.underlying5 Try.underlying9
  have HCV := Lib.hid hcv
  clear hcv
  obtain ⟨S, hS⟩ : ∃ S : ByteArray, S = ⟨bs.toArray⟩ := ⟨_, rfl⟩
  rw [← hS] at HCV
  have hSS : S.size = bs.length := by rw [hS]; simp [ByteArray.size]
  have HS := Lib.hid hS
  clear hS
  have hnew := p_new (w := w) (n := 128) (sz := 64) (by decide) (by decide) (by decide) (by decide)
  have HNEW := Lib.hid hnew
  clear hnew
  go_enter Try.func5, Try.ntmps5
  go_wp2_with (go_at_call 8; refine HNEW.out.mono ?_; rintro e w1 ⟨q, D, rfl, hd1, hD1, hk1⟩; have HD1 := Lib.hid hd1; have HDF1 := Lib.hid hD1; have HK1 := Lib.hid hk1; clear hd1 hD1 hk1)
  go_wp2_with (go_at_call 9; refine (p_numF _).mono ?_; rintro e w2 ⟨rfl, rfl⟩)
  have hcv1 := HCV.out w1 HK1.out
  have hpa := r_parts (w := w1) (s := S) (by omega)
  have HPA := Lib.hid hpa
  clear hpa HNEW
  go_wp2_with fail
  rw [hcv1]
  go_wp2_with (go_at_call 19; refine HPA.out.mono ?_; rintro e w2 ⟨sv, K, so, rfl, hrs, hK1, hK2, hk2, hso⟩; have HRS := Lib.hid hrs; have HKa := Lib.hid hK1; have HKb := Lib.hid hK2; have HK2 := Lib.hid hk2; clear hrs hK1 hK2 hk2 hso; clear hcv1)
  have hst0 : LSt w (w2.alloc (.cells #[.int .u64 5, .slice none 0 0, .int .i64 bs.length, .int .i64 0] 25)) q w2.heap.size 0 (fun d => Laid (ptB S) d [] 2 0) S K [] (.slice none 0 0) sv none bs.length := by
    refine LSt.keep0 (W := w2.alloc (.cells #[.int .u64 5, .slice none 0 0, .int .i64 bs.length, .int .i64 0] 25)) ⟨⟨D, _, (HD1.out.keep0 HK2.out).keep0 ((Keep.refl [] w2).alloc _), Laid.none, HDF1.out⟩, heap_new w2 _, ?_, Row.nil _ _ _, by simp, ⟨so, Row.keep HRS.out (F := []) ((Keep.refl [] w2).alloc _) (by simp)⟩, ((HK1.out.trans HK2.out (by simp)).alloc _)⟩ (Keep.refl [] _)
    exact Nat.le_trans HK1.out.size HK2.out.size
  have HST0 := Lib.hid hst0
  clear hst0
  obtain ⟨sa, sc, hsv⟩ := HRS.out.form
  rw [partsB_len] at hsv
  subst hsv
  generalize w2.heap.size = Sx at *
  have hKb : K ≤ 62 := by rcases HKb.out with h | h <;> omega
  clear HD1 HDF1 HK1 HK2 HRS
  generalize w2.alloc (.cells #[.int .u64 5, .slice none 0 0, .int .i64 bs.length, .int .i64 0] 25) = w3 at *
  go_loopw [9, 10] (fun s9 s10 wr => ∃ (i a : Nat) (ps : List E) (pv : Value) (po : Option Nat), s9 = .int .i64 a ∧ s10 = .int .i64 i ∧ i ≤ K ∧ a ≤ 128 ∧ LSt w wr q Sx i (fun d => Laid (ptB S) d ps a i) S K ps pv (.slice sa K sc) po bs.length) (fun _ s10 _ => K - (RowKit.intOf s10).toNat)
  case atStart => exact ⟨0, 2, [], _, none, rfl, rfl, Nat.zero_le _, by omega, HST0.out⟩
  case round =>
    obtain ⟨i, a, ps, pv, po, rfl, rfl, hi, ha, hst⟩ := hrel
    have HST := Lib.hid hst
    clear hst HST0
    by_cases hlt : i < K
    · have hlt' : (i : Int) < (K : Int) := by omega
      go_upto_block 1 with fail
      go_step
      go_step
      go_cut [9] from 50 to 78 (fun s9 wx => ∃ a' : Nat, s9 = .int .i64 a' ∧ a ≤ a' ∧ a' ≤ a + 3 ∧ wx = wr)
      case first =>
        have htm : (i : Int).tmod 9 = (i : Int) % 9 := Int.tmod_eq_emod_of_nonneg (by omega)
        by_cases hf1 : i < fs.length
        · have q1 : (i : Int) < (fs.length : Int) := by omega
          obtain ⟨fb, foff, rfl, -, fc0⟩ := (HF.out.keep0 HST.out.keep).at hf1
          obtain ⟨f, hf⟩ : ∃ f, f = fs[i] := ⟨_, rfl⟩
          rw [← hf] at fc0
          by_cases h9 : i % 9 = 0
          · have h9b : (((i : Int) % 9) == 0) = true := by simp; omega
            by_cases p1 : 0 < f
            · by_cases p2 : f < 4
              · clear hf h9 htm hSS hf1
                go_wp2_with fail
                go_meet
                case rel => exact ⟨a + f.toNat, by congr 1; omega, by omega, by omega, rfl⟩
              · clear hf h9 hSS hf1
                go_wp2_with fail
                go_meet
                case rel => exact ⟨a, rfl, by omega, by omega, rfl⟩
            · clear hf h9 hSS hf1
              go_wp2_with fail
              go_meet
              case rel => exact ⟨a, rfl, by omega, by omega, rfl⟩
          · have h9b : (((i : Int) % 9) == 0) = false := beq_eq_false_iff_ne.2 (by omega)
            clear hf h9 hSS hf1
            go_wp2_with fail
            go_meet
            case rel => exact ⟨a, rfl, by omega, by omega, rfl⟩
        · have q1 : ¬ (i : Int) < (fs.length : Int) := by omega
          clear hSS hf1
          go_wp2_with fail
          go_meet
          case rel => exact ⟨a, rfl, by omega, by omega, rfl⟩
      case rest =>
        obtain ⟨b, rfl, hb1, hb2, rfl⟩ := hcut
        by_cases hb : 128 ≤ b
        · have q1 : (128 : Int) ≤ (b : Int) := by omega
          go_wp2_with (go_at_call 7; refine live_any.mono ?_; rintro e wl ⟨rfl, hkl⟩; have HKL := Lib.hid hkl; clear hkl)
          go_ret
          exact ⟨rfl, HST.out.keep.trans HKL.out (by simp)⟩
        have q1 : ¬ (128 : Int) ≤ (b : Int) := by omega
        have hst2 := HST.out.imp (Pd' := fun d => Laid (ptB S) d ps b i) (fun d h => h.up hb1)
        obtain ⟨so2, hrs⟩ := hst2.parts
        have hil : i < (partsB S K).length := by rw [partsB_len]; exact hlt
        obtain ⟨pb, poff, rfl, pcell⟩ := hrs.at hil
        have hpe : (partsB S K)[i] = S.extract (49 * i) (min (49 * i + 49) S.size) := by
          have := partsB_at S K i hlt
          rw [List.getElem?_eq_getElem hil] at this
          exact Option.some.inj this
        rw [hpe] at pcell
        obtain ⟨T, hT⟩ : ∃ T, T = S.extract (49 * i) (min (49 * i + 49) S.size) := ⟨_, rfl⟩
        rw [← hT] at pcell
        have hTp : T.data.toList = ptB S i := by rw [hT]; rfl
        have hT49 : T.size ≤ 49 := by rw [hT]; simp; omega
        have hsok : SealOk 64 ⟨120, i, T.data.toList⟩ := seal_ok (by rw [hTp]; exact ptB_len S i) (by omega)
        obtain ⟨cc, wb, hcr, hrdb, hkb, hszb⟩ := conv_bytes (P := Try.prog) wc 9 38 5 T Try.underlying9 Try.underlying38 Try.underlying5 (by omega)
        have HPUT := Lib.hid (r_sput hrdb hsok)
        have hu : IntKind.u64.wrap (i : Int) = (i : Int) := IntWalk.u64_in _ (by omega)
        have HST2 := Lib.hid (hst2.keep0 hkb)
        have HTP := Lib.hid hTp
        have HSOK := Lib.hid hsok
        have hiK : (i : Int) < (K : Int) := by omega
        clear hst2 hrs hil hpe hT hTp hsok hrdb hkb hszb HST HPA
        go_wp2_with fail
        refine HPUT.out.mono ?_
        rintro e w4 ⟨rfl, hk4⟩
        obtain ⟨B, hB⟩ : ∃ B, B = sealL 64 ⟨120, i, T.data.toList⟩ := ⟨_, rfl⟩
        obtain ⟨Bb, hBb⟩ : ∃ Bb : ByteArray, Bb = ⟨(sealL 64 ⟨120, i, T.data.toList⟩).toArray⟩ := ⟨_, rfl⟩
        rw [← hBb]
        have hBl : Bb.data.toList = B := by rw [hBb, hB]
        have hB64 : B.length = 64 := by rw [hB]; exact sealL_len HSOK.out
        have hBs : Bb.size = 64 := by rw [← hB64, ← hBl]; simp
        rw [HTP.out] at hB
        obtain ⟨cc2, wb2, hcr2, hrdb2, hkb2, hszb2⟩ := conv_bytes (P := Try.prog) w4 9 38 5 Bb Try.underlying9 Try.underlying38 Try.underlying5 (by omega)
        rw [hBl] at hrdb2
        rw [hBs] at hrdb2 hcr2
        have hst4 := ((HST2.out.keep0 hk4).keep0 hkb2).keep0 ((Keep.refl [] wb2).alloc (.cells #[.slice (some ⟨w4.heap.size, 0, none⟩) 64 cc2] 38))
        have hwr := hst4.put (by omega) (k := (b : Int)) (p := B) (Qd := fun d' => ∃ d, d' = moreD (ptB S) d b i ∧ Laid (ptB S) d ps b i) (fun d h => ⟨_, by rw [hB]; exact h.write (by omega) (ptB_len S i) (by omega), d, rfl, h⟩) (cell_new wb2 (.slice (some ⟨w4.heap.size, 0, none⟩) 64 cc2) 38) (lc := 1) (hrdb2.keep ((Keep.refl [] wb2).alloc _) (by simp)) (by omega)
        have HWR := Lib.hid hwr
        clear hst4 hwr hrdb2 hkb2 hszb2 hk4 hB64 hBl hB hBb hBs HST2 HPUT HSOK HTP hcr
        go_wp2_with (go_at_call 16; refine HWR.out.mono ?_; rintro e w5 ⟨rfl, hst5⟩)
        have f5 := frozen4 hst5.sx
        have HST5 := Lib.hid hst5
        clear hst5 HWR hcr2
        obtain ⟨i0, hi0, hz0, hz1, hz2⟩ := info_parts extE_info
        have HI := Lib.hid hi0
        clear hi0
        rcases List.eq_nil_or_concat ps with rfl | ⟨qs, el, rfl⟩
        · obtain ⟨pa5, pc5, rfl⟩ := HST5.out.row.form
          obtain ⟨s0, s1, s2, s3⟩ := cells4s HST5.out.sx
          go_wp2_with (go_at_call 9; refine (p_numF _).mono ?_; rintro e w2 ⟨rfl, rfl⟩)
          go_quiet (fail)
          have hst6 := HST5.out.keep0 ((Keep.refl [] w5).drewN nq)
          clear s0 s1 s2 s3 f5 HST5
          generalize w5.drewN nq = w5 at *
          obtain ⟨s0, s1, s2, s3⟩ := cells4s hst6.sx
          have f5 := frozen4 hst6.sx
          have HST5 := Lib.hid hst6
          clear hst6
          go_wp2_with (at_builtin; go_loud (refine wpList_append_row _ rfl _ _ 23 23 rfl 54 i0 (.agg #[.int .i64 0, .int .i64 0]) 2 16 Try.underlying23 HI.out hz0 hz1 hz2 rfl _ _ _ po rfl (Row.keep HST5.out.row (F := []) ((Keep.refl [] _).alloc _) (by simp)) _ rfl 1 _ (src_ext w5 ((b : Int), (1 : Int)) _) (by omega) (by simp [maxLen]) (by simp) ?_); intro g off cap w6 hr6 hk6 hg6; have hro : ∀ c, some g = some c → po = some c ∨ (w5.alloc (.cells #[.int .i64 b, .int .i64 1] 54)).heap.size ≤ c := (by rintro c ⟨⟩; exact hg6); have hrE : RowE w6 (.slice (some ⟨g, off, none⟩) (0 + 1) cap) ([] ++ [((b : Int), (1 : Int))]) (some g) := (by unfold RowE; rw [List.length_append, List.flatMap_append]; exact hr6); have hpu := HST5.out.push ((Keep.refl [] w5).alloc (.cells #[.int .i64 b, .int .i64 1] 54)) hk6 hrE hro; obtain ⟨t0, t1, t2, t3⟩ := cells4s hpu.1; have f6 := frozen4 hpu.1; have HPU := Lib.hid hpu.2; clear hr6 hk6 hg6 hro hrE hpu s0 s1 s2 s3 f5)
          go_roundw
          case rel => exact ⟨i + 1, b + 1, _, _, _, rfl, by go_num, by omega, by omega, HPU.out.imp (fun d' h => by obtain ⟨d, rfl, h⟩ := h; exact h.push (by omega) (ptB_len S i) (by omega))⟩
          case measure => simp [RowKit.intOf]; omega
        · obtain ⟨f, l⟩ := el
          simp only [List.concat_eq_append] at *
          obtain ⟨m, hm⟩ : ∃ m, m = qs.length := ⟨_, rfl⟩
          have hml : (qs ++ [(f, l)]).length = m + 1 := by rw [hm]; simp
          obtain ⟨pa5, pc5, hpv⟩ := HST5.out.row.form
          rw [hml] at hpv
          subst hpv
          obtain ⟨s0, s1, s2, s3⟩ := cells4s HST5.out.sx
          obtain ⟨D5, d5, -, ⟨d6, -, hlaid⟩, -⟩ := HST5.out.ex
          obtain ⟨⟨g1, g2, g3, g4⟩, g5⟩ := hlaid.good (f, l) (by simp)
          simp only at g1 g2 g3 g4 g5
          have hpl := hlaid.pl
          rw [hml] at hpl
          obtain ⟨eb, eoff, rfl, hpo0, c0, c1, c2⟩ := row_lastC rfl HST5.out.row
          rw [← hm] at c0 c1
          have q2 : (0 : Int) < (m : Int) + 1 := by omega
          have q3 : IntKind.i64.wrap (m : Int) = (m : Int) := IntWalk.i64_in _ (by omega)
          have q4 : IntKind.i64.wrap (f + l) = f + l := IntWalk.i64_in _ (by omega)
          have HM := Lib.hid hm
          have HML := Lib.hid hml
          have q5 : IntKind.i64.wrap (l + 1) = l + 1 := IntWalk.i64_in _ (by omega)
          clear hml hlaid
          have hi62 : i ≤ 62 := by omega
          have hm62 : m ≤ 61 := by omega
          clear hpl hm hpo0
          by_cases hfb : f + l = b
          · have q6 : ((f + l : Int) == (b : Int)) = true := by simp [hfb]
            go_wp2_with (go_at_call 9; refine (p_numF _).mono ?_; rintro e w2 ⟨rfl, rfl⟩)
            go_quiet (fail)
            have hst6 := HST5.out.keep0 ((Keep.refl [] w5).drewN nq)
            clear s0 s1 s2 s3 f5 c0 c1 c2 HST5
            generalize w5.drewN nq = w5 at *
            obtain ⟨s0, s1, s2, s3⟩ := cells4s hst6.sx
            have f5 := frozen4 hst6.sx
            obtain ⟨eb', eoff', he, hpo, c0, c1, c2⟩ := row_lastC rfl hst6.row
            cases he
            rw [← HM.out] at c0 c1
            have HST5 := Lib.hid hst6
            have HPO := Lib.hid hpo
            clear hst6 hpo
            go_wp2_with fail
            go_roundw
            case rel => exact ⟨i + 1, b + 1, qs ++ [(f, l + 1)], _, po, rfl, by go_num, by omega, by omega, by
              obtain rfl := HM.out
              have hk : Keep [eb] w5 (w5.setCell ⟨eb, eoff + qs.length * 2 + 1, none⟩ (.int .i64 (l + 1))) := Keep.set1 w5 ⟨eb, eoff + qs.length * 2 + 1, none⟩ _
              have hrow := (row_last HST5.out.row (l + 1)).1
              exact (HST5.out.turn (by rw [HPO.out]; exact hk) hrow (fun b hb => .inl hb)).imp (fun d' h => by obtain ⟨d, rfl, h⟩ := h; exact h.grow (by omega) hfb (ptB_len S i) (by omega))⟩
            case measure => simp [RowKit.intOf]; omega
          · have q6 : ((f + l : Int) == (b : Int)) = false := beq_eq_false_iff_ne.2 hfb
            go_wp2_with (go_at_call 9; refine (p_numF _).mono ?_; rintro e w2 ⟨rfl, rfl⟩)
            go_quiet (fail)
            have hst6 := HST5.out.keep0 ((Keep.refl [] w5).drewN nq)
            clear s0 s1 s2 s3 f5 c0 c1 c2 HST5
            generalize w5.drewN nq = w5 at *
            obtain ⟨s0, s1, s2, s3⟩ := cells4s hst6.sx
            have f5 := frozen4 hst6.sx
            have HST5 := Lib.hid hst6
            clear hst6
            go_wp2_with (at_builtin; go_loud (refine wpList_append_row _ rfl _ _ 23 23 rfl 54 i0 (.agg #[.int .i64 0, .int .i64 0]) 2 16 Try.underlying23 HI.out hz0 hz1 hz2 rfl _ _ _ po rfl (Row.keep HST5.out.row (F := []) ((Keep.refl [] _).alloc _) (by simp)) _ rfl 1 _ (src_ext w5 ((b : Int), (1 : Int)) _) (by omega) (by have := HML.out; unfold maxLen; omega) (by have := HML.out; omega) ?_); intro g off cap w6 hr6 hk6 hg6; have hro : ∀ c, some g = some c → po = some c ∨ (w5.alloc (.cells #[.int .i64 b, .int .i64 1] 54)).heap.size ≤ c := (by rintro c ⟨⟩; exact hg6); have hrE : RowE w6 (.slice (some ⟨g, off, none⟩) ((qs ++ [(f, l)]).length + 1) cap) ((qs ++ [(f, l)]) ++ [((b : Int), (1 : Int))]) (some g) := (row_snocE rfl hr6); have hpu := HST5.out.push ((Keep.refl [] w5).alloc (.cells #[.int .i64 b, .int .i64 1] 54)) hk6 hrE hro; obtain ⟨t0, t1, t2, t3⟩ := cells4s hpu.1; have f6 := frozen4 hpu.1; have HPU := Lib.hid hpu.2; clear hr6 hk6 hg6 hro hrE hpu s0 s1 s2 s3 f5)
            go_roundw
            case rel =>
              have hpu := HPU.out.imp (Pd' := fun d' => Laid (ptB S) d' ((qs ++ [(f, l)]) ++ [((b : Int), (1 : Int))]) (b + 1) (i + 1)) (fun d' h => by obtain ⟨d, rfl, h⟩ := h; exact h.push (by omega) (ptB_len S i) (by omega))
              rw [show (qs ++ [(f, l)]).length = qs.length + 1 by simp] at hpu
              exact ⟨i + 1, b + 1, _, _, _, rfl, by go_num, by omega, by omega, hpu⟩
            case measure => simp [RowKit.intOf]; omega
    · obtain rfl : i = K := by omega
      have hlt' : ¬ (i : Int) < (i : Int) := by omega
      obtain ⟨pa5, pc5, rfl⟩ := HST.out.row.form
      obtain ⟨s0, s1, s2, s3⟩ := cells4s HST.out.sx
      have f5 := frozen4 HST.out.sx
      by_cases h8 : 8 < ps.length
      · have h8' : (8 : Int) < (ps.length : Int) := by omega
        go_wp2_with (go_at_call 7; refine live_any.mono ?_; rintro e wl ⟨rfl, hkl⟩; have HKL := Lib.hid hkl; clear hkl)
        go_ret
        exact ⟨rfl, HST.out.keep.trans HKL.out (by simp)⟩
      have h8' : ¬ (8 : Int) < (ps.length : Int) := by omega
      have hSb : S.data.toList = bs := by rw [HS.out]
      obtain ⟨o5, hrd5, -⟩ := RowE.rde HST.out.row
      have HOWN := Lib.hid (fun (n : Int) (W : World) (o : Option Nat) (hr : RdE W (.slice pa5 ps.length pc5) ps o) => q_own (w := W) (x := ⟨5, ps, n, 0⟩) (pv := .slice pa5 ps.length pc5) hr (by simp only; omega))
      have HRD5 := Lib.hid hrd5
      have HSB := Lib.hid hSb
      have H8 := Lib.hid h8
      clear hrd5 hSb
      go_wp2_with (go_at_call 12; refine (HOWN.out (bs.length : Int) wr o5 HRD5.out).mono ?_; rintro e w6 ⟨pv6, po6, rfl, hr6, -, hk6⟩; have HR6 := Lib.hid hr6; have HK6 := Lib.hid hk6; clear hr6 hk6)
      have hload := HST.out.load (po' := po6) (len := (bs.length : Int)) HSB.out HKa.out (by have := H8.out; omega) HK6.out HR6.out (by omega) (by omega)
      have HLOAD := Lib.hid hload
      clear hload
      go_wp2_with (go_at_call 21; refine HLOAD.out.mono ?_; rintro e w7 ⟨hk7, h7⟩; have HK7 := Lib.hid hk7; obtain ⟨-, xv, xo, rfl, hxr, hxo⟩ | ⟨h7, -⟩ := h7; rotate_left; exact absurd rfl h7; obtain ⟨xa, xc, rfl, -, -⟩ := hxr.form; have HXR := Lib.hid hxr; have HXO := Lib.hid hxo; have hst7 := HST.out.keep0 (HK6.out.trans HK7.out (by simp)); clear s0 s1 s2 s3 f5; obtain ⟨s0, s1, s2, s3⟩ := cells4s hst7.sx; have f5 := frozen4 hst7.sx; have HST7 := Lib.hid hst7; clear hst7 hk7 hxr hxo)
      have hk8 : Keep [Sx] w7 (w7.setCell ⟨Sx, 2, none⟩ (.int .i64 ((bs.length : Int) + 1))) := Keep.set1 w7 ⟨Sx, 2, none⟩ _
      have hb8 : (w7.setCell ⟨Sx, 2, none⟩ (.int .i64 ((bs.length : Int) + 1))).heap[Sx]? = some (.cells #[.int .u64 5, .slice pa5 ps.length pc5, .int .i64 ((bs.length : Int) + 1), .int .i64 0] 25 (0, 0)) := by simpa using heap_setCell_at (i := 2) HST7.out.sx (.int .i64 ((bs.length : Int) + 1))
      have hr8 : RowE (w7.setCell ⟨Sx, 2, none⟩ (.int .i64 ((bs.length : Int) + 1))) (.slice pa5 ps.length pc5) ps po := HST7.out.row.keep hk8 (fun b hb => by simpa using row_neS HST7.out.row HST7.out.sx b hb)
      have hst8 := HST7.out.box hk8 hb8 hr8 HST7.out.ho
      have hx8 := HXR.out.keep hk8 (fun b hb => by
        have h1 := HXO.out b hb
        have h2 := (Array.getElem?_eq_some_iff.1 HST.out.sx).1
        have h3 := HK6.out.size
        simp
        omega)
      clear hk8 hb8 s0 s1 s2 s3 f5 HXR
      generalize w7.setCell ⟨Sx, 2, none⟩ (.int .i64 ((bs.length : Int) + 1)) = w8 at *
      obtain ⟨o8, hrd8, -⟩ := RowE.rde hr8
      have HST8 := Lib.hid hst8
      have HX8 := Lib.hid hx8
      have HRD8 := Lib.hid hrd8
      clear hr8 hst8 hx8 hrd8 HLOAD HST7
      go_wp2_with (go_at_call 12; refine (HOWN.out ((bs.length : Int) + 1) w8 o8 HRD8.out).mono ?_; rintro e w9 ⟨pv9, po9, rfl, hr9, -, hk9⟩; have HR9 := Lib.hid hr9; have HK9 := Lib.hid hk9; clear hr9 hk9)
      have hload := HST8.out.load (po' := po9) (len := (bs.length : Int) + 1) HSB.out HKa.out (by have := H8.out; omega) HK9.out HR9.out (by omega) (by omega)
      have HLOAD := Lib.hid hload
      clear hload
      go_wp2_with (go_at_call 21; refine HLOAD.out.mono ?_; rintro e w10 ⟨hk10, h10⟩; have HK10 := Lib.hid hk10; obtain ⟨h10, -⟩ | ⟨-, rfl⟩ := h10; exact absurd h10 (by omega); clear hk10)
      have hkw : Keep [] w w10 := (HST8.out.keep.trans HK9.out (by simp)).trans HK10.out (by simp)
      have hcv10 := HCV.out w10 hkw
      obtain ⟨xo', hxd, -⟩ := ((HX8.out.keep HK9.out (by simp)).keep HK10.out (by simp)).rd
      have hcvx := rd_text (P := Try.prog) (src := 38) (e := 5) (dst := 9) hxd Try.underlying38 Try.underlying5 Try.underlying9
      rw [← HS.out] at hcvx
      have HKW := Lib.hid hkw
      clear hkw hxd HLOAD
      go_wp2_with (first | (go_at_call 9; refine (p_numF _).mono ?_; rintro e w2 ⟨rfl, rfl⟩) | (go_at_call 7; refine live_any.mono ?_; rintro e wl ⟨rfl, hkl⟩; have HKL := Lib.hid hkl; clear hkl))
      go_ret
      exact ⟨rfl, HKW.out.trans HKL.out (by simp)⟩
end Go.Proofs.Ytdeghoigpcbmcaa

