/- A part of the proof (St7), joined by squeeze2.py. -/
import Derived.Test.YtimpadpeibgmoaaGreatYd28
import Derived.Test.YtimpadpeibgmoaaGreatYd13
import Derived.Test.YtimpadpeibgmoaaGreatYd07
import Derived.ControlIn
import Derived.Deep.QuietTactic
import Derived.BigQuiet
set_option maxHeartbeats 8000000
set_option maxRecDepth 100000
namespace Go.Proofs.YtimpadpeibgmoaaGreat
open Go.RowKit Go.Emb Go.Lib Go.Emb.Ext Go.Shelf
attribute [local go_sem] Oper.semAt_some
def KpS (T : List Nat) (A B : World) : Prop := A.heap.size ≤ B.heap.size ∧ ∀ b ∈ T, ∀ (cs : Array Value) (t : TypeId), A.heap[b]? = some (.cells cs t (0, 0)) → B.heap[b]? = some (.cells cs t (0, 0))
theorem KpS.refl (T : List Nat) (A : World) : KpS T A A := ⟨Nat.le_refl _, fun _ _ _ _ h => h⟩
theorem KpS.trans {T : List Nat} {A B C : World} (h : KpS T A B) (k : KpS T B C) : KpS T A C := ⟨Nat.le_trans h.1 k.1, fun b hb cs t hc => k.2 b hb cs t (h.2 b hb cs t hc)⟩
theorem KpS.of_keep {T F : List Nat} {A B : World} (h : Keep F A B) (hF : ∀ b ∈ T, b ∉ F) : KpS T A B := ⟨h.size, fun b hb _ _ hc => blkk hc h (hF b hb)⟩
theorem KpS.putObj (T : List Nat) (W : World) (l : Nat) (o o' : Obj) (hl : W.heap[l]? = some o) (ho : o.isCells = false) : KpS T W (W.putObj l o') := by
 have hg := grownBy_putObj' W l o'
 refine ⟨hg.size, fun b _ cs t hb => ?_⟩
 have hlt := (Array.getElem?_eq_some_iff.1 hb).1
 rw [hg.block b hlt (fun e => by cases e; rw [hl] at hb; cases hb; cases ho)]
 exact hb
theorem grown_drewN (W : World) (q : Nat) : W.grownBy (W.drewN q) none := by constructor <;> first | rfl | exact Nat.le_refl _ | (intros; rfl)
def ckArg (b off n : Nat) (l : List UInt8) (i : Nat) : Value := .slice (some ⟨b, off + i * n, none⟩) (chunk n l i).length (chunk n l i).length
theorem chunk_len {n : Nat} {l : List UInt8} {i : Nat} : (chunk n l i).length = min n (l.length - i * n) := by unfold chunk; rw [List.length_take, List.length_drop]
theorem chunk1_in (l B1 B2 b off c n : Nat) (bs : List UInt8) (hn : 1 ≤ n) (hn2 : n ≤ 1000000) (hbs : bs.length ≤ 1000000000) (hc : bs.length ≤ c) (hc2 : c ≤ maxLen) (N : Nat) (hN : 1 ≤ N) (J Jx : List {i : Nat // i < cnt n bs} → World → Prop)
  (hY : ∀ pre x W, J pre W → pre.length < cnt n bs → YieldAt Fence.wide (N - 1) Tryz.prog l #[ckArg b off n bs x.1] W fun e W' =>
    (e = .returned (.bool true) ∧ J (pre ++ [x]) W' ∧ KpS [B1, B2] W W') ∨ (e = .returned (.bool false) ∧ Jx (pre ++ [x]) W'))
  (W : World) (hJ : AbidesFrom W.heap.size J) (hB1 : W.heap[B1]? = some (.cells #[.slice (some ⟨b, off, none⟩) bs.length c] 35 (0, 0))) (hB2 : W.heap[B2]? = some (.cells #[.int .i64 (n : Nat)] 3 (0, 0))) (h0 : J [] W) :
  CallsIn Fence.wide N Tryz.prog 136 #[.func (.yield l) #[] #[], .pointer (some ⟨B1, 0, none⟩), .pointer (some ⟨B2, 0, none⟩)] W fun e W' => (∃ v, e = .returned v) ∧
   ((∃ ys, ys.map (·.1) = List.range (cnt n bs) ∧ J ys W') ∨ (∃ pre, True ∧ Jx pre W')) := by
 have HJ := hyd hJ
 have HY := hyd hY
 have HB1 := hyd hB1
 have HB2 := hyd hB2
 have hc3 := hc2
 unfold maxLen at hc3
 clear hJ hY hB1 hB2
 refine callsIn_of_wp Tryz.func136 rfl trivial ?_ rfl
 simp only [Tryz.ntmps136, List.size_toArray, List.length_cons, List.length_nil, Nat.reduceAdd, Nat.reduceSub, Array.replicate_succ, Array.replicate_zero, List.push_toArray, List.append_toArray, List.nil_append, List.cons_append]
 gi_wp2
 gi_loopw [4] (fun i wr => ∃ k : Nat, k ≤ cnt n bs ∧ i = .int .i64 ((k * n : Nat) : Int) ∧ (∃ pre : List {i : Nat // i < cnt n bs}, pre.map (·.1) = List.range k ∧ J pre wr) ∧ KpS [B1, B2] W wr) (fun i _ => cnt n bs * n - (intOf i).toNat)
 case atStart => exact ⟨0, Nat.zero_le _, by simp, ⟨[], rfl, h0⟩, KpS.refl _ _⟩
 case round =>
  obtain ⟨k, hk, rfl, ⟨pre, hpre, hJs⟩, hkp⟩ := hrel
  have HJS := hyd hJs
  have HPRE := hyd hpre
  have HKP := hyd hkp
  clear hJs hkp h0 hpre
  have g1 := cell1 (HKP.o.2 B1 (by simp) _ _ HB1.o)
  have g2 := cell1 (HKP.o.2 B2 (by simp) _ _ HB2.o)
  have hkc := cnt_lt (n := n) (l := bs) (i := k) hn
  obtain ⟨K, hK⟩ : ∃ K, K = k * n := ⟨_, rfl⟩
  have HKE := hyd hK
  rw [← hK] at hkc ⊢
  clear hK
  by_cases hlt : K < bs.length
  ·have hlt' : (K : Int) < (bs.length : Int) := by omega
   have hkl : k < cnt n bs := hkc.2 hlt
   have hkn : K ≤ 1000000000 := by omega
   gi_wp2_with fail
   refine wpIn_wide.2 ?_
   go_quiet (fail)
   obtain ⟨m, hm⟩ : ∃ m, m = (chunk n bs k).length := ⟨_, rfl⟩
   have hm2 := hm
   rw [chunk_len, ← HKE.o] at hm2
   rw [show min (n : Int) ((bs.length - K : Nat) : Int) = (m : Int) by omega]
   have hJ2 := HJ.o _ _ _ none HJS.o (grown_drewN wr nq) (fun r e => by cases e)
   have hkp2 : KpS [B1, B2] wr (wr.drewN nq) := KpS.of_keep ((Keep.refl [] wr).drewN nq) (by simp)
   have HKP2 := hyd (HKP.o.trans hkp2)
   generalize wr.drewN nq = w2 at *
   have g1 := cell1 (HKP2.o.2 B1 (by simp) _ _ HB1.o)
   have g2 := cell1 (HKP2.o.2 B2 (by simp) _ _ HB2.o)
   have hlen : pre.length < cnt n bs := by
    have h1 := congrArg List.length HPRE.o
    rw [List.length_map, List.length_range] at h1
    omega
   have hyy := HY.o _ ⟨k, hkl⟩ w2 hJ2 hlen
   have harg : ckArg b off n bs k = .slice (some ⟨b, off + K, none⟩) m m := by unfold ckArg; rw [← hm, ← HKE.o]
   simp only [harg] at hyy
   obtain ⟨fn', tmps, assign, body, hy, hR⟩ := hyy
   have HRR := hyd hR
   have HM2 := hyd hm2
   have hKm : K + m ≤ bs.length := by omega
   have hm0 : m ≠ 0 := by omega
   clear hR hlen hkp2 hJ2 harg hm hm2 hkc
   gi_wp2
   refine HRR.o.mono ?_
   rintro e W3 (⟨rfl, hJ3, hk3⟩ | ⟨rfl, hJx3⟩)
   ·have HJ3 := hyd hJ3
    have HK3 := hyd (HKP2.o.trans hk3)
    clear hJ3 hk3 g1 g2
    have g2 := cell1 (HK3.o.2 B2 (by simp) _ _ HB2.o)
    have hs1 : ((k + 1) * n : Nat) = K + n := by rw [HKE.o, Nat.add_mul, Nat.one_mul]
    have HS1 := hyd hs1
    clear hs1
    gi_wp2
    go_roundw
    case rel => exact ⟨k + 1, by omega, by rw [HS1.o]; simp, ⟨_, by rw [List.map_append, HPRE.o, List.range_succ]; rfl, HJ3.o⟩, HK3.o⟩
    case measure =>
     have h1 := cnt_mul (n := n) hn bs
     simp [intOf]
     omega
   ·gi_wp2
    refine bodyPost_ret (results_none rfl _ _ _) rfl ?_
    exact ⟨⟨_, rfl⟩, .inr ⟨_, trivial, hJx3⟩⟩
  ·have hlt' : ¬ (K : Int) < (bs.length : Int) := by omega
   obtain rfl : k = cnt n bs := by omega
   gi_wp2
   go_end0
   exact ⟨⟨_, rfl⟩, .inl ⟨pre, HPRE.o, HJS.o⟩⟩
theorem chunk_stops (N : Nat) (hN : 1 ≤ N) (B1 B2 b off c n : Nat) (bs : List UInt8) (hn : 1 ≤ n) (hn2 : n ≤ 1000000) (hbs : bs.length ≤ 1000000000) (hc : bs.length ≤ c) (hc2 : c ≤ maxLen) (w : World) (hB1 : w.heap[B1]? = some (.cells #[.slice (some ⟨b, off, none⟩) bs.length c] 35 (0, 0))) (hB2 : w.heap[B2]? = some (.cells #[.int .i64 (n : Nat)] 3 (0, 0))) :
  SeqStopsK Fence.wide N Tryz.prog 136 #[.pointer (some ⟨B1, 0, none⟩), .pointer (some ⟨B2, 0, none⟩)] (fun x : {i : Nat // i < cnt n bs} => #[ckArg b off n bs x.1]) (KpS [B1, B2]) (fun ys => ys.map (·.1) = List.range (cnt n bs)) (fun _ => True) (cnt n bs) w := fun l J Jx W hW hJ _ hY h0 => by
 have hk : Keep [] w W := Keep.of_below hW
 exact chunk1_in l B1 B2 b off c n bs hn hn2 hbs hc hc2 N hN J Jx hY W hJ (blkk hB1 hk (by simp)) (blkk hB2 hk (by simp)) h0
theorem p_chunkF {w : World} {a : Option Addr} {n c m : Nat} (hm : 1 ≤ m) : Calls Tryz.prog 122 #[.slice a n c, .int .i64 (m : Nat)] w fun e w' => e = .returned (.func (.func 136) #[] #[.pointer (some ⟨w.heap.size, 0, none⟩), .pointer (some ⟨w.heap.size + 1, 0, none⟩)]) ∧ w' = (w.alloc (.cells #[.slice a n c] 35)).alloc (.cells #[.int .i64 (m : Nat)] 3) := by
 have h1 : ¬ (m : Int) < 1 := by omega
 go_enter Tryz.func122, Tryz.ntmps122
 go_wp2_with fail
 go_ret
 exact ⟨rfl, rfl⟩
structure BsV where
 v : Value
 b : List UInt8
def PartsP (w : World) (n : Nat) (bs : List UInt8) (e : Ending) (w' : World) : Prop :=
 ∃ (v : Value) (o : Option Nat) (ys : List BsV), e = .returned v ∧ ys.map BsV.b = chunks n bs ∧ Row w' 35 1 v ys.length (ys.map BsV.v) o ∧ (∀ y ∈ ys, ∃ o, RB w' y.v y.b o ∧ ∀ b, o = some b → w.heap.size ≤ b) ∧ (∀ b, o = some b → w.heap.size ≤ b) ∧ Keep [] w w'
def postN (F : Fence) (n : Nat) (P : Program) (fn : Func) (R : Ending → World → Prop) : Exit → Act → World → Prop
 | .panic _, _, _ => False
 | .normal, a, w => bodyPostM F n P fn R .normal a w
 | .ret, a, w => bodyPostM F n P fn R .ret a w
 | .outgrown, _, w => R .outgrown w
 | _, _, _ => False
theorem postN_post {F : Fence} {n : Nat} {P : Program} {fn : Func} {R : Ending → World → Prop} : ∀ e a w, postN F n P fn R e a w → bodyPostM F n P fn R e a w
 | .panic _, _, _, h => h.elim
 | .normal, _, _, h => h
 | .ret, _, _, h => h
 | .outgrown, _, _, h => h
 | .exit _, _, _, h => h.elim
 | .goto _, _, _, h => h.elim
theorem box_done {W : World} {g4 D0 : Nat} {v4 x4 : Value} {t4 : TypeId} (h4 : W.heap[g4]? = some (.cells #[x4] t4 (0, 0))) (hD : W.heap[D0]? = some (.deferred (some []))) :
  (W.setCell ⟨g4, 0, none⟩ v4).heap[D0]? = some (.deferred (some [])) ∧
  ((W.setCell ⟨g4, 0, none⟩ v4).putObj D0 (.deferred none)).cell? ⟨g4, 0, none⟩ = some v4 ∧
  Keep [g4, D0] W ((W.setCell ⟨g4, 0, none⟩ v4).putObj D0 (.deferred none)) := by
 have n4 : g4 ≠ D0 := fun e => by rw [e, hD] at h4; cases h4
 have k1 : Keep [g4] W (W.setCell ⟨g4, 0, none⟩ v4) := Keep.set1 W ⟨g4, 0, none⟩ v4
 have b4 := heap_setCell_at (i := 0) h4 v4
 have hD1 := (k1.block D0 (Array.getElem?_eq_some_iff.1 hD).1 (by simpa using fun e => n4 e.symm)).trans hD
 have kp : Keep [D0] (W.setCell ⟨g4, 0, none⟩ v4) ((W.setCell ⟨g4, 0, none⟩ v4).putObj D0 (.deferred none)) :=
  (Keep.refl [D0] _).grown (grownBy_putObj' _ D0 _) (fun k e => .inl (by cases e; simp))
 refine ⟨hD1, ?_, ?_⟩
 ·exact cell1 (by simpa using blkk b4 kp (by simpa using n4))
 ·exact (k1.mono (by simp)).trans (kp.mono (F := [D0]) (G := [g4, D0]) (by simp)) (fun b hb => .inl hb)
theorem sl_info : (Tryz.prog.info? 35).map (fun i => (i.zero, i.size, i.bytes)) = some (some (.slice none 0 0), 1, 24) := by kernel_rfl
def PtI (Wb : World) (Bo n : Nat) (bs : List UInt8) (pre : List {i : Nat // i < cnt n bs}) (W : World) : Prop :=
 ∃ (v : Value) (o : Option Nat) (ys : List BsV), W.heap[Bo]? = some (.cells #[v] 104 (0, 0)) ∧ ys.map BsV.b = pre.map (fun i => chunk n bs i.1) ∧ Row W 35 1 v ys.length (ys.map BsV.v) o ∧ (∀ y ∈ ys, ∃ o, RB W y.v y.b o ∧ ∀ b, o = some b → Wb.heap.size ≤ b) ∧ (∀ b, o = some b → Wb.heap.size ≤ b) ∧ Keep [Bo] Wb W
theorem ptI_own (Wb : World) (Bo n : Nat) (bs : List UInt8) (hBo : Bo < Wb.heap.size) : OwnFrom Wb.heap.size (PtI Wb Bo n bs) := by
 intro s W W' row hs hg hr
 obtain ⟨v, o, ys, h1, h2, h3, h4, h5, h6⟩ := hs
 refine ⟨v, o, ys, ?_, h2, Row.grown h3 hg (fun r e => (hr r e).2), fun y hy => ?_, h5, h6.grown hg (fun k e => .inr (hr k e).1)⟩
 ·rw [hg.block Bo (Array.getElem?_eq_some_iff.1 h1).1 (fun e => by have := (hr Bo e.symm).1; omega)]
  exact h1
 ·obtain ⟨o', g1, g2⟩ := h4 y hy
  exact ⟨o', Row.grown g1 hg (fun r e => (hr r e).2), g2⟩
theorem p_parts {w : World} {size b off c : Nat} {bs : List UInt8} {o : Option Nat} (hs : 64 ≤ size ∧ size ≤ 4096) (hr : Rd w 1 (.slice (some ⟨b, off, none⟩) bs.length c) bs.length (Lib.byteCells bs) o) (ho : ∀ b, o = some b → b < w.heap.size) (hne : bs ≠ []) (hsz : bs.length ≤ 1000000000) :
  Calls Tryz.prog 92 #[.int .i64 (size : Nat), .slice (some ⟨b, off, none⟩) bs.length c] w (PartsP w (roomN size) bs) := by
 have hcc : bs.length ≤ c ∧ c ≤ maxLen := by obtain ⟨-, a, c', e, h1, h2, -⟩ := hr; cases e; exact ⟨h1, h2⟩
 obtain rfl : o = some b := by
  obtain ⟨-, a, c', e, h1, h2, h3⟩ := hr
  cases e
  rcases h3 with ⟨h3, -⟩ | ⟨b', off', e1, e2, -⟩
  ·exact absurd (List.eq_nil_of_length_eq_zero h3) hne
  ·cases e1; exact e2
 have hblt := ho b rfl
 have hpos : 0 < bs.length := List.length_pos_iff.2 hne
 have hrn : roomN size = size - 15 := by unfold roomN; rw [if_neg (by omega)]
 obtain ⟨n, hn⟩ : ∃ n, n = roomN size := ⟨_, rfl⟩
 have hn1 : 1 ≤ n := by omega
 have hn2 : n ≤ 1000000 := by omega
 have HRM := hyd (fun W => p_room (size : Int) W)
 rw [roomI_nat, ← hn] at HRM
 rw [← hn]
 have HR := hyd hr
 have hn0 : ¬ (n : Int) = 0 := by omega
 have hn0' : ((n : Int) == 0) = false := by rw [beq_eq_false_iff_ne]; exact hn0
 clear hr ho hs hrn hn hne
 have hkw1 : Keep [] w (w.alloc (.cells #[.slice none 0 0] 104)) := (Keep.refl [] w).alloc _
 have HB0 := hyd (heap_new w (.cells #[.slice none 0 0] 104))
 have HK1 := hyd hkw1
 have HS1 := hyd (size_alloc w (.cells #[.slice none 0 0] 104))
 clear hkw1
 refine (callsIn_wide (n := 6)).1 ?_
 have hro : Fence.wide.round = none := rfl
 refine callsIn_of_wp_marks Tryz.func92 rfl trivial ?_ hro
 simp only [Tryz.ntmps92, List.size_toArray, List.length_cons, List.length_nil, Nat.reduceAdd, Nat.reduceSub, Array.replicate_succ, Array.replicate_zero, List.push_toArray, List.append_toArray, List.nil_append, List.cons_append]
 refine wpIn_wide.2 (wp_mono (Q := postN Fence.wide 6 Tryz.prog Tryz.f92 (PartsP w n bs)) ?_ postN_post)
 go_upto_region 1 with fail
 generalize w.alloc (.cells #[.slice none 0 0] 104) = w1 at *
 go_wp2_with fail
 refine (HRM.o _).mono ?_
 rintro e w1' ⟨rfl, rfl⟩
 go_wp2_with fail
 refine (HRM.o _).mono ?_
 rintro e w1' ⟨rfl, rfl⟩
 go_wp2_with fail
 refine (p_chunkF hn1).mono ?_
 rintro e w5 ⟨rfl, rfl⟩
 go_wp2_with fail
 refine (wpIn_wide (n := 6)).1 ?_
 have hWb : ∃ Wb, Wb = (w1.alloc (.cells #[.slice (some ⟨b, off, none⟩) bs.length c] 35)).alloc (.cells #[.int .i64 (n : Nat)] 3) := ⟨_, rfl⟩
 have hkb : Keep [] w1 ((w1.alloc (.cells #[.slice (some ⟨b, off, none⟩) bs.length c] 35)).alloc (.cells #[.int .i64 (n : Nat)] 3)) := ((Keep.refl [] w1).alloc _).alloc _
 have hb1 := lit_alloc (heap_new w1 (.cells #[.slice (some ⟨b, off, none⟩) bs.length c] 35)) (.cells #[.int .i64 (n : Nat)] 3)
 have hb2 := heap_new (w1.alloc (.cells #[.slice (some ⟨b, off, none⟩) bs.length c] 35)) (.cells #[.int .i64 (n : Nat)] 3)
 rw [size_alloc] at hb2
 have hszb : ((w1.alloc (.cells #[.slice (some ⟨b, off, none⟩) bs.length c] 35)).alloc (.cells #[.int .i64 (n : Nat)] 3)).heap.size = w1.heap.size + 2 := by simp
 have HKB := hyd (HK1.o.trans hkb (by simp))
 have HBO := hyd (blkk HB0.o hkb (by simp))
 have HBP := hyd hb1
 have HBN := hyd hb2
 have HSZB := hyd hszb
 clear hkb hb1 hb2 hszb HB0 HK1 hWb
 generalize (w1.alloc (.cells #[.slice (some ⟨b, off, none⟩) bs.length c] 35)).alloc (.cells #[.int .i64 (n : Nat)] 3) = Wb at *
 generalize w1.heap.size = B1 at *
 obtain ⟨i0, hi, hz0, hz1, hz2⟩ := info_parts sl_info
 have HI := hyd hi
 clear hi
 refine wpIn_rangeFunc_ownH hro (by omega) (gf := 136) (lb := #[.pointer (some ⟨B1, 0, none⟩), .pointer (some ⟨B1 + 1, 0, none⟩)]) rfl trivial (enters_of Tryz.func136 (by kernel_rfl) rfl)
  (chunk_stops (6 - 1) (by omega) B1 (B1 + 1) b off c n bs hn1 hn2 hsz hcc.1 hcc.2 Wb HBP.o HBN.o) KpS.trans (fun W l o o' _ hl ho _ => KpS.putObj _ W l o o' hl ho) (Below.refl _ _) (fun _ => rfl)
  (PtI Wb w.heap.size n bs) (fun _ _ _ => False) (ptI_own Wb w.heap.size n bs (by have := HSZB.o; have := HS1.o; omega)) (fun _ _ _ _ _ hs _ _ => hs)
  ⟨_, none, [], HBO.o, rfl, Row.nil _ _ _, by simp, by simp, Keep.refl _ _⟩
  (fun x a' _ => a' = { tmps := #[.int .i64 (size : Nat), .slice (some ⟨b, off, none⟩) bs.length c, undef, undef, .pointer (some ⟨w.heap.size, 0, none⟩), ckArg b off n bs x.1, .int .i64 (size : Nat), .int .i64 (n : Nat), .bool false, .slice (some ⟨b, off, none⟩) bs.length c, .int .i64 (size : Nat), .int .i64 (n : Nat), .func (.func 136) #[] #[.pointer (some ⟨B1, 0, none⟩), .pointer (some ⟨B1 + 1, 0, none⟩)], ckArg b off n bs x.1, undef, undef, undef, undef, undef, undef], defers := [] }) (fun _ _ _ _ _ _ h _ _ => h)
  ?assign ?body ?done ?stop
 case assign =>
  rintro l pre x W K hI hK
  obtain ⟨v1, o1, ys, hbx, hyb, hrow, hys, ho1, hkw⟩ := id hI
  gi_wp2
  exact hK _ _ ((KeepsOthers.refl _).from _) (KpS.refl _ _) hI rfl
 case body =>
  rintro l pre x a' W hl hloop ⟨v1, o1, ys, hbx, hyb, hrow, hys, ho1, hkw⟩ rfl hlt
  obtain ⟨k, hk⟩ := x
  simp only
  obtain ⟨va, vc, rfl⟩ : ∃ a c, v1 = .slice a ys.length c := by
   obtain ⟨o2, ⟨-, a, c, h, -⟩, -⟩ := hrow.rd
   exact ⟨a, c, h⟩
  have hyl : ys.length ≤ 1001000000 := by
   have h1 := congrArg List.length hyb
   rw [List.length_map, List.length_map] at h1
   have h2 : cnt n bs * 1 ≤ cnt n bs * n := Nat.mul_le_mul_left _ hn1
   have h3 : cnt n bs * n ≤ bs.length + n := by
    unfold cnt
    have := Nat.div_mul_le_self (bs.length + n - 1) n
    omega
   omega
  have hkk := (cnt_lt (n := n) (l := bs) (i := k) hn1).1 hk
  have hW2 := HSZB.o
  have hrdc : Rd W 1 (ckArg b off n bs k) (chunk n bs k).length (Lib.byteCells (chunk n bs k)) (some b) := by
   have h1 := (HR.o.keep (HKB.o) (by simp)).keep hkw (fun b' hb' => by cases hb'; have := HS1.o; simp; omega)
   have h2 := rd_part h1 hpos (lo := k * n) (m := (chunk n bs k).length) (by rw [chunk_len]; omega)
   have h3 : (bs.drop (k * n)).take (chunk n bs k).length = chunk n bs k := by
    rw [chunk_len]
    unfold chunk
    rw [Nat.min_comm]
    exact (List.take_eq_take_iff).2 (by rw [List.length_drop]; omega)
   rw [h3] at h2
   obtain ⟨l1, a, c', e, l2, l3, l4⟩ := h2
   cases e
   refine ⟨l1, _, _, rfl, Nat.le_refl _, by unfold maxLen at *; omega, ?_⟩
   rcases l4 with ⟨l4, -⟩ | l4
   ·rw [chunk_len] at l4; omega
   ·exact .inr l4
  have d0 := cell1 hbx
  have HBX := hyd hbx
  have HYB := hyd hyb
  have HROW := hyd hrow
  have HYS := hyd hys
  have HO1 := hyd ho1
  have HKW := hyd hkw
  have HRC := hyd hrdc
  have hcl := chunk_le n bs k
  obtain ⟨cv, hcv⟩ : ∃ v, v = ckArg b off n bs k := ⟨_, rfl⟩
  rw [← hcv] at HRC ⊢
  have HHK := hyd hk
  clear hbx hyb hrow hys ho1 hkw hrdc hloop hkk hcv hW2 hlt
  gi_wp2_with fail
  refine region_roundB [2, 3] (fun w' => Keep [] W w') (by kernel_rfl) (by kernel_rfl) (fun _ _ h => h) ?_
  refine tkY 1 ?vA1 rfl ?runA1 ?_
  case runA1 => (intro w9 _; go_simp; try exact rfl)
  try simp only [Act.put, lA, lZ, lS]
  refine tkB [2, 3] 0 ?vA0 rfl ?runA0 ((Keep.refl [] W).drew) ?_
  case runA0 => (intro w9 hS9; obtain d9 := cell1 (blkk HBX.o hS9 (by simp)); go_simp; try exact rfl)
  try simp only [Act.put, lA, lZ, lS]
  refine rdB 2 rfl (fun K hK => ?_)
  go_simp
  refine (p_clone (HRC.o.keep (Keep.refl [] W).drew (by simp)) (by omega)).mono ?_
  rintro e w2 ⟨v2, o2, rfl, hr2, ho2, hk2⟩
  have hk2' := (Keep.refl [] W).drew.trans hk2 (by simp)
  obtain ⟨ca, cc, rfl, -⟩ := hr2.form
  have HR2 := hyd hr2
  have HO2 := hyd ho2
  have HK2 := hyd hk2'
  clear hr2 ho2 hk2 hk2'
  go_wp2_with fail
  refine hK.out _ _ (fun h => HK2.o) ?_
  clear hK K
  try simp only [Act.put, lA, lZ, lS]
  refine rdB 3 rfl (fun K hK => ?_)
  go_simp
  refine hK.out _ _ (fun h => HK2.o.alloc _) ?_
  clear hK K
  try simp only [Act.put, lA, lZ, lS]
  have hka : Keep [] w2 (w2.alloc (.cells #[.slice ca (chunk n bs k).length cc] 35)) := (Keep.refl [] w2).alloc _
  have HNR := hyd ((HROW.o.keep HK2.o (by simp)).keep hka (by simp))
  have HNS := hyd (rd_block (n := 1) (k := 1) (heap_new w2 (.cells #[.slice ca (chunk n bs k).length cc] 35)) (xs := [.slice ca (chunk n bs k).length cc]) (by simp) (by simp [maxLen]))
  have HN1 := hyd (show ∀ u ∈ [Value.slice ca (chunk n bs k).length cc], u.oneCell' = true from by intro u hu; simp at hu; subst hu; rfl)
  have HKA := hyd (HK2.o.trans hka (by simp))
  have HR3 := hyd (HR2.o.keep hka (by simp))
  clear hka
  refine rdB 4 rfl (fun K hK => ?_)
  refine step_append_any _ (by kernel_rfl) _ _ 104 104 rfl 35 35 i0 (.slice none 0 0) 1 24 Tryz.underlying104 Tryz.underlying104 HI.o hz0 hz1 hz2 rfl _ ys.length (ys.map BsV.v) o1 rfl HNR.o _ rfl 1 _ (some _) HNS.o HN1.o (by first | (unfold maxLen; omega) | (simp [maxLen] <;> omega)) (by omega) ?_
  intro v4 o4 w4 hr4 hk4 ho4
  refine hK.out _ _ (fun h => (nomatch h)) ?_
  clear hK K
  try simp only [Act.put, lA, lZ, lS]
  obtain ⟨a4, c4, N4, hN4, rfl⟩ : ∃ a c n, n = ys.length + 1 ∧ v4 = .slice a n c := by
   obtain ⟨o5, ⟨-, a, c, h, -⟩, -⟩ := hr4.rd
   exact ⟨a, c, _, rfl, h⟩
  have hty : ∀ b, o1 = some b → ∃ cs, W.heap[b]? = some (.cells cs 35 (0, 0)) := fun b hb => row_blk (show Row W _ _ _ _ _ (some b) from hb ▸ HROW.o)
  have hBo : w.heap.size ∉ o1.toList := fun hm => by
   obtain ⟨cs, h⟩ := hty w.heap.size (by simpa using hm)
   have h2 := HBX.o
   rw [h] at h2
   injection h2 with h2
   injection h2 with _ h2
   exact absurd h2 (by decide)
  have hbx4 := blkk (blkk HBX.o HKA.o (by simp)) hk4 hBo
  have e4 := cell1 hbx4
  have f4 := frozen4 hbx4
  have HN4 := hyd hN4
  have HBX4 := hyd hbx4
  have HR4 := hyd hr4
  have HK4 := hyd hk4
  have HO4 := hyd ho4
  have HTY := hyd hty
  have HBN2 := hyd hBo
  clear hN4 hbx4 hr4 hk4 ho4 hty hBo
  refine rdB 5 rfl (fun K hK => ?_)
  go_simp
  refine hK.out _ _ (fun h => (nomatch h)) ?_
  clear hK K
  try simp only [Act.put, lA, lZ, lS]
  refine wpAnyB_done (by kernel_rfl) ?_ _
  clear e4 f4 d0
  gi_wp2_with fail
  have hks : Keep [w.heap.size] w4 (w4.setCell ⟨w.heap.size, 0, none⟩ (.slice a4 N4 c4)) := Keep.set1 w4 ⟨w.heap.size, 0, none⟩ _
  have hkw4 : Keep o1.toList W w4 := (HKA.o.mono (by simp)).trans HK4.o (fun b hb => .inl hb)
  have hkall : Keep (w.heap.size :: o1.toList) W (w4.setCell ⟨w.heap.size, 0, none⟩ (.slice a4 N4 c4)) := (hkw4.mono (fun b hb _ => by simp at hb; simp [hb])).trans (hks.mono (G := w.heap.size :: o1.toList) (by simp)) (fun b hb => .inl hb)
  have hWs : Wb.heap.size ≤ W.heap.size := HKW.o.size
  have hbn : ∀ b, o4 = some b → Wb.heap.size ≤ b := fun b hb => by
   rcases HO4.o b hb with h | h
   ·exact HO1.o b h
   ·have h1 := HKA.o.size
    omega
  have hsb := HSZB.o
  have hs1 := HS1.o
  have hrowu : ∀ {v : Value} {xs : List UInt8} {o : Option Nat}, RB w4 v xs o → (∀ b, o = some b → b ≠ w.heap.size) → RB (w4.setCell ⟨w.heap.size, 0, none⟩ (.slice a4 N4 c4)) v xs o := fun {v xs o} h hn => h.keep hks (fun b hb => by simpa using hn b hb)
  have hro1 : ∀ {v : Value} {xs : List UInt8} {o : Option Nat} {W' : World}, Keep [] W W' → RB W' v xs o → ∀ b, o = some b → b ∉ o1.toList := fun {v xs o W'} hk h b hb hm => by
   obtain ⟨cs, h1⟩ := row_blk (show Row W' 5 _ _ _ _ (some b) from hb ▸ h)
   obtain ⟨cs', h2⟩ := HTY.o b (by simpa using hm)
   have h3 := blkk h2 hk (by simp)
   rw [h1] at h3
   injection h3 with h3
   injection h3 with _ h3
   exact absurd h3 (by decide)
  refine ⟨(hkall.others (fun b hb => ?_)).from _, KpS.of_keep hkall ?_, .slice a4 N4 c4, o4, ys ++ [⟨.slice ca (chunk n bs k).length cc, chunk n bs k⟩], (by simpa using heap_setCell_at (i := 0) HBX4.o (.slice a4 N4 c4)), ?_, ?_, ?_, hbn, ?_⟩
  ·rcases List.mem_cons.1 hb with rfl | hb
   ·exact ⟨_, HBX.o, rfl⟩
   ·obtain ⟨cs, h⟩ := HTY.o b (by simpa using hb)
    exact ⟨_, h, rfl⟩
  ·intro b hb hm
   have hb' : b = B1 ∨ b = B1 + 1 := by simpa using hb
   rcases List.mem_cons.1 hm with rfl | hm
   ·omega
   ·have := HO1.o b (by simpa using hm)
    omega
  ·rw [List.map_append, List.map_append, HYB.o]; rfl
  ·rw [List.length_append, List.map_append]
   exact HR4.o.keep hks (fun b hb => by have := hbn b hb; simp; omega)
  ·intro y hy
   rcases List.mem_append.1 hy with hy | hy
   ·obtain ⟨o', h1, h2⟩ := HYS.o y hy
    exact ⟨o', hrowu ((h1.keep HKA.o (by simp)).keep HK4.o (hro1 (Keep.refl [] W) h1)) (fun b hb => by have := h2 b hb; omega), h2⟩
   ·obtain rfl := List.mem_singleton.1 hy
    have hlt2 := HK2.o.size
    exact ⟨o2, hrowu (HR3.o.keep HK4.o (hro1 HKA.o HR3.o)) (fun b hb => by have := HO2.o b hb; simp at this; omega), fun b hb => by have := HO2.o b hb; simp at this; omega⟩
  ·refine HKW.o.trans (hkall.mono (G := w.heap.size :: o1.toList) (fun b hb _ => hb)) (fun b hb => ?_)
   rcases List.mem_cons.1 hb with rfl | hb
   ·exact .inl (by simp)
   ·exact .inr (HO1.o b (by simpa using hb))
 case done =>
  rintro D0 zs W hD hzs ⟨v1, o1, ys, hbx, hyb, hrow, hys, ho1, hkw⟩ hK
  obtain ⟨va, vc, N1, hN1, rfl⟩ : ∃ a c m, m = ys.length ∧ v1 = .slice a m c := by
   obtain ⟨o2, ⟨-, a, c, h, -⟩, -⟩ := hrow.rd
   exact ⟨a, c, _, rfl, h⟩
  have e0 := cell1 hbx
  have f0 := frozen4 hbx
  have HBD := hyd (fun (v4 : Value) => box_done (v4 := v4) hbx hK)
  have HYB := hyd (show ys.map BsV.b = chunks n bs from by
    rw [hyb]
    unfold chunks
    rw [← hzs, List.map_map]
    rfl)
  have HROW := hyd hrow
  have HYS := hyd hys
  have HO1 := hyd ho1
  have HKW := hyd hkw
  have HBX := hyd hbx
  have HDK := hyd hK
  have HN1 := hyd hN1
  clear hyb hrow hys ho1 hkw hK hbx hN1 hzs
  go_wp2_with fail
  obtain ⟨hD1, g4, hkf⟩ := HBD.o (.slice va N1 vc)
  have hsb := HSZB.o
  have hs1 := HS1.o
  have hty : ∀ {E' : TypeId} {k m : Nat} {v : Value} {xs : List Value} {o : Option Nat}, E' ≠ 104 → Row W E' k v m xs o → ∀ b, o = some b → b ∉ [w.heap.size, D0] := fun {E' k m v xs o} hE h b hb hm => by
   obtain ⟨cs, hcs⟩ := row_blk (show Row W E' _ _ _ _ (some b) from hb ▸ h)
   simp at hm
   rcases hm with rfl | rfl
   ·have h2 := HBX.o
    rw [hcs] at h2
    injection h2 with h2
    injection h2 with _ h2
    exact hE h2
   ·have h2 := HDK.o
    rw [hcs] at h2
    cases h2
  refine ⟨by simp, .inl ⟨_, _, rfl, run_takeDeferred hD1, ?_⟩⟩
  refine ⟨.slice va N1 vc, by simp [results, Tryz.results92, go_sem, g4], ?_⟩
  refine ⟨_, o1, ys, rfl, HYB.o, HROW.o.keep hkf (hty (by decide) HROW.o), fun y hy => ?_, fun b hb => by have := HO1.o b hb; omega, (HKB.o.trans HKW.o (fun b hb => by simp at hb; subst hb; exact .inr (by omega))).trans hkf (fun b hb => ?_)⟩
  ·obtain ⟨o', h1, h2⟩ := HYS.o y hy
   exact ⟨o', Row.keep h1 hkf (hty (by decide) h1), fun b hb => by have := h2 b hb; omega⟩
  ·simp at hb
   rcases hb with rfl | rfl
   ·exact .inr (by omega)
   ·exact .inr (by omega)
 case stop =>
  rintro D0 c pre W _ _ h _
  exact h.elim
end Go.Proofs.YtimpadpeibgmoaaGreat
