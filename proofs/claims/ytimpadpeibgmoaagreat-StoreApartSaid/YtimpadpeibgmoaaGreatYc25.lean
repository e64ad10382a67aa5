/- A part of the proof (Ext8, BaseDel, Ext9), joined by squeeze2.py. -/
import Derived.Test.YtimpadpeibgmoaaGreatYc24
import Derived.Test.YtimpadpeibgmoaaGreatYc01
set_option maxHeartbeats 8000000
set_option maxRecDepth 100000
namespace Go.Emb.Ext
def topOf : List E → E
 | [] => (0, 0)
 | x :: l => l.foldl (fun m y => if m.2 < y.2 then y else m) x
theorem topOf_snoc {l : List E} (h : l ≠ []) (y : E) : topOf (l ++ [y]) = if (topOf l).2 < y.2 then y else topOf l := by
 cases l with
 | nil => exact absurd rfl h
 | cons x l => simp only [topOf, List.cons_append, List.foldl_append, List.foldl_cons, List.foldl_nil] <;> rfl
theorem topOf_spec : ∀ {l : List E}, l ≠ [] → ∃ k, ∃ (h : k < l.length), l[k] = topOf l ∧ (∀ y ∈ l, y.2 ≤ (topOf l).2) ∧ ∀ j (hj : j < k), (l[j]'(by omega)).2 < (topOf l).2 := by
 suffices H : ∀ (n : Nat) (l : List E), l.length = n → l ≠ [] → ∃ k, ∃ (h : k < l.length), l[k] = topOf l ∧ (∀ y ∈ l, y.2 ≤ (topOf l).2) ∧ ∀ j (hj : j < k), (l[j]'(by omega)).2 < (topOf l).2 from fun {l} h => H _ l rfl h
 intro n
 induction n with
 | zero => intro l h1 h2; exact absurd (List.eq_nil_of_length_eq_zero h1) h2
 | succ n ihn =>
  intro l hn hl0
  rcases List.eq_nil_or_concat l with rfl | ⟨l, y, rfl⟩
  ·exact absurd rfl hl0
  rw [List.concat_eq_append] at hn ⊢
  have ih := ihn l (by simpa using hn)
  by_cases hl : l = []
  ·subst hl
   exact ⟨0, by simp, by simp [topOf], by simp [topOf], fun j hj => absurd hj (Nat.not_lt_zero _)⟩
  ·obtain ⟨k, hk, e1, e2, e3⟩ := ih hl
   rw [topOf_snoc hl]
   by_cases hy : (topOf l).2 < y.2
   ·rw [if_pos hy]
    refine ⟨l.length, by simp, by simp, ?_, ?_⟩
    ·intro z hz
     rcases List.mem_append.1 hz with hz | hz
     ·have := e2 z hz; omega
     ·simp at hz; subst hz; omega
    ·intro j hj
     rw [List.getElem_append_left hj]
     have := e2 _ (List.getElem_mem hj)
     omega
   ·rw [if_neg hy]
    refine ⟨k, by simp; omega, by rw [List.getElem_append_left hk]; exact e1, ?_, ?_⟩
    ·intro z hz
     rcases List.mem_append.1 hz with hz | hz
     ·exact e2 z hz
     ·simp at hz; subst hz; omega
    ·intro j hj
     rw [List.getElem_append_left (by omega)]
     exact e3 j hj
theorem maxI_eq {l : List E} {k : Nat} (hk : k < l.length) (h1 : ∀ y ∈ l, y.2 ≤ l[k].2) (h2 : ∀ j (hj : j < k), (l[j]'(by omega)).2 < l[k].2) : maxI l = k := by
 unfold maxI
 rw [List.findIdx_eq hk]
 refine ⟨?_, ?_⟩
 ·simpa using fun a b hab => h1 (a, b) hab
 ·intro j hj
  rw [Bool.eq_false_iff]
  intro hall
  have := List.all_eq_true.1 hall l[k] (List.getElem_mem hk)
  simp at this
  have := h2 j hj
  omega
end Go.Emb.Ext
namespace Go.Proofs.YtimpadpeibgmoaaGreat
open Go.RowKit Go.Emb Go.Lib Go.Emb.Ext Go.Shelf Go.Sort
theorem idxP_max {l : List E} (hl : l ≠ []) : idxP l (fun x => decide (topOf l = x)) = maxI l := by
 obtain ⟨k, hk, e1, e2, e3⟩ := topOf_spec hl
 rw [maxI_eq hk (by rw [e1]; exact e2) (by rw [e1]; exact e3)]
 refine idxP_at hk (by simp [e1]) (fun j hj => ?_)
 have := e3 j hj
 simp
 intro e
 rw [e] at this
 omega
def MaxR (w : World) (l : List E) (k : Nat) (wr : World) : Prop :=
 wr.heap[w.heap.size]? = some (.cells #[.int .i64 0, .int .i64 0] 34 (0, 0)) ∧ wr.heap[w.heap.size + 1]? = some (.cells #[.int .i64 (topOf (l.take k)).1, .int .i64 (topOf (l.take k)).2] 34 (0, 0)) ∧ Keep [] w wr
theorem cells2f {w : World} {q : Nat} {x y : Value} {t : TypeId} (h : w.heap[q]? = some (.cells #[x, y] t (0, 0))) : w.cell? ⟨q, 0, none⟩ = some x ∧ w.cell? ⟨q, 1, none⟩ = some y ∧ w.frozen? ⟨q, 0, none⟩ = false ∧ w.frozen? ⟨q, 1, none⟩ = false := by
 refine ⟨?_, ?_, ?_, ?_⟩ <;> simp [World.cell?, World.frozen?, h]
theorem closureL' (x y : E) (W : World) : ∃ c : Int, decide (0 < c) = decide (y.2 < x.2) ∧ ∀ W, Calls Tryz.prog 118 #[.agg #[.int .i64 x.1, .int .i64 x.2], .agg #[.int .i64 y.1, .int .i64 y.2]] W fun e w' => e = .returned (.int .i64 c) ∧ Keep [] W w' := by
 refine ⟨cmpL x y, ?_, fun W => closureL x y W⟩
 unfold cmpL Lib.compareInt
 split
 ·simp; omega
 ·split
  ·simp; omega
  ·simp; omega
theorem maxFunc_any {w : World} {v : Value} {l : List E} {o : Option Nat} (hr : RdE w v l o) (hsz : l.length ≤ 1000000) (ho : ∀ b, o = some b → b < w.heap.size) (hl : l ≠ []) :
  Calls Tryz.prog 117 #[v, .func (.func 118) #[] #[]] w fun e w' => e = .returned (aggE (topOf l)) ∧ Keep [] w w' := by
 obtain ⟨a, c, rfl⟩ : ∃ a c, v = .slice a l.length c := by obtain ⟨_, a, c, h, _⟩ := hr; exact ⟨a, c, h⟩
 have hpos : 0 < l.length := List.length_pos_iff.2 hl
 have hpos1 : ¬ (l.length : Int) < 1 := by omega
 obtain ⟨b, off, rfl, rfl, g0, g1⟩ := hr.at hpos
 have hm1 : topOf (l.take 1) = l[0] := by
  cases l with
  | nil => simp at hpos
  | cons x l => simp [topOf]
 have HR := hyd hr
 have HO := hyd ho
 have HM1 := hyd hm1
 have HL := hyd hl
 have hbl := ho b rfl
 clear hr ho hm1 hl
 generalize l[0] = x0 at *
 obtain ⟨x01, x02⟩ := x0
 simp only [Nat.zero_mul, Nat.add_zero] at g0 g1
 have e0 : ∀ ob, (w.alloc ob).cell? ⟨b, off, none⟩ = some (.int .i64 x01) := fun ob => ((Keep.refl [] w).alloc ob).cellOf g0
 have e1 : ∀ ob, (w.alloc ob).cell? ⟨b, off + 1, none⟩ = some (.int .i64 x02) := fun ob => ((Keep.refl [] w).alloc ob).cellOf g1
 go_enter Tryz.func117, Tryz.ntmps117
 go_wp2_with fail
 go_loopw [6] (fun i wr => ∃ k : Nat, 1 ≤ k ∧ k ≤ l.length ∧ i = .int .i64 k ∧ MaxR w l k wr) (fun i _ => l.length - (intOf i).toNat)
 case atStart =>
  refine ⟨1, by omega, by omega, rfl, ?_, ?_, ?_⟩
  ·exact (Below.heap_alloc _ _ _ (by simp)).trans (heap_alloc_new w _)
  ·rw [HM1.o]
   have := heap_alloc_new (w.alloc (.cells #[.int .i64 0, .int .i64 0] 34)) (.cells #[.int .i64 x01, .int .i64 x02] 34)
   simpa using this
  ·exact ((Keep.refl _ _).alloc _).alloc _
 case round =>
  obtain ⟨k, hk1, hk, rfl, hb4, hb5, hK⟩ := hrel
  have HB4 := hyd hb4
  have HB5 := hyd hb5
  have HK := hyd hK
  clear hb4 hb5 hK e0 e1 g0 g1
  by_cases hlt : k < l.length
  ·obtain ⟨b', off', hbb, hoo, d0, d1⟩ := HR.o.at hlt
   cases hbb
   have f0 := HK.o.cellOf d0
   have f1 := HK.o.cellOf d1
   obtain ⟨m0, m1, mf0, mf1⟩ := cells2f HB5.o
   have hms : topOf (l.take (k + 1)) = if (topOf (l.take k)).2 < l[k].2 then l[k] else topOf (l.take k) := by
    rw [List.take_succ_eq_append_getElem hlt, topOf_snoc (List.length_pos_iff.1 (by rw [List.length_take]; omega))]
   have HMS := hyd hms
   obtain ⟨cc, hcd, hcall⟩ := closureL' l[k] (topOf (l.take k)) wr
   clear hms d0 d1
   generalize l[k] = x at *
   generalize topOf (l.take k) = m at *
   obtain ⟨x1, x2⟩ := x
   obtain ⟨y1, y2⟩ := m
   simp only at f0 f1 m0 m1 hcd hcall
   have q0 : (0 : Int) ≤ (k : Int) := by omega
   have q1 : (k : Int) < (l.length : Int) := by omega
   have hbw : wr.heap[b]? = w.heap[b]? := HK.o.block b hbl (by simp)
   have hsw := HK.o.size
   have hs5 : w.heap.size + 1 < wr.heap.size := World.block_lt_of_cell? _ _ m0
   clear hbw
   have HSS : Hid (∀ w', Keep [] wr w' → (w'.cell? ⟨b, off + k * 2, none⟩ = some (.int .i64 x1) ∧ w'.cell? ⟨b, off + k * 2 + 1, none⟩ = some (.int .i64 x2)) ∧ w'.cell? ⟨w.heap.size + 1, 0, none⟩ = some (.int .i64 y1) ∧ w'.cell? ⟨w.heap.size + 1, 1, none⟩ = some (.int .i64 y2)) :=
    fun w' hk' => ⟨⟨hk'.cellOf f0, hk'.cellOf f1⟩, hk'.cellOf m0, hk'.cellOf m1⟩
   have HCALL := hyd hcall
   clear hcall
   by_cases hlt2 : y2 < x2
   ·have hcd1 : decide (0 < cc) = true := by rw [hcd]; simpa using hlt2
    have hms2 : topOf (l.take (k + 1)) = (x1, x2) := by rw [HMS.o, if_pos hlt2]
    have HM2 := hyd hms2
    clear hcd hms2 HMS hlt2
    go_wp2_with fail
    go_region_held3 (fun w' => (w'.cell? ⟨b, off + k * 2, none⟩ = some (.int .i64 x1) ∧ w'.cell? ⟨b, off + k * 2 + 1, none⟩ = some (.int .i64 x2)) ∧ w'.cell? ⟨w.heap.size + 1, 0, none⟩ = some (.int .i64 y1) ∧ w'.cell? ⟨w.heap.size + 1, 1, none⟩ = some (.int .i64 y2)) (first | exact HSS.o _ ((Keep.refl [] wr).drew) | exact HSS.o _ ((Keep.refl [] wr).drew.trans hk2 (by simp)) | go_keep)
     (first | (go_at_call 118; refine (HCALL.o _).mono ?_; rintro e w2 ⟨rfl, hk2⟩))
    have hk3 : Keep [] wr w2 := (Keep.refl [] wr).drew.trans hk2 (by simp)
    obtain ⟨mf2, mf3⟩ : w2.frozen? ⟨w.heap.size + 1, 0, none⟩ = false ∧ w2.frozen? ⟨w.heap.size + 1, 1, none⟩ = false := by
     have := cells2f ((hk3.block _ hs5 (by simp)).trans HB5.o)
     exact this.2.2
    have HK3 := hyd hk3
    clear hk3 hk2
    go_wp2_with fail
    go_roundw
    case rel =>
     have h5 := (HK3.o.block _ hs5 (by simp)).trans HB5.o
     have h4 := (HK3.o.block w.heap.size (by omega) (by simp)).trans HB4.o
     refine ⟨k + 1, by omega, by omega, by go_num, ?_, ?_, ?_⟩
     ·rw [Below.heap_setCell _ _ _ _ (by simp), Below.heap_setCell _ _ _ _ (by simp)]; exact h4
     ·rw [HM2.o]
      have := heap_setCell_at (i := 1) (heap_setCell_at (i := 0) h5 (.int .i64 x1)) (.int .i64 x2)
      simpa using this
     ·exact ((HK.o.trans HK3.o (by simp)).setCell (p := ⟨w.heap.size + 1, 0, none⟩) (.inr (by simp)) _).setCell (p := ⟨w.heap.size + 1, 1, none⟩) (.inr (by simp)) _
    case measure => simp [intOf]; omega
   ·have hcd1 : decide (0 < cc) = false := by rw [hcd]; simpa using hlt2
    have hms2 : topOf (l.take (k + 1)) = (y1, y2) := by rw [HMS.o, if_neg hlt2]
    have HM2 := hyd hms2
    clear hcd hms2 HMS hlt2
    go_wp2_with fail
    go_region_held3 (fun w' => (w'.cell? ⟨b, off + k * 2, none⟩ = some (.int .i64 x1) ∧ w'.cell? ⟨b, off + k * 2 + 1, none⟩ = some (.int .i64 x2)) ∧ w'.cell? ⟨w.heap.size + 1, 0, none⟩ = some (.int .i64 y1) ∧ w'.cell? ⟨w.heap.size + 1, 1, none⟩ = some (.int .i64 y2)) (first | exact HSS.o _ ((Keep.refl [] wr).drew) | exact HSS.o _ ((Keep.refl [] wr).drew.trans hk2 (by simp)) | go_keep)
     (first | (go_at_call 118; refine (HCALL.o _).mono ?_; rintro e w2 ⟨rfl, hk2⟩))
    have hk3 : Keep [] wr w2 := (Keep.refl [] wr).drew.trans hk2 (by simp)
    have HK3 := hyd hk3
    clear hk3 hk2
    go_wp2_with fail
    go_roundw
    case rel =>
     have h5 := (HK3.o.block _ hs5 (by simp)).trans HB5.o
     have h4 := (HK3.o.block w.heap.size (by omega) (by simp)).trans HB4.o
     exact ⟨k + 1, by omega, by omega, by go_num, h4, by rw [HM2.o]; exact h5, HK.o.trans HK3.o (by simp)⟩
    case measure => simp [intOf]; omega
  ·have htk : topOf (l.take k) = topOf l := by rw [List.take_of_length_le (by omega)]
   have h5 := HB5.o
   rw [htk] at h5
   obtain ⟨m0, m1, mf0, mf1⟩ := cells2f h5
   obtain ⟨z0, z1, zf0, zf1⟩ := cells2f HB4.o
   have H5 := hyd h5
   clear h5 htk
   generalize hm : topOf l = m at *
   have HT := hyd hm
   clear hm
   obtain ⟨y1, y2⟩ := m
   simp only at m0 m1
   go_wp2_with fail
   unfold aggE
   refine bodyPost_ret (v := .agg #[.int .i64 y1, .int .i64 y2]) ?_ rfl ⟨by rw [HT.o], ?_⟩
   ·have h4 := heap_setCell_at (i := 1) (heap_setCell_at (i := 0) HB4.o (.int .i64 y1)) (.int .i64 y2)
    obtain ⟨r0, r1, -⟩ := cells2f (by simpa using h4)
    simp [results, Tryz.results117, go_sem, r0, r1]
   ·exact (HK.o.setCell (p := ⟨w.heap.size, 0, none⟩) (.inr (Nat.le_refl _)) _).setCell (p := ⟨w.heap.size, 1, none⟩) (.inr (Nat.le_refl _)) _
theorem index_any {w : World} {v : Value} {l : List E} {o : Option Nat} (hr : RdE w v l o) (hsz : l.length ≤ 1000000) (m : E) :
  Calls Tryz.prog 119 #[v, aggE m] w fun e w' => e = .returned (.int .i64 (idxP l (fun x => decide (m = x)))) ∧ Keep [] w w' := by
 obtain ⟨a, c, rfl⟩ : ∃ a c, v = .slice a l.length c := by obtain ⟨_, a, c, h, _⟩ := hr; exact ⟨a, c, h⟩
 have hgu := guardE
 have heq := eqlE
 have HR := hyd hr
 clear hr
 obtain ⟨m1, m2⟩ := m
 unfold aggE
 go_enter Tryz.func119, Tryz.ntmps119
 go_wp2_with fail
 have hc0 : ∀ n, ((w.alloc (.cells #[.int .i64 m1, .int .i64 m2] 34)).drewN n).cell? ⟨w.heap.size, 0, none⟩ = some (.int .i64 m1) := fun n => (cells2 (heap_alloc_new w _)).1
 have hc1 : ∀ n, ((w.alloc (.cells #[.int .i64 m1, .int .i64 m2] 34)).drewN n).cell? ⟨w.heap.size, 1, none⟩ = some (.int .i64 m2) := fun n => (cells2 (heap_alloc_new w _)).2
 go_loopw [5, 8] (fun _ i wr => ∃ k n : Nat, k ≤ l.length ∧ i = .int .i64 k ∧ NoBefore l (fun x => decide ((m1, m2) = x)) k ∧ wr = (w.alloc (.cells #[.int .i64 m1, .int .i64 m2] 34)).drewN n) (fun _ i _ => l.length - (intOf i).toNat)
 case atStart => exact ⟨0, 0, Nat.zero_le _, rfl, fun j hj => absurd hj (Nat.not_lt_zero _), rfl⟩
 case round =>
  obtain ⟨k, n, hk, rfl, hno, rfl⟩ := hrel
  have HNO := hyd hno
  clear hno
  by_cases hlt : k < l.length
  ·obtain ⟨b, off, rfl, rfl, g0, g1⟩ := HR.o.at hlt
   have kk : ∀ n, Keep [] w ((w.alloc (.cells #[.int .i64 m1, .int .i64 m2] 34)).drewN n) := fun n => ((Keep.refl [] w).alloc _).drewN n
   have d0 := fun n => (kk n).cellOf g0
   have d1 := fun n => (kk n).cellOf g1
   have hx : l[k]? = some l[k] := List.getElem?_eq_getElem hlt
   have HX := hyd hx
   clear kk g0 g1 hx
   generalize l[k] = x at *
   obtain ⟨x1, x2⟩ := x
   simp only at d0 d1
   have q0 : (0 : Int) ≤ (k : Int) := by omega
   have q1 : (k : Int) < (l.length : Int) := by omega
   have d0' := d0 n
   have d1' := d1 n
   have hc0' := hc0 n
   have hc1' := hc1 n
   generalize hW : (w.alloc (.cells #[.int .i64 m1, .int .i64 m2] 34)).drewN n = W at *
   have HW := hyd hW
   clear hW d0 d1 hc0 hc1
   by_cases hxy : ((m1, m2) : E) = (x1, x2)
   ·have hb' : (m1 == x1 && m2 == x2) = true := by simp at hxy; simp [hxy]
    have heq' : ∀ W, (binOp .eql 34 (.agg #[.int .i64 m1, .int .i64 m2]) (.agg #[.int .i64 x1, .int .i64 x2])).run Tryz.prog W = .ok (.bool true) W := fun W => by rw [heq, hb']
    have hres : idxP l (fun x => decide ((m1, m2) = x)) = k := by
     have hxk := HX.o
     rw [List.getElem?_eq_getElem hlt] at hxk
     have hxk := Option.some.inj hxk
     refine idxP_at hlt (by rw [hxk]; simpa using hxy) (fun j hj => HNO.o j hj _ (List.getElem?_eq_getElem (by omega)))
    have HRES := hyd hres
    clear heq hb' hxy hres
    go_wp2_with fail
    go_quiet (fail)
    go_wp2_with fail
    go_ret
    exact ⟨by rw [HRES.o]; rfl, by rw [← HW.o]; exact (((Keep.refl [] w).alloc _).drewN _).drewN _⟩
   ·have hb' : (m1 == x1 && m2 == x2) = false := by
     simp at hxy ⊢; exact hxy
    have heq' : ∀ W, (binOp .eql 34 (.agg #[.int .i64 m1, .int .i64 m2]) (.agg #[.int .i64 x1, .int .i64 x2])).run Tryz.prog W = .ok (.bool false) W := fun W => by rw [heq, hb']
    have HXY := hyd hxy
    clear heq hb' hxy
    go_wp2_with fail
    go_quiet (fail)
    go_wp2_with fail
    go_roundw
    case rel =>
     refine ⟨k + 1, _, by omega, by go_num, fun j hj y hy => ?_, by rw [← HW.o, World.drewN_drewN]⟩
     by_cases e : j = k
     ·subst e; rw [HX.o] at hy; cases hy; simpa using HXY.o
     ·exact HNO.o j (by omega) y hy
    case measure => simp [intOf]; omega
  ·have hres : idxP l (fun x => decide ((m1, m2) = x)) = -1 := idxP_none (fun j hj => HNO.o j (by omega) _ (List.getElem?_eq_getElem hj))
   have HRES := hyd hres
   clear hres
   go_wp2_with fail
   go_ret
   exact ⟨by rw [HRES.o]; rfl, ((Keep.refl [] w).alloc _).drewN _⟩
theorem chooseClosure (n : Int) (x : E) (B : Nat) (w : World) (hc : w.cell? ⟨B, 0, none⟩ = some (.int .i64 n)) :
  Calls Tryz.prog 116 #[aggE x, .pointer (some ⟨B, 0, none⟩)] w fun e w' => e = .returned (.bool (decide (n ≤ x.2))) ∧ Keep [] w w' := by
 obtain ⟨f, m⟩ := x
 unfold aggE
 have e0 : ∀ ob, (w.alloc ob).cell? ⟨B, 0, none⟩ = some (.int .i64 n) := fun ob => ((Keep.refl [] w).alloc ob).cellOf hc
 go_enter Tryz.func116, Tryz.ntmps116
 go_wp2_with fail
 go_ret
 exact ⟨rfl, (Keep.refl _ _).alloc _⟩
theorem chooseI_idx (l : List E) (n : Int) : (idxP l (fun x => decide (n ≤ x.2)) = -1 ∧ chooseI l n = maxI l) ∨ (0 ≤ idxP l (fun x => decide (n ≤ x.2)) ∧ idxP l (fun x => decide (n ≤ x.2)) = chooseI l n) := by
 unfold idxP chooseI
 cases l.findIdx? (fun x => decide (n ≤ x.2)) with
 | none => exact .inl ⟨rfl, rfl⟩
 | some i => exact .inr ⟨by simp, rfl⟩
theorem choose_any {w : World} {v : Value} {l : List E} {o : Option Nat} (hr : RdE w v l o) (hsz : l.length ≤ 1000000) (ho : ∀ b, o = some b → b < w.heap.size) (hl : l ≠ []) (n : Int) :
  Calls Tryz.prog 86 #[v, .int .i64 n] w fun e w' => e = .returned (.int .i64 (chooseI l n)) ∧ Keep [] w w' := by
 obtain ⟨a, c, rfl⟩ : ∃ a c, v = .slice a l.length c := by obtain ⟨_, a, c, h, _⟩ := hr; exact ⟨a, c, h⟩
 have eg : ∀ args w, (callFunc 116 args).run Tryz.prog w = .ok (.enter 116 args) w := enters_of Tryz.func116 (by kernel_rfl) rfl
 have hcc : (w.alloc (.cells #[.int .i64 n] 3)).cell? ⟨w.heap.size, 0, none⟩ = some (.int .i64 n) := by simp
 have hcon := indexFunc_any (w := w.alloc (.cells #[.int .i64 n] 3)) (hr.keep ((Keep.refl [] w).alloc _) (by simp)) (by omega) (fun b hb => by have := ho b hb; simp; omega) 116 #[.pointer (some ⟨w.heap.size, 0, none⟩)] (fun x => decide (n ≤ x.2)) eg
  (fun x W hk => chooseClosure n x w.heap.size W (hk.cellOf hcc))
 have hmx := fun W (hk : Keep [] w W) => maxFunc_any (hr.keep hk (by simp)) hsz (fun b hb => by have := ho b hb; have := hk.size; omega) hl
 have hix := fun W (hk : Keep [] w W) => index_any (hr.keep hk (by simp)) hsz (topOf l)
 have him := idxP_max hl
 have HMX := hyd hmx
 have HIX := hyd hix
 have HIM := hyd him
 rcases chooseI_idx l n with ⟨h1, h2⟩ | ⟨h1, h2⟩
 ·rw [h1] at hcon
  rw [h2]
  clear hcc hr ho eg hmx hix him h1 h2 hl
  go_enter Tryz.func86, Tryz.ntmps86
  go_wp2_with fail
  refine hcon.mono ?_
  rintro e w1 ⟨rfl, hk1⟩
  have k1 : Keep [] w w1 := ((Keep.refl _ _).alloc _).trans hk1 (by simp)
  have hcm := HMX.o w1 k1
  have K1 := hyd k1
  clear hk1 k1 hcon
  go_wp2_with fail
  refine hcm.mono ?_
  rintro e w2 ⟨rfl, hk2⟩
  have k2 : Keep [] w w2 := K1.o.trans hk2 (by simp)
  have hcx := fun ob => HIX.o (w2.alloc ob) (k2.alloc _)
  have K2 := hyd k2
  have hm2 := HIM.o
  rw [hm2] at hcx
  clear hk2 k2 hcm hm2
  generalize topOf l = m at *
  obtain ⟨m1, m2⟩ := m
  unfold aggE at *
  have HCX := hyd hcx
  clear hcx
  go_wp2_with fail
  refine (HCX.o _).mono ?_
  rintro e w3 ⟨rfl, hk3⟩
  have K3 := hyd hk3
  clear hk3
  go_wp2_with fail
  go_ret
  exact ⟨rfl, (K2.o.alloc _).trans K3.o (by simp)⟩
 ·have h0 : (0 : Int) ≤ (chooseI l n : Int) := by omega
  rw [h2] at hcon
  clear hcc hr ho eg hmx hix him h1 h2 hl
  generalize chooseI l n = i at *
  go_enter Tryz.func86, Tryz.ntmps86
  go_wp2_with fail
  refine hcon.mono ?_
  rintro e w1 ⟨rfl, hk1⟩
  have k1 : Keep [] w w1 := ((Keep.refl _ _).alloc _).trans hk1 (by simp)
  have K1 := hyd k1
  clear hk1 k1 hcon
  go_wp2_with fail
  go_ret
  exact ⟨rfl, K1.o⟩
end Go.Proofs.YtimpadpeibgmoaaGreat

namespace Go.Emb
open Go.RowKit
theorem run_append_in {P : Program} {w : World} {T tx ty E e' : TypeId} {i : TypeInfo} {k : Nat} (ht : P.underlying T = some (.slice E)) (htx : P.underlying tx = some (.slice e')) (hi : P.info? E = some i) (hik : i.size = k)
  {b off n cap : Nat} {xs : List Value} (h : Row w E k (.slice (some ⟨b, off, none⟩) n cap) n xs (some b)) {x : Value} {m : Nat} {news : List Value} {ox : Option Nat} (hx : Rd w k x m news ox) (h1 : ∀ u ∈ news, u.oneCell' = true) (hroom : n + m ≤ cap) :
  ∃ w', (Builtin.append_ #[T, tx] ty #[.slice (some ⟨b, off, none⟩) n cap, x]).run P w = .ok (.slice (some ⟨b, off, none⟩) (n + m) cap) w' ∧ Row w' E k (.slice (some ⟨b, off, none⟩) (n + m) cap) (n + m) (xs ++ news) (some b) ∧ Keep [b] w w' := by
 by_cases hm : m = 0
 ·subst hm
  have hn : news = [] := List.eq_nil_of_length_eq_zero (by simpa using hx.1)
  subst hn
  refine ⟨w, ?_, by simpa using h, Keep.refl _ _⟩
  obtain ⟨_, a, c, rfl, _⟩ := hx
  obtain ⟨_, h⟩ := h
  rcases h with ⟨h, _⟩ | ⟨b', off', cap', cs, e1, e2, hb, hc1, hc2, _⟩
  ·cases h
  cases e1; cases e2
  cases a with
  | none => simp [Builtin.append_, run_underlying ht, run_underlying htx, sizeOf, typeInfo, hi, Builtin.lenOf, Builtin.firstCells, hc1, storeCells]
  | some a => simp [Builtin.append_, run_underlying ht, run_underlying htx, sizeOf, typeInfo, hi, Builtin.lenOf, Builtin.firstCells, loadCells, loadCellsFrom, hc1, storeCells]
 ·have hs := hx.src htx (by omega) h1
  subst hik
  have hml := hs.newsLen
  obtain ⟨hl, h⟩ := h
  have hlen : (xs ++ news).length = (n + m) * i.size := by rw [List.length_append, hl, hml, Nat.add_mul]
  rcases h with ⟨h, _⟩ | ⟨b', off', cap', cs, e1, e2, hb, h2, h3, h4, h5⟩
  ·cases h
  cases e1; cases e2
  have hfit : off + n * i.size + 0 + news.length ≤ cs.size := by
   have : (n + m) * i.size ≤ cap * i.size := Nat.mul_le_mul_right _ hroom
   rw [Nat.add_mul] at this
   omega
  have hst := run_storeCells_at P b (off + n * i.size) E news 0 cs w hb hfit h1
  simp only [Nat.add_zero] at hst hfit
  have hr : (Builtin.append_ #[T, tx] ty #[.slice (some ⟨b, off, none⟩) n cap, x]).run P w = .ok (.slice (some ⟨b, off, none⟩) (n + m) cap) (w.setRow b (cs.toList.take (off + n * i.size) ++ news ++ cs.toList.drop (off + n * i.size + news.length)).toArray) := by
   rcases hs.kind with ⟨e', hk⟩ | hk <;> simp [Builtin.append_, run_underlying ht, run_underlying hk, sizeOf, typeInfo, hi, hs.len, hroom, hs.cells, Addr.add_lit, hst]
  refine ⟨_, hr, ⟨hlen, .inr ⟨b, off, cap, _, rfl, rfl, setRow_heap w b cs _ E _ hb, hroom, h3, ?_, ?_⟩⟩, ⟨rfl, rfl, rfl, by simp [World.setRow], fun k _ hk => setRow_other w b k _ (by simpa using hk)⟩⟩
  ·simp only [List.size_toArray, List.length_append, List.length_take, List.length_drop, Array.length_toList]
   omega
  ·intro j hj
   rw [Nat.add_mul] at hj
   rw [List.getElem?_toArray, List.append_assoc]
   by_cases hjn : j < n * i.size
   ·rw [List.getElem?_append_left (by simp; omega), List.getElem?_append_left (by omega), List.getElem?_take_of_lt (by omega), Array.getElem?_toList]
    exact h5 j hjn
   ·have ht : (cs.toList.take (off + n * i.size)).length = off + n * i.size := by simp; omega
    rw [List.getElem?_append_right (by omega), ht, List.getElem?_append_left (by omega), List.getElem?_append_right (by omega)]
    congr 1
    omega
theorem step_append_in {P : Program} (w : World) {ops : Array Oper} {o : Oper} {a : Act} {K : Act → World → Prop} {Q : Exit → Act → World → Prop} {X : Prop} (hgd : o.guard = none) (s x : Operand) (T tx : TypeId) (ho : o.op = .call { callee := .builtin .append, args := #[s, x], argTypes := #[T, tx] })
  (E e' : TypeId) (i : TypeInfo) (k : Nat) (ht : P.underlying T = some (.slice E)) (htx : P.underlying tx = some (.slice e')) (hi : P.info? E = some i) (hik : i.size = k)
  (b off n cap : Nat) (xs : List Value) (hs : a.eval s = .slice (some ⟨b, off, none⟩) n cap) (hown : Row w E k (.slice (some ⟨b, off, none⟩) n cap) n xs (some b)) (xv : Value) (hx : a.eval x = xv) (m : Nat) (news : List Value) (ox : Option Nat) (hrd : Rd w k xv m news ox) (h1 : ∀ u ∈ news, u.oneCell' = true) (hroom : n + m ≤ cap) (N : Nat) (hN : n + m = N)
  (h : ∀ w', Row w' E k (.slice (some ⟨b, off, none⟩) N cap) N (xs ++ news) (some b) → Keep [b] w w' → K (a.put o.dst (.slice (some ⟨b, off, none⟩) N cap)) w') :
  if Region.wanted o (yielded ops a.tmps) = true then Oper.wp P o a w K Q else X := by
 subst hN
 have hw : Region.wanted o (yielded ops a.tmps) = true := by simp [Region.wanted, hgd]
 rw [if_pos hw]
 obtain ⟨w', hr, h2, h3⟩ := run_append_in (P := P) (w := w) (ty := o.type) ht htx hi hik hown hrd h1 hroom
 unfold Oper.wp execOp
 simp only [ho, resolve, invoke, builtin, Sem.run_bind, Sem.run_pure, Result.andThen_ok, List.map_toArray, List.map_cons, List.map_nil, hs, hx, hr]
 exact h w' h2 h3
theorem run_clear_behind {P : Program} {w : World} {T E ty : TypeId} {k : Nat} {z : Value} (ht : P.underlying T = some (.slice E)) (hz : ∀ w, (zeroValue E).run P w = .ok z w) (hzs : z.cells.size = k) (hz1 : ∀ u ∈ z.cells.toList, u.oneCell' = true)
  {b off n cap c : Nat} {xs : List Value} (h : Row w E k (.slice (some ⟨b, off, none⟩) n cap) n xs (some b)) (hroom : n + 1 ≤ cap) :
  ∃ w', (Builtin.clear_ #[T] ty #[.slice (some ⟨b, off + n * k, none⟩) 1 c]).run P w = .ok (.tuple #[]) w' ∧ Row w' E k (.slice (some ⟨b, off, none⟩) n cap) n xs (some b) ∧ Keep [b] w w' := by
 obtain ⟨hl, h⟩ := h
 rcases h with ⟨h, _⟩ | ⟨b', off', cap', cs, e1, e2, hb, h2, h3, h4, h5⟩
 ·cases h
 cases e1; cases e2
 have hzl : (Builtin.zeroCells z.cells 1).toList.length = k := by simp [size_zeroCells, hzs]
 have hfit : off + n * k + 0 + (Builtin.zeroCells z.cells 1).toList.length ≤ cs.size := by
  have : (n + 1) * k ≤ cap * k := Nat.mul_le_mul_right _ hroom
  rw [Nat.add_mul] at this
  omega
 have hone : ∀ u ∈ (Builtin.zeroCells z.cells 1).toList, u.oneCell' = true := by
  intro u hu
  simp [Builtin.zeroCells] at hu
  obtain ⟨a, ha, rfl⟩ := hu
  have hlt : a % z.cells.size < z.cells.size := Nat.mod_lt _ (by omega)
  refine hz1 _ ?_
  rw [getElem!_pos z.cells _ hlt]
  simp
 have hst := run_storeCells_at P b (off + n * k) E (Builtin.zeroCells z.cells 1).toList 0 cs w hb hfit hone
 simp only [Nat.add_zero] at hst hfit
 generalize hzz : (Builtin.zeroCells z.cells 1).toList = zs at *
 refine ⟨w.setRow b (cs.toList.take (off + n * k) ++ zs ++ cs.toList.drop (off + n * k + zs.length)).toArray, ?_, ⟨hl, .inr ⟨b, off, cap, _, rfl, rfl, setRow_heap w b cs _ E _ hb, h2, h3, ?_, ?_⟩⟩, ⟨rfl, rfl, rfl, by simp [World.setRow], fun k _ hk => setRow_other w b k _ (by simpa using hk)⟩⟩
 ·simp [Builtin.clear_, run_underlying ht, hz, hzz, hst]
 ·simp only [List.size_toArray, List.length_append, List.length_take, List.length_drop, Array.length_toList]
  omega
 ·intro j hj
  rw [List.getElem?_toArray, List.append_assoc, List.getElem?_append_left (by simp; omega), List.getElem?_take_of_lt (by omega), Array.getElem?_toList]
  exact h5 j hj
theorem wpList_clear_behind {P : Program} (w : World) {ops : Array Oper} {rest : List Oper} {o : Oper} {a : Act} {Q : Exit → Act → World → Prop} (hgd : o.guard = none) (x : Operand) (T : TypeId) (ho : o.op = .call { callee := .builtin .clear, args := #[x], argTypes := #[T] })
  (E : TypeId) (z : Value) (k : Nat) (ht : P.underlying T = some (.slice E)) (hz : ∀ w, (zeroValue E).run P w = .ok z w) (hzs : z.cells.size = k) (hz1 : ∀ u ∈ z.cells.toList, u.oneCell' = true)
  (b off n cap c : Nat) (xs : List Value) (hx : a.eval x = .slice (some ⟨b, off + n * k, none⟩) 1 c) (hown : Row w E k (.slice (some ⟨b, off, none⟩) n cap) n xs (some b)) (hroom : n + 1 ≤ cap)
  (h : ∀ w', Row w' E k (.slice (some ⟨b, off, none⟩) n cap) n xs (some b) → Keep [b] w w' → wpList P ops Q rest (a.put o.dst (.tuple #[])) w') : wpList P ops Q (o :: rest) a w := by
 refine wpList_plain hgd fun K' hK' => ?_
 obtain ⟨w', hr, h2, h3⟩ := run_clear_behind (P := P) (w := w) (ty := o.type) (c := c) ht hz hzs hz1 hown hroom
 unfold Oper.wp execOp
 simp only [ho, resolve, invoke, builtin, Sem.run_bind, Sem.run_pure, Result.andThen_ok, List.map_toArray, List.map_cons, List.map_nil, hx, hr]
 exact hK' _ _ (h w' h2 h3)
section
variable {P : Program} (w : World)
theorem run_sliceHi {T E : TypeId} {k : Nat} (ht : P.underlying T = some (.slice E)) (hk : ∀ w, (sizeOf E).run P w = .ok k w) (b off n cap hi : Nat) (h : hi ≤ cap) :
  (Instr.slice T (.slice (some ⟨b, off, none⟩) n cap) none (some (.int .i64 (hi : Int))) none).run P w = .ok (.slice (some ⟨b, off, none⟩) hi cap) w := by
 have hb := run_sliceBound (P := P) w .i64 (hi : Int) cap .sliceAcap (by omega) (by omega)
 unfold Instr.slice Instr.sliceBounds
 simp [run_underlying ht, hb, hk, Result.andThen]
 by_cases hc : cap = 0
 ·simp [hc]
 ·simp [hc, Addr.add]
theorem run_sliceLH {T E : TypeId} {k : Nat} (ht : P.underlying T = some (.slice E)) (hk : ∀ w, (sizeOf E).run P w = .ok k w) (b off n cap lo hi : Nat) (h : hi ≤ cap) (h2 : lo ≤ hi) :
  (Instr.slice T (.slice (some ⟨b, off, none⟩) n cap) (some (.int .i64 (lo : Int))) (some (.int .i64 (hi : Int))) none).run P w = .ok (.slice (some ⟨b, sliceOff off cap lo k, none⟩) (hi - lo) (cap - lo)) w := by
 have hb := run_sliceBound (P := P) w .i64 (hi : Int) cap .sliceAcap (by omega) (by omega)
 have hb2 := run_sliceBound (P := P) w .i64 (lo : Int) hi .sliceB (by omega) (by omega)
 unfold Instr.slice Instr.sliceBounds sliceOff
 simp [run_underlying ht, hb, hb2, hk, Result.andThen]
 by_cases hc : cap = lo
 ·simp [hc]
 ·simp [hc, Addr.add]
theorem run_slice3I {T E : TypeId} {k : Nat} (ht : P.underlying T = some (.slice E)) (hk : ∀ w, (sizeOf E).run P w = .ok k w) (b off n cap lo hi mx : Nat) (h0 : mx ≤ cap) (h : hi ≤ mx) (h2 : lo ≤ hi) :
  (Instr.slice T (.slice (some ⟨b, off, none⟩) n cap) (some (.int .i64 (lo : Int))) (some (.int .i64 (hi : Int))) (some (.int .i64 (mx : Int)))).run P w = .ok (.slice (some ⟨b, sliceOff off mx lo k, none⟩) (hi - lo) (mx - lo)) w := by
 have hb0 := run_sliceBound (P := P) w .i64 (mx : Int) cap .slice3Acap (by omega) (by omega)
 have hb := run_sliceBound (P := P) w .i64 (hi : Int) mx .slice3B (by omega) (by omega)
 have hb2 := run_sliceBound (P := P) w .i64 (lo : Int) hi .slice3C (by omega) (by omega)
 unfold Instr.slice Instr.sliceBounds sliceOff
 simp [run_underlying ht, hb0, hb, hb2, hk, Result.andThen]
 by_cases hc : mx = lo
 ·simp [hc]
 ·simp [hc, Addr.add]
end
end Go.Emb

namespace Go.Proofs.YtimpadpeibgmoaaGreat
open Go.RowKit Go.Emb Go.Lib Go.Emb.Ext Go.Shelf Go.Sort
theorem encE_one (l : List E) : ∀ u ∈ l.flatMap encE, u.oneCell' = true := by
 intro u hu
 obtain ⟨t, _, ht⟩ := List.mem_flatMap.1 hu
 simp [encE] at ht
 rcases ht with rfl | rfl <;> rfl
theorem flat_take (D : List E) (m : Nat) : (D.flatMap encE).take (m * 2) = (D.take m).flatMap encE := by
 induction D generalizing m with
 | nil => simp
 | cons t D ih =>
  cases m with
  | zero => simp
  | succ m =>
   rw [List.flatMap_cons, List.take_succ_cons, List.flatMap_cons, List.take_append]
   have h1 : (encE t).length = 2 := rfl
   rw [List.take_of_length_le (by rw [h1]; omega), h1, show (m + 1) * 2 - 2 = m * 2 by omega, ih]
theorem flat_drop (D : List E) (m : Nat) : (D.flatMap encE).drop (m * 2) = (D.drop m).flatMap encE := by
 induction D generalizing m with
 | nil => simp
 | cons t D ih =>
  cases m with
  | zero => simp
  | succ m =>
   have h1 : (encE t).length = 2 := rfl
   rw [List.flatMap_cons, List.drop_succ_cons, List.drop_append, List.drop_of_length_le (by rw [h1]; omega), h1, show (m + 1) * 2 - 2 = m * 2 by omega, ih, List.nil_append]
end Go.Proofs.YtimpadpeibgmoaaGreat
namespace Go.Emb
open Go.RowKit
theorem Row.cut {w : World} {E k b off n cap : Nat} {xs : List Value} (h : Row w E k (.slice (some ⟨b, off, none⟩) n cap) n xs (some b)) (m : Nat) (hm : m ≤ n) :
  Row w E k (.slice (some ⟨b, off, none⟩) m cap) m (xs.take (m * k)) (some b) := by
 obtain ⟨hl, h⟩ := h
 rcases h with ⟨h, _⟩ | ⟨b', off', cap', cs, e1, e2, hb, h1, h2, h3, h5⟩
 ·cases h
 cases e1; cases e2
 have hk1 : m * k ≤ n * k := Nat.mul_le_mul_right _ hm
 refine ⟨by rw [List.length_take, hl]; omega, .inr ⟨b, off, cap, cs, rfl, rfl, hb, by omega, h2, h3, fun i hi => ?_⟩⟩
 rw [List.getElem?_take_of_lt hi]
 exact h5 i (by omega)
theorem Row.capacity {w : World} {E k b off n cap : Nat} {xs : List Value} (h : Row w E k (.slice (some ⟨b, off, none⟩) n cap) n xs (some b)) : n ≤ cap ∧ cap ≤ maxLen := by
 obtain ⟨hl, h⟩ := h
 rcases h with ⟨h, _⟩ | ⟨b', off', cap', cs, e1, e2, hb, h1, h2, h3, h5⟩
 ·cases h
 cases e1; cases e2
 exact ⟨h1, h2⟩
end Go.Emb
namespace Go.Proofs.YtimpadpeibgmoaaGreat
open Go.RowKit Go.Emb Go.Lib Go.Emb.Ext Go.Shelf Go.Sort
theorem delete_any {w : World} {b off cap : Nat} {l : List E} {i : Nat} (h : RowE w (.slice (some ⟨b, off, none⟩) l.length cap) l (some b)) (hi : i < l.length) (hsz : l.length ≤ 1000000) :
  Calls Tryz.prog 87 #[.slice (some ⟨b, off, none⟩) l.length cap, .int .i64 i, .int .i64 ((i : Int) + 1)] w fun e w' =>
   e = .returned (.slice (some ⟨b, off, none⟩) (l.length - 1) cap) ∧ RowE w' (.slice (some ⟨b, off, none⟩) (l.length - 1) cap) (l.eraseIdx i) (some b) ∧ Keep [b] w w' := by
 obtain ⟨i0, hif, hz0, hz1, hz2⟩ := info_parts ext_info
 obtain ⟨hcap, hcm⟩ := Row.capacity h
 unfold maxLen at hcm
 have hsk : ∀ w, (sizeOf 34).run Tryz.prog w = .ok 2 w := Tryz.sizeOf34
 have hu := Tryz.underlying46
 have s1 : ∀ W, (Instr.slice 46 (.slice (some ⟨b, off, none⟩) l.length cap) (some (.int .i64 (i : Int))) (some (.int .i64 ((i : Int) + 1))) (some (.int .i64 (l.length : Int)))).run Tryz.prog W = .ok (.slice (some ⟨b, sliceOff off l.length i 2, none⟩) (i + 1 - i) (l.length - i)) W := fun W => by
  have := run_slice3I W hu hsk b off l.length cap i (i + 1) l.length (by omega) (by omega) (by omega)
  simpa using this
 have s2 : ∀ W, (Instr.slice 46 (.slice (some ⟨b, off, none⟩) l.length cap) none (some (.int .i64 (i : Int))) none).run Tryz.prog W = .ok (.slice (some ⟨b, off, none⟩) i cap) W := fun W =>
  run_sliceHi W hu hsk b off l.length cap i (by omega)
 have s3 : ∀ W, (Instr.slice 46 (.slice (some ⟨b, off, none⟩) l.length cap) (some (.int .i64 ((i : Int) + 1))) none none).run Tryz.prog W = .ok (.slice (some ⟨b, sliceOff off cap (i + 1) 2, none⟩) (l.length - (i + 1)) (cap - (i + 1))) W := fun W => by
  have := run_slice_lo W hu hsk b off l.length cap (i + 1) (by omega)
  simpa using this
 have s4 : ∀ W, (Instr.slice 46 (.slice (some ⟨b, off, none⟩) (l.length - 1) cap) (some (.int .i64 ((l.length - 1 : Nat) : Int))) (some (.int .i64 (l.length : Int))) none).run Tryz.prog W = .ok (.slice (some ⟨b, off + (l.length - 1) * 2, none⟩) 1 (cap - (l.length - 1))) W := fun W => by
  have := run_sliceLH W hu hsk b off (l.length - 1) cap (l.length - 1) l.length (by omega) (by omega)
  rw [this]
  unfold sliceOff
  rw [if_neg (by omega), show l.length - (l.length - 1) = 1 by omega]
 have hcut := Row.cut h i (by omega)
 obtain ⟨o2, hrd, _⟩ := Row.rd (Row.drop h (i + 1) (by omega))
 rw [flat_take] at hcut
 rw [flat_drop] at hrd
 have hne : ((i : Int) == (i : Int) + 1) = false := by simp; omega
 have hlist : (l.take i).flatMap encE ++ (l.drop (i + 1)).flatMap encE = (l.eraseIdx i).flatMap encE := by rw [← List.flatMap_append, List.eraseIdx_eq_take_drop_succ]
 have HIF := hyd hif
 have HCUT := hyd hcut
 have HRD := hyd hrd
 have HLIST := hyd hlist
 clear hif hcut hrd h hsk hlist
 generalize hN : l.length - 1 = N at *
 have hN2 : i + (l.length - (i + 1)) = N := by omega
 have hN3 : N + 1 ≤ cap := by omega
 have HN := hyd hN
 have HN2 := hyd hN2
 clear hN hN2
 go_enter Tryz.func87, Tryz.ntmps87
 go_wp2_with fail
 go_region_held3 (fun _ => True) (trivial)
  ((refine step_append_in _ (by rfl) _ _ 46 46 (by rfl) 34 34 i0 2 Tryz.underlying46 Tryz.underlying46 HIF.o hz1 b off i cap _ (by rfl) (HCUT.o.keep (Keep.refl [] w).drew (by simp)) (.slice (some ⟨b, sliceOff off cap (i + 1) 2, none⟩) (l.length - (i + 1)) (cap - (i + 1))) (by rfl) (l.length - (i + 1)) _ o2 (HRD.o.keep0 (Keep.refl [] w).drew) (encE_one _) (by omega) N HN2.o ?_; intro w2 hrow2 hk2))
 have HROW2 := hyd hrow2
 have HK2 := hyd hk2
 clear hrow2 hk2
 go_wp2_with (with_reducible refine wpList_clear_behind _ rfl (.tmp 31) 46 rfl 34 _ 2 Tryz.underlying46 Tryz.zeroValue34 rfl (by simp [Value.cells, Value.oneCell']) b off N cap _ _ rfl HROW2.o hN3 ?_; intro w3 hrow3 hk3)
 go_ret
 refine ⟨rfl, ?_, ?_⟩
 ·unfold RowE
  have := hrow3
  rw [HLIST.o] at this
  rw [List.length_eraseIdx_of_lt hi, HN.o]
  exact this
 ·exact ((Keep.refl [b] w).drew.trans HK2.o (fun x hx => .inl hx)).trans hk3 (fun x hx => .inl hx)
end Go.Proofs.YtimpadpeibgmoaaGreat
