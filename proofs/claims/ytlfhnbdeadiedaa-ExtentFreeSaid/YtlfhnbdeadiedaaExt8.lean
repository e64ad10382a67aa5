/- Extents: choose (MaxFunc, Index). -/
import Derived.Test.YtlfhnbdeadiedaaExt7
namespace Go.Emb.Ext
def topOf : List E → E
  | [] => (0, 0)
  | x :: l => l.foldl (fun m y => if m.2 < y.2 then y else m) x
theorem topOf_snoc {l : List E} (h : l ≠ []) (y : E) : topOf (l ++ [y]) = if (topOf l).2 < y.2 then y else topOf l := by
  cases l with
  | nil => exact absurd rfl h
  | cons x l => simp only [topOf, List.cons_append, List.foldl_append, List.foldl_cons, List.foldl_nil] <;> rfl
/-- the first of the longest: it is there, all are at most as long, those ahead of it are shorter -/
theorem topOf_spec : ∀ {l : List E}, l ≠ [] → ∃ k, ∃ (h : k < l.length), l[k] = topOf l ∧ (∀ y ∈ l, y.2 ≤ (topOf l).2) ∧ ∀ j (hj : j < k), (l[j]'(by omega)).2 < (topOf l).2 := by
  suffices H : ∀ (n : Nat) (l : List E), l.length = n → l ≠ [] → ∃ k, ∃ (h : k < l.length), l[k] = topOf l ∧ (∀ y ∈ l, y.2 ≤ (topOf l).2) ∧ ∀ j (hj : j < k), (l[j]'(by omega)).2 < (topOf l).2 from fun {l} h => H _ l rfl h
  intro n
  induction n with
  | zero => intro l h1 h2; exact absurd (List.eq_nil_of_length_eq_zero h1) h2
  | succ n ihn =>
    intro l hn hl0
    rcases List.eq_nil_or_concat l with rfl | ⟨l, y, rfl⟩
    · exact absurd rfl hl0
    rw [List.concat_eq_append] at hn ⊢
    have ih := ihn l (by simpa using hn)
    by_cases hl : l = []
    · subst hl
      exact ⟨0, by simp, by simp [topOf], by simp [topOf], fun j hj => absurd hj (Nat.not_lt_zero _)⟩
    · obtain ⟨k, hk, e1, e2, e3⟩ := ih hl
      rw [topOf_snoc hl]
      by_cases hy : (topOf l).2 < y.2
      · rw [if_pos hy]
        refine ⟨l.length, by simp, by simp, ?_, ?_⟩
        · intro z hz
          rcases List.mem_append.1 hz with hz | hz
          · have := e2 z hz; omega
          · simp at hz; subst hz; omega
        · intro j hj
          rw [List.getElem_append_left hj]
          have := e2 _ (List.getElem_mem hj)
          omega
      · rw [if_neg hy]
        refine ⟨k, by simp; omega, by rw [List.getElem_append_left hk]; exact e1, ?_, ?_⟩
        · intro z hz
          rcases List.mem_append.1 hz with hz | hz
          · exact e2 z hz
          · simp at hz; subst hz; omega
        · intro j hj
          rw [List.getElem_append_left (by omega)]
          exact e3 j hj
theorem maxI_eq {l : List E} {k : Nat} (hk : k < l.length) (h1 : ∀ y ∈ l, y.2 ≤ l[k].2) (h2 : ∀ j (hj : j < k), (l[j]'(by omega)).2 < l[k].2) : maxI l = k := by
  unfold maxI
  rw [List.findIdx_eq hk]
  refine ⟨?_, ?_⟩
  · simpa using fun a b hab => h1 (a, b) hab
  · intro j hj
    rw [Bool.eq_false_iff]
    intro hall
    have := List.all_eq_true.1 hall l[k] (List.getElem_mem hk)
    simp at this
    have := h2 j hj
    omega
end Go.Emb.Ext
namespace Go.Proofs.Ytlfhnbdeadiedaa
open Go.RowKit Go.Emb Go.Lib Go.Emb.Ext Go.Shelf Go.Sort

theorem idxP_max {l : List E} (hl : l ≠ []) : idxP l (fun x => decide (topOf l = x)) = maxI l := by
  obtain ⟨k, hk, e1, e2, e3⟩ := topOf_spec hl
  rw [maxI_eq hk (by rw [e1]; exact e2) (by rw [e1]; exact e3)]
  refine idxP_at hk (by simp [e1]) (fun j hj => ?_)
  have := e3 j hj
  simp
  intro e
  rw [e] at this
  omega

def MaxR (w : World) (l : List E) (k : Nat) (wr : World) : Prop :=
  wr.heap[w.heap.size]? = some (.cells #[.int .i64 0, .int .i64 0] 36 (0, 0)) ∧ wr.heap[w.heap.size + 1]? = some (.cells #[.int .i64 (topOf (l.take k)).1, .int .i64 (topOf (l.take k)).2] 36 (0, 0)) ∧ Keep [] w wr

theorem cells2f {w : World} {q : Nat} {x y : Value} {t : TypeId} (h : w.heap[q]? = some (.cells #[x, y] t (0, 0))) : w.cell? ⟨q, 0, none⟩ = some x ∧ w.cell? ⟨q, 1, none⟩ = some y ∧ w.frozen? ⟨q, 0, none⟩ = false ∧ w.frozen? ⟨q, 1, none⟩ = false := by
  refine ⟨?_, ?_, ?_, ?_⟩ <;> simp [World.cell?, World.frozen?, h]

theorem closureL' (x y : E) (W : World) : ∃ c : Int, decide (0 < c) = decide (y.2 < x.2) ∧ ∀ W, Calls Try.prog 40 #[.agg #[.int .i64 x.1, .int .i64 x.2], .agg #[.int .i64 y.1, .int .i64 y.2]] W fun e w' => e = .returned (.int .i64 c) ∧ Keep [] W w' := by
  refine ⟨cmpL x y, ?_, fun W => closureL x y W⟩
  unfold cmpL Lib.compareInt
  split
  · simp; omega
  · split
    · simp; omega
    · simp; omega

set_option maxHeartbeats 1000000 in
theorem maxFunc_any {w : World} {v : Value} {l : List E} {o : Option Nat} (hr : RdE w v l o) (hsz : l.length ≤ 1000000) (ho : ∀ b, o = some b → b < w.heap.size) (hl : l ≠ []) :
    Calls Try.prog 39 #[v, .func (.func 40) #[] #[]] w fun e w' => e = .returned (aggE (topOf l)) ∧ Keep [] w w' := by
  obtain ⟨a, c, rfl⟩ : ∃ a c, v = .slice a l.length c := by obtain ⟨_, a, c, h, _⟩ := hr; exact ⟨a, c, h⟩
  have hpos : 0 < l.length := List.length_pos_iff.2 hl
  have hpos1 : ¬ (l.length : Int) < 1 := by omega
  obtain ⟨b, off, rfl, rfl, g0, g1⟩ := hr.at hpos
  have hm1 : topOf (l.take 1) = l[0] := by
    cases l with
    | nil => simp at hpos
    | cons x l => simp [topOf]
  have HR := Lib.hid hr
  have HO := Lib.hid ho
  have HM1 := Lib.hid hm1
  have HL := Lib.hid hl
  have hbl := ho b rfl
  clear hr ho hm1 hl
  generalize l[0] = x0 at *
  obtain ⟨x01, x02⟩ := x0
  simp only [Nat.zero_mul, Nat.add_zero] at g0 g1
  have e0 : ∀ ob, (w.alloc ob).cell? ⟨b, off, none⟩ = some (.int .i64 x01) := fun ob => ((Keep.refl [] w).alloc ob).cellOf g0
  have e1 : ∀ ob, (w.alloc ob).cell? ⟨b, off + 1, none⟩ = some (.int .i64 x02) := fun ob => ((Keep.refl [] w).alloc ob).cellOf g1
  go_enter Try.func39, Try.ntmps39
  go_wp2_with fail
  go_loopw [6] (fun i wr => ∃ k : Nat, 1 ≤ k ∧ k ≤ l.length ∧ i = .int .i64 k ∧ MaxR w l k wr) (fun i _ => l.length - (intOf i).toNat)
  case atStart =>
    refine ⟨1, by omega, by omega, rfl, ?_, ?_, ?_⟩
    · exact (Below.heap_alloc _ _ _ (by simp)).trans (heap_alloc_new w _)
    · rw [HM1.out]
      have := heap_alloc_new (w.alloc (.cells #[.int .i64 0, .int .i64 0] 36)) (.cells #[.int .i64 x01, .int .i64 x02] 36)
      simpa using this
    · exact ((Keep.refl _ _).alloc _).alloc _
  case round =>
    obtain ⟨k, hk1, hk, rfl, hb4, hb5, hK⟩ := hrel
    have HB4 := Lib.hid hb4
    have HB5 := Lib.hid hb5
    have HK := Lib.hid hK
    clear hb4 hb5 hK e0 e1 g0 g1
    by_cases hlt : k < l.length
    · obtain ⟨b', off', hbb, hoo, d0, d1⟩ := HR.out.at hlt
      cases hbb
      have f0 := HK.out.cellOf d0
      have f1 := HK.out.cellOf d1
      obtain ⟨m0, m1, mf0, mf1⟩ := cells2f HB5.out
      have hms : topOf (l.take (k + 1)) = if (topOf (l.take k)).2 < l[k].2 then l[k] else topOf (l.take k) := by
        rw [List.take_succ_eq_append_getElem hlt, topOf_snoc (List.length_pos_iff.1 (by rw [List.length_take]; omega))]
      have HMS := Lib.hid hms
      obtain ⟨cc, hcd, hcall⟩ := closureL' l[k] (topOf (l.take k)) wr
      clear hms d0 d1
      generalize l[k] = x at *
      generalize topOf (l.take k) = m at *
      obtain ⟨x1, x2⟩ := x
      obtain ⟨y1, y2⟩ := m
      simp only at f0 f1 m0 m1 hcd hcall
      have q0 : (0 : Int) ≤ (k : Int) := by omega
      have q1 : (k : Int) < (l.length : Int) := by omega
      have hbw : wr.heap[b]? = w.heap[b]? := HK.out.block b hbl (by simp)
      have hsw := HK.out.size
      have hs5 : w.heap.size + 1 < wr.heap.size := World.block_lt_of_cell? _ _ m0
      clear hbw
      have HSS : Hid (∀ w', Keep [] wr w' → (w'.cell? ⟨b, off + k * 2, none⟩ = some (.int .i64 x1) ∧ w'.cell? ⟨b, off + k * 2 + 1, none⟩ = some (.int .i64 x2)) ∧ w'.cell? ⟨w.heap.size + 1, 0, none⟩ = some (.int .i64 y1) ∧ w'.cell? ⟨w.heap.size + 1, 1, none⟩ = some (.int .i64 y2)) :=
        fun w' hk' => ⟨⟨hk'.cellOf f0, hk'.cellOf f1⟩, hk'.cellOf m0, hk'.cellOf m1⟩
      have HCALL := Lib.hid hcall
      clear hcall
      by_cases hlt2 : y2 < x2
      · have hcd1 : decide (0 < cc) = true := by rw [hcd]; simpa using hlt2
        have hms2 : topOf (l.take (k + 1)) = (x1, x2) := by rw [HMS.out, if_pos hlt2]
        have HM2 := Lib.hid hms2
        clear hcd hms2 HMS hlt2
        go_wp2_with fail
        go_region_held3 (fun w' => (w'.cell? ⟨b, off + k * 2, none⟩ = some (.int .i64 x1) ∧ w'.cell? ⟨b, off + k * 2 + 1, none⟩ = some (.int .i64 x2)) ∧ w'.cell? ⟨w.heap.size + 1, 0, none⟩ = some (.int .i64 y1) ∧ w'.cell? ⟨w.heap.size + 1, 1, none⟩ = some (.int .i64 y2)) (first | exact HSS.out _ ((Keep.refl [] wr).drew) | exact HSS.out _ ((Keep.refl [] wr).drew.trans hk2 (by simp)) | go_keep)
          (first | (go_at_call 40; refine (HCALL.out _).mono ?_; rintro e w2 ⟨rfl, hk2⟩))
        have hk3 : Keep [] wr w2 := (Keep.refl [] wr).drew.trans hk2 (by simp)
        obtain ⟨mf2, mf3⟩ : w2.frozen? ⟨w.heap.size + 1, 0, none⟩ = false ∧ w2.frozen? ⟨w.heap.size + 1, 1, none⟩ = false := by
          have := cells2f ((hk3.block _ hs5 (by simp)).trans HB5.out)
          exact this.2.2
        have HK3 := Lib.hid hk3
        clear hk3 hk2
        go_wp2_with fail
        go_roundw
        case rel =>
          have h5 := (HK3.out.block _ hs5 (by simp)).trans HB5.out
          have h4 := (HK3.out.block w.heap.size (by omega) (by simp)).trans HB4.out
          refine ⟨k + 1, by omega, by omega, by go_num, ?_, ?_, ?_⟩
          · rw [Below.heap_setCell _ _ _ _ (by simp), Below.heap_setCell _ _ _ _ (by simp)]; exact h4
          · rw [HM2.out]
            have := heap_setCell_at (i := 1) (heap_setCell_at (i := 0) h5 (.int .i64 x1)) (.int .i64 x2)
            simpa using this
          · exact ((HK.out.trans HK3.out (by simp)).setCell (p := ⟨w.heap.size + 1, 0, none⟩) (.inr (by simp)) _).setCell (p := ⟨w.heap.size + 1, 1, none⟩) (.inr (by simp)) _
        case measure => simp [intOf]; omega
      · have hcd1 : decide (0 < cc) = false := by rw [hcd]; simpa using hlt2
        have hms2 : topOf (l.take (k + 1)) = (y1, y2) := by rw [HMS.out, if_neg hlt2]
        have HM2 := Lib.hid hms2
        clear hcd hms2 HMS hlt2
        go_wp2_with fail
        go_region_held3 (fun w' => (w'.cell? ⟨b, off + k * 2, none⟩ = some (.int .i64 x1) ∧ w'.cell? ⟨b, off + k * 2 + 1, none⟩ = some (.int .i64 x2)) ∧ w'.cell? ⟨w.heap.size + 1, 0, none⟩ = some (.int .i64 y1) ∧ w'.cell? ⟨w.heap.size + 1, 1, none⟩ = some (.int .i64 y2)) (first | exact HSS.out _ ((Keep.refl [] wr).drew) | exact HSS.out _ ((Keep.refl [] wr).drew.trans hk2 (by simp)) | go_keep)
          (first | (go_at_call 40; refine (HCALL.out _).mono ?_; rintro e w2 ⟨rfl, hk2⟩))
        have hk3 : Keep [] wr w2 := (Keep.refl [] wr).drew.trans hk2 (by simp)
        have HK3 := Lib.hid hk3
        clear hk3 hk2
        go_wp2_with fail
        go_roundw
        case rel =>
          have h5 := (HK3.out.block _ hs5 (by simp)).trans HB5.out
          have h4 := (HK3.out.block w.heap.size (by omega) (by simp)).trans HB4.out
          exact ⟨k + 1, by omega, by omega, by go_num, h4, by rw [HM2.out]; exact h5, HK.out.trans HK3.out (by simp)⟩
        case measure => simp [intOf]; omega
    · have htk : topOf (l.take k) = topOf l := by rw [List.take_of_length_le (by omega)]
      have h5 := HB5.out
      rw [htk] at h5
      obtain ⟨m0, m1, mf0, mf1⟩ := cells2f h5
      obtain ⟨z0, z1, zf0, zf1⟩ := cells2f HB4.out
      have H5 := Lib.hid h5
      clear h5 htk
      generalize hm : topOf l = m at *
      have HT := Lib.hid hm
      clear hm
      obtain ⟨y1, y2⟩ := m
      simp only at m0 m1
      go_wp2_with fail
      unfold aggE
      refine bodyPost_ret (v := .agg #[.int .i64 y1, .int .i64 y2]) ?_ rfl ⟨by rw [HT.out], ?_⟩
      · have h4 := heap_setCell_at (i := 1) (heap_setCell_at (i := 0) HB4.out (.int .i64 y1)) (.int .i64 y2)
        obtain ⟨r0, r1, -⟩ := cells2f (by simpa using h4)
        simp [results, Try.results39, go_sem, r0, r1]
      · exact (HK.out.setCell (p := ⟨w.heap.size, 0, none⟩) (.inr (Nat.le_refl _)) _).setCell (p := ⟨w.heap.size, 1, none⟩) (.inr (Nat.le_refl _)) _

set_option maxHeartbeats 1000000 in
theorem index_any {w : World} {v : Value} {l : List E} {o : Option Nat} (hr : RdE w v l o) (hsz : l.length ≤ 1000000) (m : E) :
    Calls Try.prog 41 #[v, aggE m] w fun e w' => e = .returned (.int .i64 (idxP l (fun x => decide (m = x)))) ∧ Keep [] w w' := by
  obtain ⟨a, c, rfl⟩ : ∃ a c, v = .slice a l.length c := by obtain ⟨_, a, c, h, _⟩ := hr; exact ⟨a, c, h⟩
  have hgu := guardE
  have heq := eqlE
  have HR := Lib.hid hr
  clear hr
  obtain ⟨m1, m2⟩ := m
  unfold aggE
  go_enter Try.func41, Try.ntmps41
  go_wp2_with fail
  have hc0 : ∀ n, ((w.alloc (.cells #[.int .i64 m1, .int .i64 m2] 36)).drewN n).cell? ⟨w.heap.size, 0, none⟩ = some (.int .i64 m1) := fun n => (cells2 (heap_alloc_new w _)).1
  have hc1 : ∀ n, ((w.alloc (.cells #[.int .i64 m1, .int .i64 m2] 36)).drewN n).cell? ⟨w.heap.size, 1, none⟩ = some (.int .i64 m2) := fun n => (cells2 (heap_alloc_new w _)).2
  go_loopw [5, 8] (fun _ i wr => ∃ k n : Nat, k ≤ l.length ∧ i = .int .i64 k ∧ NoBefore l (fun x => decide ((m1, m2) = x)) k ∧ wr = (w.alloc (.cells #[.int .i64 m1, .int .i64 m2] 36)).drewN n) (fun _ i _ => l.length - (intOf i).toNat)
  case atStart => exact ⟨0, 0, Nat.zero_le _, rfl, fun j hj => absurd hj (Nat.not_lt_zero _), rfl⟩
  case round =>
    obtain ⟨k, n, hk, rfl, hno, rfl⟩ := hrel
    have HNO := Lib.hid hno
    clear hno
    by_cases hlt : k < l.length
    · obtain ⟨b, off, rfl, rfl, g0, g1⟩ := HR.out.at hlt
      have kk : ∀ n, Keep [] w ((w.alloc (.cells #[.int .i64 m1, .int .i64 m2] 36)).drewN n) := fun n => ((Keep.refl [] w).alloc _).drewN n
      have d0 := fun n => (kk n).cellOf g0
      have d1 := fun n => (kk n).cellOf g1
      have hx : l[k]? = some l[k] := List.getElem?_eq_getElem hlt
      have HX := Lib.hid hx
      clear kk g0 g1 hx
      generalize l[k] = x at *
      obtain ⟨x1, x2⟩ := x
      simp only at d0 d1
      have q0 : (0 : Int) ≤ (k : Int) := by omega
      have q1 : (k : Int) < (l.length : Int) := by omega
      have d0' := d0 n
      have d1' := d1 n
      have hc0' := hc0 n
      have hc1' := hc1 n
      generalize hW : (w.alloc (.cells #[.int .i64 m1, .int .i64 m2] 36)).drewN n = W at *
      have HW := Lib.hid hW
      clear hW d0 d1 hc0 hc1
      by_cases hxy : ((m1, m2) : E) = (x1, x2)
      · have hb' : (m1 == x1 && m2 == x2) = true := by simp at hxy; simp [hxy]
        have heq' : ∀ W, (binOp .eql 36 (.agg #[.int .i64 m1, .int .i64 m2]) (.agg #[.int .i64 x1, .int .i64 x2])).run Try.prog W = .ok (.bool true) W := fun W => by rw [heq, hb']
        have hres : idxP l (fun x => decide ((m1, m2) = x)) = k := by
          have hxk := HX.out
          rw [List.getElem?_eq_getElem hlt] at hxk
          have hxk := Option.some.inj hxk
          refine idxP_at hlt (by rw [hxk]; simpa using hxy) (fun j hj => HNO.out j hj _ (List.getElem?_eq_getElem (by omega)))
        have HRES := Lib.hid hres
        clear heq hb' hxy hres
        go_wp2_with fail
        go_quiet (fail)
        go_wp2_with fail
        go_ret
        exact ⟨by rw [HRES.out]; rfl, by rw [← HW.out]; exact (((Keep.refl [] w).alloc _).drewN _).drewN _⟩
      · have hb' : (m1 == x1 && m2 == x2) = false := by
          simp at hxy ⊢; exact hxy
        have heq' : ∀ W, (binOp .eql 36 (.agg #[.int .i64 m1, .int .i64 m2]) (.agg #[.int .i64 x1, .int .i64 x2])).run Try.prog W = .ok (.bool false) W := fun W => by rw [heq, hb']
        have HXY := Lib.hid hxy
        clear heq hb' hxy
        go_wp2_with fail
        go_quiet (fail)
        go_wp2_with fail
        go_roundw
        case rel =>
          refine ⟨k + 1, _, by omega, by go_num, fun j hj y hy => ?_, by rw [← HW.out, World.drewN_drewN]⟩
          by_cases e : j = k
          · subst e; rw [HX.out] at hy; cases hy; simpa using HXY.out
          · exact HNO.out j (by omega) y hy
        case measure => simp [intOf]; omega
    · have hres : idxP l (fun x => decide ((m1, m2) = x)) = -1 := idxP_none (fun j hj => HNO.out j (by omega) _ (List.getElem?_eq_getElem hj))
      have HRES := Lib.hid hres
      clear hres
      go_wp2_with fail
      go_ret
      exact ⟨by rw [HRES.out]; rfl, ((Keep.refl [] w).alloc _).drewN _⟩

theorem chooseClosure (n : Int) (x : E) (B : Nat) (w : World) (hc : w.cell? ⟨B, 0, none⟩ = some (.int .i64 n)) :
    Calls Try.prog 38 #[aggE x, .pointer (some ⟨B, 0, none⟩)] w fun e w' => e = .returned (.bool (decide (n ≤ x.2))) ∧ Keep [] w w' := by
  obtain ⟨f, m⟩ := x
  unfold aggE
  have e0 : ∀ ob, (w.alloc ob).cell? ⟨B, 0, none⟩ = some (.int .i64 n) := fun ob => ((Keep.refl [] w).alloc ob).cellOf hc
  go_enter Try.func38, Try.ntmps38
  go_wp2_with fail
  go_ret
  exact ⟨rfl, (Keep.refl _ _).alloc _⟩

theorem chooseI_idx (l : List E) (n : Int) : (idxP l (fun x => decide (n ≤ x.2)) = -1 ∧ chooseI l n = maxI l) ∨ (0 ≤ idxP l (fun x => decide (n ≤ x.2)) ∧ idxP l (fun x => decide (n ≤ x.2)) = chooseI l n) := by
  unfold idxP chooseI
  cases l.findIdx? (fun x => decide (n ≤ x.2)) with
  | none => exact .inl ⟨rfl, rfl⟩
  | some i => exact .inr ⟨by simp, rfl⟩

set_option maxHeartbeats 1000000 in
theorem choose_any {w : World} {v : Value} {l : List E} {o : Option Nat} (hr : RdE w v l o) (hsz : l.length ≤ 1000000) (ho : ∀ b, o = some b → b < w.heap.size) (hl : l ≠ []) (n : Int) :
    Calls Try.prog 24 #[v, .int .i64 n] w fun e w' => e = .returned (.int .i64 (chooseI l n)) ∧ Keep [] w w' := by
  obtain ⟨a, c, rfl⟩ : ∃ a c, v = .slice a l.length c := by obtain ⟨_, a, c, h, _⟩ := hr; exact ⟨a, c, h⟩
  have eg : ∀ args w, (callFunc 38 args).run Try.prog w = .ok (.enter 38 args) w := enters_of Try.func38 (by kernel_rfl) rfl
  have hcc : (w.alloc (.cells #[.int .i64 n] 3)).cell? ⟨w.heap.size, 0, none⟩ = some (.int .i64 n) := by simp
  have hcon := indexFunc_any (w := w.alloc (.cells #[.int .i64 n] 3)) (hr.keep ((Keep.refl [] w).alloc _) (by simp)) (by omega) (fun b hb => by have := ho b hb; simp; omega) 38 #[.pointer (some ⟨w.heap.size, 0, none⟩)] (fun x => decide (n ≤ x.2)) eg
    (fun x W hk => chooseClosure n x w.heap.size W (hk.cellOf hcc))
  have hmx := fun W (hk : Keep [] w W) => maxFunc_any (hr.keep hk (by simp)) hsz (fun b hb => by have := ho b hb; have := hk.size; omega) hl
  have hix := fun W (hk : Keep [] w W) => index_any (hr.keep hk (by simp)) hsz (topOf l)
  have him := idxP_max hl
  have HMX := Lib.hid hmx
  have HIX := Lib.hid hix
  have HIM := Lib.hid him
  rcases chooseI_idx l n with ⟨h1, h2⟩ | ⟨h1, h2⟩
  · rw [h1] at hcon
    rw [h2]
    clear hcc hr ho eg hmx hix him h1 h2 hl
    go_enter Try.func24, Try.ntmps24
    go_wp2_with fail
    refine hcon.mono ?_
    rintro e w1 ⟨rfl, hk1⟩
    have k1 : Keep [] w w1 := ((Keep.refl _ _).alloc _).trans hk1 (by simp)
    have hcm := HMX.out w1 k1
    have K1 := Lib.hid k1
    clear hk1 k1 hcon
    go_wp2_with fail
    refine hcm.mono ?_
    rintro e w2 ⟨rfl, hk2⟩
    have k2 : Keep [] w w2 := K1.out.trans hk2 (by simp)
    have hcx := fun ob => HIX.out (w2.alloc ob) (k2.alloc _)
    have K2 := Lib.hid k2
    have hm2 := HIM.out
    rw [hm2] at hcx
    clear hk2 k2 hcm hm2
    generalize topOf l = m at *
    obtain ⟨m1, m2⟩ := m
    unfold aggE at *
    have HCX := Lib.hid hcx
    clear hcx
    go_wp2_with fail
    refine (HCX.out _).mono ?_
    rintro e w3 ⟨rfl, hk3⟩
    have K3 := Lib.hid hk3
    clear hk3
    go_wp2_with fail
    go_ret
    exact ⟨rfl, (K2.out.alloc _).trans K3.out (by simp)⟩
  · have h0 : (0 : Int) ≤ (chooseI l n : Int) := by omega
    rw [h2] at hcon
    clear hcc hr ho eg hmx hix him h1 h2 hl
    generalize chooseI l n = i at *
    go_enter Try.func24, Try.ntmps24
    go_wp2_with fail
    refine hcon.mono ?_
    rintro e w1 ⟨rfl, hk1⟩
    have k1 : Keep [] w w1 := ((Keep.refl _ _).alloc _).trans hk1 (by simp)
    have K1 := Lib.hid k1
    clear hk1 k1 hcon
    go_wp2_with fail
    go_ret
    exact ⟨rfl, K1.out⟩
end Go.Proofs.Ytlfhnbdeadiedaa
