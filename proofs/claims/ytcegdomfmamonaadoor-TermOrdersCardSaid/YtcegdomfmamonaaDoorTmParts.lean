/- TermParts: the walk. Printed by gen-tmparts.py. -/
import Derived.Test.YtcegdomfmamonaaDoorTmOpen
import Derived.Test.YtcegdomfmamonaaDoorTm2
import Derived.Test.YtcegdomfmamonaaDoorTmLaw
import Derived.Test.YtcegdomfmamonaaDoorTm17
import Derived.Test.YtcegdomfmamonaaDoorTm18
import Derived.Test.YtcegdomfmamonaaDoorBaseReg
import Derived.Test.YtcegdomfmamonaaDoorTmBuild
namespace Go.Proofs.YtcegdomfmamonaaDoor
open Go.RowKit Go.Emb

theorem TabOk.up3 {B : Nat} {w w' : World} (h : TabOk B w) (hk : Keep [] w w') : TabOk w'.heap.size w' := (h.keep0 hk).up (Nat.le_trans h.2.2 hk.size) (Nat.le_refl _)
/-- before the second append: the row of l and the one that comes -/
def PartC (W0 : World) (l : List Tm) (cells : Array Value) (v18 v20 : Value) (W : World) : Prop :=
  ∃ g off cap b, v18 = .slice (some ⟨g, off, none⟩) l.length cap ∧ Row W 31 4 v18 l.length (l.flatMap encTm) (some g) ∧ W0.heap.size ≤ g ∧ v20 = .slice (some ⟨b, 0, none⟩) 1 1 ∧ W.heap[b]? = some (.cells cells 31) ∧ W0.heap.size ≤ b ∧ b ≠ g ∧ Keep [] W0 W
theorem Row.made0' (w : World) (E k B : Nat) (hB : w.heap.size = B) : Row (w.alloc (.cells #[] E)) E k (.slice (some ⟨B, 0, none⟩) 0 0) 0 [] (some B) := by subst hB; exact Row.made0 w E k
theorem wpAnyH_cut {P : Program} {md : Region.Mode} {ops : Array Oper} {Q : Exit → Act → World → Prop} {S : World → Prop} {fuel : Nat} {listed : Array Bool} {n : Nat} {R : (Nat → Value) → World → Prop} {G : Prop} (first : (∀ act W, CutF n R act W → wpAnyH P md ops Q S fuel listed act W) → G) (rest : ∀ act W, CutF n R act W → wpAnyH P md ops Q S fuel listed act W) : G := first rest
theorem hasT_list1 {w : World} {l : List Tm} {B : Nat} (h : RdTms B w l) (hB : B ≤ w.heap.size) (hl : l.length * 48 ≤ 140737488355328) : HasT (w.heap.size + 1) (w.alloc (.cells (l.flatMap encTm).toArray 31)) (.slice (some ⟨w.heap.size, 0, none⟩) l.length l.length) l :=
  HasT.ofBlock (l := l) (E := 31) (heap_alloc_new w _) ((h.keep0 ((Keep.refl [] w).alloc _)).up (by omega)) hl (by omega)
theorem check_of (l : List Tm) (h : checkTm l = 0) : isTms l = true := by
  unfold checkTm at h
  split at h
  · split at h
    · assumption
    · omega
  · omega
theorem p_sizeZ {B : Nat} {w : World} {t : Tm} {z : Int} (h : RdTm B w t) (hB : B ≤ w.heap.size) (hz : (t.sz : Int) = z) (hz2 : z ≤ 4096) : Calls Tryd.prog 13 #[aggTm t] w fun e w' => e = .returned (.int .i64 z) ∧ Keep [] w w' := by
  have := p_size h hB
  have hm : ((min t.sz 4097 : Nat) : Int) = z := by omega
  rwa [hm] at this
/-- u is l, and behind it e -/
def IsC : List Tm → Tm → Tm → Prop
  | [], e, u => u = e
  | x :: r, e, u => ∃ iv y, u = .mk 8 0 ⟨#[]⟩ iv [x, y] ∧ IsC r e y
theorem IsC.sz {l : List Tm} {e u : Tm} (h : IsC l e u) : u.sz = szL l + l.length + e.sz := by
  induction l generalizing u with
  | nil => cases h; simp [szL]
  | cons x r ih =>
    obtain ⟨iv, y, rfl, h⟩ := h
    have := ih h
    simp only [Tm.sz, szL, List.length_cons]
    omega
theorem IsC.sp {l le : List Tm} {e ee u : Tm} (h : IsC l e u) (he : Sp e le ee) : Sp u (l ++ le) ee := by
  induction l generalizing u with
  | nil => cases h; exact he
  | cons x r ih =>
    obtain ⟨iv, y, rfl, h⟩ := h
    exact .cons _ x y _ ee rfl rfl (ih h)
theorem IsC.is {l : List Tm} {e u : Tm} (h : IsC l e u) (hl : isTms l = true) (he : isTm e = true) : isTm u = true := by
  induction l generalizing u with
  | nil => cases h; exact he
  | cons x r ih =>
    obtain ⟨iv, y, rfl, h⟩ := h
    simp only [isTms, Bool.and_eq_true] at hl
    have := ih h hl.2
    simp only [isTm, isTms, Bool.and_true, Bool.and_eq_true, this, hl.1, and_true]
    rw [← headOk_true]; right; right; right; right; right; right; exact ⟨rfl, rfl, (toList_nil_iff _).2 rfl, rfl⟩
/-- between two rounds of the second loop -/
def LoopC (wA : World) (Q : Nat) (l : List Tm) (e : Tm) (m : Nat) (W : World) : Prop :=
  ∃ u, W.heap[Q]? = some (.cells #[.int .i64 u.kind, .int .i64 u.num, .string u.name, u.iv] 31) ∧ IsC (l.drop m) e u ∧ RdP (· ≠ Q) W u ∧ (∃ a c, u.iv = .slice a u.items.length c) ∧ Keep [Q] wA W
theorem LoopC.start {wA : World} {Q B : Nat} {l : List Tm} {e : Tm} {ea : Option Addr} {ec : Nat} (hb : wA.heap[Q]? = some (.cells #[.int .i64 e.kind, .int .i64 e.num, .string e.name, .slice ea e.items.length ec] 31)) (hQ : B ≤ Q) (he : RdTm B wA e) (hev : e.iv = .slice ea e.items.length ec) : LoopC wA Q l e l.length wA :=
  ⟨e, by rw [hev]; exact hb, by rw [List.drop_length]; rfl, he.toP (fun b hb => by omega), ⟨ea, ec, hev⟩, Keep.refl _ _⟩
theorem LoopC.next {wA W w3 : World} {Q k : Nat} {l : List Tm} {e x u : Tm} {b : Nat} {x0 x1 x2 x3 : Value} (hk : k < l.length) (hx : l[k] = x) (hb : w3.heap[b]? = some (.cells ([x, u].flatMap encTm).toArray 31)) (hbW : W.heap.size ≤ b) (hk3 : Keep [] W w3)
    (hb3 : w3.heap[Q]? = some (.cells #[x0, x1, x2, x3] 31)) (hQ : Q < W.heap.size) (hxr : RdP (· ≠ Q) W x) (hrp : RdP (· ≠ Q) W u) (hIC : IsC (l.drop (k + 1)) e u) (hKQ : Keep [Q] wA W) :
    LoopC wA Q l e k ((((w3.setCell ⟨Q, 0, none⟩ (.int .i64 8)).setCell ⟨Q, 1, none⟩ (.int .i64 0)).setCell ⟨Q, 2, none⟩ (.string ⟨#[]⟩)).setCell ⟨Q, 3, none⟩ (.slice (some ⟨b, 0, none⟩) 2 2)) ∧
    Keep [Q] W ((((w3.setCell ⟨Q, 0, none⟩ (.int .i64 8)).setCell ⟨Q, 1, none⟩ (.int .i64 0)).setCell ⟨Q, 2, none⟩ (.string ⟨#[]⟩)).setCell ⟨Q, 3, none⟩ (.slice (some ⟨b, 0, none⟩) 2 2)) := by
  obtain ⟨s1, s2⟩ := set4 hb3 (.int .i64 8) (.int .i64 0) (.string ⟨#[]⟩) (.slice (some ⟨b, 0, none⟩) 2 2)
  have hks := (hk3.mono (G := [Q]) (fun _ h => nomatch h)).trans s2 (fun x hx => .inl hx)
  refine ⟨⟨.mk 8 0 ⟨#[]⟩ (.slice (some ⟨b, 0, none⟩) 2 2) [x, u], s1, ?_, ?_, ⟨_, _, rfl⟩, hKQ.trans hks (fun x hx => .inl hx)⟩, hks⟩
  · rw [List.drop_eq_getElem_cons hk, hx]
    exact ⟨_, u, rfl, hIC⟩
  · rw [RdP_iff]
    refine ⟨⟨by simp [Tm.num], by simp [Tm.name, ByteArray.size], by simp [Tm.items], some b, ?_, fun b' hb' => by cases hb'; omega⟩, fun y hy => ?_⟩
    · exact (Rd.ofBlock (n := 2) (k := 4) hb (by simp [encTm]) (by simp [maxLen])).keep s2 (fun b' hb' hm => by cases hb'; simp at hm; omega)
    · simp only [Tm.items, List.mem_cons, List.not_mem_nil, or_false] at hy
      rcases hy with rfl | rfl
      · exact hxr.keep hks (by simp)
      · exact hrp.keep hks (by simp)
theorem PartC.keep {W0 W : World} {l : List Tm} {cells : Array Value} {v18 v20 : Value} (h : PartC W0 l cells v18 v20 W) : Keep [] W0 W := by obtain ⟨_, _, _, _, _, _, _, _, _, _, _, hK⟩ := h; exact hK
theorem PartC.made {W0 W w2 : World} {l : List Tm} {cells : Array Value} {g off cap : Nat} (q : Nat) (hK : Keep [] W0 W) (hq : W0.heap.size ≤ q) (hqW : q < W.heap.size) (hrow : Row w2 31 4 (.slice (some ⟨g, off, none⟩) (0 + l.length) cap) (0 + l.length) ([] ++ l.flatMap encTm) (some g)) (hk2 : Keep [q] W w2) (hg : q = g ∨ W.heap.size ≤ g) :
    PartC W0 l cells (.slice (some ⟨g, off, none⟩) l.length cap) (.slice (some ⟨w2.heap.size, 0, none⟩) 1 1) (w2.alloc (.cells cells 31)) := by
  simp only [Nat.zero_add, List.nil_append] at hrow
  have h0 := hK.size
  have hgl := hrow.lt g rfl
  have hkk : Keep [] W0 w2 := hK.trans hk2 (fun x hx => by simp at hx; subst hx; right; exact hq)
  refine ⟨g, off, cap, w2.heap.size, rfl, hrow.keep ((Keep.refl [] w2).alloc _) (by simp), ?_, rfl, heap_alloc_new _ _, hkk.size, by omega, hkk.alloc _⟩
  rcases hg with rfl | h
  · exact hq
  · omega
theorem PartC.later {W0 W w2 : World} {l : List Tm} {cells : Array Value} {g off cap : Nat} (q b : Nat) (hK : Keep [] W0 W) (hq : W0.heap.size ≤ q) (hqW : q < W.heap.size) (hb : W.heap[b]? = some (.cells cells 31)) (hbq : b ≠ q) (hb0 : W0.heap.size ≤ b) (hrow : Row w2 31 4 (.slice (some ⟨g, off, none⟩) (0 + l.length) cap) (0 + l.length) ([] ++ l.flatMap encTm) (some g)) (hk2 : Keep [q] W w2) (hg : q = g ∨ W.heap.size ≤ g) :
    PartC W0 l cells (.slice (some ⟨g, off, none⟩) (0 + l.length) cap) (.slice (some ⟨b, 0, none⟩) 1 1) w2 := by
  simp only [Nat.zero_add, List.nil_append] at hrow ⊢
  have h0 := hK.size
  have hbl := (Array.getElem?_eq_some_iff.1 hb).1
  have hkk : Keep [] W0 w2 := hK.trans hk2 (fun x hx => by simp at hx; subst hx; right; exact hq)
  refine ⟨g, off, cap, b, rfl, hrow, ?_, rfl, (hk2.block b hbl (by simpa using hbq)).trans hb, hb0, ?_, hkk⟩
  · rcases hg with rfl | h
    · exact hq
    · omega
  · rcases hg with rfl | h
    · exact hbq
    · omega
/-- behind the second append -/
theorem PartC.whole {W0 W w2 : World} {B : Nat} {l : List Tm} {e : Tm} {v18 v20 : Value} {g off cap : Nat} (h : PartC W0 l (encTm e).toArray v18 v20 W) (hl : RdTms B W0 l) (he : RdTm B W0 e) (hB : B ≤ W0.heap.size) (hsz : (l.length + 1) * 48 ≤ 140737488355328) {g0 : Nat} (hg0 : W0.heap.size ≤ g0) (hrow : Row w2 31 4 (.slice (some ⟨g, off, none⟩) (l.length + 1) cap) (l.length + 1) (l.flatMap encTm ++ encTm e) (some g)) (hk2 : Keep [g0] W w2) : HasT w2.heap.size w2 (.slice (some ⟨g, off, none⟩) (l.length + 1) cap) (l ++ [e]) ∧ Keep [] W0 w2 := by
  obtain ⟨_, _, _, _, _, _, _, _, _, _, _, hK⟩ := h
  have hkk : Keep [] W0 w2 := hK.trans hk2 (fun x hx => by simp at hx; subst hx; right; exact hg0)
  refine ⟨HasT.ofRow (o := some g) (E := 31) ?_ ?_ (by simpa using hsz) (fun b hb => by cases hb; exact hrow.lt g rfl), hkk⟩
  · simpa using hrow
  · rw [RdTms_iff]
    intro x hx
    rcases List.mem_append.1 hx with hx | hx
    · exact (((RdTms_iff l).1 hl x hx).keep0 hkk).up (Nat.le_trans hB hkk.size)
    · simp at hx; subst hx; exact (he.keep0 hkk).up (Nat.le_trans hB hkk.size)

set_option maxRecDepth 100000 in
set_option maxHeartbeats 8000000 in
theorem parts_walk {w : World} {v : Value} {l : List Tm} {e : Tm} (h : HasT w.heap.size w v l) (hl : (l.length + 1) * 56 ≤ 140737488355328) (he : RdTm w.heap.size w e) (ht : TabOk w.heap.size w) : Calls Tryd.prog 7 #[v, aggTm e] w fun r w' => r = .returned (.bool true) ∧ Keep [] w w' := by
  have hone : ∀ u ∈ l.flatMap encTm, u.oneCell' = true := oneCell_enc l (fun x hx => by
    obtain ⟨a, c, e, -⟩ := ((RdTms_iff l).1 h.2.2 x hx).has.form
    exact ⟨_, _, _, e⟩)
  obtain ⟨a, c, rfl, hc1, hc2⟩ := h.form
  unfold maxLen at hc2
  obtain ⟨ea, ec, hev, -, -⟩ := he.has.form
  have HAGG : Hid (aggTm e = .agg #[.int .i64 e.kind, .int .i64 e.num, .string e.name, .slice ea e.items.length ec]) := by unfold aggTm; rw [hev]; rfl
  have HENC : Hid (encTm e = [.int .i64 e.kind, .int .i64 e.num, .string e.name, .slice ea e.items.length ec]) := by unfold encTm; rw [hev]; rfl
  have honeE : ∀ u ∈ [Value.int .i64 e.kind, .int .i64 e.num, .string e.name, .slice ea e.items.length ec], u.oneCell' = true := by simp [Value.oneCell']
  obtain ⟨i0, hi, hz0, hz1, hz2⟩ := info_parts term_info
  have hlive := fun wx (hx : Keep [] w wx) => l_live (TabOk.up3 ht hx)
  have HLV := Lib.hid hlive
  have HH := Lib.hid h
  have HE := Lib.hid he
  have HI := Lib.hid hi
  have HONE := Lib.hid hone
  have HONEE := Lib.hid honeE
  rw [HAGG.out]
  have HEV := Lib.hid hev
  clear h hi hone honeE ht hlive hev
  obtain ⟨en, hen⟩ : ∃ x, x = e.num := ⟨_, rfl⟩
  have HS0 := Lib.hid (fun wx => box4 (w := w) (wr := wx) (x0 := .int .i64 e.kind) (x1 := .int .i64 e.num) (x2 := .string e.name) (x3 := .slice ea e.items.length ec) (t := 31))
  have HK0' := Lib.hid ((Keep.refl [] w).alloc (.cells #[.int .i64 e.kind, .int .i64 e.num, .string e.name, .slice ea e.items.length ec] 31))
  clear en hen
  go_enter Tryd.func7, Tryd.ntmps7
  go_wp2_with fail
  generalize w.alloc (.cells #[.int .i64 e.kind, .int .i64 e.num, .string e.name, .slice ea e.items.length ec] 31) = W0 at *
  have HSS : Hid (∀ wx, Keep [] W0 wx → _) := HS0.out
  have HW0 := Lib.hid HK0'.out
  clear HS0 HK0'
  obtain ⟨o, hrd, hob⟩ := (HH.out.keep0 HW0.out).1
  have HRD := Lib.hid hrd
  clear hrd hob

  refine wp_region_held_drew (S := fun w' => Keep [] W0 w') (by kernel_rfl) ((Keep.refl [] W0).drew) (fun hHeld => ?_)
  have HB1 : Hid (Keep [] W0 W0.drew) := (Keep.refl [] W0).drew
  generalize W0.drew = W1 at *
  refine wpAnyH_takeL (i := 1) (v := ?v1) rfl (by kernel_rfl) (by kernel_rfl) (by kernel_rfl) (fun _ _ _ h => h) (Or.inl ⟨by kernel_rfl, ?run1⟩) hHeld ?_
  case run1 => (intro w9 hS9; obtain ⟨e0, e1, e2, e3⟩ := HSS.out w9 hS9; go_simp; try exact rfl)
  try simp only [Act.put, List.setIfInBounds_toArray, List.set_cons_zero, List.set_cons_succ]
  refine wpAnyH_takeL (i := 3) (v := ?v3) rfl (by kernel_rfl) (by kernel_rfl) (by kernel_rfl) (fun _ _ _ h => h) (Or.inl ⟨by kernel_rfl, ?run3⟩) hHeld ?_
  case run3 => (intro w9 hS9; obtain ⟨e0, e1, e2, e3⟩ := HSS.out w9 hS9; go_simp; try exact rfl)
  try simp only [Act.put, List.setIfInBounds_toArray, List.set_cons_zero, List.set_cons_succ]
  refine wpAnyH_cut (P := Tryd.prog) (md := ?md1) (ops := ?ops1) (Q := ?Q1) (S := ?S1) (fuel := ?fuel1) (listed := ?listed1) (n := 142) (R := fun f W => f 0 = (.slice a l.length c) ∧ f 3 = (.pointer (some ⟨w.heap.size, 0, none⟩)) ∧ f 4 = (.bool false) ∧ PartC W1 l #[.int .i64 e.kind, .int .i64 e.num, .string e.name, .slice ea e.items.length ec] (f 18) (f 20) W) (fun hcut => ?first1) ?rest1
  case first1 =>
    refine wpAnyH_ready (rs := [0, 4]) (by kernel_rfl) (by simp) ?_
    refine AllReadyH.consL rfl (fun K hK => ?_) (AllReadyH.consL rfl (fun K hK => ?_) AllReadyH.nil)
    · go_simp
      refine hK.out _ _ (HB1.out.trans (Keep.alloc (Keep.refl [] W1) _) (by simp)) (fun hHeld => ?_)
      clear hK K
      try simp only [Act.put, List.setIfInBounds_toArray, List.set_cons_zero, List.set_cons_succ]
      refine wpAnyH_ready (rs := [2, 4]) (by kernel_rfl) (by simp) ?_
      refine AllReadyH.consL rfl (fun K hK => ?_) (AllReadyH.consL rfl (fun K hK => ?_) AllReadyH.nil)
      · skip
        refine step_append_w _ (by rfl) _ _ 22 22 (by rfl) 31 31 i0 _ 4 56 Tryd.underlying22 Tryd.underlying22 HI.out hz0 hz1 hz2 rfl W1.heap.size 0 0 0 [] (by rfl) (Row.made0 W1 _ 4) (.slice a l.length c) (by rfl) l.length (l.flatMap encTm) o (HRD.out.keep0 (HB1.out.trans (Keep.alloc (Keep.refl [] W1) _) (by simp))) HONE.out (by unfold maxLen; omega) (by omega) ?_
        intro g2 off2 cap2 w2 hrow2 hk2 hg2
        refine hK.out _ _ (Keep.trans (HB1.out.trans (Keep.alloc (Keep.refl [] W1) _) (by simp)) hk2 (fun x hx => by simp at hx; subst hx; right; exact HB1.out.size)) (fun hHeld => ?_)
        clear hK K
        try simp only [Act.put, List.setIfInBounds_toArray, List.set_cons_zero, List.set_cons_succ]
        refine wpAnyH_ready (rs := [4]) (by kernel_rfl) (by simp) ?_
        refine AllReadyH.consL rfl (fun K hK => ?_) AllReadyH.nil
        go_simp
        have hpc := PartC.made (cells := #[.int .i64 e.kind, .int .i64 e.num, .string e.name, .slice ea e.items.length ec]) W1.heap.size (Keep.alloc (Keep.refl [] W1) _) (Nat.le_refl _) (by simp) hrow2 hk2 hg2
        refine hK.out _ _ (HB1.out.trans hpc.keep (by simp)) (fun _ => ?_)
        refine hcut _ _ ?_
        exact CutF.mk rfl ⟨rfl, rfl, rfl, hpc⟩
      · go_simp
        refine hK.out _ _ (HB1.out.trans (Keep.alloc (Keep.alloc (Keep.refl [] W1) _) _) (by simp)) (fun hHeld => ?_)
        clear hK K
        try simp only [Act.put, List.setIfInBounds_toArray, List.set_cons_zero, List.set_cons_succ]
        refine wpAnyH_ready (rs := [2]) (by kernel_rfl) (by simp) ?_
        refine AllReadyH.consL rfl (fun K hK => ?_) AllReadyH.nil
        refine step_append_w _ (by rfl) _ _ 22 22 (by rfl) 31 31 i0 _ 4 56 Tryd.underlying22 Tryd.underlying22 HI.out hz0 hz1 hz2 rfl W1.heap.size 0 0 0 [] (by rfl) (Row.keep (Row.made0 W1 _ 4) (Keep.alloc (Keep.refl [] _) _) (by simp)) (.slice a l.length c) (by rfl) l.length (l.flatMap encTm) o (HRD.out.keep0 (HB1.out.trans (Keep.alloc (Keep.alloc (Keep.refl [] W1) _) _) (by simp))) HONE.out (by unfold maxLen; omega) (by omega) ?_
        intro g2 off2 cap2 w2 hrow2 hk2 hg2
        have hpc := PartC.later (cells := #[.int .i64 e.kind, .int .i64 e.num, .string e.name, .slice ea e.items.length ec]) W1.heap.size (W1.heap.size + 1) (Keep.alloc (Keep.alloc (Keep.refl [] W1) _) _) (Nat.le_refl _) (by simp; omega) (by have := heap_alloc_new (W1.alloc (.cells #[] 31)) (.cells #[.int .i64 e.kind, .int .i64 e.num, .string e.name, .slice ea e.items.length ec] 31); simpa using this) (by omega) (by omega) hrow2 hk2 hg2
        refine hK.out _ _ (HB1.out.trans hpc.keep (by simp)) (fun _ => ?_)
        refine hcut _ _ ?_
        exact CutF.mk rfl ⟨rfl, rfl, rfl, hpc⟩
    · go_simp
      refine hK.out _ _ (HB1.out.trans (Keep.alloc (Keep.refl [] W1) _) (by simp)) (fun hHeld => ?_)
      clear hK K
      try simp only [Act.put, List.setIfInBounds_toArray, List.set_cons_zero, List.set_cons_succ]
      refine wpAnyH_ready (rs := [0]) (by kernel_rfl) (by simp) ?_
      refine AllReadyH.consL rfl (fun K hK => ?_) AllReadyH.nil
      go_simp
      refine hK.out _ _ (HB1.out.trans (Keep.alloc (Keep.alloc (Keep.refl [] W1) _) _) (by simp)) (fun hHeld => ?_)
      clear hK K
      try simp only [Act.put, List.setIfInBounds_toArray, List.set_cons_zero, List.set_cons_succ]
      refine wpAnyH_ready (rs := [2]) (by kernel_rfl) (by simp) ?_
      refine AllReadyH.consL rfl (fun K hK => ?_) AllReadyH.nil
      refine step_append_w _ (by rfl) _ _ 22 22 (by rfl) 31 31 i0 _ 4 56 Tryd.underlying22 Tryd.underlying22 HI.out hz0 hz1 hz2 rfl (W1.heap.size + 1) 0 0 0 [] (by rfl) (Row.made0' _ _ 4 _ (by simp)) (.slice a l.length c) (by rfl) l.length (l.flatMap encTm) o (HRD.out.keep0 (HB1.out.trans (Keep.alloc (Keep.alloc (Keep.refl [] W1) _) _) (by simp))) HONE.out (by unfold maxLen; omega) (by omega) ?_
      intro g2 off2 cap2 w2 hrow2 hk2 hg2
      have hpc := PartC.later (cells := #[.int .i64 e.kind, .int .i64 e.num, .string e.name, .slice ea e.items.length ec]) (W1.heap.size + 1) W1.heap.size (Keep.alloc (Keep.alloc (Keep.refl [] W1) _) _) (by omega) (by simp) (by rw [heap_alloc_old _ _ (by simp)]; exact heap_alloc_new _ _) (by omega) (Nat.le_refl _) hrow2 hk2 hg2
      refine hK.out _ _ (HB1.out.trans hpc.keep (by simp)) (fun _ => ?_)
      refine hcut _ _ ?_
      exact CutF.mk rfl ⟨rfl, rfl, rfl, hpc⟩
  case rest1 =>
    intro a' W hc
    obtain ⟨f, rfl, h0, h3, h4, hpc⟩ := hc.lit
    rw [show ((List.range 142).map f).toArray = #[f 0, f 1, f 2, f 3, f 4, f 5, f 6, f 7, f 8, f 9, f 10, f 11, f 12, f 13, f 14, f 15, f 16, f 17, f 18, f 19, f 20, f 21, f 22, f 23, f 24, f 25, f 26, f 27, f 28, f 29, f 30, f 31, f 32, f 33, f 34, f 35, f 36, f 37, f 38, f 39, f 40, f 41, f 42, f 43, f 44, f 45, f 46, f 47, f 48, f 49, f 50, f 51, f 52, f 53, f 54, f 55, f 56, f 57, f 58, f 59, f 60, f 61, f 62, f 63, f 64, f 65, f 66, f 67, f 68, f 69, f 70, f 71, f 72, f 73, f 74, f 75, f 76, f 77, f 78, f 79, f 80, f 81, f 82, f 83, f 84, f 85, f 86, f 87, f 88, f 89, f 90, f 91, f 92, f 93, f 94, f 95, f 96, f 97, f 98, f 99, f 100, f 101, f 102, f 103, f 104, f 105, f 106, f 107, f 108, f 109, f 110, f 111, f 112, f 113, f 114, f 115, f 116, f 117, f 118, f 119, f 120, f 121, f 122, f 123, f 124, f 125, f 126, f 127, f 128, f 129, f 130, f 131, f 132, f 133, f 134, f 135, f 136, f 137, f 138, f 139, f 140, f 141] from rfl]
    rw [h0, h3, h4]
    clear hc h0 h3 h4
    have HPC := Lib.hid hpc
    obtain ⟨g, off, cap, b, h18, hrow, hg, h20, hb, hb0, hbg, hKW⟩ := hpc
    rw [h18] at hrow
    rw [h18, h20]
    have hHeld := HB1.out.trans hKW (by simp)
    have hsrc : Rd W 4 (.slice (some ⟨b, 0, none⟩) 1 1) 1 [.int .i64 e.kind, .int .i64 e.num, .string e.name, .slice ea e.items.length ec] (some b) := Rd.ofBlock hb rfl (by simp [maxLen])
    refine wpAnyH_ready (rs := [5]) (by kernel_rfl) (by simp) ?_
    refine AllReadyH.consL rfl (fun K hK => ?_) AllReadyH.nil
    refine step_append_w _ (by rfl) _ _ 22 22 (by rfl) 31 31 i0 _ 4 56 Tryd.underlying22 Tryd.underlying22 HI.out hz0 hz1 hz2 rfl g off l.length cap (l.flatMap encTm) (by rfl) hrow (.slice (some ⟨b, 0, none⟩) 1 1) (by rfl) 1 [.int .i64 e.kind, .int .i64 e.num, .string e.name, .slice ea e.items.length ec] (some b) hsrc HONEE.out (by unfold maxLen; omega) (by omega) ?_
    intro g3 off3 cap3 w3 hrow3 hk3 hg3
    rw [← HENC.out] at hrow3
    obtain ⟨hhas, hkk⟩ := PartC.whole (e := e) (B := w.heap.size) (by rw [HENC.out]; exact HPC.out) (HH.out.2.2.keep0 (HW0.out.trans HB1.out (by simp))) (HE.out.keep0 (HW0.out.trans HB1.out (by simp))) (Nat.le_trans HW0.out.size HB1.out.size) (by omega) hg hrow3 hk3
    have HK3 := Lib.hid (HB1.out.trans hkk (by simp))
    have HHAS := Lib.hid hhas
    clear hrow3 hk3 hg3 hhas hkk hsrc hrow hKW hb h18 h20 HPC
    refine hK.out _ _ HK3.out (fun hHeld => ?_)
    clear hK K
    try simp only [Act.put, List.setIfInBounds_toArray, List.set_cons_zero, List.set_cons_succ]
    refine wpAnyH_ready (rs := [6]) (by kernel_rfl) (by simp) ?_
    refine AllReadyH.consL rfl (fun K hK => ?_) AllReadyH.nil
    go_simp
    refine (l_small HHAS.out (Nat.le_refl _)).mono ?_
    rintro e wc1 ⟨sb, rfl, -, hc1⟩
    have HC1 := Lib.hid (HK3.out.trans hc1 (by simp))
    clear hc1
    go_wp2_with fail
    refine hK.out _ _ HC1.out (fun hHeld2 => ?_)
    clear hK K hHeld
    have hHeld := hHeld2
    clear hHeld2
    try simp only [Act.put, List.setIfInBounds_toArray, List.set_cons_zero, List.set_cons_succ]
    clear HHAS HK3
    cases sb with
    | false =>
      refine wpAnyH_takeL (i := 7) (v := .bool true) rfl (by kernel_rfl) (by kernel_rfl) (by kernel_rfl) (fun _ _ _ h => h) (Or.inl ⟨by kernel_rfl, ?run7⟩) hHeld ?_
      case run7 => (intro w9 hS9; obtain ⟨e0, e1, e2, e3⟩ := HSS.out w9 hS9; go_simp; first | done | exact rfl | (simp [*]; done) | (simp; omega))
      try simp only [Act.put, List.setIfInBounds_toArray, List.set_cons_zero, List.set_cons_succ]
      refine wpAnyH_takeL (i := 8) (v := .bool true) rfl (by kernel_rfl) (by kernel_rfl) (by kernel_rfl) (fun _ _ _ h => h) (Or.inl ⟨by kernel_rfl, ?run8⟩) hHeld ?_
      case run8 => (intro w9 hS9; obtain ⟨e0, e1, e2, e3⟩ := HSS.out w9 hS9; go_simp; first | done | exact rfl | (simp [*]; done) | (simp; omega))
      try simp only [Act.put, List.setIfInBounds_toArray, List.set_cons_zero, List.set_cons_succ]
      refine wpAnyH_takeL (i := 9) (v := undef) rfl (by kernel_rfl) (by kernel_rfl) (by kernel_rfl) (fun _ _ _ h => h) (Or.inr ⟨by kernel_rfl, rfl⟩) hHeld ?_
      try simp only [Act.put, List.setIfInBounds_toArray, List.set_cons_zero, List.set_cons_succ]
      refine wpAnyH_takeL (i := 10) (v := undef) rfl (by kernel_rfl) (by kernel_rfl) (by kernel_rfl) (fun _ _ _ h => h) (Or.inr ⟨by kernel_rfl, rfl⟩) hHeld ?_
      try simp only [Act.put, List.setIfInBounds_toArray, List.set_cons_zero, List.set_cons_succ]
      refine wpAnyH_takeL (i := 11) (v := undef) rfl (by kernel_rfl) (by kernel_rfl) (by kernel_rfl) (fun _ _ _ h => h) (Or.inr ⟨by kernel_rfl, rfl⟩) hHeld ?_
      try simp only [Act.put, List.setIfInBounds_toArray, List.set_cons_zero, List.set_cons_succ]
      refine wpAnyH_takeL (i := 12) (v := undef) rfl (by kernel_rfl) (by kernel_rfl) (by kernel_rfl) (fun _ _ _ h => h) (Or.inr ⟨by kernel_rfl, rfl⟩) hHeld ?_
      try simp only [Act.put, List.setIfInBounds_toArray, List.set_cons_zero, List.set_cons_succ]
      refine wpAnyH_takeL (i := 13) (v := undef) rfl (by kernel_rfl) (by kernel_rfl) (by kernel_rfl) (fun _ _ _ h => h) (Or.inr ⟨by kernel_rfl, rfl⟩) hHeld ?_
      try simp only [Act.put, List.setIfInBounds_toArray, List.set_cons_zero, List.set_cons_succ]
      refine wpAnyH_takeL (i := 14) (v := undef) rfl (by kernel_rfl) (by kernel_rfl) (by kernel_rfl) (fun _ _ _ h => h) (Or.inr ⟨by kernel_rfl, rfl⟩) hHeld ?_
      try simp only [Act.put, List.setIfInBounds_toArray, List.set_cons_zero, List.set_cons_succ]
      refine wpAnyH_takeL (i := 15) (v := undef) rfl (by kernel_rfl) (by kernel_rfl) (by kernel_rfl) (fun _ _ _ h => h) (Or.inr ⟨by kernel_rfl, rfl⟩) hHeld ?_
      try simp only [Act.put, List.setIfInBounds_toArray, List.set_cons_zero, List.set_cons_succ]
      refine wpAnyH_takeL (i := 16) (v := undef) rfl (by kernel_rfl) (by kernel_rfl) (by kernel_rfl) (fun _ _ _ h => h) (Or.inr ⟨by kernel_rfl, rfl⟩) hHeld ?_
      try simp only [Act.put, List.setIfInBounds_toArray, List.set_cons_zero, List.set_cons_succ]
      refine wpAnyH_takeL (i := 17) (v := .bool true) rfl (by kernel_rfl) (by kernel_rfl) (by kernel_rfl) (fun _ _ _ h => h) (Or.inl ⟨by kernel_rfl, ?run17⟩) hHeld ?_
      case run17 => (intro w9 hS9; obtain ⟨e0, e1, e2, e3⟩ := HSS.out w9 hS9; go_simp; first | done | exact rfl | (simp [*]; done) | (simp; omega))
      try simp only [Act.put, List.setIfInBounds_toArray, List.set_cons_zero, List.set_cons_succ]
      refine wpAnyH_takeL (i := 18) (v := .bool true) rfl (by kernel_rfl) (by kernel_rfl) (by kernel_rfl) (fun _ _ _ h => h) (Or.inl ⟨by kernel_rfl, ?run18⟩) hHeld ?_
      case run18 => (intro w9 hS9; obtain ⟨e0, e1, e2, e3⟩ := HSS.out w9 hS9; go_simp; first | done | exact rfl | (simp [*]; done) | (simp; omega))
      try simp only [Act.put, List.setIfInBounds_toArray, List.set_cons_zero, List.set_cons_succ]
      refine wpAnyH_takeL (i := 19) (v := undef) rfl (by kernel_rfl) (by kernel_rfl) (by kernel_rfl) (fun _ _ _ h => h) (Or.inr ⟨by kernel_rfl, rfl⟩) hHeld ?_
      try simp only [Act.put, List.setIfInBounds_toArray, List.set_cons_zero, List.set_cons_succ]
      refine wpAnyH_takeL (i := 20) (v := undef) rfl (by kernel_rfl) (by kernel_rfl) (by kernel_rfl) (fun _ _ _ h => h) (Or.inr ⟨by kernel_rfl, rfl⟩) hHeld ?_
      try simp only [Act.put, List.setIfInBounds_toArray, List.set_cons_zero, List.set_cons_succ]
      refine wpAnyH_takeL (i := 21) (v := undef) rfl (by kernel_rfl) (by kernel_rfl) (by kernel_rfl) (fun _ _ _ h => h) (Or.inr ⟨by kernel_rfl, rfl⟩) hHeld ?_
      try simp only [Act.put, List.setIfInBounds_toArray, List.set_cons_zero, List.set_cons_succ]
      refine wpAnyH_takeL (i := 22) (v := .bool true) rfl (by kernel_rfl) (by kernel_rfl) (by kernel_rfl) (fun _ _ _ h => h) (Or.inl ⟨by kernel_rfl, ?run22⟩) hHeld ?_
      case run22 => (intro w9 hS9; obtain ⟨e0, e1, e2, e3⟩ := HSS.out w9 hS9; go_simp; first | done | exact rfl | (simp [*]; done) | (simp; omega))
      try simp only [Act.put, List.setIfInBounds_toArray, List.set_cons_zero, List.set_cons_succ]
      refine wpAnyH_takeL (i := 23) (v := .bool true) rfl (by kernel_rfl) (by kernel_rfl) (by kernel_rfl) (fun _ _ _ h => h) (Or.inl ⟨by kernel_rfl, ?run23⟩) hHeld ?_
      case run23 => (intro w9 hS9; obtain ⟨e0, e1, e2, e3⟩ := HSS.out w9 hS9; go_simp; first | done | exact rfl | (simp [*]; done) | (simp; omega))
      try simp only [Act.put, List.setIfInBounds_toArray, List.set_cons_zero, List.set_cons_succ]
      refine wpAnyH_takeL (i := 24) (v := undef) rfl (by kernel_rfl) (by kernel_rfl) (by kernel_rfl) (fun _ _ _ h => h) (Or.inr ⟨by kernel_rfl, rfl⟩) hHeld ?_
      try simp only [Act.put, List.setIfInBounds_toArray, List.set_cons_zero, List.set_cons_succ]
      refine wpAnyH_takeL (i := 25) (v := undef) rfl (by kernel_rfl) (by kernel_rfl) (by kernel_rfl) (fun _ _ _ h => h) (Or.inr ⟨by kernel_rfl, rfl⟩) hHeld ?_
      try simp only [Act.put, List.setIfInBounds_toArray, List.set_cons_zero, List.set_cons_succ]
      refine wpAnyH_takeL (i := 26) (v := undef) rfl (by kernel_rfl) (by kernel_rfl) (by kernel_rfl) (fun _ _ _ h => h) (Or.inr ⟨by kernel_rfl, rfl⟩) hHeld ?_
      try simp only [Act.put, List.setIfInBounds_toArray, List.set_cons_zero, List.set_cons_succ]
      refine wpAnyH_takeL (i := 27) (v := undef) rfl (by kernel_rfl) (by kernel_rfl) (by kernel_rfl) (fun _ _ _ h => h) (Or.inr ⟨by kernel_rfl, rfl⟩) hHeld ?_
      try simp only [Act.put, List.setIfInBounds_toArray, List.set_cons_zero, List.set_cons_succ]
      refine wpAnyH_takeL (i := 28) (v := .bool true) rfl (by kernel_rfl) (by kernel_rfl) (by kernel_rfl) (fun _ _ _ h => h) (Or.inl ⟨by kernel_rfl, ?run28⟩) hHeld ?_
      case run28 => (intro w9 hS9; obtain ⟨e0, e1, e2, e3⟩ := HSS.out w9 hS9; go_simp; first | done | exact rfl | (simp [*]; done) | (simp; omega))
      try simp only [Act.put, List.setIfInBounds_toArray, List.set_cons_zero, List.set_cons_succ]
      refine wpAnyH_done (by kernel_rfl) ?_ _
      go_wp2_with fail
      refine (HLV.out _ (HW0.out.trans HC1.out (by simp))).mono ?_
      rintro r wl ⟨rfl, hkl⟩
      go_wp2_with fail
      go_ret
      exact ⟨rfl, (HW0.out.trans HC1.out (by simp)).trans hkl (by simp)⟩
    | true =>
      refine wpAnyH_takeL (i := 7) (v := .bool false) rfl (by kernel_rfl) (by kernel_rfl) (by kernel_rfl) (fun _ _ _ h => h) (Or.inl ⟨by kernel_rfl, ?run7⟩) hHeld ?_
      case run7 => (intro w9 hS9; obtain ⟨e0, e1, e2, e3⟩ := HSS.out w9 hS9; go_simp; first | done | exact rfl | (simp [*]; done) | (simp; omega))
      try simp only [Act.put, List.setIfInBounds_toArray, List.set_cons_zero, List.set_cons_succ]
      refine wpAnyH_takeL (i := 8) (v := .bool false) rfl (by kernel_rfl) (by kernel_rfl) (by kernel_rfl) (fun _ _ _ h => h) (Or.inl ⟨by kernel_rfl, ?run8⟩) hHeld ?_
      case run8 => (intro w9 hS9; obtain ⟨e0, e1, e2, e3⟩ := HSS.out w9 hS9; go_simp; first | done | exact rfl | (simp [*]; done) | (simp; omega))
      try simp only [Act.put, List.setIfInBounds_toArray, List.set_cons_zero, List.set_cons_succ]
      have HB2 := Lib.hid HC1.out
      clear HB1 HC1
      refine wpAnyH_takeL (i := 10) (v := ?v10) rfl (by kernel_rfl) (by kernel_rfl) (by kernel_rfl) (fun _ _ _ h => h) (Or.inl ⟨by kernel_rfl, ?run10⟩) hHeld ?_
      case run10 => (intro w9 hS9; obtain ⟨e0, e1, e2, e3⟩ := HSS.out w9 hS9; go_simp; try exact rfl)
      try simp only [Act.put, List.setIfInBounds_toArray, List.set_cons_zero, List.set_cons_succ]
      refine wpAnyH_takeL (i := 12) (v := ?v12) rfl (by kernel_rfl) (by kernel_rfl) (by kernel_rfl) (fun _ _ _ h => h) (Or.inl ⟨by kernel_rfl, ?run12⟩) hHeld ?_
      case run12 => (intro w9 hS9; obtain ⟨e0, e1, e2, e3⟩ := HSS.out w9 hS9; go_simp; try exact rfl)
      try simp only [Act.put, List.setIfInBounds_toArray, List.set_cons_zero, List.set_cons_succ]
      refine wpAnyH_cut (P := Tryd.prog) (md := ?md2) (ops := ?ops2) (Q := ?Q2) (S := ?S2) (fuel := ?fuel2) (listed := ?listed2) (n := 142) (R := fun f W => f 0 = (.slice a l.length c) ∧ f 3 = (.pointer (some ⟨w.heap.size, 0, none⟩)) ∧ f 4 = (.bool false) ∧ f 24 = (.bool false) ∧ PartC wc1 l #[.int .i64 e.kind, .int .i64 e.num, .string e.name, .slice ea e.items.length ec] (f 27) (f 29) W) (fun hcut => ?first2) ?rest2
      case first2 =>
        refine wpAnyH_ready (rs := [9, 13]) (by kernel_rfl) (by simp) ?_
        refine AllReadyH.consL rfl (fun K hK => ?_) (AllReadyH.consL rfl (fun K hK => ?_) AllReadyH.nil)
        · go_simp
          refine hK.out _ _ (HB2.out.trans (Keep.alloc (Keep.refl [] wc1) _) (by simp)) (fun hHeld => ?_)
          clear hK K
          try simp only [Act.put, List.setIfInBounds_toArray, List.set_cons_zero, List.set_cons_succ]
          refine wpAnyH_ready (rs := [11, 13]) (by kernel_rfl) (by simp) ?_
          refine AllReadyH.consL rfl (fun K hK => ?_) (AllReadyH.consL rfl (fun K hK => ?_) AllReadyH.nil)
          · skip
            refine step_append_w _ (by rfl) _ _ 22 22 (by rfl) 31 31 i0 _ 4 56 Tryd.underlying22 Tryd.underlying22 HI.out hz0 hz1 hz2 rfl wc1.heap.size 0 0 0 [] (by rfl) (Row.made0 wc1 _ 4) (.slice a l.length c) (by rfl) l.length (l.flatMap encTm) o (HRD.out.keep0 (HB2.out.trans (Keep.alloc (Keep.refl [] wc1) _) (by simp))) HONE.out (by unfold maxLen; omega) (by omega) ?_
            intro g2 off2 cap2 w2 hrow2 hk2 hg2
            refine hK.out _ _ (Keep.trans (HB2.out.trans (Keep.alloc (Keep.refl [] wc1) _) (by simp)) hk2 (fun x hx => by simp at hx; subst hx; right; exact HB2.out.size)) (fun hHeld => ?_)
            clear hK K
            try simp only [Act.put, List.setIfInBounds_toArray, List.set_cons_zero, List.set_cons_succ]
            refine wpAnyH_ready (rs := [13]) (by kernel_rfl) (by simp) ?_
            refine AllReadyH.consL rfl (fun K hK => ?_) AllReadyH.nil
            go_simp
            have hpc := PartC.made (cells := #[.int .i64 e.kind, .int .i64 e.num, .string e.name, .slice ea e.items.length ec]) wc1.heap.size (Keep.alloc (Keep.refl [] wc1) _) (Nat.le_refl _) (by simp) hrow2 hk2 hg2
            refine hK.out _ _ (HB2.out.trans hpc.keep (by simp)) (fun _ => ?_)
            refine hcut _ _ ?_
            exact CutF.mk rfl ⟨rfl, rfl, rfl, rfl, hpc⟩
          · go_simp
            refine hK.out _ _ (HB2.out.trans (Keep.alloc (Keep.alloc (Keep.refl [] wc1) _) _) (by simp)) (fun hHeld => ?_)
            clear hK K
            try simp only [Act.put, List.setIfInBounds_toArray, List.set_cons_zero, List.set_cons_succ]
            refine wpAnyH_ready (rs := [11]) (by kernel_rfl) (by simp) ?_
            refine AllReadyH.consL rfl (fun K hK => ?_) AllReadyH.nil
            refine step_append_w _ (by rfl) _ _ 22 22 (by rfl) 31 31 i0 _ 4 56 Tryd.underlying22 Tryd.underlying22 HI.out hz0 hz1 hz2 rfl wc1.heap.size 0 0 0 [] (by rfl) (Row.keep (Row.made0 wc1 _ 4) (Keep.alloc (Keep.refl [] _) _) (by simp)) (.slice a l.length c) (by rfl) l.length (l.flatMap encTm) o (HRD.out.keep0 (HB2.out.trans (Keep.alloc (Keep.alloc (Keep.refl [] wc1) _) _) (by simp))) HONE.out (by unfold maxLen; omega) (by omega) ?_
            intro g2 off2 cap2 w2 hrow2 hk2 hg2
            have hpc := PartC.later (cells := #[.int .i64 e.kind, .int .i64 e.num, .string e.name, .slice ea e.items.length ec]) wc1.heap.size (wc1.heap.size + 1) (Keep.alloc (Keep.alloc (Keep.refl [] wc1) _) _) (Nat.le_refl _) (by simp; omega) (by have := heap_alloc_new (wc1.alloc (.cells #[] 31)) (.cells #[.int .i64 e.kind, .int .i64 e.num, .string e.name, .slice ea e.items.length ec] 31); simpa using this) (by omega) (by omega) hrow2 hk2 hg2
            refine hK.out _ _ (HB2.out.trans hpc.keep (by simp)) (fun _ => ?_)
            refine hcut _ _ ?_
            exact CutF.mk rfl ⟨rfl, rfl, rfl, rfl, hpc⟩
        · go_simp
          refine hK.out _ _ (HB2.out.trans (Keep.alloc (Keep.refl [] wc1) _) (by simp)) (fun hHeld => ?_)
          clear hK K
          try simp only [Act.put, List.setIfInBounds_toArray, List.set_cons_zero, List.set_cons_succ]
          refine wpAnyH_ready (rs := [9]) (by kernel_rfl) (by simp) ?_
          refine AllReadyH.consL rfl (fun K hK => ?_) AllReadyH.nil
          go_simp
          refine hK.out _ _ (HB2.out.trans (Keep.alloc (Keep.alloc (Keep.refl [] wc1) _) _) (by simp)) (fun hHeld => ?_)
          clear hK K
          try simp only [Act.put, List.setIfInBounds_toArray, List.set_cons_zero, List.set_cons_succ]
          refine wpAnyH_ready (rs := [11]) (by kernel_rfl) (by simp) ?_
          refine AllReadyH.consL rfl (fun K hK => ?_) AllReadyH.nil
          refine step_append_w _ (by rfl) _ _ 22 22 (by rfl) 31 31 i0 _ 4 56 Tryd.underlying22 Tryd.underlying22 HI.out hz0 hz1 hz2 rfl (wc1.heap.size + 1) 0 0 0 [] (by rfl) (Row.made0' _ _ 4 _ (by simp)) (.slice a l.length c) (by rfl) l.length (l.flatMap encTm) o (HRD.out.keep0 (HB2.out.trans (Keep.alloc (Keep.alloc (Keep.refl [] wc1) _) _) (by simp))) HONE.out (by unfold maxLen; omega) (by omega) ?_
          intro g2 off2 cap2 w2 hrow2 hk2 hg2
          have hpc := PartC.later (cells := #[.int .i64 e.kind, .int .i64 e.num, .string e.name, .slice ea e.items.length ec]) (wc1.heap.size + 1) wc1.heap.size (Keep.alloc (Keep.alloc (Keep.refl [] wc1) _) _) (by omega) (by simp) (by rw [heap_alloc_old _ _ (by simp)]; exact heap_alloc_new _ _) (by omega) (Nat.le_refl _) hrow2 hk2 hg2
          refine hK.out _ _ (HB2.out.trans hpc.keep (by simp)) (fun _ => ?_)
          refine hcut _ _ ?_
          exact CutF.mk rfl ⟨rfl, rfl, rfl, rfl, hpc⟩
      case rest2 =>
        intro a' W hc
        obtain ⟨f, rfl, h0, h3, h4, h24, hpc⟩ := hc.lit
        rw [show ((List.range 142).map f).toArray = #[f 0, f 1, f 2, f 3, f 4, f 5, f 6, f 7, f 8, f 9, f 10, f 11, f 12, f 13, f 14, f 15, f 16, f 17, f 18, f 19, f 20, f 21, f 22, f 23, f 24, f 25, f 26, f 27, f 28, f 29, f 30, f 31, f 32, f 33, f 34, f 35, f 36, f 37, f 38, f 39, f 40, f 41, f 42, f 43, f 44, f 45, f 46, f 47, f 48, f 49, f 50, f 51, f 52, f 53, f 54, f 55, f 56, f 57, f 58, f 59, f 60, f 61, f 62, f 63, f 64, f 65, f 66, f 67, f 68, f 69, f 70, f 71, f 72, f 73, f 74, f 75, f 76, f 77, f 78, f 79, f 80, f 81, f 82, f 83, f 84, f 85, f 86, f 87, f 88, f 89, f 90, f 91, f 92, f 93, f 94, f 95, f 96, f 97, f 98, f 99, f 100, f 101, f 102, f 103, f 104, f 105, f 106, f 107, f 108, f 109, f 110, f 111, f 112, f 113, f 114, f 115, f 116, f 117, f 118, f 119, f 120, f 121, f 122, f 123, f 124, f 125, f 126, f 127, f 128, f 129, f 130, f 131, f 132, f 133, f 134, f 135, f 136, f 137, f 138, f 139, f 140, f 141] from rfl]
        rw [h0, h3, h4, h24]
        clear hc h0 h3 h4 h24
        have HPC := Lib.hid hpc
        obtain ⟨g, off, cap, b, h18, hrow, hg, h20, hb, hb0, hbg, hKW⟩ := hpc
        rw [h18] at hrow
        rw [h18, h20]
        have hHeld := HB2.out.trans hKW (by simp)
        have hsrc : Rd W 4 (.slice (some ⟨b, 0, none⟩) 1 1) 1 [.int .i64 e.kind, .int .i64 e.num, .string e.name, .slice ea e.items.length ec] (some b) := Rd.ofBlock hb rfl (by simp [maxLen])
        refine wpAnyH_ready (rs := [14]) (by kernel_rfl) (by simp) ?_
        refine AllReadyH.consL rfl (fun K hK => ?_) AllReadyH.nil
        refine step_append_w _ (by rfl) _ _ 22 22 (by rfl) 31 31 i0 _ 4 56 Tryd.underlying22 Tryd.underlying22 HI.out hz0 hz1 hz2 rfl g off l.length cap (l.flatMap encTm) (by rfl) hrow (.slice (some ⟨b, 0, none⟩) 1 1) (by rfl) 1 [.int .i64 e.kind, .int .i64 e.num, .string e.name, .slice ea e.items.length ec] (some b) hsrc HONEE.out (by unfold maxLen; omega) (by omega) ?_
        intro g3 off3 cap3 w3 hrow3 hk3 hg3
        rw [← HENC.out] at hrow3
        obtain ⟨hhas, hkk⟩ := PartC.whole (e := e) (B := w.heap.size) (by rw [HENC.out]; exact HPC.out) (HH.out.2.2.keep0 (HW0.out.trans HB2.out (by simp))) (HE.out.keep0 (HW0.out.trans HB2.out (by simp))) (Nat.le_trans HW0.out.size HB2.out.size) (by omega) hg hrow3 hk3
        have HK3 := Lib.hid (HB2.out.trans hkk (by simp))
        have HHAS := Lib.hid hhas
        clear hrow3 hk3 hg3 hhas hkk hsrc hrow hKW hb h18 h20 HPC
        refine hK.out _ _ HK3.out (fun hHeld => ?_)
        clear hK K
        try simp only [Act.put, List.setIfInBounds_toArray, List.set_cons_zero, List.set_cons_succ]
        refine wpAnyH_ready (rs := [15]) (by kernel_rfl) (by simp) ?_
        refine AllReadyH.consL rfl (fun K hK => ?_) AllReadyH.nil
        go_simp
        refine (r_fits HHAS.out (n := 1000) (by omega) (by omega)).mono ?_
        rintro e wc2 ⟨rfl, hc2⟩
        have HC2 := Lib.hid (HK3.out.trans hc2 (by simp))
        clear hc2
        go_wp2_with fail
        refine hK.out _ _ HC2.out (fun hHeld2 => ?_)
        clear hK K hHeld
        have hHeld := hHeld2
        clear hHeld2
        try simp only [Act.put, List.setIfInBounds_toArray, List.set_cons_zero, List.set_cons_succ]
        clear HHAS HK3 HB2
        by_cases hfit : ((szL (l ++ [e]) : Nat) : Int) ≤ 1000
        case neg =>
          rw [decide_eq_false hfit]
          refine wpAnyH_takeL (i := 16) (v := .bool true) rfl (by kernel_rfl) (by kernel_rfl) (by kernel_rfl) (fun _ _ _ h => h) (Or.inl ⟨by kernel_rfl, ?run16⟩) hHeld ?_
          case run16 => (intro w9 hS9; obtain ⟨e0, e1, e2, e3⟩ := HSS.out w9 hS9; go_simp; first | done | exact rfl | (simp [*]; done) | (simp; omega))
          try simp only [Act.put, List.setIfInBounds_toArray, List.set_cons_zero, List.set_cons_succ]
          refine wpAnyH_takeL (i := 17) (v := .bool true) rfl (by kernel_rfl) (by kernel_rfl) (by kernel_rfl) (fun _ _ _ h => h) (Or.inl ⟨by kernel_rfl, ?run17⟩) hHeld ?_
          case run17 => (intro w9 hS9; obtain ⟨e0, e1, e2, e3⟩ := HSS.out w9 hS9; go_simp; first | done | exact rfl | (simp [*]; done) | (simp; omega))
          try simp only [Act.put, List.setIfInBounds_toArray, List.set_cons_zero, List.set_cons_succ]
          refine wpAnyH_takeL (i := 18) (v := .bool true) rfl (by kernel_rfl) (by kernel_rfl) (by kernel_rfl) (fun _ _ _ h => h) (Or.inl ⟨by kernel_rfl, ?run18⟩) hHeld ?_
          case run18 => (intro w9 hS9; obtain ⟨e0, e1, e2, e3⟩ := HSS.out w9 hS9; go_simp; first | done | exact rfl | (simp [*]; done) | (simp; omega))
          try simp only [Act.put, List.setIfInBounds_toArray, List.set_cons_zero, List.set_cons_succ]
          refine wpAnyH_takeL (i := 19) (v := undef) rfl (by kernel_rfl) (by kernel_rfl) (by kernel_rfl) (fun _ _ _ h => h) (Or.inr ⟨by kernel_rfl, rfl⟩) hHeld ?_
          try simp only [Act.put, List.setIfInBounds_toArray, List.set_cons_zero, List.set_cons_succ]
          refine wpAnyH_takeL (i := 20) (v := undef) rfl (by kernel_rfl) (by kernel_rfl) (by kernel_rfl) (fun _ _ _ h => h) (Or.inr ⟨by kernel_rfl, rfl⟩) hHeld ?_
          try simp only [Act.put, List.setIfInBounds_toArray, List.set_cons_zero, List.set_cons_succ]
          refine wpAnyH_takeL (i := 21) (v := undef) rfl (by kernel_rfl) (by kernel_rfl) (by kernel_rfl) (fun _ _ _ h => h) (Or.inr ⟨by kernel_rfl, rfl⟩) hHeld ?_
          try simp only [Act.put, List.setIfInBounds_toArray, List.set_cons_zero, List.set_cons_succ]
          refine wpAnyH_takeL (i := 22) (v := .bool true) rfl (by kernel_rfl) (by kernel_rfl) (by kernel_rfl) (fun _ _ _ h => h) (Or.inl ⟨by kernel_rfl, ?run22⟩) hHeld ?_
          case run22 => (intro w9 hS9; obtain ⟨e0, e1, e2, e3⟩ := HSS.out w9 hS9; go_simp; first | done | exact rfl | (simp [*]; done) | (simp; omega))
          try simp only [Act.put, List.setIfInBounds_toArray, List.set_cons_zero, List.set_cons_succ]
          refine wpAnyH_takeL (i := 23) (v := .bool true) rfl (by kernel_rfl) (by kernel_rfl) (by kernel_rfl) (fun _ _ _ h => h) (Or.inl ⟨by kernel_rfl, ?run23⟩) hHeld ?_
          case run23 => (intro w9 hS9; obtain ⟨e0, e1, e2, e3⟩ := HSS.out w9 hS9; go_simp; first | done | exact rfl | (simp [*]; done) | (simp; omega))
          try simp only [Act.put, List.setIfInBounds_toArray, List.set_cons_zero, List.set_cons_succ]
          refine wpAnyH_takeL (i := 24) (v := undef) rfl (by kernel_rfl) (by kernel_rfl) (by kernel_rfl) (fun _ _ _ h => h) (Or.inr ⟨by kernel_rfl, rfl⟩) hHeld ?_
          try simp only [Act.put, List.setIfInBounds_toArray, List.set_cons_zero, List.set_cons_succ]
          refine wpAnyH_takeL (i := 25) (v := undef) rfl (by kernel_rfl) (by kernel_rfl) (by kernel_rfl) (fun _ _ _ h => h) (Or.inr ⟨by kernel_rfl, rfl⟩) hHeld ?_
          try simp only [Act.put, List.setIfInBounds_toArray, List.set_cons_zero, List.set_cons_succ]
          refine wpAnyH_takeL (i := 26) (v := undef) rfl (by kernel_rfl) (by kernel_rfl) (by kernel_rfl) (fun _ _ _ h => h) (Or.inr ⟨by kernel_rfl, rfl⟩) hHeld ?_
          try simp only [Act.put, List.setIfInBounds_toArray, List.set_cons_zero, List.set_cons_succ]
          refine wpAnyH_takeL (i := 27) (v := undef) rfl (by kernel_rfl) (by kernel_rfl) (by kernel_rfl) (fun _ _ _ h => h) (Or.inr ⟨by kernel_rfl, rfl⟩) hHeld ?_
          try simp only [Act.put, List.setIfInBounds_toArray, List.set_cons_zero, List.set_cons_succ]
          refine wpAnyH_takeL (i := 28) (v := .bool true) rfl (by kernel_rfl) (by kernel_rfl) (by kernel_rfl) (fun _ _ _ h => h) (Or.inl ⟨by kernel_rfl, ?run28⟩) hHeld ?_
          case run28 => (intro w9 hS9; obtain ⟨e0, e1, e2, e3⟩ := HSS.out w9 hS9; go_simp; first | done | exact rfl | (simp [*]; done) | (simp; omega))
          try simp only [Act.put, List.setIfInBounds_toArray, List.set_cons_zero, List.set_cons_succ]
          refine wpAnyH_done (by kernel_rfl) ?_ _
          go_wp2_with fail
          refine (HLV.out _ (HW0.out.trans HC2.out (by simp))).mono ?_
          rintro r wl ⟨rfl, hkl⟩
          go_wp2_with fail
          go_ret
          exact ⟨rfl, (HW0.out.trans HC2.out (by simp)).trans hkl (by simp)⟩
        rw [decide_eq_true hfit]
        refine wpAnyH_takeL (i := 16) (v := .bool false) rfl (by kernel_rfl) (by kernel_rfl) (by kernel_rfl) (fun _ _ _ h => h) (Or.inl ⟨by kernel_rfl, ?run16⟩) hHeld ?_
        case run16 => (intro w9 hS9; obtain ⟨e0, e1, e2, e3⟩ := HSS.out w9 hS9; go_simp; first | done | exact rfl | (simp [*]; done) | (simp; omega))
        try simp only [Act.put, List.setIfInBounds_toArray, List.set_cons_zero, List.set_cons_succ]
        refine wpAnyH_takeL (i := 17) (v := .bool false) rfl (by kernel_rfl) (by kernel_rfl) (by kernel_rfl) (fun _ _ _ h => h) (Or.inl ⟨by kernel_rfl, ?run17⟩) hHeld ?_
        case run17 => (intro w9 hS9; obtain ⟨e0, e1, e2, e3⟩ := HSS.out w9 hS9; go_simp; first | done | exact rfl | (simp [*]; done) | (simp; omega))
        try simp only [Act.put, List.setIfInBounds_toArray, List.set_cons_zero, List.set_cons_succ]
        refine wpAnyH_takeL (i := 18) (v := .bool false) rfl (by kernel_rfl) (by kernel_rfl) (by kernel_rfl) (fun _ _ _ h => h) (Or.inl ⟨by kernel_rfl, ?run18⟩) hHeld ?_
        case run18 => (intro w9 hS9; obtain ⟨e0, e1, e2, e3⟩ := HSS.out w9 hS9; go_simp; first | done | exact rfl | (simp [*]; done) | (simp; omega))
        try simp only [Act.put, List.setIfInBounds_toArray, List.set_cons_zero, List.set_cons_succ]
        refine wpAnyH_takeL (i := 19) (v := ?v19) rfl (by kernel_rfl) (by kernel_rfl) (by kernel_rfl) (fun _ _ _ h => h) (Or.inl ⟨by kernel_rfl, ?run19⟩) hHeld ?_
        case run19 => (intro w9 hS9; obtain ⟨e0, e1, e2, e3⟩ := HSS.out w9 hS9; go_simp; try exact rfl)
        try simp only [Act.put, List.setIfInBounds_toArray, List.set_cons_zero, List.set_cons_succ]
        refine wpAnyH_ready (rs := [20]) (by kernel_rfl) (by simp) ?_
        refine AllReadyH.consL rfl (fun K hK => ?_) AllReadyH.nil
        go_simp
        refine (r_check (HH.out.keep0 (HW0.out.trans HC2.out (by simp)))).mono ?_
        rintro e wc3 ⟨rfl, hc3⟩
        have HC3 := Lib.hid (HC2.out.trans hc3 (by simp))
        clear hc3
        go_wp2_with fail
        refine hK.out _ _ HC3.out (fun hHeld2 => ?_)
        clear hK K hHeld
        have hHeld := hHeld2
        clear hHeld2
        try simp only [Act.put, List.setIfInBounds_toArray, List.set_cons_zero, List.set_cons_succ]
        clear HC2
        have hck1 := check_of l
        generalize checkTm l = ck at *
        by_cases hck : ck = 0
        case neg =>
          have hckb : (ck != 0) = true := by simpa using hck
          refine wpAnyH_takeL (i := 21) (v := .bool true) rfl (by kernel_rfl) (by kernel_rfl) (by kernel_rfl) (fun _ _ _ h => h) (Or.inl ⟨by kernel_rfl, ?run21⟩) hHeld ?_
          case run21 => (intro w9 hS9; obtain ⟨e0, e1, e2, e3⟩ := HSS.out w9 hS9; go_simp; first | done | exact rfl | (simp [*]; done) | (simp; omega))
          try simp only [Act.put, List.setIfInBounds_toArray, List.set_cons_zero, List.set_cons_succ]
          refine wpAnyH_takeL (i := 22) (v := .bool true) rfl (by kernel_rfl) (by kernel_rfl) (by kernel_rfl) (fun _ _ _ h => h) (Or.inl ⟨by kernel_rfl, ?run22⟩) hHeld ?_
          case run22 => (intro w9 hS9; obtain ⟨e0, e1, e2, e3⟩ := HSS.out w9 hS9; go_simp; first | done | exact rfl | (simp [*]; done) | (simp; omega))
          try simp only [Act.put, List.setIfInBounds_toArray, List.set_cons_zero, List.set_cons_succ]
          refine wpAnyH_takeL (i := 23) (v := .bool true) rfl (by kernel_rfl) (by kernel_rfl) (by kernel_rfl) (fun _ _ _ h => h) (Or.inl ⟨by kernel_rfl, ?run23⟩) hHeld ?_
          case run23 => (intro w9 hS9; obtain ⟨e0, e1, e2, e3⟩ := HSS.out w9 hS9; go_simp; first | done | exact rfl | (simp [*]; done) | (simp; omega))
          try simp only [Act.put, List.setIfInBounds_toArray, List.set_cons_zero, List.set_cons_succ]
          refine wpAnyH_takeL (i := 24) (v := undef) rfl (by kernel_rfl) (by kernel_rfl) (by kernel_rfl) (fun _ _ _ h => h) (Or.inr ⟨by kernel_rfl, rfl⟩) hHeld ?_
          try simp only [Act.put, List.setIfInBounds_toArray, List.set_cons_zero, List.set_cons_succ]
          refine wpAnyH_takeL (i := 25) (v := undef) rfl (by kernel_rfl) (by kernel_rfl) (by kernel_rfl) (fun _ _ _ h => h) (Or.inr ⟨by kernel_rfl, rfl⟩) hHeld ?_
          try simp only [Act.put, List.setIfInBounds_toArray, List.set_cons_zero, List.set_cons_succ]
          refine wpAnyH_takeL (i := 26) (v := undef) rfl (by kernel_rfl) (by kernel_rfl) (by kernel_rfl) (fun _ _ _ h => h) (Or.inr ⟨by kernel_rfl, rfl⟩) hHeld ?_
          try simp only [Act.put, List.setIfInBounds_toArray, List.set_cons_zero, List.set_cons_succ]
          refine wpAnyH_takeL (i := 27) (v := undef) rfl (by kernel_rfl) (by kernel_rfl) (by kernel_rfl) (fun _ _ _ h => h) (Or.inr ⟨by kernel_rfl, rfl⟩) hHeld ?_
          try simp only [Act.put, List.setIfInBounds_toArray, List.set_cons_zero, List.set_cons_succ]
          refine wpAnyH_takeL (i := 28) (v := .bool true) rfl (by kernel_rfl) (by kernel_rfl) (by kernel_rfl) (fun _ _ _ h => h) (Or.inl ⟨by kernel_rfl, ?run28⟩) hHeld ?_
          case run28 => (intro w9 hS9; obtain ⟨e0, e1, e2, e3⟩ := HSS.out w9 hS9; go_simp; first | done | exact rfl | (simp [*]; done) | (simp; omega))
          try simp only [Act.put, List.setIfInBounds_toArray, List.set_cons_zero, List.set_cons_succ]
          refine wpAnyH_done (by kernel_rfl) ?_ _
          go_wp2_with fail
          refine (HLV.out _ (HW0.out.trans HC3.out (by simp))).mono ?_
          rintro r wl ⟨rfl, hkl⟩
          go_wp2_with fail
          go_ret
          exact ⟨rfl, (HW0.out.trans HC3.out (by simp)).trans hkl (by simp)⟩
        subst hck
        refine wpAnyH_takeL (i := 21) (v := .bool false) rfl (by kernel_rfl) (by kernel_rfl) (by kernel_rfl) (fun _ _ _ h => h) (Or.inl ⟨by kernel_rfl, ?run21⟩) hHeld ?_
        case run21 => (intro w9 hS9; obtain ⟨e0, e1, e2, e3⟩ := HSS.out w9 hS9; go_simp; first | done | exact rfl | (simp [*]; done) | (simp; omega))
        try simp only [Act.put, List.setIfInBounds_toArray, List.set_cons_zero, List.set_cons_succ]
        refine wpAnyH_takeL (i := 22) (v := .bool false) rfl (by kernel_rfl) (by kernel_rfl) (by kernel_rfl) (fun _ _ _ h => h) (Or.inl ⟨by kernel_rfl, ?run22⟩) hHeld ?_
        case run22 => (intro w9 hS9; obtain ⟨e0, e1, e2, e3⟩ := HSS.out w9 hS9; go_simp; first | done | exact rfl | (simp [*]; done) | (simp; omega))
        try simp only [Act.put, List.setIfInBounds_toArray, List.set_cons_zero, List.set_cons_succ]
        refine wpAnyH_takeL (i := 23) (v := .bool false) rfl (by kernel_rfl) (by kernel_rfl) (by kernel_rfl) (fun _ _ _ h => h) (Or.inl ⟨by kernel_rfl, ?run23⟩) hHeld ?_
        case run23 => (intro w9 hS9; obtain ⟨e0, e1, e2, e3⟩ := HSS.out w9 hS9; go_simp; first | done | exact rfl | (simp [*]; done) | (simp; omega))
        try simp only [Act.put, List.setIfInBounds_toArray, List.set_cons_zero, List.set_cons_succ]
        refine wpAnyH_takeL (i := 24) (v := ?v24) rfl (by kernel_rfl) (by kernel_rfl) (by kernel_rfl) (fun _ _ _ h => h) (Or.inl ⟨by kernel_rfl, ?run24⟩) hHeld ?_
        case run24 => (intro w9 hS9; obtain ⟨e0, e1, e2, e3⟩ := HSS.out w9 hS9; go_simp; try exact rfl)
        try simp only [Act.put, List.setIfInBounds_toArray, List.set_cons_zero, List.set_cons_succ]
        refine wpAnyH_ready (rs := [25]) (by kernel_rfl) (by simp) ?_
        refine AllReadyH.consL rfl (fun K hK => ?_) AllReadyH.nil
        go_simp
        have HC4 := Lib.hid (HC3.out.trans ((Keep.refl [] wc3).alloc (.cells #[.int .i64 e.kind, .int .i64 e.num, .string e.name, .slice ea e.items.length ec] 31)) (by simp))
        have hse := r_check (hasT_list1 (B := w.heap.size) (w := wc3) (l := [e]) (by simp only [RdTms, and_true]; exact HE.out.keep0 (HW0.out.trans HC3.out (by simp))) (HW0.out.trans HC3.out (by simp)).size (by simp))
        simp only [List.flatMap_cons, List.flatMap_nil, HENC.out, List.cons_append, List.nil_append, List.length_cons, List.length_nil, Nat.zero_add] at hse
        have HSE := Lib.hid hse
        clear hse HC3
        refine hK.out _ _ HC4.out (fun hHeld => ?_)
        clear hK K
        try simp only [Act.put, List.setIfInBounds_toArray, List.set_cons_zero, List.set_cons_succ]
        refine wpAnyH_ready (rs := [26]) (by kernel_rfl) (by simp) ?_
        refine AllReadyH.consL rfl (fun K hK => ?_) AllReadyH.nil
        go_simp
        refine (HSE.out).mono ?_
        rintro e wc5 ⟨rfl, hc5⟩
        have HC5 := Lib.hid (HC4.out.trans hc5 (by simp))
        clear hc5
        go_wp2_with fail
        refine hK.out _ _ HC5.out (fun hHeld2 => ?_)
        clear hK K hHeld
        have hHeld := hHeld2
        clear hHeld2
        try simp only [Act.put, List.setIfInBounds_toArray, List.set_cons_zero, List.set_cons_succ]
        clear HSE HC4
        have hck2 := check_of [e]
        generalize checkTm [e] = ck at *
        by_cases hck : ck = 0
        case neg =>
          have hckb : (ck != 0) = true := by simpa using hck
          refine wpAnyH_takeL (i := 27) (v := .bool true) rfl (by kernel_rfl) (by kernel_rfl) (by kernel_rfl) (fun _ _ _ h => h) (Or.inl ⟨by kernel_rfl, ?run27⟩) hHeld ?_
          case run27 => (intro w9 hS9; obtain ⟨e0, e1, e2, e3⟩ := HSS.out w9 hS9; go_simp; first | done | exact rfl | (simp [*]; done) | (simp; omega))
          try simp only [Act.put, List.setIfInBounds_toArray, List.set_cons_zero, List.set_cons_succ]
          refine wpAnyH_takeL (i := 28) (v := .bool true) rfl (by kernel_rfl) (by kernel_rfl) (by kernel_rfl) (fun _ _ _ h => h) (Or.inl ⟨by kernel_rfl, ?run28⟩) hHeld ?_
          case run28 => (intro w9 hS9; obtain ⟨e0, e1, e2, e3⟩ := HSS.out w9 hS9; go_simp; first | done | exact rfl | (simp [*]; done) | (simp; omega))
          try simp only [Act.put, List.setIfInBounds_toArray, List.set_cons_zero, List.set_cons_succ]
          refine wpAnyH_done (by kernel_rfl) ?_ _
          go_wp2_with fail
          refine (HLV.out _ (HW0.out.trans HC5.out (by simp))).mono ?_
          rintro r wl ⟨rfl, hkl⟩
          go_wp2_with fail
          go_ret
          exact ⟨rfl, (HW0.out.trans HC5.out (by simp)).trans hkl (by simp)⟩
        subst hck
        refine wpAnyH_takeL (i := 27) (v := .bool false) rfl (by kernel_rfl) (by kernel_rfl) (by kernel_rfl) (fun _ _ _ h => h) (Or.inl ⟨by kernel_rfl, ?run27⟩) hHeld ?_
        case run27 => (intro w9 hS9; obtain ⟨e0, e1, e2, e3⟩ := HSS.out w9 hS9; go_simp; first | done | exact rfl | (simp [*]; done) | (simp; omega))
        try simp only [Act.put, List.setIfInBounds_toArray, List.set_cons_zero, List.set_cons_succ]
        refine wpAnyH_takeL (i := 28) (v := .bool false) rfl (by kernel_rfl) (by kernel_rfl) (by kernel_rfl) (fun _ _ _ h => h) (Or.inl ⟨by kernel_rfl, ?run28⟩) hHeld ?_
        case run28 => (intro w9 hS9; obtain ⟨e0, e1, e2, e3⟩ := HSS.out w9 hS9; go_simp; first | done | exact rfl | (simp [*]; done) | (simp; omega))
        try simp only [Act.put, List.setIfInBounds_toArray, List.set_cons_zero, List.set_cons_succ]
        refine wpAnyH_done (by kernel_rfl) ?_ _
        go_wp2_with fail
        have hsum : szL l + e.sz ≤ 1000 := by rw [szL_append, szL_cons, szL_nil] at hfit; omega
        have hlen := length_le_szL l
        have hesz := e.sz_pos
        have HK := Lib.hid (HW0.out.trans HC5.out (by simp))
        have HIS := Lib.hid (hck1 (by trivial))
        have HISE := Lib.hid (hck2 (by trivial))
        clear hck1 hck2 hfit
        go_loopw [5, 6] (fun s i wr => ∃ k : Nat, k ≤ l.length ∧ s = .int .i64 (szL (l.take k) : Nat) ∧ i = .int .i64 k ∧ Keep [] wc5 wr) (fun _ i _ => l.length - (intOf i).toNat)
        case atStart => exact ⟨0, Nat.zero_le _, by simp [szL], rfl, Keep.refl _ _⟩
        case round =>
          obtain ⟨k, hk, rfl, rfl, hK⟩ := hrel
          have HKR := Lib.hid hK
          clear hK
          by_cases hlt : k < l.length
          · as_aux_lemma =>
            obtain ⟨b, off, rfl, c0, c1, c2, c3, hrx⟩ := HH.out.at (HK.out.trans HKR.out (by simp)) hlt
            have hts := szL_take_succ l k hlt
            have htl := szL_take_le l (k + 1)
            have hcall := p_sizeZ hrx (Nat.le_trans HK.out.size HKR.out.size) (z := (l[k].sz : Nat)) rfl (by omega)
            obtain ⟨xa, xc, hxv, -, -⟩ := hrx.has.form
            unfold aggTm at hcall
            rw [hxv] at c3 hcall
            have HCALL := Lib.hid hcall
            have HTS := Lib.hid hts
            have q0 : (0 : Int) ≤ (k : Int) := by omega
            have q1 : (k : Int) < (l.length : Int) := by omega
            have q2 : IntKind.i64.wrap ((k : Int) + 1) = ((k + 1 : Nat) : Int) := by rw [IntWalk.i64_in _ (by omega)]; simp
            have q3 : IntKind.i64.wrap (((szL (l.take k) : Nat) : Int) + (l[k].sz : Nat)) = ((szL (l.take (k + 1)) : Nat) : Int) := by rw [hts, IntWalk.i64_in _ (by omega)]; simp
            clear hcall hxv hrx hts htl
            generalize l[k] = x at *
            generalize szL (l.take k) = s0 at *
            go_wp2_with fail
            refine HCALL.out.mono ?_
            rintro r w2 ⟨rfl, hk2⟩
            have HK2 := Lib.hid (HKR.out.trans hk2 (by simp))
            clear hk2 HCALL c0 c1 c2 c3
            go_wp2_with fail
            go_roundw
            case rel => exact ⟨k + 1, by omega, rfl, rfl, HK2.out⟩
            case measure => simp [intOf] <;> omega
          · have q1 : ¬ (k : Int) < (l.length : Int) := by omega
            obtain rfl : k = l.length := by omega
            simp only [List.take_length] at *
            have hlist := p_list (HasT.up (HH.out.keep0 (HK.out.trans HKR.out (by simp))) (Nat.le_trans HK.out.size HKR.out.size)) (by omega)
            have HLIST := Lib.hid hlist
            clear hlist
            go_wp2_with fail
            refine HLIST.out.mono ?_
            rintro r w1 ⟨t, rfl, hIL, hRt, hk1⟩
            have HIL := Lib.hid hIL
            have HRT := Lib.hid hRt
            have HK1 := Lib.hid ((HK.out.trans HKR.out (by simp)).trans hk1 (by simp))
            have HKW1 := Lib.hid ((HC5.out.trans HKR.out (by simp)).trans hk1 (by simp))
            obtain ⟨ta, tc, htv, -, -⟩ := hRt.has.form
            have HTV := Lib.hid htv
            have HAT : Hid (aggTm t = .agg #[.int .i64 t.kind, .int .i64 t.num, .string t.name, .slice ta t.items.length tc]) := by unfold aggTm; rw [htv]; rfl
            rw [HAT.out]
            obtain ⟨te, hsp, hte⟩ := hIL.sp
            have htsz := hIL.sz
            have hRt2 := RdTm.up (hRt.keep0 ((Keep.refl [] w1).alloc (.cells #[.int .i64 t.kind, .int .i64 t.num, .string t.name, .slice ta t.items.length tc] 31))) (C := w1.heap.size + 1) (by omega)
            have hel := p_elements hRt2 (by simp) hsp (by omega)
            unfold ElemsP at hel
            rw [HAT.out, hte] at hel
            have HEL := Lib.hid hel
            obtain ⟨e0, e1, e2, e3⟩ := HSS.out _ HKW1.out
            obtain ⟨t0, t1, t2, t3⟩ := box4 (Keep.refl [] (w1.alloc (.cells #[.int .i64 t.kind, .int .i64 t.num, .string t.name, .slice ta t.items.length tc] 31)))
            clear hk1 hIL hRt htv hsp hRt2 hel HLIST HAT
            go_wp2_with fail
            refine HEL.out.mono ?_
            rintro r w2 ⟨xv, rfl, hxv, hk2⟩
            simp only [if_true] at hxv
            obtain ⟨xa, xc, rfl, -, -⟩ := hxv.form
            have HXV := Lib.hid hxv
            have hk12 := ((Keep.refl [] w1).alloc (.cells #[.int .i64 t.kind, .int .i64 t.num, .string t.name, .slice ta t.items.length tc] 31)).trans hk2 (by simp)
            have HK2 := Lib.hid (HK1.out.trans hk12 (by simp))
            have HKW2 := Lib.hid (HKW1.out.trans hk12 (by simp))
            have HTB := Lib.hid ((hk2.block w1.heap.size (by simp) (by simp)).trans (heap_alloc_new w1 _))
            have HRT2 := Lib.hid (HRT.out.keep0 hk12)
            clear e0 e1 e2 e3 t0 t1 t2 t3 hxv hk2 hk12 HEL HRT HKW1
            obtain ⟨e0, e1, e2, e3⟩ := HSS.out _ HKW2.out
            have q2 : IntKind.i64.wrap ((l.length : Int) - 1) = (l.length : Int) - 1 := IntWalk.i64_in _ (by omega)
            have hst := LoopC.start (l := l) (e := e) (Q := w2.heap.size) (wA := w2.alloc (.cells #[.int .i64 e.kind, .int .i64 e.num, .string e.name, .slice ea e.items.length ec] 31)) (ea := ea) (ec := ec) (B := w.heap.size) (by rw [heap_alloc_new]) HK2.out.size (HE.out.keep0 (HK2.out.alloc _)) HEV.out
            have HST := Lib.hid hst
            have HWA := Lib.hid ((Keep.refl [] w2).alloc (.cells #[.int .i64 e.kind, .int .i64 e.num, .string e.name, .slice ea e.items.length ec] 31))
            clear hst
            go_wp2_with fail
            generalize w2.alloc (.cells #[.int .i64 e.kind, .int .i64 e.num, .string e.name, .slice ea e.items.length ec] 31) = wA at *
            clear e0 e1 e2 e3
            go_loopw [11] (fun i wr => ∃ (m : Nat) (j : Int), m ≤ l.length ∧ .int .i64 j = i ∧ j = (m : Int) - 1 ∧ LoopC wA w2.heap.size l e m wr) (fun i _ => (intOf i + 1).toNat)
            case atStart => exact ⟨l.length, _, Nat.le_refl _, rfl, rfl, HST.out⟩
            case round =>
              obtain ⟨m, j, hm, rfl, hj, u, hub, hIC, hRP, ⟨ua, uc, huv⟩, hKQ⟩ := hrel
              have HIC := Lib.hid hIC
              have HRP := Lib.hid hRP
              have HKQ := Lib.hid hKQ
              have HUV := Lib.hid huv
              rw [huv] at hub
              have HUB := Lib.hid hub
              clear hIC hRP hKQ huv hub
              by_cases hm0 : m = 0
              · subst hm0
                obtain rfl : j = -1 := by omega
                simp only [List.drop_zero] at HIC
                as_aux_lemma =>
                have hKwr : Keep [] w wr := (HK2.out.trans HWA.out (by simp)).trans HKQ.out (fun x hx => by simp at hx; subst hx; right; exact HK2.out.size)
                have hKW0 : Keep [] W0 wr := (HKW2.out.trans HWA.out (by simp)).trans HKQ.out (fun x hx => by simp at hx; subst hx; right; exact HKW2.out.size)
                have hRu := HRP.out.tm
                obtain ⟨le, ee, hspe⟩ := Sp.ex e
                have hspu := HIC.out.sp hspe
                have husz := HIC.out.sz
                have HIU := Lib.hid (HIC.out.is HIS.out (by have := HISE.out; simpa [isTms] using this))
                have HIT := Lib.hid (HIL.out.is HIS.out)
                have htsz := HIL.out.sz
                have hcu := p_elements hRu (Nat.le_refl _) hspu (by omega)
                have hce := fun W (hk : Keep [] w W) => p_elements (HE.out.keep0 hk) hk.size hspe (by omega)
                have HAU : Hid (aggTm u = .agg #[.int .i64 u.kind, .int .i64 u.num, .string u.name, .slice ua u.items.length uc]) := by unfold aggTm; rw [HUV.out]; rfl
                have HAT : Hid (aggTm t = .agg #[.int .i64 t.kind, .int .i64 t.num, .string t.name, .slice ta t.items.length tc]) := by unfold aggTm; rw [HTV.out]; rfl
                unfold ElemsP at hcu hce
                rw [HAU.out] at hcu
                simp only [HAGG.out] at hce
                generalize decide (ee.kind = 7) = eb at *
                have HCU := Lib.hid hcu
                have HCE := Lib.hid hce
                have HKWR := Lib.hid hKwr
                have HKWZ := Lib.hid hKW0
                have HRU := Lib.hid hRu
                obtain ⟨u0, u1, u2, u3, -⟩ := cells4 HUB.out
                have HUSZ := Lib.hid husz
                have HTSZ := Lib.hid htsz
                clear hKwr hKW0 hRu hspe hspu hcu hce hj husz htsz
                go_wp2_with fail
                refine HCU.out.mono ?_
                rintro r w3 ⟨uv, rfl, -, hk3⟩
                have HK3 := Lib.hid hk3
                obtain ⟨e0, e1, e2, e3⟩ := HSS.out _ (HKWZ.out.trans hk3 (by simp))
                clear hk3 u0 u1 u2 u3 HCU
                go_wp2_with fail
                refine (HCE.out _ (HKWR.out.trans HK3.out (by simp))).mono ?_
                rintro r w4 ⟨evv, rfl, -, hk4⟩
                have HK4 := Lib.hid (HK3.out.trans hk4 (by simp))
                have HKW4 := Lib.hid (HKWR.out.trans HK4.out (by simp))
                have HKZ4 := Lib.hid (HKWZ.out.trans HK4.out (by simp))
                clear hk4 e0 e1 e2 e3 HCE HK3
                have hk24 : Keep [w2.heap.size] w2 w4 := ((HWA.out.mono (G := [w2.heap.size]) (fun _ h => nomatch h)).trans HKQ.out (fun x hx => .inl hx)).trans HK4.out (by simp)
                have hQ1 : w1.heap.size < w2.heap.size := (Array.getElem?_eq_some_iff.1 HTB.out).1
                have htb4 := box_later HTB.out hk24 (by simp; omega)
                have hub4 := box_later HUB.out HK4.out (by simp)
                have HS4 : Hid (∀ w', Keep [] w4 w' → (w'.cell? ⟨w1.heap.size, 0, none⟩ = some (.int .i64 t.kind) ∧ w'.cell? ⟨w1.heap.size, 1, none⟩ = some (.int .i64 t.num) ∧ w'.cell? ⟨w1.heap.size, 2, none⟩ = some (.string t.name) ∧ w'.cell? ⟨w1.heap.size, 3, none⟩ = some (.slice ta t.items.length tc)) ∧ (w'.cell? ⟨w2.heap.size, 0, none⟩ = some (.int .i64 u.kind) ∧ w'.cell? ⟨w2.heap.size, 1, none⟩ = some (.int .i64 u.num) ∧ w'.cell? ⟨w2.heap.size, 2, none⟩ = some (.string u.name) ∧ w'.cell? ⟨w2.heap.size, 3, none⟩ = some (.slice ua u.items.length uc)) ∧ (w'.cell? ⟨w.heap.size, 0, none⟩ = some (.int .i64 e.kind) ∧ w'.cell? ⟨w.heap.size, 1, none⟩ = some (.int .i64 e.num) ∧ w'.cell? ⟨w.heap.size, 2, none⟩ = some (.string e.name) ∧ w'.cell? ⟨w.heap.size, 3, none⟩ = some (.slice ea e.items.length ec))) := fun w' hk' => by
                  obtain ⟨a0, a1, a2, a3, -⟩ := cells4 (box_later htb4 hk' (by simp))
                  obtain ⟨b0, b1, b2, b3, -⟩ := cells4 (box_later hub4 hk' (by simp))
                  obtain ⟨d0, d1, d2, d3⟩ := HSS.out w' (HKZ4.out.trans hk' (by simp))
                  exact ⟨⟨a0, a1, a2, a3⟩, ⟨b0, b1, b2, b3⟩, d0, d1, d2, d3⟩
                have hrt4 : RdTm w1.heap.size w4 t := HRT2.out.keep hk24 (by simp; omega)
                have hru4 : RdTm wr.heap.size w4 u := HRU.out.keep0 HK4.out
                have husz := HUSZ.out
                have htsz := HTSZ.out
                obtain ⟨N, hN⟩ : ∃ N : Int, ((szL l : Nat) : Int) = N := ⟨_, rfl⟩
                obtain ⟨EZ, hEZ⟩ : ∃ N : Int, ((e.sz : Nat) : Int) = N := ⟨_, rfl⟩
                have hck0 : checkTm [t, u] = 0 := by
                  unfold checkTm
                  rw [szL_cons, szL_cons, szL_nil, htsz, husz, if_pos (by omega)]
                  simp only [isTms, HIT.out, HIU.out, Bool.and_true, if_true]
                have hself : rowsEq l l = true := by
                  unfold rowsEq
                  simp only [decide_true, Bool.true_and, List.all_eq_true]
                  rintro ⟨x, y⟩ hxy
                  have : x = y := by
                    obtain ⟨i, hi, he⟩ := List.getElem_of_mem hxy
                    simp at he
                    rw [← he.1, ← he.2]
                  subst this
                  simp [cmpTm_self]
                have htu := fun W (hk : Keep [] w4 W) => p_tuple (HasT.up (HH.out.keep0 (HKW4.out.trans hk (by simp))) (HKW4.out.trans hk (by simp)).size) (Nat.le_refl _) (by omega)
                have hszt := fun W (hk : Keep [] w4 W) => p_sizeZ (z := N + (l.length : Int) + 1) (hrt4.keep0 hk) (by have := hk24.size; have := hk.size; omega) (by rw [htsz]; omega) (by omega)
                have hrw := fun W (hk : Keep [] w4 W) => r_rows ((HXV.out.keep hk24 (by simp)).keep0 hk) (HH.out.keep0 (HKW4.out.trans hk (by simp))) (by omega) (by omega)
                have hszu := fun W (hk : Keep [] w4 W) => p_sizeZ (z := N + (l.length : Int) + EZ) (hru4.keep0 hk) (by have := HK4.out.size; have := hk.size; omega) (by rw [husz]; omega) (by omega)
                have hsze := fun W (hk : Keep [] w4 W) => p_sizeZ (z := EZ) (HE.out.keep0 (HKW4.out.trans hk (by simp))) (HKW4.out.trans hk (by simp)).size hEZ (by omega)
                have hchk := fun W (hk : Keep [] w4 W) => p_check (hasT_list1 (l := [t, u]) (B := W.heap.size) (w := W) (by simp only [RdTms, and_true]; exact ⟨(hrt4.keep0 hk).up (by have := hk24.size; have := hk.size; omega), (hru4.keep0 hk).up (by have := HK4.out.size; have := hk.size; omega)⟩) (Nat.le_refl _) (by simp)) (by simp)
                simp only [HAT.out] at hszt
                simp only [HAU.out] at hszu
                simp only [HAGG.out] at hsze
                simp only [hself] at hrw
                rw [hck0] at hchk
                have HENT : encTm t = [.int .i64 t.kind, .int .i64 t.num, .string t.name, .slice ta t.items.length tc] := by unfold encTm; rw [HTV.out]
                have HENU : encTm u = [.int .i64 u.kind, .int .i64 u.num, .string u.name, .slice ua u.items.length uc] := by unfold encTm; rw [HUV.out]
                simp only [List.flatMap_cons, List.flatMap_nil, HENT, HENU, List.cons_append, List.nil_append, List.length_cons, List.length_nil, Nat.zero_add, Nat.reduceAdd] at hchk
                have HTU := Lib.hid htu
                have HSZT := Lib.hid hszt
                have HRW := Lib.hid hrw
                have HSZU := Lib.hid hszu
                have HSZE := Lib.hid hsze
                have HCHK := Lib.hid hchk
                have hw1 : IntKind.i64.wrap (N + 1) = N + 1 := IntWalk.i64_in _ (by omega)
                have hw2 : IntKind.i64.wrap (N + (l.length : Int)) = N + (l.length : Int) := IntWalk.i64_in _ (by omega)
                have hw3 : IntKind.i64.wrap (N + (l.length : Int) + 1) = N + (l.length : Int) + 1 := IntWalk.i64_in _ (by omega)
                have hw4 : IntKind.i64.wrap (N + (l.length : Int) + EZ) = N + (l.length : Int) + EZ := IntWalk.i64_in _ (by omega)
                have HN := Lib.hid hN
                have hNb : N ≤ 999 := by omega
                rw [hN]
                clear htu hszt hrw hszu hsze hchk HENT HENU hN hEZ hck0 hself hrt4 hru4 htb4 hub4 hk24 htsz husz hm
                go_wp2_with fail
                refine wp_region_held_drew (S := fun w' => Keep [] w4 w') (by kernel_rfl) ((Keep.refl [] w4).drew) (fun hHeld => ?_)
                refine wpAnyH_takeL (i := 0) (v := ?vF0) rfl (by kernel_rfl) (by kernel_rfl) (by kernel_rfl) (fun _ _ _ h => h) (Or.inl ⟨by kernel_rfl, ?runF0⟩) hHeld ?_
                case runF0 => (intro w9 hS9; obtain ⟨⟨t0, t1, t2, t3⟩, ⟨u0, u1, u2, u3⟩, e0, e1, e2, e3⟩ := HS4.out w9 hS9; go_simp; try exact rfl)
                try simp only [Act.put, List.setIfInBounds_toArray, List.set_cons_zero, List.set_cons_succ]
                refine wpAnyH_takeL (i := 3) (v := ?vF3) rfl (by kernel_rfl) (by kernel_rfl) (by kernel_rfl) (fun _ _ _ h => h) (Or.inl ⟨by kernel_rfl, ?runF3⟩) hHeld ?_
                case runF3 => (intro w9 hS9; obtain ⟨⟨t0, t1, t2, t3⟩, ⟨u0, u1, u2, u3⟩, e0, e1, e2, e3⟩ := HS4.out w9 hS9; go_simp; try exact rfl)
                try simp only [Act.put, List.setIfInBounds_toArray, List.set_cons_zero, List.set_cons_succ]
                refine wpAnyH_takeL (i := 4) (v := .int .i64 (N + 1)) rfl (by kernel_rfl) (by kernel_rfl) (by kernel_rfl) (fun _ _ _ h => h) (Or.inl ⟨by kernel_rfl, ?runF4⟩) hHeld ?_
                case runF4 => (intro w9 hS9; obtain ⟨⟨t0, t1, t2, t3⟩, ⟨u0, u1, u2, u3⟩, e0, e1, e2, e3⟩ := HS4.out w9 hS9; go_simp; first | done | exact rfl | (simp [*]; done) | (simp; omega))
                try simp only [Act.put, List.setIfInBounds_toArray, List.set_cons_zero, List.set_cons_succ]
                refine wpAnyH_ready (rs := [1]) (by kernel_rfl) (by simp) ?_
                refine AllReadyH.consL rfl (fun K hK => ?_) AllReadyH.nil
                go_simp
                refine (HTU.out _ ((Keep.refl [] w4).drew)).mono ?_
                rintro e wc1 ⟨iv, rfl, hRtu, hc1⟩
                have HC1 := Lib.hid (((Keep.refl [] w4).drew).trans hc1 (by simp))
                clear hc1
                go_wp2_with fail
                refine hK.out _ _ HC1.out (fun hHeld2 => ?_)
                clear hK K hHeld
                have hHeld := hHeld2
                clear hHeld2
                try simp only [Act.put, List.setIfInBounds_toArray, List.set_cons_zero, List.set_cons_succ]
                have HRTU := Lib.hid hRtu
                clear hRtu
                refine wpAnyH_ready (rs := [2]) (by kernel_rfl) (by simp) ?_
                refine AllReadyH.consL rfl (fun K hK => ?_) AllReadyH.nil
                go_simp
                refine (p_sizeZ (z := N + 1) HRTU.out (Nat.le_refl _) (by rw [← HN.out]; simp [Tm.sz]) (by omega)).mono ?_
                rintro e wc2 ⟨rfl, hc2⟩
                have HC2 := Lib.hid (HC1.out.trans hc2 (by simp))
                clear hc2
                go_wp2_with fail
                refine hK.out _ _ HC2.out (fun hHeld2 => ?_)
                clear hK K hHeld
                have hHeld := hHeld2
                clear hHeld2
                try simp only [Act.put, List.setIfInBounds_toArray, List.set_cons_zero, List.set_cons_succ]
                refine wpAnyH_takeL (i := 5) (v := .bool true) rfl (by kernel_rfl) (by kernel_rfl) (by kernel_rfl) (fun _ _ _ h => h) (Or.inl ⟨by kernel_rfl, ?runF5⟩) hHeld ?_
                case runF5 => (intro w9 hS9; obtain ⟨⟨t0, t1, t2, t3⟩, ⟨u0, u1, u2, u3⟩, e0, e1, e2, e3⟩ := HS4.out w9 hS9; go_simp; first | done | exact rfl | (simp [*]; done) | (simp; omega))
                try simp only [Act.put, List.setIfInBounds_toArray, List.set_cons_zero, List.set_cons_succ]
                refine wpAnyH_takeL (i := 6) (v := .bool true) rfl (by kernel_rfl) (by kernel_rfl) (by kernel_rfl) (fun _ _ _ h => h) (Or.inl ⟨by kernel_rfl, ?runF6⟩) hHeld ?_
                case runF6 => (intro w9 hS9; obtain ⟨⟨t0, t1, t2, t3⟩, ⟨u0, u1, u2, u3⟩, e0, e1, e2, e3⟩ := HS4.out w9 hS9; go_simp; first | done | exact rfl | (simp [*]; done) | (simp; omega))
                try simp only [Act.put, List.setIfInBounds_toArray, List.set_cons_zero, List.set_cons_succ]
                refine wpAnyH_takeL (i := 7) (v := ?vF7) rfl (by kernel_rfl) (by kernel_rfl) (by kernel_rfl) (fun _ _ _ h => h) (Or.inl ⟨by kernel_rfl, ?runF7⟩) hHeld ?_
                case runF7 => (intro w9 hS9; obtain ⟨⟨t0, t1, t2, t3⟩, ⟨u0, u1, u2, u3⟩, e0, e1, e2, e3⟩ := HS4.out w9 hS9; go_simp; try exact rfl)
                try simp only [Act.put, List.setIfInBounds_toArray, List.set_cons_zero, List.set_cons_succ]
                refine wpAnyH_takeL (i := 9) (v := ?vF9) rfl (by kernel_rfl) (by kernel_rfl) (by kernel_rfl) (fun _ _ _ h => h) (Or.inl ⟨by kernel_rfl, ?runF9⟩) hHeld ?_
                case runF9 => (intro w9 hS9; obtain ⟨⟨t0, t1, t2, t3⟩, ⟨u0, u1, u2, u3⟩, e0, e1, e2, e3⟩ := HS4.out w9 hS9; go_simp; try exact rfl)
                try simp only [Act.put, List.setIfInBounds_toArray, List.set_cons_zero, List.set_cons_succ]
                refine wpAnyH_takeL (i := 10) (v := ?vF10) rfl (by kernel_rfl) (by kernel_rfl) (by kernel_rfl) (fun _ _ _ h => h) (Or.inl ⟨by kernel_rfl, ?runF10⟩) hHeld ?_
                case runF10 => (intro w9 hS9; obtain ⟨⟨t0, t1, t2, t3⟩, ⟨u0, u1, u2, u3⟩, e0, e1, e2, e3⟩ := HS4.out w9 hS9; go_simp; try exact rfl)
                try simp only [Act.put, List.setIfInBounds_toArray, List.set_cons_zero, List.set_cons_succ]
                refine wpAnyH_takeL (i := 11) (v := ?vF11) rfl (by kernel_rfl) (by kernel_rfl) (by kernel_rfl) (fun _ _ _ h => h) (Or.inl ⟨by kernel_rfl, ?runF11⟩) hHeld ?_
                case runF11 => (intro w9 hS9; obtain ⟨⟨t0, t1, t2, t3⟩, ⟨u0, u1, u2, u3⟩, e0, e1, e2, e3⟩ := HS4.out w9 hS9; go_simp; try exact rfl)
                try simp only [Act.put, List.setIfInBounds_toArray, List.set_cons_zero, List.set_cons_succ]
                refine wpAnyH_takeL (i := 12) (v := .int .i64 (N + (l.length : Int))) rfl (by kernel_rfl) (by kernel_rfl) (by kernel_rfl) (fun _ _ _ h => h) (Or.inl ⟨by kernel_rfl, ?runF12⟩) hHeld ?_
                case runF12 => (intro w9 hS9; obtain ⟨⟨t0, t1, t2, t3⟩, ⟨u0, u1, u2, u3⟩, e0, e1, e2, e3⟩ := HS4.out w9 hS9; go_simp; first | done | exact rfl | (simp [*]; done) | (simp; omega))
                try simp only [Act.put, List.setIfInBounds_toArray, List.set_cons_zero, List.set_cons_succ]
                refine wpAnyH_takeL (i := 13) (v := .int .i64 (N + (l.length : Int) + 1)) rfl (by kernel_rfl) (by kernel_rfl) (by kernel_rfl) (fun _ _ _ h => h) (Or.inl ⟨by kernel_rfl, ?runF13⟩) hHeld ?_
                case runF13 => (intro w9 hS9; obtain ⟨⟨t0, t1, t2, t3⟩, ⟨u0, u1, u2, u3⟩, e0, e1, e2, e3⟩ := HS4.out w9 hS9; go_simp; first | done | exact rfl | (simp [*]; done) | (simp; omega))
                try simp only [Act.put, List.setIfInBounds_toArray, List.set_cons_zero, List.set_cons_succ]
                refine wpAnyH_ready (rs := [8]) (by kernel_rfl) (by simp) ?_
                refine AllReadyH.consL rfl (fun K hK => ?_) AllReadyH.nil
                go_simp
                refine (HSZT.out _ HC2.out).mono ?_
                rintro e wc3 ⟨rfl, hc3⟩
                have HC3 := Lib.hid (HC2.out.trans hc3 (by simp))
                clear hc3
                go_wp2_with fail
                refine hK.out _ _ HC3.out (fun hHeld2 => ?_)
                clear hK K hHeld
                have hHeld := hHeld2
                clear hHeld2
                try simp only [Act.put, List.setIfInBounds_toArray, List.set_cons_zero, List.set_cons_succ]
                refine wpAnyH_takeL (i := 14) (v := .bool true) rfl (by kernel_rfl) (by kernel_rfl) (by kernel_rfl) (fun _ _ _ h => h) (Or.inl ⟨by kernel_rfl, ?runF14⟩) hHeld ?_
                case runF14 => (intro w9 hS9; obtain ⟨⟨t0, t1, t2, t3⟩, ⟨u0, u1, u2, u3⟩, e0, e1, e2, e3⟩ := HS4.out w9 hS9; go_simp; first | done | exact rfl | (simp [*]; done) | (simp; omega))
                try simp only [Act.put, List.setIfInBounds_toArray, List.set_cons_zero, List.set_cons_succ]
                refine wpAnyH_takeL (i := 15) (v := .bool true) rfl (by kernel_rfl) (by kernel_rfl) (by kernel_rfl) (fun _ _ _ h => h) (Or.inl ⟨by kernel_rfl, ?runF15⟩) hHeld ?_
                case runF15 => (intro w9 hS9; obtain ⟨⟨t0, t1, t2, t3⟩, ⟨u0, u1, u2, u3⟩, e0, e1, e2, e3⟩ := HS4.out w9 hS9; go_simp; first | done | exact rfl | (simp [*]; done) | (simp; omega))
                try simp only [Act.put, List.setIfInBounds_toArray, List.set_cons_zero, List.set_cons_succ]
                refine wpAnyH_takeL (i := 16) (v := .bool true) rfl (by kernel_rfl) (by kernel_rfl) (by kernel_rfl) (fun _ _ _ h => h) (Or.inl ⟨by kernel_rfl, ?runF16⟩) hHeld ?_
                case runF16 => (intro w9 hS9; obtain ⟨⟨t0, t1, t2, t3⟩, ⟨u0, u1, u2, u3⟩, e0, e1, e2, e3⟩ := HS4.out w9 hS9; go_simp; first | done | exact rfl | (simp [*]; done) | (simp; omega))
                try simp only [Act.put, List.setIfInBounds_toArray, List.set_cons_zero, List.set_cons_succ]
                refine wpAnyH_takeL (i := 17) (v := ?vF17) rfl (by kernel_rfl) (by kernel_rfl) (by kernel_rfl) (fun _ _ _ h => h) (Or.inl ⟨by kernel_rfl, ?runF17⟩) hHeld ?_
                case runF17 => (intro w9 hS9; obtain ⟨⟨t0, t1, t2, t3⟩, ⟨u0, u1, u2, u3⟩, e0, e1, e2, e3⟩ := HS4.out w9 hS9; go_simp; try exact rfl)
                try simp only [Act.put, List.setIfInBounds_toArray, List.set_cons_zero, List.set_cons_succ]
                refine wpAnyH_takeL (i := 18) (v := .bool true) rfl (by kernel_rfl) (by kernel_rfl) (by kernel_rfl) (fun _ _ _ h => h) (Or.inl ⟨by kernel_rfl, ?runF18⟩) hHeld ?_
                case runF18 => (intro w9 hS9; obtain ⟨⟨t0, t1, t2, t3⟩, ⟨u0, u1, u2, u3⟩, e0, e1, e2, e3⟩ := HS4.out w9 hS9; go_simp; first | done | exact rfl | (simp [*]; done) | (simp; omega))
                try simp only [Act.put, List.setIfInBounds_toArray, List.set_cons_zero, List.set_cons_succ]
                refine wpAnyH_takeL (i := 19) (v := .bool true) rfl (by kernel_rfl) (by kernel_rfl) (by kernel_rfl) (fun _ _ _ h => h) (Or.inl ⟨by kernel_rfl, ?runF19⟩) hHeld ?_
                case runF19 => (intro w9 hS9; obtain ⟨⟨t0, t1, t2, t3⟩, ⟨u0, u1, u2, u3⟩, e0, e1, e2, e3⟩ := HS4.out w9 hS9; go_simp; first | done | exact rfl | (simp [*]; done) | (simp; omega))
                try simp only [Act.put, List.setIfInBounds_toArray, List.set_cons_zero, List.set_cons_succ]
                refine wpAnyH_takeL (i := 20) (v := ?vF20) rfl (by kernel_rfl) (by kernel_rfl) (by kernel_rfl) (fun _ _ _ h => h) (Or.inl ⟨by kernel_rfl, ?runF20⟩) hHeld ?_
                case runF20 => (intro w9 hS9; obtain ⟨⟨t0, t1, t2, t3⟩, ⟨u0, u1, u2, u3⟩, e0, e1, e2, e3⟩ := HS4.out w9 hS9; go_simp; try exact rfl)
                try simp only [Act.put, List.setIfInBounds_toArray, List.set_cons_zero, List.set_cons_succ]
                refine wpAnyH_takeL (i := 21) (v := ?vF21) rfl (by kernel_rfl) (by kernel_rfl) (by kernel_rfl) (fun _ _ _ h => h) (Or.inl ⟨by kernel_rfl, ?runF21⟩) hHeld ?_
                case runF21 => (intro w9 hS9; obtain ⟨⟨t0, t1, t2, t3⟩, ⟨u0, u1, u2, u3⟩, e0, e1, e2, e3⟩ := HS4.out w9 hS9; go_simp; try exact rfl)
                try simp only [Act.put, List.setIfInBounds_toArray, List.set_cons_zero, List.set_cons_succ]
                refine wpAnyH_ready (rs := [22]) (by kernel_rfl) (by simp) ?_
                refine AllReadyH.consL rfl (fun K hK => ?_) AllReadyH.nil
                go_simp
                refine (HRW.out _ HC3.out).mono ?_
                rintro e wc4 ⟨rfl, hc4⟩
                have HC4 := Lib.hid (HC3.out.trans hc4 (by simp))
                clear hc4
                go_wp2_with fail
                refine hK.out _ _ HC4.out (fun hHeld2 => ?_)
                clear hK K hHeld
                have hHeld := hHeld2
                clear hHeld2
                try simp only [Act.put, List.setIfInBounds_toArray, List.set_cons_zero, List.set_cons_succ]
                refine wpAnyH_takeL (i := 23) (v := .bool true) rfl (by kernel_rfl) (by kernel_rfl) (by kernel_rfl) (fun _ _ _ h => h) (Or.inl ⟨by kernel_rfl, ?runF23⟩) hHeld ?_
                case runF23 => (intro w9 hS9; obtain ⟨⟨t0, t1, t2, t3⟩, ⟨u0, u1, u2, u3⟩, e0, e1, e2, e3⟩ := HS4.out w9 hS9; go_simp; first | done | exact rfl | (simp [*]; done) | (simp; omega))
                try simp only [Act.put, List.setIfInBounds_toArray, List.set_cons_zero, List.set_cons_succ]
                refine wpAnyH_takeL (i := 24) (v := .bool true) rfl (by kernel_rfl) (by kernel_rfl) (by kernel_rfl) (fun _ _ _ h => h) (Or.inl ⟨by kernel_rfl, ?runF24⟩) hHeld ?_
                case runF24 => (intro w9 hS9; obtain ⟨⟨t0, t1, t2, t3⟩, ⟨u0, u1, u2, u3⟩, e0, e1, e2, e3⟩ := HS4.out w9 hS9; go_simp; first | done | exact rfl | (simp [*]; done) | (simp; omega))
                try simp only [Act.put, List.setIfInBounds_toArray, List.set_cons_zero, List.set_cons_succ]
                refine wpAnyH_takeL (i := 25) (v := ?vF25) rfl (by kernel_rfl) (by kernel_rfl) (by kernel_rfl) (fun _ _ _ h => h) (Or.inl ⟨by kernel_rfl, ?runF25⟩) hHeld ?_
                case runF25 => (intro w9 hS9; obtain ⟨⟨t0, t1, t2, t3⟩, ⟨u0, u1, u2, u3⟩, e0, e1, e2, e3⟩ := HS4.out w9 hS9; go_simp; try exact rfl)
                try simp only [Act.put, List.setIfInBounds_toArray, List.set_cons_zero, List.set_cons_succ]
                refine wpAnyH_takeL (i := 26) (v := ?vF26) rfl (by kernel_rfl) (by kernel_rfl) (by kernel_rfl) (fun _ _ _ h => h) (Or.inl ⟨by kernel_rfl, ?runF26⟩) hHeld ?_
                case runF26 => (intro w9 hS9; obtain ⟨⟨t0, t1, t2, t3⟩, ⟨u0, u1, u2, u3⟩, e0, e1, e2, e3⟩ := HS4.out w9 hS9; go_simp; try exact rfl)
                try simp only [Act.put, List.setIfInBounds_toArray, List.set_cons_zero, List.set_cons_succ]
                refine wpAnyH_takeL (i := 27) (v := .bool true) rfl (by kernel_rfl) (by kernel_rfl) (by kernel_rfl) (fun _ _ _ h => h) (Or.inl ⟨by kernel_rfl, ?runF27⟩) hHeld ?_
                case runF27 => (intro w9 hS9; obtain ⟨⟨t0, t1, t2, t3⟩, ⟨u0, u1, u2, u3⟩, e0, e1, e2, e3⟩ := HS4.out w9 hS9; go_simp; first | done | exact rfl | (simp [*]; done) | (simp; omega))
                try simp only [Act.put, List.setIfInBounds_toArray, List.set_cons_zero, List.set_cons_succ]
                refine wpAnyH_takeL (i := 28) (v := .bool true) rfl (by kernel_rfl) (by kernel_rfl) (by kernel_rfl) (fun _ _ _ h => h) (Or.inl ⟨by kernel_rfl, ?runF28⟩) hHeld ?_
                case runF28 => (intro w9 hS9; obtain ⟨⟨t0, t1, t2, t3⟩, ⟨u0, u1, u2, u3⟩, e0, e1, e2, e3⟩ := HS4.out w9 hS9; go_simp; first | done | exact rfl | (simp [*]; done) | (simp; omega))
                try simp only [Act.put, List.setIfInBounds_toArray, List.set_cons_zero, List.set_cons_succ]
                refine wpAnyH_takeL (i := 29) (v := .bool true) rfl (by kernel_rfl) (by kernel_rfl) (by kernel_rfl) (fun _ _ _ h => h) (Or.inl ⟨by kernel_rfl, ?runF29⟩) hHeld ?_
                case runF29 => (intro w9 hS9; obtain ⟨⟨t0, t1, t2, t3⟩, ⟨u0, u1, u2, u3⟩, e0, e1, e2, e3⟩ := HS4.out w9 hS9; go_simp; first | done | exact rfl | (simp [*]; done) | (simp; omega))
                try simp only [Act.put, List.setIfInBounds_toArray, List.set_cons_zero, List.set_cons_succ]
                refine wpAnyH_takeL (i := 30) (v := ?vF30) rfl (by kernel_rfl) (by kernel_rfl) (by kernel_rfl) (fun _ _ _ h => h) (Or.inl ⟨by kernel_rfl, ?runF30⟩) hHeld ?_
                case runF30 => (intro w9 hS9; obtain ⟨⟨t0, t1, t2, t3⟩, ⟨u0, u1, u2, u3⟩, e0, e1, e2, e3⟩ := HS4.out w9 hS9; go_simp; try exact rfl)
                try simp only [Act.put, List.setIfInBounds_toArray, List.set_cons_zero, List.set_cons_succ]
                refine wpAnyH_takeL (i := 32) (v := ?vF32) rfl (by kernel_rfl) (by kernel_rfl) (by kernel_rfl) (fun _ _ _ h => h) (Or.inl ⟨by kernel_rfl, ?runF32⟩) hHeld ?_
                case runF32 => (intro w9 hS9; obtain ⟨⟨t0, t1, t2, t3⟩, ⟨u0, u1, u2, u3⟩, e0, e1, e2, e3⟩ := HS4.out w9 hS9; go_simp; try exact rfl)
                try simp only [Act.put, List.setIfInBounds_toArray, List.set_cons_zero, List.set_cons_succ]
                refine wpAnyH_takeL (i := 33) (v := ?vF33) rfl (by kernel_rfl) (by kernel_rfl) (by kernel_rfl) (fun _ _ _ h => h) (Or.inl ⟨by kernel_rfl, ?runF33⟩) hHeld ?_
                case runF33 => (intro w9 hS9; obtain ⟨⟨t0, t1, t2, t3⟩, ⟨u0, u1, u2, u3⟩, e0, e1, e2, e3⟩ := HS4.out w9 hS9; go_simp; try exact rfl)
                try simp only [Act.put, List.setIfInBounds_toArray, List.set_cons_zero, List.set_cons_succ]
                refine wpAnyH_takeL (i := 34) (v := ?vF34) rfl (by kernel_rfl) (by kernel_rfl) (by kernel_rfl) (fun _ _ _ h => h) (Or.inl ⟨by kernel_rfl, ?runF34⟩) hHeld ?_
                case runF34 => (intro w9 hS9; obtain ⟨⟨t0, t1, t2, t3⟩, ⟨u0, u1, u2, u3⟩, e0, e1, e2, e3⟩ := HS4.out w9 hS9; go_simp; try exact rfl)
                try simp only [Act.put, List.setIfInBounds_toArray, List.set_cons_zero, List.set_cons_succ]
                refine wpAnyH_takeL (i := 35) (v := .int .i64 (N + (l.length : Int))) rfl (by kernel_rfl) (by kernel_rfl) (by kernel_rfl) (fun _ _ _ h => h) (Or.inl ⟨by kernel_rfl, ?runF35⟩) hHeld ?_
                case runF35 => (intro w9 hS9; obtain ⟨⟨t0, t1, t2, t3⟩, ⟨u0, u1, u2, u3⟩, e0, e1, e2, e3⟩ := HS4.out w9 hS9; go_simp; first | done | exact rfl | (simp [*]; done) | (simp; omega))
                try simp only [Act.put, List.setIfInBounds_toArray, List.set_cons_zero, List.set_cons_succ]
                refine wpAnyH_takeL (i := 36) (v := ?vF36) rfl (by kernel_rfl) (by kernel_rfl) (by kernel_rfl) (fun _ _ _ h => h) (Or.inl ⟨by kernel_rfl, ?runF36⟩) hHeld ?_
                case runF36 => (intro w9 hS9; obtain ⟨⟨t0, t1, t2, t3⟩, ⟨u0, u1, u2, u3⟩, e0, e1, e2, e3⟩ := HS4.out w9 hS9; go_simp; try exact rfl)
                try simp only [Act.put, List.setIfInBounds_toArray, List.set_cons_zero, List.set_cons_succ]
                refine wpAnyH_ready (rs := [31]) (by kernel_rfl) (by simp) ?_
                refine AllReadyH.consL rfl (fun K hK => ?_) AllReadyH.nil
                go_simp
                refine (HSZU.out _ HC4.out).mono ?_
                rintro e wc5 ⟨rfl, hc5⟩
                have HC5 := Lib.hid (HC4.out.trans hc5 (by simp))
                clear hc5
                go_wp2_with fail
                refine hK.out _ _ HC5.out (fun hHeld2 => ?_)
                clear hK K hHeld
                have hHeld := hHeld2
                clear hHeld2
                try simp only [Act.put, List.setIfInBounds_toArray, List.set_cons_zero, List.set_cons_succ]
                refine wpAnyH_ready (rs := [37]) (by kernel_rfl) (by simp) ?_
                refine AllReadyH.consL rfl (fun K hK => ?_) AllReadyH.nil
                go_simp
                refine (HSZE.out _ HC5.out).mono ?_
                rintro e wc6 ⟨rfl, hc6⟩
                have HC6 := Lib.hid (HC5.out.trans hc6 (by simp))
                clear hc6
                go_wp2_with fail
                refine hK.out _ _ HC6.out (fun hHeld2 => ?_)
                clear hK K hHeld
                have hHeld := hHeld2
                clear hHeld2
                try simp only [Act.put, List.setIfInBounds_toArray, List.set_cons_zero, List.set_cons_succ]
                refine wpAnyH_takeL (i := 38) (v := .int .i64 (N + (l.length : Int) + EZ)) rfl (by kernel_rfl) (by kernel_rfl) (by kernel_rfl) (fun _ _ _ h => h) (Or.inl ⟨by kernel_rfl, ?runF38⟩) hHeld ?_
                case runF38 => (intro w9 hS9; obtain ⟨⟨t0, t1, t2, t3⟩, ⟨u0, u1, u2, u3⟩, e0, e1, e2, e3⟩ := HS4.out w9 hS9; go_simp; first | done | exact rfl | (simp [*]; done) | (simp; omega))
                try simp only [Act.put, List.setIfInBounds_toArray, List.set_cons_zero, List.set_cons_succ]
                refine wpAnyH_takeL (i := 39) (v := .bool true) rfl (by kernel_rfl) (by kernel_rfl) (by kernel_rfl) (fun _ _ _ h => h) (Or.inl ⟨by kernel_rfl, ?runF39⟩) hHeld ?_
                case runF39 => (intro w9 hS9; obtain ⟨⟨t0, t1, t2, t3⟩, ⟨u0, u1, u2, u3⟩, e0, e1, e2, e3⟩ := HS4.out w9 hS9; go_simp; first | done | exact rfl | (simp [*]; done) | (simp; omega))
                try simp only [Act.put, List.setIfInBounds_toArray, List.set_cons_zero, List.set_cons_succ]
                refine wpAnyH_takeL (i := 40) (v := .bool true) rfl (by kernel_rfl) (by kernel_rfl) (by kernel_rfl) (fun _ _ _ h => h) (Or.inl ⟨by kernel_rfl, ?runF40⟩) hHeld ?_
                case runF40 => (intro w9 hS9; obtain ⟨⟨t0, t1, t2, t3⟩, ⟨u0, u1, u2, u3⟩, e0, e1, e2, e3⟩ := HS4.out w9 hS9; go_simp; first | done | exact rfl | (simp [*]; done) | (simp; omega))
                try simp only [Act.put, List.setIfInBounds_toArray, List.set_cons_zero, List.set_cons_succ]
                refine wpAnyH_takeL (i := 41) (v := .bool true) rfl (by kernel_rfl) (by kernel_rfl) (by kernel_rfl) (fun _ _ _ h => h) (Or.inl ⟨by kernel_rfl, ?runF41⟩) hHeld ?_
                case runF41 => (intro w9 hS9; obtain ⟨⟨t0, t1, t2, t3⟩, ⟨u0, u1, u2, u3⟩, e0, e1, e2, e3⟩ := HS4.out w9 hS9; go_simp; first | done | exact rfl | (simp [*]; done) | (simp; omega))
                try simp only [Act.put, List.setIfInBounds_toArray, List.set_cons_zero, List.set_cons_succ]
                refine wpAnyH_takeL (i := 42) (v := ?vF42) rfl (by kernel_rfl) (by kernel_rfl) (by kernel_rfl) (fun _ _ _ h => h) (Or.inl ⟨by kernel_rfl, ?runF42⟩) hHeld ?_
                case runF42 => (intro w9 hS9; obtain ⟨⟨t0, t1, t2, t3⟩, ⟨u0, u1, u2, u3⟩, e0, e1, e2, e3⟩ := HS4.out w9 hS9; go_simp; try exact rfl)
                try simp only [Act.put, List.setIfInBounds_toArray, List.set_cons_zero, List.set_cons_succ]
                refine wpAnyH_takeL (i := 43) (v := ?vF43) rfl (by kernel_rfl) (by kernel_rfl) (by kernel_rfl) (fun _ _ _ h => h) (Or.inl ⟨by kernel_rfl, ?runF43⟩) hHeld ?_
                case runF43 => (intro w9 hS9; obtain ⟨⟨t0, t1, t2, t3⟩, ⟨u0, u1, u2, u3⟩, e0, e1, e2, e3⟩ := HS4.out w9 hS9; go_simp; try exact rfl)
                try simp only [Act.put, List.setIfInBounds_toArray, List.set_cons_zero, List.set_cons_succ]
                have HCX := Lib.hid (HC6.out.trans ((Keep.refl [] wc6).alloc (.cells #[.int .i64 t.kind, .int .i64 t.num, .string t.name, .slice ta t.items.length tc, .int .i64 u.kind, .int .i64 u.num, .string u.name, .slice ua u.items.length uc] 31)) (by simp))
                refine wpAnyH_ready (rs := [44]) (by kernel_rfl) (by simp) ?_
                refine AllReadyH.consL rfl (fun K hK => ?_) AllReadyH.nil
                refine step_build2 _ (by rfl) _ _ (by rfl) _ _ _ _ _ _ _ _ (by rfl) (by rfl) ?_
                refine hK.out _ _ HCX.out (fun hHeld => ?_)
                clear hK K
                try simp only [Act.put, List.setIfInBounds_toArray, List.set_cons_zero, List.set_cons_succ]
                refine wpAnyH_ready (rs := [45]) (by kernel_rfl) (by simp) ?_
                refine AllReadyH.consL rfl (fun K hK => ?_) AllReadyH.nil
                go_simp
                refine (HCHK.out _ HC6.out).mono ?_
                rintro e wc7 ⟨rfl, hc7⟩
                have HC7 := Lib.hid (HCX.out.trans hc7 (by simp))
                clear hc7
                go_wp2_with fail
                refine hK.out _ _ HC7.out (fun hHeld2 => ?_)
                clear hK K hHeld
                have hHeld := hHeld2
                clear hHeld2
                try simp only [Act.put, List.setIfInBounds_toArray, List.set_cons_zero, List.set_cons_succ]
                refine wpAnyH_ready (rs := [46]) (by kernel_rfl) (by simp) ?_
                refine AllReadyH.consL rfl (fun K hK => ?_) AllReadyH.nil
                go_simp
                refine (q_num _ _).mono ?_
                rintro e w9 ⟨rfl, rfl⟩
                go_wp2_with fail
                refine hK.out _ _ HC7.out (fun hHeld => ?_)
                clear hK K
                try simp only [Act.put, List.setIfInBounds_toArray, List.set_cons_zero, List.set_cons_succ]
                refine wpAnyH_takeL (i := 47) (v := .bool true) rfl (by kernel_rfl) (by kernel_rfl) (by kernel_rfl) (fun _ _ _ h => h) (Or.inl ⟨by kernel_rfl, ?runF47⟩) hHeld ?_
                case runF47 => (intro w9 hS9; obtain ⟨⟨t0, t1, t2, t3⟩, ⟨u0, u1, u2, u3⟩, e0, e1, e2, e3⟩ := HS4.out w9 hS9; go_simp; first | done | exact rfl | (simp [*]; done) | (simp; omega))
                try simp only [Act.put, List.setIfInBounds_toArray, List.set_cons_zero, List.set_cons_succ]
                refine wpAnyH_takeL (i := 48) (v := .bool true) rfl (by kernel_rfl) (by kernel_rfl) (by kernel_rfl) (fun _ _ _ h => h) (Or.inl ⟨by kernel_rfl, ?runF48⟩) hHeld ?_
                case runF48 => (intro w9 hS9; obtain ⟨⟨t0, t1, t2, t3⟩, ⟨u0, u1, u2, u3⟩, e0, e1, e2, e3⟩ := HS4.out w9 hS9; go_simp; first | done | exact rfl | (simp [*]; done) | (simp; omega))
                try simp only [Act.put, List.setIfInBounds_toArray, List.set_cons_zero, List.set_cons_succ]
                refine wpAnyH_takeL (i := 49) (v := .bool true) rfl (by kernel_rfl) (by kernel_rfl) (by kernel_rfl) (fun _ _ _ h => h) (Or.inl ⟨by kernel_rfl, ?runF49⟩) hHeld ?_
                case runF49 => (intro w9 hS9; obtain ⟨⟨t0, t1, t2, t3⟩, ⟨u0, u1, u2, u3⟩, e0, e1, e2, e3⟩ := HS4.out w9 hS9; go_simp; first | done | exact rfl | (simp [*]; done) | (simp; omega))
                try simp only [Act.put, List.setIfInBounds_toArray, List.set_cons_zero, List.set_cons_succ]
                refine wpAnyH_ready (rs := [50]) (by kernel_rfl) (by simp) ?_
                refine AllReadyH.consL rfl (fun K hK => ?_) AllReadyH.nil
                go_simp
                refine (HLV.out _ (HKW4.out.trans HC7.out (by simp))).mono ?_
                rintro e wc8 ⟨rfl, hc8⟩
                have HC8 := Lib.hid (HC7.out.trans hc8 (by simp))
                clear hc8
                go_wp2_with fail
                refine hK.out _ _ HC8.out (fun hHeld2 => ?_)
                clear hK K hHeld
                have hHeld := hHeld2
                clear hHeld2
                try simp only [Act.put, List.setIfInBounds_toArray, List.set_cons_zero, List.set_cons_succ]
                refine wpAnyH_takeL (i := 51) (v := .bool true) rfl (by kernel_rfl) (by kernel_rfl) (by kernel_rfl) (fun _ _ _ h => h) (Or.inl ⟨by kernel_rfl, ?runF51⟩) hHeld ?_
                case runF51 => (intro w9 hS9; obtain ⟨⟨t0, t1, t2, t3⟩, ⟨u0, u1, u2, u3⟩, e0, e1, e2, e3⟩ := HS4.out w9 hS9; go_simp; first | done | exact rfl | (simp [*]; done) | (simp; omega))
                try simp only [Act.put, List.setIfInBounds_toArray, List.set_cons_zero, List.set_cons_succ]
                refine wpAnyH_takeL (i := 52) (v := .bool true) rfl (by kernel_rfl) (by kernel_rfl) (by kernel_rfl) (fun _ _ _ h => h) (Or.inl ⟨by kernel_rfl, ?runF52⟩) hHeld ?_
                case runF52 => (intro w9 hS9; obtain ⟨⟨t0, t1, t2, t3⟩, ⟨u0, u1, u2, u3⟩, e0, e1, e2, e3⟩ := HS4.out w9 hS9; go_simp; first | done | exact rfl | (simp [*]; done) | (simp; omega))
                try simp only [Act.put, List.setIfInBounds_toArray, List.set_cons_zero, List.set_cons_succ]
                refine wpAnyH_done (by kernel_rfl) ?_ _
                go_wp2_with fail
                go_ret
                exact ⟨rfl, HKW4.out.trans HC8.out (by simp)⟩
              · obtain ⟨k, rfl⟩ : ∃ k : Nat, m = k + 1 := ⟨m - 1, by omega⟩
                obtain rfl : j = (k : Int) := by omega
                as_aux_lemma =>
                have hlt : k < l.length := by omega
                have hQ : w2.heap.size < wr.heap.size := (Array.getElem?_eq_some_iff.1 HUB.out).1
                have hKwr : Keep [] w wr := (HK2.out.trans HWA.out (by simp)).trans HKQ.out (fun x hx => by simp at hx; subst hx; right; exact HK2.out.size)
                obtain ⟨b, off, hab, c0, c1, c2, c3, hrx⟩ := HH.out.at hKwr hlt
                subst hab
                have hbB : b < w.heap.size := by
                  obtain ⟨⟨o, hrd, ho⟩, -⟩ := HH.out
                  obtain ⟨_, _, hq, ho2, -⟩ := hrd.at4 hlt
                  cases hq
                  exact ho b ho2
                have hbQ : b ∉ [w2.heap.size] := by have := HK2.out.size; simp; omega
                obtain ⟨xa2, xc2, hxv, -, -⟩ := hrx.has.form
                rw [hxv] at c3
                obtain ⟨x, hx⟩ : ∃ x, l[k] = x := ⟨_, rfl⟩
                rw [hx] at c0 c1 c2 c3 hrx hxv
                have HX := Lib.hid hx
                have hxr : RdP (· ≠ w2.heap.size) wr x := hrx.toP (fun b hb => by have := HK2.out.size; omega)
                have HXR := Lib.hid hxr
                have HS2 : Hid (∀ w', Keep [w2.heap.size] wr w' → w'.cell? ⟨b, off + k * 4, none⟩ = some (.int .i64 x.kind) ∧ w'.cell? ⟨b, off + k * 4 + 1, none⟩ = some (.int .i64 x.num) ∧ w'.cell? ⟨b, off + k * 4 + 2, none⟩ = some (.string x.name) ∧ w'.cell? ⟨b, off + k * 4 + 3, none⟩ = some (.slice xa2 x.items.length xc2)) := fun w' hk' => ⟨hk'.cellOf c0 hbQ, hk'.cellOf c1 hbQ, hk'.cellOf c2 hbQ, hk'.cellOf c3 hbQ⟩
                have hcall := fun W => p_consX x u W
                unfold aggTm at hcall
                rw [hxv, HUV.out] at hcall
                have HCALL := Lib.hid hcall
                have HKD := Lib.hid ((Keep.refl [] wr).drew)
                have HKDQ := Lib.hid ((Keep.refl [w2.heap.size] wr).drew)
                have i0' : (0 : Int) ≤ (k : Int) := by omega
                have i1' : (k : Int) < (l.length : Int) := by omega
                have hwm : IntKind.i64.wrap ((k : Int) - 1) = (k : Int) - 1 := IntWalk.i64_in _ (by omega)
                clear c0 c1 c2 c3 hrx hxv hx hxr hcall hbQ hbB hj hm
                go_wp2_with fail
                refine wp_region_held_drew (S := fun w' => Keep [w2.heap.size] wr w') (by kernel_rfl) ((Keep.refl [w2.heap.size] wr).drew) (fun hHeld => ?_)
                generalize wr.drew = wD at *
                refine wpAnyH_takeL (i := 0) (v := ?vL0) rfl (by kernel_rfl) (by kernel_rfl) (by kernel_rfl) (fun _ _ _ h => h) (Or.inl ⟨by kernel_rfl, ?runL0⟩) hHeld ?_
                case runL0 => (intro w9 hS9; obtain ⟨c0, c1, c2, c3⟩ := HS2.out w9 hS9; go_simp; try exact rfl)
                try simp only [Act.put, List.setIfInBounds_toArray, List.set_cons_zero, List.set_cons_succ]
                refine wpAnyH_takeL (i := 1) (v := ?vL1) rfl (by kernel_rfl) (by kernel_rfl) (by kernel_rfl) (fun _ _ _ h => h) (Or.inl ⟨by kernel_rfl, ?runL1⟩) hHeld ?_
                case runL1 => (intro w9 hS9; obtain ⟨c0, c1, c2, c3⟩ := HS2.out w9 hS9; go_simp; try exact rfl)
                try simp only [Act.put, List.setIfInBounds_toArray, List.set_cons_zero, List.set_cons_succ]
                refine wpAnyH_takeL (i := 2) (v := ?vL2) rfl (by kernel_rfl) (by kernel_rfl) (by kernel_rfl) (fun _ _ _ h => h) (Or.inl ⟨by kernel_rfl, ?runL2⟩) hHeld ?_
                case runL2 => (intro w9 hS9; obtain ⟨c0, c1, c2, c3⟩ := HS2.out w9 hS9; go_simp; try exact rfl)
                try simp only [Act.put, List.setIfInBounds_toArray, List.set_cons_zero, List.set_cons_succ]
                refine wpAnyH_takeL (i := 3) (v := ?vL3) rfl (by kernel_rfl) (by kernel_rfl) (by kernel_rfl) (fun _ _ _ h => h) (Or.inl ⟨by kernel_rfl, ?runL3⟩) hHeld ?_
                case runL3 => (intro w9 hS9; obtain ⟨c0, c1, c2, c3⟩ := HS2.out w9 hS9; go_simp; try exact rfl)
                try simp only [Act.put, List.setIfInBounds_toArray, List.set_cons_zero, List.set_cons_succ]
                have hub2 := box_later HUB.out HKD.out (by simp)
                obtain ⟨u0, u1, u2, u3, -⟩ := cells4 hub2
                refine wpAnyH_ready (rs := [4]) (by kernel_rfl) (by simp) ?_
                refine AllReadyH.consL rfl (fun K hK => ?_) AllReadyH.nil
                go_simp
                refine hK.out _ _ HKDQ.out (fun hHeld => ?_)
                clear hK K
                try simp only [Act.put, List.setIfInBounds_toArray, List.set_cons_zero, List.set_cons_succ]
                refine wpAnyH_ready (rs := [5]) (by kernel_rfl) (by simp) ?_
                refine AllReadyH.consL rfl (fun K hK => ?_) AllReadyH.nil
                go_simp
                refine (HCALL.out _).mono ?_
                rintro r w3 ⟨b3, rfl, hb, hbW, hk3⟩
                have hb3 := box_later hub2 hk3 (by simp)
                clear u0 u1 u2 u3
                have hgo := LoopC.next hlt HX.out hb hbW hk3 hb3 (Nat.lt_of_lt_of_le hQ HKD.out.size) (HXR.out.keep HKD.out (by simp)) (HRP.out.keep HKD.out (by simp)) HIC.out (HKQ.out.trans HKD.out (by simp))
                have HGO := Lib.hid hgo
                obtain ⟨n0, n1, n2, n3, nf⟩ := cells4 hb3
                have nf0 := nf 0
                have nf1 := nf 1
                have nf2 := nf 2
                have nf3 := nf 3
                have hS3 : Keep [w2.heap.size] wr w3 := HKDQ.out.trans hk3 (by simp)
                clear nf hb hbW hk3 hb3 hgo HCALL
                go_wp2_with fail
                refine hK.out _ _ hS3 (fun hHeld => ?_)
                clear hK K
                try simp only [Act.put, List.setIfInBounds_toArray, List.set_cons_zero, List.set_cons_succ]
                refine wpAnyH_ready (rs := [6]) (by kernel_rfl) (by simp) ?_
                refine AllReadyH.consL rfl (fun K hK => ?_) AllReadyH.nil
                go_simp
                refine hK.out _ _ (HKDQ.out.trans HGO.out.2 (fun x hx => .inl hx)) (fun hHeld => ?_)
                clear hK K
                try simp only [Act.put, List.setIfInBounds_toArray, List.set_cons_zero, List.set_cons_succ]
                refine wpAnyH_done (by kernel_rfl) ?_ _
                clear n0 n1 n2 n3 nf0 nf1 nf2 nf3
                go_wp2_with fail
                go_roundw
                case rel => exact ⟨k, _, by omega, rfl, rfl, HGO.out.1⟩
                case measure => simp [intOf] <;> omega
end Go.Proofs.YtcegdomfmamonaaDoor
