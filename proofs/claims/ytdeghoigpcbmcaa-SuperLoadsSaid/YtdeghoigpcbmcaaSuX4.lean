/- (of XExt, by exs.py, for the super seat) Extents: the sorted list of what an iterator gives: slices.Values, AppendSeq, Collect, SortedFunc. -/
import Derived.Test.YtdeghoigpcbmcaaSuX3
import Derived.Test.YtdeghoigpcbmcaaBaseIn
namespace Go.Proofs.Ytdeghoigpcbmcaa
open Go.RowKit Go.Emb Go.Lib Go.Emb.Ext Go.Shelf

attribute [local go_sem] Oper.semAt_some

set_option maxRecDepth 100000 in
set_option maxRecDepth 100000 in
set_option maxHeartbeats 2000000 in
/-- the closure of slices.Values -/
theorem values1_in (l Bs n₀ : Nat) (v : Value) (xs : List E) (o : Option Nat) (hsz : xs.length ≤ 1000000000) (ho : ∀ b, o = some b → b < n₀) (n : Nat) (hn : 1 ≤ n) (J Jx : List E → World → Prop)
    (hY : ∀ pre x W, J pre W → pre.length < xs.length → YieldAt Fence.wide (n - 1) Try.prog l #[aggE x] W fun e W' =>
      (e = .returned (.bool true) ∧ J (pre ++ [x]) W' ∧ Below n₀ W W') ∨ (e = .returned (.bool false) ∧ Jx (pre ++ [x]) W'))
    (W : World) (hn0 : n₀ ≤ W.heap.size) (hJ : AbidesFrom W.heap.size J) (hBs : W.cell? ⟨Bs, 0, none⟩ = some v) (hr : RdE W v xs o) (h0 : J [] W) :
    CallsIn Fence.wide n Try.prog 43 #[.func (.yield l) #[] #[], .pointer (some ⟨Bs, 0, none⟩)] W fun e W' => (∃ v, e = .returned v) ∧
      ((∃ ys, ys = xs ∧ J ys W') ∨ (∃ pre, True ∧ Jx pre W')) := by
  obtain ⟨a, c, rfl⟩ : ∃ a c, v = .slice a xs.length c := by obtain ⟨_, a, c, h, _⟩ := hr; exact ⟨a, c, h⟩
  have HR := Lib.hid hr
  have HO := Lib.hid ho
  have HJ := Lib.hid hJ
  have HY := Lib.hid hY
  clear hr ho hJ hY
  refine callsIn_of_wp Try.func43 rfl trivial ?_ rfl
  simp only [Try.ntmps43, List.size_toArray, List.length_cons, List.length_nil, Nat.reduceAdd, Nat.reduceSub, Array.replicate_succ, Array.replicate_zero, List.push_toArray, List.append_toArray, List.nil_append, List.cons_append]
  gi_wp2
  gi_loopw [4, 7] (fun _ i wr => ∃ k : Nat, k ≤ xs.length ∧ i = .int .i64 k ∧ J (xs.take k) wr ∧ Below n₀ W wr ∧ W.heap.size ≤ wr.heap.size) (fun _ i _ => xs.length - (intOf i).toNat)
  case atStart => exact ⟨0, Nat.zero_le _, rfl, h0, Below.refl _ _, Nat.le_refl _⟩
  case round =>
    obtain ⟨k, hk, rfl, hJs, hnx, hws⟩ := hrel
    have HJS := Lib.hid hJs
    have HNX := Lib.hid hnx
    clear hJs hnx h0
    by_cases hlt : k < xs.length
    · obtain ⟨b, off, rfl, rfl, g0, g1⟩ := HR.out.at hlt
      have hb := HO.out b rfl
      have c0 : wr.cell? ⟨b, off + k * 2, none⟩ = some (.int .i64 xs[k].1) := (HNX.out.cell (p := ⟨b, off + k * 2, none⟩) hb).trans g0
      have c1 : wr.cell? ⟨b, off + k * 2 + 1, none⟩ = some (.int .i64 xs[k].2) := (HNX.out.cell (p := ⟨b, off + k * 2 + 1, none⟩) hb).trans g1
      clear g0 g1
      have hts : xs.take (k + 1) = xs.take k ++ [xs[k]] := List.take_succ_eq_append_getElem hlt
      have HTS := Lib.hid hts
      clear hts
      have hyy := fun ob => HY.out (xs.take k) xs[k] (wr.alloc ob) (HJ.out _ _ _ none HJS.out (World.grownBy_alloc wr ob none) (fun r e => by cases e)) (by simp; omega)
      generalize xs[k] = x at *
      obtain ⟨x1, x2⟩ := x
      simp only [aggE] at hyy c0 c1
      obtain ⟨fn, tmps, assign, body, hy, hR⟩ := hyy (.cells #[.int .i64 x1, .int .i64 x2] 54)
      have HRR := Lib.hid hR
      clear hR hyy
      have i0 : (0 : Int) ≤ (k : Int) := by omega
      have i1 : (k : Int) < (xs.length : Int) := by omega
      gi_wp2
      refine HRR.out.mono ?_
      rintro e W3 (⟨rfl, hJ3, hk3⟩ | ⟨rfl, hJx3⟩)
      · have HJ3 := Lib.hid hJ3
        have HK3 := Lib.hid hk3
        clear hJ3 hk3
        gi_wp2
        go_roundw
        case rel =>
          have := HK3.out.size
          exact ⟨k + 1, by omega, by simp, by rw [HTS.out]; exact HJ3.out, (HNX.out.alloc (by omega) _).trans HK3.out, by simp at this; omega⟩
        case measure => simp [intOf]; omega
      · gi_wp2
        refine bodyPost_ret (results_none rfl _ _ _) rfl ?_
        exact ⟨⟨_, rfl⟩, .inr ⟨_, trivial, hJx3⟩⟩
    · gi_wp2
      go_end0
      exact ⟨⟨_, rfl⟩, .inl ⟨_, rfl, by have := HJS.out; rwa [List.take_of_length_le (by omega)] at this⟩⟩

set_option maxRecDepth 100000 in
theorem values_stops (n : Nat) (hn : 1 ≤ n) (Bs n₀ : Nat) (v : Value) (xs : List E) (o : Option Nat) (hsz : xs.length ≤ 1000000000) (ho : ∀ b, o = some b → b < n₀) (w : World) (hBs : Bs < w.heap.size) (hn₀ : n₀ ≤ w.heap.size)
    (hc : w.cell? ⟨Bs, 0, none⟩ = some v) (hr : RdE w v xs o) :
    SeqStopsK Fence.wide n Try.prog 43 #[.pointer (some ⟨Bs, 0, none⟩)] (fun x : E => #[aggE x]) (Below n₀) (fun ys => ys = xs) (fun _ => True) xs.length w := fun l J Jx W hW hJ _ hY h0 => by
  have hc' := (hW.cell (p := ⟨Bs, 0, none⟩) hBs).trans hc
  have hk : Keep [] w W := Keep.of_below hW
  exact values1_in l Bs n₀ v xs o hsz ho n hn J Jx hY W (Nat.le_trans hn₀ hW.size) hJ hc' (hr.keep hk (by simp)) h0

set_option maxRecDepth 100000 in
theorem ext_info : (Try.prog.info? 54).map (fun i => (i.zero, i.size, i.bytes)) = some (some (.agg #[.int .i64 0, .int .i64 0]), 2, 16) := by kernel_rfl
set_option maxRecDepth 100000 in
theorem two_src {P : Program} {tx e' : TypeId} (hk : P.underlying tx = some (.slice e')) (w : World) (x y : Value) (hx : x.oneCell' = true) (hy : y.oneCell' = true) (t : TypeId) : Src P 2 tx (.slice (some ⟨w.heap.size, 0, none⟩) 1 1) 1 [x, y] (w.alloc (.cells #[x, y] t)) :=
  Src.ofSlice _ hk _ 1 1 [x, y] rfl (fun j u hu => by
    match j with
    | 0 => simp at hu; subst hu; simp [Addr.add]
    | 1 => simp at hu; subst hu; simp [Addr.add]
    | j + 2 => simp at hu) (by simp [hx, hy])

/-- a row of extents that is owned -/
def RowE (w : World) (v : Value) (l : List E) (o : Option Nat) : Prop := Row w 54 2 v l.length (l.flatMap encE) o
set_option maxRecDepth 100000 in
theorem RowE.keep {F : List Nat} {w w' : World} {v : Value} {l : List E} {o : Option Nat} (h : RowE w v l o) (hk : Keep F w w') (hn : ∀ b, o = some b → b ∉ F) : RowE w' v l o := Row.keep h hk hn

/-- between two rounds of AppendSeq -/
def SeqI (w : World) (pre : List E) (W : World) : Prop :=
  ∃ v o, Boxed W w.heap.size 23 v ∧ RowE W v pre o ∧ (∀ b, o = some b → w.heap.size < b) ∧ Below w.heap.size w W
set_option maxRecDepth 100000 in
theorem seqI_own (w : World) (B : Nat) (hB : w.heap.size ≤ B) : OwnFrom B (SeqI w) := by
  intro s W W' row hs hg hr
  obtain ⟨v, o, h1, h2, h3, h4⟩ := hs
  refine ⟨v, o, boxed_own w.heap.size _ (fun (_ : Unit) => v) () W W' row h1 hg (fun r e => (hr r e).2), Row.grown h2 hg (fun r e => (hr r e).2), h3, ?_⟩
  exact ownFrom_below (β := Unit) (Nat.le_refl _) hB () W W' row h4 hg hr
def SeqAx (w : World) (v0 : Value) (B : Nat) (x : E) (a' : Act) (W : World) : Prop :=
  ∃ Bx, w.heap.size < Bx ∧ W.heap[Bx]? = some (.cells #[.int .i64 x.1, .int .i64 x.2] 54 (0, 0)) ∧ a' = { tmps := #[.slice none 0 0, .func (.func 43) #[] #[.pointer (some ⟨B, 0, none⟩)], .pointer (some ⟨w.heap.size, 0, none⟩), undef, .slice none 0 0, .pointer (some ⟨Bx, 0, none⟩), .func (.func 43) #[] #[.pointer (some ⟨B, 0, none⟩)], aggE x, undef, undef, undef, undef, undef], defers := [] }

def CollP (w : World) (xs : List E) (e : Ending) (w' : World) : Prop := ∃ v o, e = .returned v ∧ RowE w' v xs o ∧ (∀ b, o = some b → w.heap.size ≤ b) ∧ Keep [] w w'

set_option maxRecDepth 100000 in
set_option maxRecDepth 100000 in
set_option maxHeartbeats 2000000 in
theorem appendSeq_any {w : World} {B : Nat} {v : Value} {xs : List E} {o : Option Nat} (hB : w.cell? ⟨B, 0, none⟩ = some v) (hr : RdE w v xs o) (hsz : xs.length ≤ 1000000000) (ho : ∀ b, o = some b → b < w.heap.size) :
    Calls Try.prog 58 #[.slice none 0 0, .func (.func 43) #[] #[.pointer (some ⟨B, 0, none⟩)]] w (CollP w xs) := by
  refine (callsIn_wide (n := 6)).1 ?_
  have hro : Fence.wide.round = none := rfl
  have hBl : B < w.heap.size := World.block_lt_of_cell? _ _ hB
  obtain ⟨i0, hi, hz0, hz1, hz2⟩ := info_parts ext_info
  have HI := Lib.hid hi
  have HR := Lib.hid hr
  have HO := Lib.hid ho
  have HB := Lib.hid hB
  clear hi hr ho hB
  refine callsIn_of_wp_marks Try.func58 rfl trivial ?_ hro
  simp only [Try.ntmps58, List.size_toArray, List.length_cons, List.length_nil, Nat.reduceAdd, Nat.reduceSub, Array.replicate_succ, Array.replicate_zero, List.push_toArray, List.append_toArray, List.nil_append, List.cons_append]
  gi_wp2
  have k0 : Keep [] w (w.alloc (.cells #[.slice none 0 0] 23)) := (Keep.refl _ _).alloc _
  refine wpIn_rangeFunc_ownH hro (by omega) (gf := 43) (lb := #[.pointer (some ⟨B, 0, none⟩)]) rfl trivial (enters_of Try.func43 (by kernel_rfl) rfl)
    (values_stops (6 - 1) (by omega) B w.heap.size v xs o hsz HO.out _ (by simp; omega) (by simp) (k0.cellOf HB.out) (HR.out.keep k0 (by simp))) belowK_t (belowK_b (by simp)) (Below.refl _ _) (fun _ => rfl)
    (SeqI w) (fun _ _ _ => False) (seqI_own w _ (by simp)) (fun _ _ _ _ _ hs _ _ => hs)
    ⟨_, none, Boxed.new w _ _, Row.nil _ _ _, by simp, (Below.refl _ w).alloc (Nat.le_refl _) _⟩
    (SeqAx w v B)
    (fun x a' _ X Y row hs hg hr => by
      obtain ⟨Bx, h1, h2, h3⟩ := hs
      refine ⟨Bx, h1, (hg.block Bx (Array.getElem?_eq_some_iff.1 h2).1 (fun e => ?_)).trans h2, h3⟩
      obtain ⟨_, o1, h4, h5⟩ := hr Bx e.symm
      rw [h2] at h4; cases h4; cases h5)
    ?assign ?body ?done ?stop
  case assign =>
    rintro l pre x W K ⟨v1, o1, b1, r1, f1, hB1⟩ hK
    obtain ⟨x1, x2⟩ := x
    simp only [aggE]
    gi_wp2
    have hs1 := b1.lt
    refine hK _ _ ((KeepsOthers.alloc _ _).from _) ((Below.refl _ W).alloc hB1.size _) ⟨v1, o1, b1.alloc _, r1.keep ((Keep.refl [] _).alloc _) (by simp), f1, hB1.alloc hB1.size _⟩ ⟨W.heap.size, hs1, ?_, rfl⟩
    exact heap_alloc_new W _
  case body =>
    rintro l pre x a' W hl hloop ⟨v1, o1, b1, r1, f1, hB1⟩ ⟨Bx, hBx, bX, rfl⟩ hlt
    obtain ⟨x1, x2⟩ := x
    simp only [aggE] at *
    have cB := b1.cell
    have fB := b1.frozen
    obtain ⟨cx0, cx1, -⟩ : W.cell? ⟨Bx, 0, none⟩ = some (.int .i64 x1) ∧ W.cell? ⟨Bx, 1, none⟩ = some (.int .i64 x2) ∧ True := by
      refine ⟨?_, ?_, trivial⟩ <;> simp [World.cell?, bX]
    have HB1 := Lib.hid b1
    have HR1 := Lib.hid r1
    have HF1 := Lib.hid f1
    have HBB := Lib.hid hB1
    have hwB := b1.lt
    have hlen : pre.length < 1000000000 := by omega
    clear b1 r1 f1 hB1 bX hloop
    gi_wp2_with (gi_at_builtin; refine wpListIn_append_row _ rfl _ _ 23 23 rfl 54 i0 _ 2 16 Try.underlying23 HI.out hz0 hz1 hz2 rfl v1 pre.length (pre.flatMap encE) o1 rfl (Row.keep HR1.out ((Keep.refl [] _).alloc _) (by simp)) _ rfl 1 _ (two_src Try.underlying23 _ _ _ rfl rfl _) (by omega) (by unfold maxLen; omega) (by omega) ?_; intro g off2 cap w2 hrow2 hk2 hg2; have hbox2 : Boxed w2 w.heap.size 23 v1 := ((hk2.block _ (by simp; omega) (by cases o1 with | none => simp | some b => have := HF1.out b rfl; simp; omega)).trans (HB1.out.alloc _)); have hc2 := hbox2.cell; have hf2 := hbox2.frozen)
    have hk3 : Keep o1.toList W w2 := ((Keep.refl _ _).alloc _).trans hk2 (fun x hx => .inl hx)
    have hcl : ∀ b ∈ o1.toList, ∃ o : Obj, W.heap[b]? = some o ∧ o.isCells = true := by
      intro b hb
      cases o1 with
      | none => simp at hb
      | some b1 => simp at hb; subst hb; exact Row.cells HR1.out
    have hle : ∀ b ∈ o1.toList, w.heap.size ≤ b := by
      intro b hb
      cases o1 with
      | none => simp at hb
      | some b1 => simp at hb; subst hb; have := HF1.out b rfl; omega
    have hgl : w.heap.size < g := by
      rcases hg2 with h | h
      · exact HF1.out g h
      · simp at h; omega
    have hbl : Below w.heap.size W (w2.setCell ⟨w.heap.size, 0, none⟩ (.slice (some ⟨g, off2, none⟩) (pre.length + 1) cap)) := (hk3.below hle HBB.out.size).setCell (p := ⟨w.heap.size, 0, none⟩) (Nat.le_refl _) _
    refine ⟨((hk3.others hcl).trans (KeepsOthers.setCell _ _ _)).from _, hbl, _, some g, hbox2.set _, ?_, (by rintro b ⟨⟩; exact hgl), HBB.out.trans hbl⟩
    have hr3 := hrow2.keep (Keep.set1 w2 ⟨w.heap.size, 0, none⟩ (.slice (some ⟨g, off2, none⟩) (pre.length + 1) cap)) (by rintro b ⟨⟩; simp; omega)
    unfold RowE
    simpa [encE] using hr3
  case done =>
    rintro D zs W hD rfl ⟨v1, o1, b1, r1, f1, hB1⟩ hK
    have cB := b1.cell
    have HR1 := Lib.hid r1
    have HF1 := Lib.hid f1
    have HBB := Lib.hid hB1
    clear r1 f1 hB1
    gi_wp2
    refine ⟨by simp, .inl ⟨_, _, rfl, run_takeDeferred hK, ?_⟩⟩
    refine ⟨_, results_tmp rfl _ _ _, v1, o1, rfl, Row.grown HR1.out (grownBy_putObj' W D (.deferred none)) (fun r e => by cases e; exact ⟨_, hK, rfl⟩), fun b hb => by have := HF1.out b hb; omega, ?_⟩
    exact Keep.of_below (HBB.out.trans (belowK_b (w := w) (Nat.le_refl _) W D _ _ (by simp at hD; omega) hK rfl rfl))
  case stop =>
    rintro D c pre W _ _ h _
    exact h.elim

set_option maxRecDepth 100000 in
theorem collect_any {w : World} {B : Nat} {v : Value} {xs : List E} {o : Option Nat} (hB : w.cell? ⟨B, 0, none⟩ = some v) (hr : RdE w v xs o) (hsz : xs.length ≤ 1000000000) (ho : ∀ b, o = some b → b < w.heap.size) :
    Calls Try.prog 41 #[.func (.func 43) #[] #[.pointer (some ⟨B, 0, none⟩)]] w (CollP w xs) := by
  have h := appendSeq_any hB hr hsz ho
  clear hB hr ho
  go_enter Try.func41, Try.ntmps41
  go_wp2_with fail
  refine h.mono ?_
  rintro e w' ⟨v', o', rfl, h1, h2, h3⟩
  have H1 := Lib.hid h1
  have H2 := Lib.hid h2
  have H3 := Lib.hid h3
  clear h h1 h2 h3
  go_wp2_with fail
  go_ret
  exact ⟨v', o', rfl, H1.out, H2.out, H3.out⟩

set_option maxRecDepth 100000 in
theorem values_any (v : Value) (w : World) (hv : ∃ a n c, v = .slice a n c) : Calls Try.prog 24 #[v] w fun e w' => e = .returned (.func (.func 43) #[] #[.pointer (some ⟨w.heap.size, 0, none⟩)]) ∧ w.alloc (.cells #[v] 23) = w' := by
  obtain ⟨a, n, c, rfl⟩ := hv
  go_enter Try.func24, Try.ntmps24
  go_wp2_with fail
  go_ret
  exact ⟨rfl, rfl⟩
end Go.Proofs.Ytdeghoigpcbmcaa
