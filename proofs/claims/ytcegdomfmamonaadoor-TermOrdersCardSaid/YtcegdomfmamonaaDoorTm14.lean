/- Terms: Print, Int, Atom, Pid, Ref, Nil, Cons, Tuple (the program's). -/
import Derived.Test.YtcegdomfmamonaaDoorTm13
import Derived.Test.YtcegdomfmamonaaDoorBaseApp
import Derived.Lib.SliceRun
namespace Go.Proofs.YtcegdomfmamonaaDoor
open Go.RowKit Go.Emb

theorem isB_new (w : World) : IsB (w.alloc (.cells #[.pointer none, .slice none 0 0] 65)) w.heap.size [] [w.heap.size] :=
  ⟨.pointer none, .slice none 0 0, none, .inl rfl, heap_alloc_new w _, Row.nil _ _ _, Off0.nil, by simp, rfl⟩

set_option maxRecDepth 100000 in
theorem p_print {B : Nat} {w : World} {t : Tm} (hr : RdTm B w t) (hok : isTm t = true) (ht : TabOk B w) (hsz : t.sz ≤ 8000000) :
    Calls Tryd.prog 18 #[aggTm t] w fun e w' => e = .returned (.string ⟨(printTm t).toArray⟩) ∧ Keep [] w w' := by
  have hcall := fun ob => p_writeN t.sz t (Nat.le_refl _) B (w.heap.size + 1) [] [w.heap.size + 1] ((w.alloc ob).alloc (.cells #[.pointer none, .slice none 0 0] 65)) (by have := isB_new (w.alloc ob); simpa using this) (hr.keep0 (((Keep.refl [] w).alloc ob).alloc _)) hok (ht.keep0 (((Keep.refl [] w).alloc ob).alloc _)) (by have := ht.2.2; simp; omega) (by simp; omega)
  have hne := print_ne hok
  have HC := Lib.hid hcall
  have HNE := Lib.hid hne
  clear hcall hne
  unfold aggTm at *
  generalize t.iv = tv at *
  generalize t.kind = tk at *
  generalize t.num = tn at *
  generalize t.name = ts at *
  go_enter Tryd.func18, Tryd.ntmps18
  go_wp2_with fail
  refine (HC.out _).mono ?_
  rintro e w2 ⟨rfl, F', hb2, hf2, hk2⟩
  have hcall2 := b_text hb2 (by simpa using HNE.out)
  have HC2 := Lib.hid hcall2
  have hkk : Keep [] w w2 := (((Keep.refl [] w).alloc _).alloc _).trans hk2 (by simp)
  have HK := Lib.hid hkk
  have HF := Lib.hid hf2
  clear hcall2 hb2 hkk hk2 hf2
  go_wp2_with fail
  refine HC2.out.mono ?_
  rintro e w3 ⟨rfl, hk3⟩
  go_wp2_with fail
  go_ret
  refine ⟨rfl, HK.out.trans hk3 (fun x hx => ?_)⟩
  right
  rcases HF.out x hx with h | h
  · simp at h; omega
  · simp at h; omega

/-- a term without parts -/
def leaf (k n : Int) (s : ByteArray) : Tm := .mk k n s (.slice none 0 0) []
theorem leaf_rd {B : Nat} {w : World} {k n : Int} {s : ByteArray} (h0 : -9223372036854775808 ≤ n) (h1 : n ≤ 9223372036854775807) (hs : s.size ≤ 140737488355328) : RdTm B w (leaf k n s) := by
  rw [RdTm_iff]
  refine ⟨⟨⟨h0, h1⟩, hs, by simp [leaf, Tm.items], none, ⟨rfl, none, 0, rfl, Nat.le_refl _, by simp, .inl ⟨rfl, rfl⟩⟩, by simp⟩, by simp [leaf, Tm.items]⟩

theorem term_info : (Tryd.prog.info? 31).map (fun i => (i.zero, i.size, i.bytes)) = some (some (.agg #[.int .i64 0, .int .i64 0, .string ⟨#[]⟩, .slice none 0 0]), 4, 56) := by kernel_rfl
theorem term_size : (Tryd.prog.info? 31).map (·.size) = some 4 := by kernel_rfl
theorem term_ret {fn : Func} {p : Tmp} (h : fn.results = #[.cell p 31]) {w : World} {q : Nat} {x0 x1 x2 x3 : Value} {tmps : Array Value} (hp : tmps.getD p undef = .pointer (some ⟨q, 0, none⟩)) (hg : w.heap[q]? = some (.cells #[x0, x1, x2, x3] 31)) :
    (results fn tmps).run Tryd.prog w = .ok (.agg #[x0, x1, x2, x3]) w :=
  results_cell_row h tmps w q _ _ _ _ hp hg Tryd.underlying31 rfl term_size

theorem p_int (n : Int) (w : World) : Calls Tryd.prog 24 #[.int .i64 n] w fun e w' => e = .returned (aggTm (leaf 1 n ⟨#[]⟩)) ∧ Keep [] w w' := by
  go_enter Tryd.func24, Tryd.ntmps24
  go_wp2_with fail
  try simp only [Exit.inBlock, Exit.then]
  refine bodyPost_ret (term_ret rfl rfl (heap_alloc_new w _)) rfl ?_
  exact ⟨rfl, (Keep.refl [] w).alloc _⟩

theorem p_atom (s : ByteArray) (w : World) : Calls Tryd.prog 26 #[.string s] w fun e w' => e = .returned (aggTm (leaf 2 0 s)) ∧ Keep [] w w' := by
  go_enter Tryd.func26, Tryd.ntmps26
  go_wp2_with fail
  try simp only [Exit.inBlock, Exit.then]
  refine bodyPost_ret (term_ret rfl rfl (heap_alloc_new w _)) rfl ?_
  exact ⟨rfl, (Keep.refl [] w).alloc _⟩

theorem p_pid (n : Int) (w : World) : Calls Tryd.prog 28 #[.int .i64 n] w fun e w' => e = .returned (aggTm (leaf 5 n ⟨#[]⟩)) ∧ Keep [] w w' := by
  go_enter Tryd.func28, Tryd.ntmps28
  go_wp2_with fail
  try simp only [Exit.inBlock, Exit.then]
  refine bodyPost_ret (term_ret rfl rfl (heap_alloc_new w _)) rfl ?_
  exact ⟨rfl, (Keep.refl [] w).alloc _⟩

theorem p_ref (n : Int) (w : World) : Calls Tryd.prog 30 #[.int .i64 n] w fun e w' => e = .returned (aggTm (leaf 3 n ⟨#[]⟩)) ∧ Keep [] w w' := by
  go_enter Tryd.func30, Tryd.ntmps30
  go_wp2_with fail
  try simp only [Exit.inBlock, Exit.then]
  refine bodyPost_ret (term_ret rfl rfl (heap_alloc_new w _)) rfl ?_
  exact ⟨rfl, (Keep.refl [] w).alloc _⟩

theorem p_nil (w : World) : Calls Tryd.prog 32 #[] w fun e w' => e = .returned (aggTm (leaf 7 0 ⟨#[]⟩)) ∧ Keep [] w w' := by
  go_enter Tryd.func32, Tryd.ntmps32
  go_wp2_with fail
  try simp only [Exit.inBlock, Exit.then]
  refine bodyPost_ret (term_ret rfl rfl (heap_alloc_new w _)) rfl ?_
  exact ⟨rfl, (Keep.refl [] w).alloc _⟩

end Go.Proofs.YtcegdomfmamonaaDoor
namespace Go.Emb
open Go.RowKit
theorem HasT.tm {B : Nat} {w : World} {iv : Value} {l : List Tm} {k n : Int} {s : ByteArray} (h : HasT B w iv l) (h0 : -9223372036854775808 ≤ n) (h1 : n ≤ 9223372036854775807) (hs : s.size ≤ 140737488355328) : RdTm B w (.mk k n s iv l) := by
  rw [RdTm_iff]
  obtain ⟨⟨o, a, b⟩, c, d⟩ := h
  exact ⟨⟨⟨h0, h1⟩, hs, c, o, a, b⟩, (RdTms_iff l).1 d⟩
theorem HasT.ofRow {B : Nat} {w : World} {v : Value} {l : List Tm} {E : Nat} {o : Option Nat} (h : Row w E 4 v l.length (l.flatMap encTm) o) (hr : RdTms B w l) (hl : l.length * 48 ≤ 140737488355328) (ho : ∀ b, o = some b → b < B) : HasT B w v l := by
  obtain ⟨o', h1, h2⟩ := h.rd
  refine ⟨⟨o', h1, fun b hb => ?_⟩, hl, hr⟩
  rcases h2 with h2 | h2
  · rw [h2] at hb; cases hb
  · exact ho b (h2 ▸ hb)
theorem HasT.ofBlock {B : Nat} {w : World} {b : Nat} {E : Nat} {l : List Tm} (hb : w.heap[b]? = some (.cells (l.flatMap encTm).toArray E)) (hr : RdTms B w l) (hl : l.length * 48 ≤ 140737488355328) (hB : b < B) : HasT B w (.slice (some ⟨b, 0, none⟩) l.length l.length) l := by
  refine HasT.ofRow (E := E) (o := some b) ⟨flat4_len l, .inr ⟨b, 0, l.length, _, rfl, rfl, hb, Nat.le_refl _, by unfold maxLen; omega, by rw [List.size_toArray, flat4_len]; omega, fun i _ => by simp⟩⟩ hr hl (fun x hx => by cases hx; exact hB)
theorem RdTms.keep0 {B : Nat} {w w' : World} {l : List Tm} (h : RdTms B w l) (hk : Keep [] w w') : RdTms B w' l := h.keep hk (by simp)
theorem RdTms.up {B C : Nat} {w : World} {l : List Tm} (h : RdTms B w l) (hB : B ≤ C) : RdTms C w l := by
  rw [RdTms_iff] at h ⊢
  exact fun x hx => (h x hx).up hB
end Go.Emb
namespace Go.Proofs.YtcegdomfmamonaaDoor
open Go.RowKit Go.Emb
theorem heap_at4 (w : World) (A B C D : Obj) : ((((w.alloc A).alloc B).alloc C).alloc D).heap[w.heap.size + 1 + 1]? = some C ∧ ((((w.alloc A).alloc B).alloc C).alloc D).heap[w.heap.size + 1 + 1 + 1]? = some D := by
  refine ⟨?_, ?_⟩
  · rw [heap_alloc_old _ _ (by simp)]
    have := heap_alloc_new ((w.alloc A).alloc B) C
    simpa using this
  · have := heap_alloc_new (((w.alloc A).alloc B).alloc C) D
    simpa using this

set_option maxRecDepth 100000 in
theorem p_cons {B : Nat} {w : World} {h t : Tm} (hh : RdTm B w h) (ht : RdTm B w t) (hB : B ≤ w.heap.size) : Calls Tryd.prog 34 #[aggTm h, aggTm t] w fun e w' => ∃ iv, e = .returned (aggTm (.mk 8 0 ⟨#[]⟩ iv [h, t])) ∧ RdTm w'.heap.size w' (.mk 8 0 ⟨#[]⟩ iv [h, t]) ∧ Keep [] w w' := by
  have H1 := Lib.hid hh
  have H2 := Lib.hid ht
  clear hh ht
  unfold aggTm
  go_enter Tryd.func34, Tryd.ntmps34
  go_wp2_with fail
  try simp only [Exit.inBlock, Exit.then]
  refine bodyPost_ret (term_ret rfl rfl (heap_at4 w _ _ _ _).1) rfl ?_
  have hk : Keep [] w ((((w.alloc (Obj.cells #[Value.int IntKind.i64 h.kind, Value.int IntKind.i64 h.num, Value.string h.name, h.iv] 31)).alloc (Obj.cells #[Value.int IntKind.i64 t.kind, Value.int IntKind.i64 t.num, Value.string t.name, t.iv] 31)).alloc (Obj.cells #[Value.int IntKind.i64 8, Value.int IntKind.i64 0, Value.string { data := #[] }, Value.slice (some { block := w.heap.size + 1 + 1 + 1, off := 0 }) 2 2] 31)).alloc
      (Obj.cells #[Value.int IntKind.i64 h.kind, Value.int IntKind.i64 h.num, Value.string h.name, h.iv, Value.int IntKind.i64 t.kind, Value.int IntKind.i64 t.num, Value.string t.name, t.iv] 31)) := ((((Keep.refl [] w).alloc _).alloc _).alloc _).alloc _
  refine ⟨.slice (some ⟨w.heap.size + 1 + 1 + 1, 0, none⟩) 2 2, rfl, ?_, hk⟩
  refine HasT.tm ?_ (by omega) (by omega) (by simp [ByteArray.size])
  refine HasT.ofBlock (l := [h, t]) (heap_at4 w _ _ _ _).2 ?_ (by simp) (by simp)
  rw [RdTms_iff]
  intro x hx
  simp only [List.mem_cons, List.not_mem_nil, or_false] at hx
  rcases hx with rfl | rfl
  · exact (H1.out.keep0 hk).up (Nat.le_trans hB hk.size)
  · exact (H2.out.keep0 hk).up (Nat.le_trans hB hk.size)
theorem oneCell_enc (l : List Tm) (hv : ∀ x ∈ l, ∃ a n c, x.iv = .slice a n c) : ∀ u ∈ l.flatMap encTm, u.oneCell' = true := by
  intro u hu
  obtain ⟨x, hx, hu⟩ := List.mem_flatMap.1 hu
  obtain ⟨a, n, c, hiv⟩ := hv x hx
  simp only [encTm, List.mem_cons, List.not_mem_nil, or_false] at hu
  rcases hu with rfl | rfl | rfl | rfl
  · rfl
  · rfl
  · rfl
  · rw [hiv]; rfl
set_option maxRecDepth 100000 in
theorem p_clone {B : Nat} {w : World} {v : Value} {l : List Tm} (h : HasT B w v l) (_hB : B ≤ w.heap.size) (hl : l.length * 56 ≤ 140737488355328) : Calls Tryd.prog 61 #[v] w fun e w' => ∃ iv, e = .returned iv ∧ (∃ o, Rd w' 4 iv l.length (l.flatMap encTm) o ∧ ∀ b, o = some b → w.heap.size ≤ b ∧ b < w'.heap.size) ∧ Keep [] w w' := by
  obtain ⟨a, c, rfl, hc1, hc2⟩ := h.form
  have hone : ∀ u ∈ l.flatMap encTm, u.oneCell' = true := oneCell_enc l (fun x hx => by
    obtain ⟨a, c, e, -⟩ := ((RdTms_iff l).1 h.2.2 x hx).has.form
    exact ⟨_, _, _, e⟩)
  unfold maxLen at hc2
  obtain ⟨i0, hi, hz0, hz1, hz2⟩ := info_parts term_info
  have HH := Lib.hid h
  have HI := Lib.hid hi
  have HONE := Lib.hid hone
  cases a with
  | none =>
    have hl0 : l.length = 0 := by
      obtain ⟨⟨o, ⟨-, a', c', hv, -, -, h3⟩, -⟩, -⟩ := h
      cases hv
      rcases h3 with h3 | ⟨b, off, hb, -⟩
      · exact h3.1
      · cases hb
    clear h hi hone
    obtain rfl : l = [] := List.eq_nil_of_length_eq_zero hl0
    go_enter Tryd.func61, Tryd.ntmps61
    go_wp2_with fail
    rw [Lib.run_eql_slice_nil _ _ _ _ _ _ _ _ Tryd.underlying22]
    simp only [Result.andThen]
    rw [Oper.upon_value]
    go_wp2_with fail
    go_ret
    exact ⟨_, rfl, ⟨none, ⟨rfl, none, 0, rfl, Nat.le_refl _, by simp, .inl ⟨rfl, rfl⟩⟩, by simp⟩, Keep.refl _ _⟩
  | some p =>
    obtain ⟨⟨o, hrd, ho⟩, h3, h4⟩ := h
    have HRD := Lib.hid (hrd.keep0 ((Keep.refl [] w).alloc (.cells #[] 31)))
    clear hrd hi hone
    go_enter Tryd.func61, Tryd.ntmps61
    go_wp2_with fail
    rw [Lib.run_eql_slice_nil _ _ _ _ _ _ _ _ Tryd.underlying22]
    simp only [Result.andThen]
    rw [Oper.upon_value]
    go_wp2_with (at_builtin; refine wpList_append_rd _ rfl _ _ 22 22 rfl 31 31 i0 _ 4 56 Tryd.underlying22 Tryd.underlying22 HI.out hz0 hz1 hz2 rfl w.heap.size 0 0 0 [] rfl (Row.made0 w _ 4) _ rfl l.length (l.flatMap encTm) o HRD.out HONE.out ?c3 ?c4 ?_)
    case c3 => unfold maxLen; omega
    case c4 => omega
    intro g off cap w2 hr2 hk2 hg2
    try simp only [Nat.zero_add, List.nil_append] at hr2
    try simp only [Nat.zero_add]
    have HR2 := Lib.hid hr2
    have hkk : Keep [] w w2 := ((Keep.refl [] w).alloc _).trans hk2 (by simp)
    have HK := Lib.hid hkk
    have hge : w.heap.size ≤ g := by
      rcases hg2 with h | h
      · omega
      · have := ((Keep.refl [] w).alloc (.cells #[] 31)).size; omega
    clear hr2 hk2 hg2 hkk
    go_wp2_with fail
    go_ret
    obtain ⟨o', q1, q2⟩ := HR2.out.rd
    refine ⟨_, rfl, ⟨o', q1, fun b hb => ?_⟩, HK.out⟩
    rcases q2 with q2 | q2
    · rw [q2] at hb; cases hb
    · rw [q2] at hb; cases hb
      exact ⟨hge, HR2.out.lt _ rfl⟩

set_option maxRecDepth 100000 in
theorem p_tuple {B : Nat} {w : World} {v : Value} {l : List Tm} (h : HasT B w v l) (hB : B ≤ w.heap.size) (hl : l.length * 56 ≤ 140737488355328) : Calls Tryd.prog 36 #[v] w fun e w' => ∃ iv, e = .returned (aggTm (.mk 6 0 ⟨#[]⟩ iv l)) ∧ RdTm w'.heap.size w' (.mk 6 0 ⟨#[]⟩ iv l) ∧ Keep [] w w' := by
  have hcall := fun ob => p_clone (h.keep0 ((Keep.refl [] w).alloc ob)) (by simp; omega) hl
  have HC := Lib.hid hcall
  clear hcall
  obtain ⟨a, c, rfl, -, -⟩ := h.form
  have H0 := Lib.hid h.2
  clear h
  go_enter Tryd.func36, Tryd.ntmps36
  go_wp2_with fail
  refine (HC.out _).mono ?_
  rintro e w2 ⟨iv, rfl, ⟨o2, h2, ho2⟩, hk2⟩
  have hb2 : w2.heap[w.heap.size]? = some (.cells #[.int .i64 0, .int .i64 0, .string ⟨#[]⟩, .slice none 0 0] 31) := (hk2.block _ (by simp) (by simp)).trans (heap_alloc_new w _)
  obtain ⟨a', c', rfl, -, -⟩ := h2.form
  have HH := Lib.hid h2
  have HO := Lib.hid ho2
  have HB2 := Lib.hid hb2
  have HK2 := Lib.hid (((Keep.refl [] w).alloc _).trans hk2 (by simp))
  obtain ⟨n0, n1, n2, n3, nf⟩ := cells4 hb2
  have nf0 := nf 0
  have nf1 := nf 1
  have nf2 := nf 2
  have nf3 := nf 3
  clear h2 ho2 hb2 hk2 nf HC
  go_wp2_with fail
  try simp only [Exit.inBlock, Exit.then]
  refine bodyPost_ret (term_ret rfl rfl (set4 HB2.out _ _ _ _).1) rfl ?_
  have hset := (set4 HB2.out (.int .i64 6) (.int .i64 0) (.string ⟨#[]⟩) (.slice a' l.length c')).2
  refine ⟨_, rfl, ?_, HK2.out.trans hset (by simp)⟩
  refine HasT.tm ?_ (by omega) (by omega) (by simp [ByteArray.size])
  have hs : w2.heap.size = ((((w2.setCell { block := w.heap.size, off := 0 } (Value.int IntKind.i64 6)).setCell { block := w.heap.size, off := 1 } (Value.int IntKind.i64 0)).setCell { block := w.heap.size, off := 2 } (Value.string { data := #[] })).setCell { block := w.heap.size, off := 3 } (Value.slice a' l.length c')).heap.size := by simp [World.setCell]
  rw [← hs]
  refine ⟨⟨o2, HH.out.keep hset (fun b hb hn => ?_), fun b hb => (HO.out b hb).2⟩, H0.out.1, (((H0.out.2.keep0 HK2.out).keep hset (fun b hb => by simp at hb; omega)).up (Nat.le_trans hB HK2.out.size))⟩
  have := (HO.out b hb).1
  simp at hn this
  omega
end Go.Proofs.YtcegdomfmamonaaDoor
