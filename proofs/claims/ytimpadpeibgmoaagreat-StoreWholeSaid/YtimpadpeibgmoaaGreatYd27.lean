/- A part of the proof (St2), joined by squeeze2.py. -/
import Derived.Test.YtimpadpeibgmoaaGreatYd23
import Derived.Test.YtimpadpeibgmoaaGreatYd24
import Derived.Test.YtimpadpeibgmoaaGreatYd26
set_option maxHeartbeats 8000000
set_option maxRecDepth 100000
namespace Go.Proofs.YtimpadpeibgmoaaGreat
open Go.RowKit Go.Emb Go.Emb.Ext
attribute [local go_sem] Oper.semAt_some
structure SV where
 area : E
 ns : Sup
 nv : Value
 nm : MnV
 os : Sup
 ov : Value
 om : MnV
 bk : Bool
def stCells (q : Nat) (x : SV) : Array Value := #[.pointer (some ⟨q, 0, none⟩), .int .i64 x.area.1, .int .i64 x.area.2, .int .u64 (x.ns.gen : Nat), x.nv, .int .i64 x.ns.len, .int .i64 x.ns.ep, .string x.nm.s, .int .i64 x.nm.area.1, .int .i64 x.nm.area.2, x.nm.rv, x.nm.pv, .int .u64 (x.os.gen : Nat), x.ov, .int .i64 x.os.len, .int .i64 x.os.ep, .string x.om.s, .int .i64 x.om.area.1, .int .i64 x.om.area.2, x.om.rv, x.om.pv, .bool x.bk]
structure SRd (S : Nat → Prop) (w : World) (x : SV) : Prop where
 nx : XRd S w x.nv x.ns.ps
 nm : MRd S w x.nm
 ox : XRd S w x.ov x.os.ps
 om : MRd S w x.om
theorem SRd.keep {S : Nat → Prop} {F : List Nat} {w w' : World} {x : SV} (h : SRd S w x) (hk : Keep F w w') (hF : ∀ b ∈ F, b < w.heap.size → ¬ S b) : SRd S w' x := ⟨h.nx.keep hk hF, h.nm.keep hk hF, h.ox.keep hk hF, h.om.keep hk hF⟩
theorem SRd.mono {S T : Nat → Prop} {w : World} {x : SV} (h : SRd S w x) (hs : ∀ b, b < w.heap.size → S b → T b) : SRd T w x := ⟨h.nx.mono hs, h.nm.mono hs, h.ox.mono hs, h.om.mono hs⟩
def SV.forms (x : SV) : Prop := (∃ a c, x.nv = .slice a x.ns.ps.length c) ∧ (∃ a c, x.nm.rv = .slice a x.nm.rest.length c) ∧ (∃ a c, x.nm.pv = .slice a x.nm.places.length c) ∧ (∃ a c, x.ov = .slice a x.os.ps.length c) ∧ (∃ a c, x.om.rv = .slice a x.om.rest.length c) ∧ ∃ a c, x.om.pv = .slice a x.om.places.length c
theorem SRd.forms {S : Nat → Prop} {w : World} {x : SV} (h : SRd S w x) : x.forms := by
 obtain ⟨a, c, h1, -, -⟩ := h.nx.form
 obtain ⟨a', c', h2, -, -⟩ := h.ox.form
 exact ⟨⟨a, c, h1⟩, h.nm.forms.1, h.nm.forms.2, ⟨a', c', h2⟩, h.om.forms.1, h.om.forms.2⟩
structure STD (w : World) (s q : Nat) (m : List Int) (D : List Nat) (d : DS) (x : SV) : Prop where
 dk : DK w q m D d
 blk : w.heap[s]? = some (.cells (stCells q x) 84)
 rd : SRd (fun b => b ∉ s :: D) w x
theorem STD.keep0 {w w' : World} {s q : Nat} {m : List Int} {D : List Nat} {d : DS} {x : SV} (h : STD w s q m D d x) (hk : Keep [] w w') : STD w' s q m D d x :=
 ⟨h.dk.keep0 hk, blkk h.blk hk (by simp), h.rd.keep hk (by simp)⟩
theorem row_blk {w : World} {E k : Nat} {v : Value} {n b : Nat} {xs : List Value} (h : Row w E k v n xs (some b)) : ∃ cs, w.heap[b]? = some (.cells cs E (0, 0)) := by
 obtain ⟨-, ⟨h, -⟩ | ⟨b', off, cap, cs, e, -, hb, -⟩⟩ := h
 ·cases h
 ·cases e; exact ⟨cs, hb⟩
theorem aggS_row {S : Nat → Prop} {w : World} {v : Value} {l : List E} (h : XRd S w v l) : ∃ a c, v = .slice a l.length c := by
 obtain ⟨a, c, h, -, -⟩ := h.form
 exact ⟨a, c, h⟩
theorem st_super {w : World} {s q : Nat} {m : List Int} {D : List Nat} {d : DS} {x : SV} (h : STD w s q m D d x) (hsz : x.ns.ps.length ≤ 1000000) :
  Calls Tryz.prog 17 #[.pointer (some ⟨s, 0, none⟩)] w fun e w' => ∃ v o, e = .returned (aggS x.ns v) ∧ RowE w' v x.ns.ps o ∧ (∀ b, o = some b → w.heap.size ≤ b) ∧ Keep [] w w' := by
 obtain ⟨xo, hxr, hxo⟩ := h.rd.nx.rde
 obtain ⟨na, nc, hnv⟩ := aggS_row h.rd.nx
 have hb := h.blk
 rw [hnv] at hxr
 unfold aggS
 have hbs := lit_alloc hb (.cells #[.int .u64 0, .slice none 0 0, .int .i64 0, .int .i64 0] 56)
 have c3 := (cell_of hbs 3).trans (show _ = some (.int .u64 (x.ns.gen : Nat)) from rfl)
 have c4 := (cell_of hbs 4).trans (show _ = some (.slice na x.ns.ps.length nc) from by show some x.nv = _; rw [hnv])
 have c5 := (cell_of hbs 5).trans (show _ = some (.int .i64 x.ns.len) from rfl)
 have c6 := (cell_of hbs 6).trans (show _ = some (.int .i64 x.ns.ep) from rfl)
 have hk1 : Keep [] w ((w.alloc (.cells #[.int .u64 0, .slice none 0 0, .int .i64 0, .int .i64 0] 56)).alloc (.cells #[.int .u64 (x.ns.gen : Nat), .slice na x.ns.ps.length nc, .int .i64 x.ns.len, .int .i64 x.ns.ep] 56)) := ((Keep.refl [] w).alloc _).alloc _
 have hb2 := lit_alloc (heap_new w (.cells #[.int .u64 0, .slice none 0 0, .int .i64 0, .int .i64 0] 56)) (.cells #[.int .u64 (x.ns.gen : Nat), .slice na x.ns.ps.length nc, .int .i64 x.ns.len, .int .i64 x.ns.ep] 56)
 have hb3 := heap_new (w.alloc (.cells #[.int .u64 0, .slice none 0 0, .int .i64 0, .int .i64 0] 56)) (.cells #[.int .u64 (x.ns.gen : Nat), .slice na x.ns.ps.length nc, .int .i64 x.ns.len, .int .i64 x.ns.ep] 56)
 rw [size_alloc] at hb3
 have HB2 := hyd hb2
 have HB3 := hyd hb3
 have HK1 := hyd hk1
 have HC := hyd (p_cloneX (hxr.keep hk1 (by simp)) hsz)
 clear hxr hxo hb hk1 hb2 hb3 h hbs
 go_enter Tryz.func17, Tryz.ntmps17
 go_wp2_with fail
 refine HC.o.mono ?_
 rintro e w2 ⟨v2, o2, rfl, hr2, ho2, hk2⟩
 obtain ⟨va, vc, rfl⟩ := hr2.form
 have hb2 := blkk HB2.o hk2 (by simp)
 have hb3 := blkk HB3.o hk2 (by simp)
 have HR2 := hyd hr2
 have HO2 := hyd ho2
 have HK2 := hyd (HK1.o.trans hk2 (by simp))
 have HK2' := hyd hk2
 obtain ⟨d0, d1, d2, d3⟩ := cells4s hb2
 obtain ⟨e0, e1, e2, e3⟩ := cells4s hb3
 have f2 := frozen4 hb2
 have f3 := frozen4 hb3
 have HSZ := hyd HK1.o.size
 clear hr2 ho2 hk2 HC hb2 hb3
 go_wp2_with fail
 have hkA : Keep [w.heap.size + 1] w2 (w2.setCell ⟨w.heap.size + 1, 1, none⟩ (.slice va x.ns.ps.length vc)) := Keep.set1 w2 ⟨w.heap.size + 1, 1, none⟩ _
 obtain ⟨s1, s2⟩ := set4 (blkk (blkk HB2.o (HK2'.o) (by simp)) hkA (by simp)) (.int .u64 (x.ns.gen : Nat)) (.slice va x.ns.ps.length vc) (.int .i64 x.ns.len) (.int .i64 x.ns.ep)
 refine bodyPost_ret (results_cell_row (ty := 56) rfl _ _ w.heap.size _ _ _ _ rfl s1 Tryz.underlying56 rfl super_size) rfl ?_
 have hs := HSZ.o
 exact ⟨_, o2, rfl, (HR2.o.keep hkA (fun b hb => by have := HO2.o b hb; simp at this ⊢; omega)).keep s2 (fun b hb => by have := HO2.o b hb; simp at this ⊢; omega), fun b hb => by have := HO2.o b hb; simp at this; omega, (HK2.o.trans hkA (fun b hb => by simp at hb; subst hb; right; omega)).trans s2 (fun b hb => by simp at hb; subst hb; right; omega)⟩
def BR (w : World) (b : Nat) (xs : List Bool) : Prop := w.heap[b]? = some (.cells (xs.map Value.bool).toArray 4 (0, 0))
theorem BR.keep {w w' : World} {b : Nat} {xs : List Bool} {F : List Nat} (h : BR w b xs) (k : Keep F w w') (hn : b ∉ F) : BR w' b xs := blkk h k hn
theorem BR.lt {w : World} {b : Nat} {xs : List Bool} (h : BR w b xs) : b < w.heap.size := (Array.getElem?_eq_some_iff.1 h).1
theorem BR.set {w : World} {b : Nat} {xs : List Bool} (h : BR w b xs) (p : Nat) : BR (w.setCell ⟨b, p, none⟩ (.bool true)) b (xs.set p true) := by
 have h1 : w.heap[b]? = some (.cells (xs.map Value.bool).toArray 4 (0, 0)) := h
 have h2 := heap_setCell_at (i := p) h1 (.bool true)
 unfold BR
 rw [h2]
 congr 2
 apply Array.toList_inj.1
 simp [List.map_set]
theorem BR.at {w : World} {b : Nat} {xs : List Bool} (h : BR w b xs) {p : Nat} (hp : p < xs.length) : w.cell? ⟨b, p, none⟩ = some (.bool xs[p]) := by
 have h1 : w.heap[b]? = some (.cells (xs.map Value.bool).toArray 4 (0, 0)) := h
 simp [World.cell?, h1, hp]
theorem BR.frozen {w : World} {b : Nat} {xs : List Bool} (h : BR w b xs) (p : Nat) : w.frozen? ⟨b, p, none⟩ = false := by
 have h1 : w.heap[b]? = some (.cells (xs.map Value.bool).toArray 4 (0, 0)) := h
 simp [World.frozen?, h1]
theorem made_bools (n : Nat) : madeCells (Value.bool false).cells n = ((List.replicate n false).map Value.bool).toArray := by
 apply Array.ext_getElem?
 intro i
 have e1 : (Value.bool false).cells = #[Value.bool false] := rfl
 simp only [madeCells, e1, List.map_replicate]
 by_cases h : i < n
 ·simp [h, Nat.mod_one]
 ·simp [h]
theorem make_bools (w : World) (n : Nat) (hn : n ≤ 1000000) : ∃ w', (Instr.makeSlice 98 (.int .i64 n) (.int .i64 n)).run Tryz.prog w = .ok (.slice (some ⟨w.heap.size, 0, none⟩) n n) w' ∧ BR w' w.heap.size (List.replicate n false) ∧ Keep [] w w' := by
 obtain ⟨i0, hi, hz0, hz1, hz2⟩ := info_parts bool_info
 have hr := run_makeSlice (P := Tryz.prog) w 98 4 i0 (.bool false) Tryz.underlying98 hi hz0 .i64 .i64 n n (by omega) (by omega) (by rw [hz1]; omega) (by rw [hz2]; omega) (by omega)
 rw [Int.toNat_natCast, hz1, Nat.mul_one, made_bools] at hr
 exact ⟨_, hr, heap_new w _, (Keep.refl _ _).alloc _⟩
def Mk (n : Nat) (xs : List Bool) (P : Nat → Prop) : Prop := xs.length = n ∧ ∀ t, t < n → (xs[t]? = some true ↔ P t)
theorem Mk.set {n : Nat} {xs : List Bool} {P : Nat → Prop} (h : Mk n xs P) (t : Nat) : Mk n (xs.set t true) (fun u => P u ∨ u = t) := by
 refine ⟨by rw [List.length_set]; exact h.1, fun u hu => ?_⟩
 rw [List.getElem?_set]
 by_cases e : t = u
 ·subst e
  rw [if_pos rfl, if_pos (by rw [h.1]; exact hu)]
  simp
 ·rw [if_neg e, h.2 u hu]
  constructor
  ·exact .inl
  ·rintro (h1 | h1)
   ·exact h1
   ·exact absurd h1.symm e
theorem Mk.congr {n : Nat} {xs : List Bool} {P Q : Nat → Prop} (h : Mk n xs P) (hc : ∀ t, t < n → (P t ↔ Q t)) : Mk n xs Q := ⟨h.1, fun t ht => (h.2 t ht).trans (hc t ht)⟩
def unm (xs : List Bool) (k : Nat) : List E := ((List.range k).filter fun t : Nat => !(xs.getD t true)).map fun t : Nat => (((t : Nat) : Int), (1 : Int))
theorem unm_succ (xs : List Bool) (k : Nat) : unm xs (k + 1) = unm xs k ++ if xs.getD k true then [] else [((k : Int), (1 : Int))] := by
 unfold unm
 rw [List.range_succ, List.filter_append, List.map_append]
 congr 1
 rw [List.filter_cons, List.filter_nil]
 generalize xs.getD k true = b
 cases b <;> rfl
theorem unm_len (xs : List Bool) (k : Nat) : (unm xs k).length ≤ k := by
 unfold unm
 rw [List.length_map]
 exact Nat.le_trans (List.length_filter_le ..) (by simp)
theorem unm_mem {xs : List Bool} {n : Nat} {P : Nat → Prop} (h : Mk n xs P) {x : E} : x ∈ unm xs n ↔ ∃ t : Nat, t < n ∧ ¬ P t ∧ x = ((t : Int), (1 : Int)) := by
 unfold unm
 rw [List.mem_map]
 constructor
 ·rintro ⟨t, ht, rfl⟩
  rw [List.mem_filter, List.mem_range] at ht
  refine ⟨t, ht.1, fun hp => ?_, rfl⟩
  have h2 := (h.2 t ht.1).2 hp
  rw [List.getD_eq_getElem?_getD, h2] at ht
  simp at ht
 ·rintro ⟨t, ht, hp, rfl⟩
  refine ⟨t, ?_, rfl⟩
  rw [List.mem_filter, List.mem_range]
  refine ⟨ht, ?_⟩
  have h2 := mt (h.2 t ht).1 hp
  rw [List.getD_eq_getElem?_getD, List.getElem?_eq_getElem (by rw [h.1]; exact ht)] at *
  cases hb : xs[t]'(by rw [h.1]; exact ht) with
  | false => rfl
  | true => rw [hb] at h2; exact absurd rfl h2
theorem unm_cov {xs : List Bool} {n : Nat} {P : Nat → Prop} (h : Mk n xs P) (i : Int) : cov (unm xs n) i ↔ 0 ≤ i ∧ i < n ∧ ¬ P i.toNat := by
 unfold cov
 constructor
 ·rintro ⟨x, hx, hc⟩
  obtain ⟨t, ht, hp, rfl⟩ := (unm_mem h).1 hx
  unfold covers at hc
  simp only at hc
  obtain rfl : i = (t : Int) := by omega
  exact ⟨by omega, by omega, by simpa using hp⟩
 ·rintro ⟨h0, h1, h2⟩
  exact ⟨((i.toNat : Nat), 1), (unm_mem h).2 ⟨i.toNat, by omega, h2, rfl⟩, by unfold covers; simp only; omega⟩
theorem unm_disj (xs : List Bool) (n : Nat) : Disj (unm xs n) := by
 unfold unm Disj
 rw [List.pairwise_map]
 refine List.Pairwise.filter _ (List.Pairwise.imp ?_ (List.pairwise_lt_range (n := n)))
 intro a b hab i h1 h2
 unfold covers at h1 h2
 simp only at h1 h2
 omega
def IsFree (n : Nat) (l out : List E) : Prop := Plain out ∧ (∀ x ∈ out, right x = true) ∧ ∀ i, cov out i ↔ 0 ≤ i ∧ i < n ∧ ¬ cov l i
theorem IsFree.uniq {n : Nat} {l a b : List E} (h : IsFree n l a) (h' : IsFree n l b) : a = b := Plain.eq h.1 h'.1 (fun i => (h.2.2 i).trans (h'.2.2 i).symm)
theorem free_of {xs : List Bool} {n : Nat} {l out : List E} {err : Int} (hn : n ≤ 16384) (h : Mk n xs (fun t => cov l (t : Int))) (hj : JoinRes (unm xs n) out err) : IsFree n l out := by
 have hr : ∀ x ∈ unm xs n, right x = true := fun x hx => by
  obtain ⟨t, ht, -, rfl⟩ := (unm_mem h).1 hx
  rw [right_iff]
  simp only
  omega
 rcases hj with ⟨-, -, x, hx, h2⟩ | ⟨-, -, -, h2⟩ | ⟨-, -, h2, h3⟩
 ·rw [hr x hx] at h2; cases h2
 ·exact absurd (unm_disj xs n) h2
 ·refine ⟨h2.plain, h3, fun i => (h2.same i).trans ((unm_cov h i).trans ?_)⟩
  constructor
  ·rintro ⟨a, b, c⟩; exact ⟨a, b, by rwa [Int.toNat_of_nonneg a] at c⟩
  ·rintro ⟨a, b, c⟩; exact ⟨a, b, by rwa [Int.toNat_of_nonneg a]⟩
def usedL (x : SV) : List E := (0, 2) :: x.area :: (ptX x.ns.ps x.nm.places ++ ptX x.os.ps x.om.places)
def FreeC (w1 : World) (x : SV) (v23 v28 v33 : Value) (W : World) : Prop :=
 ∃ b, v23 = .slice (some ⟨b, 0, none⟩) 2 2 ∧ W.heap[b]? = some (.cells #[.int .i64 0, .int .i64 2, .int .i64 x.area.1, .int .i64 x.area.2] 34) ∧ (∃ o, RowE W v28 (ptX x.ns.ps x.nm.places) o) ∧ (∃ o, RowE W v33 (ptX x.os.ps x.om.places) o) ∧ Keep [] w1 W
theorem run_build2X (w : World) (x0 x1 y0 y1 : Value) : (Instr.buildSlice 46 2 #[(0, .agg #[x0, x1]), (1, .agg #[y0, y1])]).run Tryz.prog w = .ok (.slice (some ⟨w.heap.size, 0, none⟩) 2 2) (w.alloc (.cells #[x0, x1, y0, y1] 34)) := by
 go_simp
theorem step_build2X (w : World) {ops : Array Oper} {o : Oper} {a : Act} {K : Act → World → Prop} {Q : Exit → Act → World → Prop} {X : Prop} (hw : Region.wanted o (yielded ops a.tmps) = true) (x y : Operand) (ho : o.op = .buildSlice 46 2 #[(0, x), (1, y)])
  (x0 x1 y0 y1 : Value) (hx : a.eval x = .agg #[x0, x1]) (hy : a.eval y = .agg #[y0, y1])
  (h : K (a.put o.dst (.slice (some ⟨w.heap.size, 0, none⟩) 2 2)) (w.alloc (.cells #[x0, x1, y0, y1] 34))) :
  if Region.wanted o (yielded ops a.tmps) = true then Oper.wp Tryz.prog o a w K Q else X := by
 rw [if_pos hw]
 unfold Oper.wp execOp
 simp only [ho, Sem.run_bind, Sem.run_pure, List.map_toArray, List.map_cons, List.map_nil, hx, hy, run_build2X, Result.andThen_ok]
 exact h
theorem st_cells {w : World} {s q : Nat} {x : SV} (h : w.heap[s]? = some (.cells (stCells q x) 84 (0, 0))) (hf : x.forms) :
  ∃ na nc ra rc pa pc oa oc sa sc ta tc, x.nv = .slice na x.ns.ps.length nc ∧ x.nm.rv = .slice ra x.nm.rest.length rc ∧ x.nm.pv = .slice pa x.nm.places.length pc ∧ x.ov = .slice oa x.os.ps.length oc ∧ x.om.rv = .slice sa x.om.rest.length sc ∧ x.om.pv = .slice ta x.om.places.length tc ∧
  w.heap[s]? = some (.cells #[.pointer (some ⟨q, 0, none⟩), .int .i64 x.area.1, .int .i64 x.area.2, .int .u64 (x.ns.gen : Nat), .slice na x.ns.ps.length nc, .int .i64 x.ns.len, .int .i64 x.ns.ep, .string x.nm.s, .int .i64 x.nm.area.1, .int .i64 x.nm.area.2, .slice ra x.nm.rest.length rc, .slice pa x.nm.places.length pc, .int .u64 (x.os.gen : Nat), .slice oa x.os.ps.length oc, .int .i64 x.os.len, .int .i64 x.os.ep, .string x.om.s, .int .i64 x.om.area.1, .int .i64 x.om.area.2, .slice sa x.om.rest.length sc, .slice ta x.om.places.length tc, .bool x.bk] 84 (0, 0)) := by
 obtain ⟨⟨na, nc, h1⟩, ⟨ra, rc, h2⟩, ⟨pa, pc, h3⟩, ⟨oa, oc, h4⟩, ⟨sa, sc, h5⟩, ta, tc, h6⟩ := hf
 refine ⟨na, nc, ra, rc, pa, pc, oa, oc, sa, sc, ta, tc, h1, h2, h3, h4, h5, h6, ?_⟩
 unfold stCells at h
 rw [h1, h2, h3, h4, h5, h6] at h
 exact h
theorem cells22 {w : World} {s : Nat} {v0 v1 v2 v3 v4 v5 v6 v7 v8 v9 v10 v11 v12 v13 v14 v15 v16 v17 v18 v19 v20 v21 : Value} {t : TypeId} (h : w.heap[s]? = some (.cells #[v0, v1, v2, v3, v4, v5, v6, v7, v8, v9, v10, v11, v12, v13, v14, v15, v16, v17, v18, v19, v20, v21] t (0, 0))) :
  w.cell? ⟨s, 0, none⟩ = some v0 ∧ w.cell? ⟨s, 1, none⟩ = some v1 ∧ w.cell? ⟨s, 2, none⟩ = some v2 ∧ w.cell? ⟨s, 3, none⟩ = some v3 ∧ w.cell? ⟨s, 4, none⟩ = some v4 ∧ w.cell? ⟨s, 5, none⟩ = some v5 ∧ w.cell? ⟨s, 6, none⟩ = some v6 ∧ w.cell? ⟨s, 7, none⟩ = some v7 ∧ w.cell? ⟨s, 8, none⟩ = some v8 ∧ w.cell? ⟨s, 9, none⟩ = some v9 ∧ w.cell? ⟨s, 10, none⟩ = some v10 ∧ w.cell? ⟨s, 11, none⟩ = some v11 ∧ w.cell? ⟨s, 12, none⟩ = some v12 ∧ w.cell? ⟨s, 13, none⟩ = some v13 ∧ w.cell? ⟨s, 14, none⟩ = some v14 ∧ w.cell? ⟨s, 15, none⟩ = some v15 ∧ w.cell? ⟨s, 16, none⟩ = some v16 ∧ w.cell? ⟨s, 17, none⟩ = some v17 ∧ w.cell? ⟨s, 18, none⟩ = some v18 ∧ w.cell? ⟨s, 19, none⟩ = some v19 ∧ w.cell? ⟨s, 20, none⟩ = some v20 ∧ w.cell? ⟨s, 21, none⟩ = some v21 :=
 ⟨cell_of h 0, cell_of h 1, cell_of h 2, cell_of h 3, cell_of h 4, cell_of h 5, cell_of h 6, cell_of h 7, cell_of h 8, cell_of h 9, cell_of h 10, cell_of h 11, cell_of h 12, cell_of h 13, cell_of h 14, cell_of h 15, cell_of h 16, cell_of h 17, cell_of h 18, cell_of h 19, cell_of h 20, cell_of h 21⟩
theorem cat3 {x : SV} {W : World} {lb b5 : Nat} {va ya : Option Addr} {vc yc : Nat} {o1 o2 : Option Nat} {t : TypeId} (h : W.heap[lb]? = some (.cells #[.slice (some ⟨b5, 0, none⟩) 2 2, .slice va (ptX x.ns.ps x.nm.places).length vc, .slice ya (ptX x.os.ps x.om.places).length yc] t (0, 0)))
  (h5 : W.heap[b5]? = some (.cells #[.int .i64 0, .int .i64 2, .int .i64 x.area.1, .int .i64 x.area.2] 34 (0, 0))) (h1 : RowE W (.slice va (ptX x.ns.ps x.nm.places).length vc) (ptX x.ns.ps x.nm.places) o1) (h2 : RowE W (.slice ya (ptX x.os.ps x.om.places).length yc) (ptX x.os.ps x.om.places) o2) (hsz : (usedL x).length ≤ 1000000) :
  Calls Tryz.prog 44 #[.slice (some ⟨lb, 0, none⟩) 3 3] W fun e w' => ∃ v' o', e = .returned v' ∧ RowE w' v' (usedL x) o' ∧ (∀ b, o' = some b → W.heap.size ≤ b) ∧ Keep [] W w' := by
 have e : catX [(.slice (some ⟨b5, 0, none⟩) 2 2, [(0, 2), x.area]), (.slice va (ptX x.ns.ps x.nm.places).length vc, ptX x.ns.ps x.nm.places), (.slice ya (ptX x.os.ps x.om.places).length yc, ptX x.os.ps x.om.places)] = usedL x := by simp [catX, usedL]
 have h0 : RdE W (.slice (some ⟨b5, 0, none⟩) 2 2) [(0, 2), x.area] (some b5) := rd_block (n := 2) (k := 2) h5 (by simp [encE]) (by simp [maxLen])
 obtain ⟨o1', h1', -⟩ := h1.rde
 obtain ⟨o2', h2', -⟩ := h2.rde
 have := p_concatX (w := W) (lb := lb) (lo := 0) (lc := 3) (ls := [(.slice (some ⟨b5, 0, none⟩) 2 2, [(0, 2), x.area]), (.slice va (ptX x.ns.ps x.nm.places).length vc, ptX x.ns.ps x.nm.places), (.slice ya (ptX x.os.ps x.om.places).length yc, ptX x.os.ps x.om.places)]) (by simp) (fun k hk => by
   match k, hk with
   | 0, _ => exact ⟨(cell_of h 0).trans rfl, _, h0⟩
   | 1, _ => exact ⟨(cell_of h 1).trans rfl, _, h1'⟩
   | 2, _ => exact ⟨(cell_of h 2).trans rfl, _, h2'⟩
   | n + 3, hk => simp at hk; omega) (by rw [e]; exact hsz)
 rw [e] at this
 exact this
theorem st_free {w : World} {s q : Nat} {m : List Int} {D : List Nat} {d : DS} {x : SV} (h : STD w s q m D d x) (hin : ∀ e ∈ usedL x, 0 ≤ e.1 ∧ 0 ≤ e.2 ∧ e.1 + e.2 ≤ d.n) (hsz : (usedL x).length ≤ 1000000) :
  Calls Tryz.prog 21 #[.pointer (some ⟨s, 0, none⟩)] w fun e w' => ∃ v out o, e = .returned v ∧ RowE w' v out o ∧ (∀ b, o = some b → w.heap.size ≤ b) ∧ IsFree d.n (usedL x) out ∧ Keep [] w w' := by
 obtain ⟨i0, hi, hz0, hz1, hz2⟩ := info_parts exti_info
 have HI := hyd hi
 have hn := h.dk.isok.2.1
 have hn1 := h.dk.isok.1
 have hlen : (ptX x.ns.ps x.nm.places).length ≤ 1000000 ∧ (ptX x.os.ps x.om.places).length ≤ 1000000 := by
  unfold usedL at hsz
  simp only [List.length_cons, List.length_append] at hsz
  omega
 obtain ⟨na, nc, ra, rc, pa, pc, oa, oc, sa, sc, ta, tc, e1, e2, e3, e4, e5, e6, hb⟩ := st_cells h.blk h.rd.forms
 have hNP := fun (W : World) (hk : Keep [] w W) => st_pieces (w := W) (s := x.ns) (h.rd.nx.keep hk (by simp)) (h.rd.nm.keep hk (by simp)) hlen.1
 have hOP := fun (W : World) (hk : Keep [] w W) => st_pieces (w := W) (s := x.os) (h.rd.ox.keep hk (by simp)) (h.rd.om.keep hk (by simp)) hlen.2
 unfold aggPt at hNP hOP
 rw [e1, e2, e3] at hNP
 rw [e4, e5, e6] at hOP
 have hDB := fun (W : World) (hk : Keep [] w W) => dk_blocks (h.dk.keep0 hk)
 have HDB := hyd hDB
 have HB := hyd hb
 have HIN := hyd hin
 have HSZ := hyd hsz
 have c0 := cell_of hb 0
 simp only [List.getElem?_toArray, List.getElem?_cons_zero] at c0
 clear hi hDB hb hin hsz e1 e2 e3 e4 e5 e6 h
 go_enter Tryz.func21, Tryz.ntmps21
 go_wp2_with fail
 refine (HDB.o _ (Keep.refl _ _)).mono ?_
 rintro e w1 ⟨rfl, hk1⟩
 obtain ⟨wm, hmk, hbr, hkm⟩ := make_bools w1 d.n (by omega)
 have HBR := hyd hbr
 have HK1 := hyd (hk1.trans hkm (by simp))
 have hM : w.heap.size ≤ w1.heap.size := hk1.size
 clear hbr hkm hk1 c0 HDB
 go_upto_region 4 with fail
 clear hmk
 obtain ⟨M, hMe⟩ : ∃ M, M = w1.heap.size := ⟨_, rfl⟩
 obtain ⟨N, hNe⟩ : ∃ N, N = d.n := ⟨_, rfl⟩
 rw [← hMe] at HBR hM
 rw [← hMe, ← hNe]
 rw [← hNe] at HBR hn hn1 HIN
 have HNE := hyd hNe
 clear hMe hNe w1
 obtain ⟨w2, hw2⟩ : ∃ W, W = wm := ⟨_, rfl⟩
 rw [← hw2] at HBR HK1
 rw [← hw2]
 clear hw2 wm
 have HCS := hyd (fun (W : World) (hk : Keep [] w2 W) => cells22 (blkk (blkk HB.o HK1.o (by simp)) hk (by simp)))
 have HNP := hyd (fun (W : World) (hk : Keep [] w2 W) => hNP W (HK1.o.trans hk (by simp)))
 have HOP := hyd (fun (W : World) (hk : Keep [] w2 W) => hOP W (HK1.o.trans hk (by simp)))
 clear hNP hOP
 refine wp_region_held_drew (S := fun w' => Keep [] w2 w') (by kernel_rfl) ((Keep.refl [] w2).drew) (fun hHeld => ?_)
 have HC0 := hyd hHeld
 refine tkL 0 ?vR0 rfl ?runR0 hHeld ?_
 case runR0 => (intro w9 hS9; obtain ⟨c0, c1, c2, c3, c4, c5, c6, c7, c8, c9, c10, c11, c12, c13, c14, c15, c16, c17, c18, c19, c20, c21⟩ := HCS.o w9 hS9; go_simp; try exact rfl)
 try simp only [Act.put, lA, lZ, lS]
 refine tkL 1 ?vR1 rfl ?runR1 hHeld ?_
 case runR1 => (intro w9 hS9; obtain ⟨c0, c1, c2, c3, c4, c5, c6, c7, c8, c9, c10, c11, c12, c13, c14, c15, c16, c17, c18, c19, c20, c21⟩ := HCS.o w9 hS9; go_simp; try exact rfl)
 try simp only [Act.put, lA, lZ, lS]
 refine tkL 2 ?vR2 rfl ?runR2 hHeld ?_
 case runR2 => (intro w9 hS9; obtain ⟨c0, c1, c2, c3, c4, c5, c6, c7, c8, c9, c10, c11, c12, c13, c14, c15, c16, c17, c18, c19, c20, c21⟩ := HCS.o w9 hS9; go_simp; try exact rfl)
 try simp only [Act.put, lA, lZ, lS]
 refine tkL 3 ?vR3 rfl ?runR3 hHeld ?_
 case runR3 => (intro w9 hS9; obtain ⟨c0, c1, c2, c3, c4, c5, c6, c7, c8, c9, c10, c11, c12, c13, c14, c15, c16, c17, c18, c19, c20, c21⟩ := HCS.o w9 hS9; go_simp; try exact rfl)
 try simp only [Act.put, lA, lZ, lS]
 refine tkL 4 ?vR4 rfl ?runR4 hHeld ?_
 case runR4 => (intro w9 hS9; obtain ⟨c0, c1, c2, c3, c4, c5, c6, c7, c8, c9, c10, c11, c12, c13, c14, c15, c16, c17, c18, c19, c20, c21⟩ := HCS.o w9 hS9; go_simp; try exact rfl)
 try simp only [Act.put, lA, lZ, lS]
 refine tkL 6 ?vR6 rfl ?runR6 hHeld ?_
 case runR6 => (intro w9 hS9; obtain ⟨c0, c1, c2, c3, c4, c5, c6, c7, c8, c9, c10, c11, c12, c13, c14, c15, c16, c17, c18, c19, c20, c21⟩ := HCS.o w9 hS9; go_simp; try exact rfl)
 try simp only [Act.put, lA, lZ, lS]
 refine tkL 7 ?vR7 rfl ?runR7 hHeld ?_
 case runR7 => (intro w9 hS9; obtain ⟨c0, c1, c2, c3, c4, c5, c6, c7, c8, c9, c10, c11, c12, c13, c14, c15, c16, c17, c18, c19, c20, c21⟩ := HCS.o w9 hS9; go_simp; try exact rfl)
 try simp only [Act.put, lA, lZ, lS]
 refine tkL 8 ?vR8 rfl ?runR8 hHeld ?_
 case runR8 => (intro w9 hS9; obtain ⟨c0, c1, c2, c3, c4, c5, c6, c7, c8, c9, c10, c11, c12, c13, c14, c15, c16, c17, c18, c19, c20, c21⟩ := HCS.o w9 hS9; go_simp; try exact rfl)
 try simp only [Act.put, lA, lZ, lS]
 refine tkL 9 ?vR9 rfl ?runR9 hHeld ?_
 case runR9 => (intro w9 hS9; obtain ⟨c0, c1, c2, c3, c4, c5, c6, c7, c8, c9, c10, c11, c12, c13, c14, c15, c16, c17, c18, c19, c20, c21⟩ := HCS.o w9 hS9; go_simp; try exact rfl)
 try simp only [Act.put, lA, lZ, lS]
 refine tkL 11 ?vR11 rfl ?runR11 hHeld ?_
 case runR11 => (intro w9 hS9; obtain ⟨c0, c1, c2, c3, c4, c5, c6, c7, c8, c9, c10, c11, c12, c13, c14, c15, c16, c17, c18, c19, c20, c21⟩ := HCS.o w9 hS9; go_simp; try exact rfl)
 try simp only [Act.put, lA, lZ, lS]
 refine tkL 12 ?vR12 rfl ?runR12 hHeld ?_
 case runR12 => (intro w9 hS9; obtain ⟨c0, c1, c2, c3, c4, c5, c6, c7, c8, c9, c10, c11, c12, c13, c14, c15, c16, c17, c18, c19, c20, c21⟩ := HCS.o w9 hS9; go_simp; try exact rfl)
 try simp only [Act.put, lA, lZ, lS]
 refine tkL 13 ?vR13 rfl ?runR13 hHeld ?_
 case runR13 => (intro w9 hS9; obtain ⟨c0, c1, c2, c3, c4, c5, c6, c7, c8, c9, c10, c11, c12, c13, c14, c15, c16, c17, c18, c19, c20, c21⟩ := HCS.o w9 hS9; go_simp; try exact rfl)
 try simp only [Act.put, lA, lZ, lS]
 refine tkL 14 ?vR14 rfl ?runR14 hHeld ?_
 case runR14 => (intro w9 hS9; obtain ⟨c0, c1, c2, c3, c4, c5, c6, c7, c8, c9, c10, c11, c12, c13, c14, c15, c16, c17, c18, c19, c20, c21⟩ := HCS.o w9 hS9; go_simp; try exact rfl)
 try simp only [Act.put, lA, lZ, lS]
 refine tkL 19 ?vR19 rfl ?runR19 hHeld ?_
 case runR19 => (intro w9 hS9; obtain ⟨c0, c1, c2, c3, c4, c5, c6, c7, c8, c9, c10, c11, c12, c13, c14, c15, c16, c17, c18, c19, c20, c21⟩ := HCS.o w9 hS9; go_simp; try exact rfl)
 try simp only [Act.put, lA, lZ, lS]
 refine wpAnyH_cut (P := Tryz.prog) (md := ?md1) (ops := ?ops1) (Q := ?Q1) (S := ?S1) (fuel := ?fuel1) (listed := ?listed1) (n := 75) (R := fun f W => f 0 = (.pointer (some ⟨s, 0, none⟩)) ∧ f 2 = (.slice none 0 0) ∧ f 3 = (.slice (some ⟨M, 0, none⟩) N N) ∧ f 37 = (.int .i64 0) ∧ FreeC w2 x (f 23) (f 28) (f 33) W) (fun hcut => ?first1) ?rest1
 case first1 =>
  have hk0 := HC0.o
  refine wpAnyH_ready (rs := [5, 10]) (by kernel_rfl) (by simp) ?_
  refine AllReadyH.consL rfl (fun K hK => ?_) (AllReadyH.consL rfl (fun K hK => ?_) (AllReadyH.nil))
  ·skip
   refine step_build2X w2.drew (by rfl) _ _ rfl (.int .i64 0) (.int .i64 2) (.int .i64 x.area.1) (.int .i64 x.area.2) rfl rfl ?_
   have hk1 : Keep [] w2 (w2.drew.alloc (.cells #[.int .i64 0, .int .i64 2, .int .i64 x.area.1, .int .i64 x.area.2] 34)) := hk0.alloc _
   have hb1 := heap_new w2.drew (.cells #[.int .i64 0, .int .i64 2, .int .i64 x.area.1, .int .i64 x.area.2] 34)
   have hbl := hb1
   refine hK.out _ _ hk1 (fun hHeld => ?_)
   clear hK K
   try simp only [Act.put, lA, lZ, lS]
   refine wpAnyH_ready (rs := [10]) (by kernel_rfl) (by simp) ?_
   refine AllReadyH.consL rfl (fun K hK => ?_) (AllReadyH.nil)
   go_simp
   refine (HNP.o _ hk1).mono ?_
   rintro e wq2 ⟨v10, o10, rfl, hr10, -, hq2⟩
   have hk2 := hk1.trans hq2 (by simp)
   have hbl := blkk hbl hq2 (by simp)
   go_wp2_with fail
   refine hK.out _ _ hk2 (fun hHeld => ?_)
   clear hK K
   try simp only [Act.put, lA, lZ, lS]
   refine wpAnyH_ready (rs := [15]) (by kernel_rfl) (by simp) ?_
   refine AllReadyH.consL rfl (fun K hK => ?_) (AllReadyH.nil)
   go_simp
   refine (HOP.o _ hk2).mono ?_
   rintro e wq3 ⟨v15, o15, rfl, hr15, -, hq3⟩
   have hk3 := hk2.trans hq3 (by simp)
   have hbl := blkk hbl hq3 (by simp)
   have hr10 := RowE.keep hr10 hq3 (by simp)
   go_wp2_with fail
   refine hK.out _ _ hk3 (fun hHeld => ?_)
   clear hK K
   try simp only [Act.put, lA, lZ, lS]
   refine hcut _ _ ?_
   exact CutF.mk rfl ⟨rfl, rfl, rfl, rfl, _, rfl, hbl, ⟨_, hr10⟩, ⟨_, hr15⟩, hk3⟩
  ·skip
   go_simp
   refine (HNP.o _ hk0).mono ?_
   rintro e wq1 ⟨v10, o10, rfl, hr10, -, hq1⟩
   have hk1 := hk0.trans hq1 (by simp)
   go_wp2_with fail
   refine hK.out _ _ hk1 (fun hHeld => ?_)
   clear hK K
   try simp only [Act.put, lA, lZ, lS]
   refine wpAnyH_ready (rs := [5, 15]) (by kernel_rfl) (by simp) ?_
   refine AllReadyH.consL rfl (fun K hK => ?_) (AllReadyH.consL rfl (fun K hK => ?_) (AllReadyH.nil))
   ·skip
    refine step_build2X wq1 (by rfl) _ _ rfl (.int .i64 0) (.int .i64 2) (.int .i64 x.area.1) (.int .i64 x.area.2) rfl rfl ?_
    have hk2 : Keep [] w2 (wq1.alloc (.cells #[.int .i64 0, .int .i64 2, .int .i64 x.area.1, .int .i64 x.area.2] 34)) := hk1.alloc _
    have hb2 := heap_new wq1 (.cells #[.int .i64 0, .int .i64 2, .int .i64 x.area.1, .int .i64 x.area.2] 34)
    have hr10 := RowE.keep hr10 ((Keep.refl [] _).alloc (.cells #[.int .i64 0, .int .i64 2, .int .i64 x.area.1, .int .i64 x.area.2] 34)) (by simp)
    have hbl := hb2
    refine hK.out _ _ hk2 (fun hHeld => ?_)
    clear hK K
    try simp only [Act.put, lA, lZ, lS]
    refine wpAnyH_ready (rs := [15]) (by kernel_rfl) (by simp) ?_
    refine AllReadyH.consL rfl (fun K hK => ?_) (AllReadyH.nil)
    go_simp
    refine (HOP.o _ hk2).mono ?_
    rintro e wq3 ⟨v15, o15, rfl, hr15, -, hq3⟩
    have hk3 := hk2.trans hq3 (by simp)
    have hbl := blkk hbl hq3 (by simp)
    have hr10 := RowE.keep hr10 hq3 (by simp)
    go_wp2_with fail
    refine hK.out _ _ hk3 (fun hHeld => ?_)
    clear hK K
    try simp only [Act.put, lA, lZ, lS]
    refine hcut _ _ ?_
    exact CutF.mk rfl ⟨rfl, rfl, rfl, rfl, _, rfl, hbl, ⟨_, hr10⟩, ⟨_, hr15⟩, hk3⟩
   ·skip
    go_simp
    refine (HOP.o _ hk1).mono ?_
    rintro e wq2 ⟨v15, o15, rfl, hr15, -, hq2⟩
    have hk2 := hk1.trans hq2 (by simp)
    have hr10 := RowE.keep hr10 hq2 (by simp)
    go_wp2_with fail
    refine hK.out _ _ hk2 (fun hHeld => ?_)
    clear hK K
    try simp only [Act.put, lA, lZ, lS]
    refine wpAnyH_ready (rs := [5]) (by kernel_rfl) (by simp) ?_
    refine AllReadyH.consL rfl (fun K hK => ?_) (AllReadyH.nil)
    refine step_build2X wq2 (by rfl) _ _ rfl (.int .i64 0) (.int .i64 2) (.int .i64 x.area.1) (.int .i64 x.area.2) rfl rfl ?_
    have hk3 : Keep [] w2 (wq2.alloc (.cells #[.int .i64 0, .int .i64 2, .int .i64 x.area.1, .int .i64 x.area.2] 34)) := hk2.alloc _
    have hb3 := heap_new wq2 (.cells #[.int .i64 0, .int .i64 2, .int .i64 x.area.1, .int .i64 x.area.2] 34)
    have hr10 := RowE.keep hr10 ((Keep.refl [] _).alloc (.cells #[.int .i64 0, .int .i64 2, .int .i64 x.area.1, .int .i64 x.area.2] 34)) (by simp)
    have hr15 := RowE.keep hr15 ((Keep.refl [] _).alloc (.cells #[.int .i64 0, .int .i64 2, .int .i64 x.area.1, .int .i64 x.area.2] 34)) (by simp)
    have hbl := hb3
    refine hK.out _ _ hk3 (fun hHeld => ?_)
    clear hK K
    try simp only [Act.put, lA, lZ, lS]
    refine hcut _ _ ?_
    exact CutF.mk rfl ⟨rfl, rfl, rfl, rfl, _, rfl, hbl, ⟨_, hr10⟩, ⟨_, hr15⟩, hk3⟩
 intro a' W hc
 obtain ⟨f, rfl, h0, h2, h3, h37, b5, h23, hb5, ⟨o10, hr10⟩, ⟨o15, hr15⟩, hkW⟩ := hc.lit
 rw [show ((List.range 75).map f).toArray = #[f 0, f 1, f 2, f 3, f 4, f 5, f 6, f 7, f 8, f 9, f 10, f 11, f 12, f 13, f 14, f 15, f 16, f 17, f 18, f 19, f 20, f 21, f 22, f 23, f 24, f 25, f 26, f 27, f 28, f 29, f 30, f 31, f 32, f 33, f 34, f 35, f 36, f 37, f 38, f 39, f 40, f 41, f 42, f 43, f 44, f 45, f 46, f 47, f 48, f 49, f 50, f 51, f 52, f 53, f 54, f 55, f 56, f 57, f 58, f 59, f 60, f 61, f 62, f 63, f 64, f 65, f 66, f 67, f 68, f 69, f 70, f 71, f 72, f 73, f 74] from rfl]
 rw [h0, h2, h3, h37, h23]
 clear hc h0 h2 h3 h37 h23
 have hHeld := hkW
 obtain ⟨f28, hf28⟩ : ∃ v, v = f 28 := ⟨_, rfl⟩
 obtain ⟨f33, hf33⟩ : ∃ v, v = f 33 := ⟨_, rfl⟩
 rw [← hf28] at hr10 ⊢
 rw [← hf33] at hr15 ⊢
 clear hf28 hf33
 obtain ⟨va, vc, rfl⟩ := hr10.form
 obtain ⟨ya, yc, rfl⟩ := hr15.form
 have hka : Keep [] W (W.alloc (.cells #[.slice (some ⟨b5, 0, none⟩) 2 2, .slice va (ptX x.ns.ps x.nm.places).length vc, .slice ya (ptX x.os.ps x.om.places).length yc] 46)) := (Keep.refl [] W).alloc _
 have hcat := cat3 (W := W.alloc (.cells #[.slice (some ⟨b5, 0, none⟩) 2 2, .slice va (ptX x.ns.ps x.nm.places).length vc, .slice ya (ptX x.os.ps x.om.places).length yc] 46)) (heap_new W (.cells #[.slice (some ⟨b5, 0, none⟩) 2 2, .slice va (ptX x.ns.ps x.nm.places).length vc, .slice ya (ptX x.os.ps x.om.places).length yc] 46)) (blkk hb5 hka (by simp)) (hr10.keep hka (by simp)) (hr15.keep hka (by simp)) HSZ.o
 have HKW := hyd (hkW.trans hka (by simp))
 have HCAT := hyd hcat
 clear hr10 hr15 hb5 hka hcat hkW
 refine wpAnyH_ready (rs := [16]) (by kernel_rfl) (by simp) ?_
 refine AllReadyH.consL rfl (fun K hK => ?_) (AllReadyH.nil)
 go_simp
 refine hK.out _ _ HKW.o (fun hHeld2 => ?_)
 clear hK K hHeld; have hHeld := hHeld2; clear hHeld2
 try simp only [Act.put, lA, lZ, lS]
 refine wpAnyH_ready (rs := [17]) (by kernel_rfl) (by simp) ?_
 refine AllReadyH.consL rfl (fun K hK => ?_) (AllReadyH.nil)
 go_simp
 refine HCAT.o.mono ?_
 rintro e wq ⟨vL, oL, rfl, hrL, hoL, hkL⟩
 have HKL := hyd (HKW.o.trans hkL (by simp))
 obtain ⟨la, lc, rfl⟩ := hrL.form
 have HRL := hyd hrL
 clear hrL hoL hkL HCAT
 go_wp2_with fail
 refine hK.out _ _ HKL.o (fun hHeld2 => ?_)
 clear hK K hHeld; have hHeld := hHeld2; clear hHeld2
 try simp only [Act.put, lA, lZ, lS]
 refine tkL 18 ?vZ18 rfl ?runZ18 hHeld ?_
 case runZ18 => (intro w9 hS9; go_simp; try exact rfl)
 try simp only [Act.put, lA, lZ, lS]
 refine wpAnyH_done (by kernel_rfl) ?_ _
 clear HNP HOP HCS HKW hHeld
 have hbr := HBR.o.keep HKL.o (by simp)
 have hKL := HK1.o.trans HKL.o (by simp)
 have HBR2 := hyd hbr
 have HKL2 := hyd hKL
 clear hbr hKL HBR HK1 HKL
 obtain ⟨L, hL⟩ : ∃ L, L = usedL x := ⟨_, rfl⟩
 rw [← hL] at HRL HIN HSZ
 rw [← hL]
 have hLl := HSZ.o
 have HLE := hyd hL
 clear hL HSZ
 go_wp2_with fail
 go_loopw [37] (fun i wr => ∃ k : Nat, k ≤ L.length ∧ i = .int .i64 k ∧ (∃ xs, BR wr M xs ∧ Mk N xs (fun t => cov (L.take k) (t : Int))) ∧ Keep [M] wq wr) (fun i _ => L.length - (intOf i).toNat)
 case atStart => exact ⟨0, Nat.zero_le _, rfl, ⟨_, HBR2.o, List.length_replicate, fun t ht => by rw [List.getElem?_replicate, if_pos ht]; simp [cov]⟩, Keep.refl _ _⟩
 case round =>
  obtain ⟨k, hk, rfl, ⟨xs, hbr, hmk⟩, hkw⟩ := hrel
  have HBRk := hyd hbr
  have HMK := hyd hmk
  have HKW := hyd hkw
  clear hbr hmk hkw
  have hMq : M < wq.heap.size := HBR2.o.lt
  by_cases hlt : k < L.length
  ·have hsep : ∀ b, oL = some b → b ∉ [M] := fun b hb hm => by
    simp at hm
    subst hm
    obtain ⟨cs, h⟩ := row_blk (show Row wq _ _ _ _ _ (some b) from hb ▸ HRL.o)
    have := HBR2.o
    unfold BR at this
    rw [h] at this
    injection this with this
    injection this with _ this
    exact absurd this (by decide)
   obtain ⟨o', hrd, ho'⟩ := RowE.rde (HRL.o.keep HKW.o hsep)
   obtain ⟨b, off, rfl, -, g0, g1⟩ := hrd.at hlt
   have hps := HIN.o _ (List.getElem_mem hlt)
   have hst : ∀ t : Nat, cov (L.take (k + 1)) (t : Int) ↔ cov (L.take k) (t : Int) ∨ covers L[k] (t : Int) := fun t => by
    rw [List.take_succ_eq_append_getElem hlt, cov_append, cov_one]
   clear hrd ho' hsep
   generalize L[k] = y at *
   obtain ⟨y1, y2⟩ := y
   simp only at g0 g1 hps
   obtain ⟨fn, rfl⟩ : ∃ n : Nat, y1 = n := ⟨y1.toNat, by omega⟩
   obtain ⟨mn, rfl⟩ : ∃ n : Nat, y2 = n := ⟨y2.toNat, by omega⟩
   have HST := hyd hst
   have hfm : fn + mn ≤ N := by omega
   have i0' : (0 : Int) ≤ (k : Int) := by omega
   have i1' : (k : Int) < (L.length : Int) := by omega
   have hnb := heap_new wr (.cells #[.int .i64 (fn : Int), .int .i64 (mn : Int)] 34)
   have hkeep : Keep [] wr (wr.alloc (.cells #[.int .i64 (fn : Int), .int .i64 (mn : Int)] 34)) := (Keep.refl [] wr).alloc _
   have HB1 := hyd (HBRk.o.keep hkeep (by simp))
   have HNB := hyd hnb
   have HK2 := hyd (HKW.o.trans (hkeep.mono (by simp)) (fun b hb => .inl hb))
   have hBM : M < wr.heap.size := HBRk.o.lt
   clear hst hnb hkeep hps
   go_wp2_with fail
   generalize wr.alloc (.cells #[.int .i64 (fn : Int), .int .i64 (mn : Int)] 34) = W1 at *
   generalize hBx : wr.heap.size = Bx at *
   clear g0 g1
   go_loopw [43] (fun i wr => ∃ j : Nat, j ≤ mn ∧ i = .int .i64 j ∧ (∃ xs, BR wr M xs ∧ Mk N xs (fun t => cov (L.take k) (t : Int) ∨ (fn ≤ t ∧ t < fn + j))) ∧ Keep [M] W1 wr) (fun i _ => mn - (intOf i).toNat)
   case atStart => exact ⟨0, Nat.zero_le _, rfl, ⟨xs, HB1.o, HMK.o.congr fun t _ => ⟨.inl, fun h => h.elim id (fun h => by omega)⟩⟩, Keep.refl _ _⟩
   case round =>
    obtain ⟨j, hj, rfl, ⟨xs2, hbr2, hmk2⟩, hkp2⟩ := hrel
    have hbx := blkk HNB.o hkp2 (by simp; omega)
    obtain ⟨cx0, cx1⟩ := cells2 hbx
    have HBRj := hyd hbr2
    have HMKj := hyd hmk2
    have HKPj := hyd hkp2
    have hxl := hmk2.1
    clear hbr2 hmk2 hkp2 hbx
    by_cases hlj : j < mn
    ·have hlj' : (j : Int) < (mn : Int) := by omega
     have hz0 : (0 : Int) ≤ (fn : Int) + (j : Int) := by omega
     have hz1 : (fn : Int) + (j : Int) < (N : Int) := by omega
     have hcast : ((fn : Int) + (j : Int)).toNat = fn + j := by omega
     have hat := HBRj.o.at (p := fn + j) (by omega)
     have hfr := HBRj.o.frozen (fn + j)
     go_wp2_with fail
     go_roundw
     case rel =>
      refine ⟨j + 1, by omega, by go_num, ⟨_, HBRj.o.set (fn + j), (HMKj.o.set (fn + j)).congr fun t _ => ?_⟩, HKPj.o.trans (Keep.set1 _ ⟨M, fn + j, none⟩ _) (fun b hb => .inl hb)⟩
      constructor
      ·rintro ((h | h) | h)
       ·exact .inl h
       ·right; omega
       ·right; omega
      ·rintro (h | h)
       ·exact .inl (.inl h)
       ·by_cases he : t = fn + j
        ·exact .inr he
        ·left; right; omega
     case measure => show mn - (j + 1) < mn - j; omega
    ·obtain rfl : j = mn := by omega
     go_wp2_with fail
     go_roundw
     case rel =>
      refine ⟨k + 1, by omega, by go_num, ⟨xs2, HBRj.o, HMKj.o.congr fun t _ => ?_⟩, HK2.o.trans HKPj.o (fun b hb => .inl hb)⟩
      rw [HST.o]
      unfold covers
      simp only
      constructor
      ·rintro (h | h)
       ·exact .inl h
       ·right; omega
      ·rintro (h | h)
       ·exact .inl h
       ·right; omega
     case measure => show L.length - (k + 1) < L.length - k; omega
  ·obtain rfl : k = L.length := by omega
   rw [List.take_length] at HMK
   have hxl := HMK.o.1
   have HKW2 := hyd (HKL2.o.trans HKW.o (fun b hb => by simp at hb; subst hb; exact .inr hM))
   clear HRL HKW HKL2 HBR2 HIN
   go_wp2_with fail
   subst hxl
   go_loopw [7, 56] (fun v i wr' => ∃ (k : Nat) (o : Option Nat), k ≤ xs.length ∧ i = .int .i64 k ∧ RowE wr' v (unm xs k) o ∧ (∀ b, o = some b → wr.heap.size ≤ b) ∧ Keep [] wr wr') (fun _ i _ => xs.length - (intOf i).toNat)
   case atStart => exact ⟨0, none, Nat.zero_le _, rfl, RowE.nil _, by simp, Keep.refl _ _⟩
   case round =>
    rename World => wi
    obtain ⟨k, o, hk, rfl, hrow, hob, hkw⟩ := hrel
    obtain ⟨va, vc, rfl⟩ := hrow.form
    have HR := hyd hrow
    have HO := hyd hob
    have HKo := hyd hkw
    have hul := unm_len xs k
    clear hrow hob hkw
    by_cases hlt : k < xs.length
    ·have hat := (HBRk.o.keep HKo.o (by simp)).at hlt
     have hun := unm_succ xs k
     have hgd : xs.getD k true = xs[k] := by rw [List.getD_eq_getElem?_getD, List.getElem?_eq_getElem hlt]; rfl
     rw [hgd] at hun
     have i0' : (0 : Int) ≤ (k : Int) := by omega
     have i1' : (k : Int) < (xs.length : Int) := by omega
     obtain ⟨bk, hbk⟩ : ∃ b, b = xs[k] := ⟨_, rfl⟩
     rw [← hbk] at hat hun
     clear hgd hbk
     cases bk with
     | true =>
      rw [if_pos rfl, List.append_nil] at hun
      have HUN := hyd hun
      clear hun
      go_wp2_with fail
      go_roundw
      case rel => exact ⟨k + 1, o, by omega, by go_num, by rw [HUN.o]; exact HR.o, HO.o, HKo.o⟩
      case measure => show xs.length - (k + 1) < xs.length - k; omega
     | false =>
      rw [if_neg (by simp)] at hun
      have HUN := hyd hun
      clear hun
      have hka : Keep [] wi (wi.alloc (.cells #[.int .i64 (k : Int), .int .i64 1] 34)) := (Keep.refl [] wi).alloc _
      have HNR := hyd (Row.keep HR.o hka (by simp))
      have HNS := hyd (rd_block (n := 1) (k := 2) (heap_new wi (.cells #[.int .i64 (k : Int), .int .i64 1] 34)) (xs := [.int .i64 (k : Int), .int .i64 1]) (by simp) (by simp [maxLen]))
      have HN1 := hyd (show ∀ u ∈ [Value.int .i64 (k : Int), Value.int .i64 1], u.oneCell' = true from encX_all [((k : Int), (1 : Int))])
      clear hka
      go_wp2_with (at_builtin; refine wpList_append_any _ rfl _ _ 46 46 rfl 34 34 i0 (.agg #[.int .i64 0, .int .i64 0]) 2 16 Tryz.underlying46 Tryz.underlying46 HI.o hz0 hz1 hz2 rfl _ (unm xs k).length ((unm xs k).flatMap encE) o rfl HNR.o _ rfl 1 [.int .i64 (k : Int), .int .i64 1] (some _) HNS.o HN1.o (by first | (unfold maxLen; omega) | (simp [maxLen] <;> omega)) (by omega) ?_)
      intro v' o' w' hr' hk' hg'
      have hrow2 : RowE w' v' (unm xs (k + 1)) o' := by
       unfold RowE
       rw [HUN.o, List.flatMap_append, List.length_append]; exact hr'
      obtain ⟨a', c', rfl⟩ := hrow2.form
      have hl2 : (unm xs (k + 1)).length = (unm xs k).length + 1 := by rw [HUN.o, List.length_append]; rfl
      have hob2 : ∀ y, o' = some y → wr.heap.size ≤ y := fun y hy => by
       rcases hg' y hy with h | h
       ·exact HO.o y h
       ·have h2 := HKo.o.size
        first | omega | (simp at h; omega)
      have hk2 := (HKo.o.alloc (.cells #[.int .i64 (k : Int), .int .i64 1] 34)).trans hk' (fun y hy => .inr (HO.o _ (by simpa using hy)))
      have HR2 := hyd hrow2
      have HOB2 := hyd hob2
      have HK2 := hyd hk2
      clear hr' hk' hg' hrow2 hob2 hk2
      go_wp2_with fail
      go_roundw
      case rel => exact ⟨k + 1, o', by omega, by go_num, HR2.o, HOB2.o, HK2.o⟩
      case measure => show xs.length - (k + 1) < xs.length - k; omega
    ·obtain rfl : k = xs.length := by omega
     obtain ⟨o', hrd, ho'⟩ := RowE.rde HR.o
     have hjn := join_any hrd (by omega) (fun b hb => by
       rcases ho' with h | h
       · rw [h] at hb; cases hb
       · exact Row.lt HR.o b (h ▸ hb))
     have HJN := hyd hjn
     clear hrd hjn ho'
     go_wp2_with fail
     refine HJN.o.mono ?_
     rintro e w3 ⟨v3, o3, out, err, rfl, hjr, hr3, ho3, hk3⟩
     obtain ⟨ja, jc, rfl⟩ := hr3.form
     have HR3 := hyd hr3
     have HO3 := hyd ho3
     have HK3 := hyd ((HKW2.o.trans HKo.o (by simp)).trans hk3 (by simp))
     have HFR := hyd (free_of hn HMK.o hjr)
     have HLW := hyd (HKW2.o.trans HKo.o (by simp)).size
     clear hr3 ho3 hk3 hjr HJN
     go_wp2_with fail
     go_ret
     exact ⟨_, out, o3, rfl, HR3.o, fun b hb => Nat.le_trans HLW.o (HO3.o b hb), by rw [← HNE.o, ← HLE.o]; exact HFR.o, HK3.o⟩
end Go.Proofs.YtimpadpeibgmoaaGreat
