/- A part of the proof (St6), joined by squeeze2.py. -/
import Derived.Test.YtimpadpeibgmoaaGreatYd31
set_option maxHeartbeats 8000000
set_option maxRecDepth 100000
namespace Go.Proofs.YtimpadpeibgmoaaGreat
open Go.RowKit Go.Emb Go.Emb.Ext
attribute [local go_sem] Oper.semAt_some
theorem keyI : KeyEnc Tryz.prog 2 (Value.int .i64) where
 same := ⟨.int .i64, Tryz.underlying2, fun x y => by simp [Instr.sameNow]; rw [Bool.eq_iff_iff]; simp⟩
 check := fun em x w => MapKept.run_checkKey Tryz.underlying2 (by simp [MapKept.IsKey]) em 9999
 stays := fun x w => MapKept.run_keyThatStays (d := .int .i64) (by simp [MapKept.IsKey])
def pickV (tk : List PlV) (m : MnV) (pid : Int) : PlV := (tk.find? fun y => decide (y.p.pid = pid)).getD ((findL m pid).getD ⟨⟨0, 0, []⟩, .slice none 0 0⟩)
def tkMap (tk : List PlV) : List (Int × Value) := tk.map fun y => (y.p.pid, aggP y)
theorem tkMap_find (tk : List PlV) (pid : Int) : mfind (tkMap tk) pid = (tk.find? fun y => decide (y.p.pid = pid)).map aggP := by
 unfold tkMap mfind
 induction tk with
 | nil => rfl
 | cons y l ih =>
  rw [List.map_cons, List.find?_cons, List.find?_cons]
  by_cases h : y.p.pid = pid
  ·rw [decide_eq_true h]; rfl
  ·rw [decide_eq_false h]; exact ih
theorem tkMap_put {tk : List PlV} {y : PlV} (h : y.p.pid ∉ tk.map (·.p.pid)) : mput (tkMap tk) y.p.pid (aggP y) = tkMap (tk ++ [y]) := by
 unfold mput
 rw [if_neg]
 ·simp [tkMap]
 ·rw [List.any_eq_true]
  rintro ⟨p, hp, h2⟩
  unfold tkMap at hp
  obtain ⟨z, hz, rfl⟩ := List.mem_map.1 hp
  simp only [decide_eq_true_eq] at h2
  exact h (List.mem_map.2 ⟨z, hz, h2⟩)
def dPl (l : List ImV) : List (Int × Int) := l.map fun y => (y.pid, (y.b.length : Int))
def tPl (tk : List PlV) : List (Int × Int) := tk.map fun y => (y.p.pid, y.p.len)
structure PlanOk (sz : Nat) (f0 : List E) (x : SV) (src : ByteArray) (rest : List UInt8) (alive : List Int) (dirty : List ImV) (tk : List PlV) (f gm f2 : List E) (m : MnV) (sp : Sup) : Prop where
 tkn : Tkn (roomN sz : Int) f0 (tk.map (·.p)) f
 tkd : tPl tk = dPl dirty
 ms : m.s = src
 ma : m.area = x.area
 mr : m.rest = rest
 mp : m.places = alive.map (pickV tk x.nm)
 gmt : TakeRes (needE (manL m.man).length (roomN sz : Int)) 8 f gm f2 0
 sup : sp = ⟨x.ns.gen + 1, gm, ((manL m.man).length : Int), x.ns.ep + 1⟩
 ml : (manL m.man).length ≤ 1048576
 fit : (loadL sp).length ≤ roomN sz
def PlanNo (sz : Nat) (f0 : List E) (x : SV) (src : ByteArray) (rest : List UInt8) (alive : List Int) (dirty : List ImV) : Prop :=
 (∃ k tk f got left err, ∃ h : k < dirty.length, Tkn (roomN sz : Int) f0 (tk.map (PlV.p)) f ∧ tPl tk = dPl (dirty.take k) ∧ TakeRes (needE (dirty[k].b.length : Int) (roomN sz : Int)) 16384 f got left err ∧ err ≠ 0) ∨
 (∃ tk f gm f2 err, ∃ m : MnV, Tkn (roomN sz : Int) f0 (tk.map (PlV.p)) f ∧ tPl tk = dPl dirty ∧ m.s = src ∧ m.area = x.area ∧ m.rest = rest ∧ m.places = alive.map (pickV tk x.nm) ∧ TakeRes (needE (manL m.man).length (roomN sz : Int)) 8 f gm f2 err ∧
   (err ≠ 0 ∨ 1048576 < (manL m.man).length ∨ roomN sz < (loadL ⟨x.ns.gen + 1, gm, ((manL m.man).length : Int), x.ns.ep + 1⟩).length))
def PlanP (w : World) (s : Nat) (D : List Nat) (n sz : Nat) (x : SV) (src : ByteArray) (rest : List UInt8) (alive : List Int) (dirty : List ImV) (e : Ending) (w' : World) : Prop :=
 ∃ (sp : Sup) (pv : Value) (m : MnV) (c : Int), e = .returned (.tuple #[aggPt sp pv m, .int .i64 c]) ∧ (∃ a cc, pv = .slice a sp.ps.length cc) ∧ (∃ a cc, m.rv = .slice a m.rest.length cc) ∧ (∃ a cc, m.pv = .slice a m.places.length cc) ∧
  ((c = 0 ∧ ∃ f0 tk f gm f2, IsFree n (usedL x) f0 ∧ PlanOk sz f0 x src rest alive dirty tk f gm f2 m sp ∧ XRd (fun b => b ∉ s :: D) w' pv sp.ps ∧ MRd (fun b => b ∉ s :: D) w' m) ∨
   (c = 240 ∧ ∃ f0, IsFree n (usedL x) f0 ∧ PlanNo sz f0 x src rest alive dirty)) ∧ Keep [] w w'
theorem right_nodup {al : List Int} : ∀ {l : List (Int × List UInt8)} {last : Int}, dOk al last l → (∀ x ∈ l, last < x.1) ∧ (l.map (·.1)).Nodup
 | [], _, _ => by simp
 | x :: l, last, h => by
  obtain ⟨h1, h2⟩ := right_nodup h.2
  refine ⟨fun y hy => ?_, ?_⟩
  ·rcases List.mem_cons.1 hy with rfl | hy
   ·exact h.1.1
   ·have := h1 y hy; have := h.1.1; omega
  ·rw [List.map_cons, List.nodup_cons]
   refine ⟨fun hm => ?_, h2⟩
   obtain ⟨y, hy, e⟩ := List.mem_map.1 hm
   have := h1 y hy
   omega
theorem Right.nodup {m : MnV} {alive : List Int} {dirty : List ImV} (h : Right m alive dirty) : (dirty.map (·.pid)).Nodup := by
 have := (right_nodup h.2).2
 unfold imL at this
 rwa [List.map_map] at this
theorem take_new {l : List ImV} (h : (l.map (·.pid)).Nodup) {k : Nat} (hk : k < l.length) : l[k].pid ∉ (l.take k).map (·.pid) := by
 intro hm
 rw [← List.take_append_drop k l, List.map_append, List.nodup_append] at h
 exact h.2.2 _ hm _ (List.mem_map.2 ⟨l[k], by rw [List.drop_eq_getElem_cons hk]; exact List.mem_cons_self, rfl⟩) rfl
structure PlanIn (w : World) (s q : Nat) (lm : List Int) (D : List Nat) (d : DS) (x : SV) (src : ByteArray) (rv : Value) (rest : List UInt8) (av : Value) (alive : List Int) (iv : Value) (dirty : List ImV) : Prop where
 st : STD w s q lm D d x
 hin : ∀ e ∈ usedL x, 0 ≤ e.1 ∧ 0 ≤ e.2 ∧ e.1 + e.2 ≤ d.n
 hul : (usedL x).length ≤ 1000000
 hpl : x.nm.places.length ≤ 3000
 hps : ∀ y ∈ x.nm.places, y.p.pieces.length ≤ 16384
 rt : Right x.nm alive dirty
 ha : NRd (fun b => b ∉ s :: D) w av alive
 hal : alive.length ≤ 3000
 hd : IRd (fun b => b ∉ s :: D) w iv dirty
 hdl : dirty.length ≤ 3000
 hdb : ∀ y ∈ dirty, y.b.length ≤ 1000000
 hr : BRd (fun b => b ∉ s :: D) w rv rest
 hsrc : src.size ≤ 1000000
 hrl : rest.length ≤ 1000000
 hgen : x.ns.gen ≤ 1000000000
 hep : 0 ≤ x.ns.ep ∧ x.ns.ep ≤ 16777215
def ptBox (u0 u1 u2 u3 u4 u5 u6 u7 u8 : Value) : Obj := .cells #[u0, u1, u2, u3, u4, u5, u6, u7, u8] 82
theorem cells9 {w : World} {q : Nat} {v0 v1 v2 v3 v4 v5 v6 v7 v8 : Value} {t : TypeId} (h : w.heap[q]? = some (.cells #[v0, v1, v2, v3, v4, v5, v6, v7, v8] t (0, 0))) :
  w.cell? ⟨q, 0, none⟩ = some v0 ∧ w.cell? ⟨q, 1, none⟩ = some v1 ∧ w.cell? ⟨q, 2, none⟩ = some v2 ∧ w.cell? ⟨q, 3, none⟩ = some v3 ∧ w.cell? ⟨q, 4, none⟩ = some v4 ∧ w.cell? ⟨q, 5, none⟩ = some v5 ∧ w.cell? ⟨q, 6, none⟩ = some v6 ∧ w.cell? ⟨q, 7, none⟩ = some v7 ∧ w.cell? ⟨q, 8, none⟩ = some v8 :=
 ⟨cell_of h 0, cell_of h 1, cell_of h 2, cell_of h 3, cell_of h 4, cell_of h 5, cell_of h 6, cell_of h 7, cell_of h 8⟩
theorem set_of {w : World} {q : Nat} {cs : Array Value} {t : TypeId} (h : w.heap[q]? = some (.cells cs t (0, 0))) (i : Nat) (v : Value) : (w.setCell ⟨q, i, none⟩ v).heap[q]? = some (.cells (cs.setIfInBounds i v) t (0, 0)) := by
 have := heap_setCell_at (i := i) h v
 simpa using this
theorem set9 {w : World} {q : Nat} {v0 v1 v2 v3 v4 v5 v6 v7 v8 : Value} {t : TypeId} (h : w.heap[q]? = some (.cells #[v0, v1, v2, v3, v4, v5, v6, v7, v8] t (0, 0))) (u0 u1 u2 u3 u4 u5 u6 u7 u8 : Value) :
  (((((((((w.setCell ⟨q, 0, none⟩ u0).setCell ⟨q, 1, none⟩ u1).setCell ⟨q, 2, none⟩ u2).setCell ⟨q, 3, none⟩ u3).setCell ⟨q, 4, none⟩ u4).setCell ⟨q, 5, none⟩ u5).setCell ⟨q, 6, none⟩ u6).setCell ⟨q, 7, none⟩ u7).setCell ⟨q, 8, none⟩ u8).heap[q]? = some (.cells #[u0, u1, u2, u3, u4, u5, u6, u7, u8] t (0, 0)) ∧
  Keep [q] w (((((((((w.setCell ⟨q, 0, none⟩ u0).setCell ⟨q, 1, none⟩ u1).setCell ⟨q, 2, none⟩ u2).setCell ⟨q, 3, none⟩ u3).setCell ⟨q, 4, none⟩ u4).setCell ⟨q, 5, none⟩ u5).setCell ⟨q, 6, none⟩ u6).setCell ⟨q, 7, none⟩ u7).setCell ⟨q, 8, none⟩ u8) := by
 refine ⟨?_, ?_⟩
 ·have h0 := set_of h 0 u0
  have h1 := set_of h0 1 u1
  have h2 := set_of h1 2 u2
  have h3 := set_of h2 3 u3
  have h4 := set_of h3 4 u4
  have h5 := set_of h4 5 u5
  have h6 := set_of h5 6 u6
  have h7 := set_of h6 7 u7
  have h8 := set_of h7 8 u8
  simpa using h8
 ·exact ((((((((Keep.set1 w ⟨q, 0, none⟩ u0).setCell (.inl (by simp)) u1).setCell (.inl (by simp)) u2).setCell (.inl (by simp)) u3).setCell (.inl (by simp)) u4).setCell (.inl (by simp)) u5).setCell (.inl (by simp)) u6).setCell (.inl (by simp)) u7).setCell (.inl (by simp)) u8
theorem set5at {w : World} {q : Nat} {v0 v1 v2 v3 v4 v5 v6 v7 v8 : Value} {t : TypeId} (h : w.heap[q]? = some (.cells #[v0, v1, v2, v3, v4, v5, v6, v7, v8] t (0, 0))) (u4 u5 u6 u7 u8 : Value) :
  (((((w.setCell ⟨q, 4, none⟩ u4).setCell ⟨q, 5, none⟩ u5).setCell ⟨q, 6, none⟩ u6).setCell ⟨q, 7, none⟩ u7).setCell ⟨q, 8, none⟩ u8).heap[q]? = some (.cells #[v0, v1, v2, v3, u4, u5, u6, u7, u8] t (0, 0)) ∧
  Keep [q] w (((((w.setCell ⟨q, 4, none⟩ u4).setCell ⟨q, 5, none⟩ u5).setCell ⟨q, 6, none⟩ u6).setCell ⟨q, 7, none⟩ u7).setCell ⟨q, 8, none⟩ u8) := by
 refine ⟨?_, ?_⟩
 ·have h8 := set_of (set_of (set_of (set_of (set_of h 4 u4) 5 u5) 6 u6) 7 u7) 8 u8
  simpa using h8
 ·exact ((((Keep.set1 w ⟨q, 4, none⟩ u4).setCell (.inl (by simp)) u5).setCell (.inl (by simp)) u6).setCell (.inl (by simp)) u7).setCell (.inl (by simp)) u8
theorem set4at {w : World} {q : Nat} {v0 v1 v2 v3 v4 v5 v6 v7 v8 : Value} {t : TypeId} (h : w.heap[q]? = some (.cells #[v0, v1, v2, v3, v4, v5, v6, v7, v8] t (0, 0))) (u0 u1 u2 u3 : Value) :
  ((((w.setCell ⟨q, 0, none⟩ u0).setCell ⟨q, 1, none⟩ u1).setCell ⟨q, 2, none⟩ u2).setCell ⟨q, 3, none⟩ u3).heap[q]? = some (.cells #[u0, u1, u2, u3, v4, v5, v6, v7, v8] t (0, 0)) ∧
  Keep [q] w ((((w.setCell ⟨q, 0, none⟩ u0).setCell ⟨q, 1, none⟩ u1).setCell ⟨q, 2, none⟩ u2).setCell ⟨q, 3, none⟩ u3) := by
 refine ⟨?_, ?_⟩
 ·have h8 := set_of (set_of (set_of (set_of h 0 u0) 1 u1) 2 u2) 3 u3
  simpa using h8
 ·exact (((Keep.set1 w ⟨q, 0, none⟩ u0).setCell (.inl (by simp)) u1).setCell (.inl (by simp)) u2).setCell (.inl (by simp)) u3
theorem pt_size : (Tryz.prog.info? 82).map (·.size) = some 9 := by kernel_rfl
theorem intL_len (n : Int) : (intL n).length ≤ 9 := by
 unfold intL
 split <;> exact (numL_length _ _).1
theorem plcL_le {p : Plc} (h : p.pieces.length ≤ 16384) : (plcL p).length ≤ 294939 := by
 have h1 : ∀ l : List (Int × Int), (l.flatMap extL).length ≤ l.length * 18 := fun l => by
  induction l with
  | nil => simp
  | cons x l ih =>
   have h2 := intL_len x.1
   have h3 := intL_len x.2
   have h4 : (extL x).length = (intL x.1).length + (intL x.2).length := by unfold extL; rw [List.length_append]
   rw [List.flatMap_cons, List.length_append, List.length_cons]
   omega
 have h2 := h1 p.pieces
 have h3 := intL_len p.pid
 have h4 := intL_len p.len
 have h5 := (numL_length p.pieces.length 0).1
 unfold plcL
 simp only [List.length_append]
 omega
theorem manL_le {m : Man} (h1 : m.source.length ≤ 1000000) (h2 : m.rest.length ≤ 1000000) (h3 : m.places.length ≤ 3000) (h4 : ∀ p ∈ m.places, p.pieces.length ≤ 16384) : (manL m).length ≤ 1000000000 := by
 have h5 : ∀ l : List Plc, (∀ p ∈ l, p.pieces.length ≤ 16384) → (l.flatMap plcL).length ≤ l.length * 294939 := fun l => by
  induction l with
  | nil => simp
  | cons x l ih =>
   intro h
   have h2 := plcL_le (h x (by simp))
   have h3 := ih (fun p hp => h p (by simp [hp]))
   rw [List.flatMap_cons, List.length_append, List.length_cons]
   omega
 have h6 := h5 m.places h4
 have k1 := (numL_length m.source.length 0).1
 have k2 := (numL_length m.rest.length 0).1
 have k3 := (numL_length m.places.length 0).1
 have k4 := intL_len m.area.1
 have k5 := intL_len m.area.2
 unfold manL strL extL
 simp only [List.length_append]
 omega
structure PK (w : World) (mb : Nat) (tk : List PlV) (fv : Value) (f : List E) (rv : Value) (rest : List UInt8) (W : World) : Prop where
 ty : ∀ y ∈ tk, ∃ o, RowE W y.v y.p.pieces o ∧ ∀ b, o = some b → w.heap.size ≤ b
 fr : ∃ o, RowE W fv f o ∧ ∀ b, o = some b → w.heap.size ≤ b
 mp : MapA (Value.int .i64) W mb (tkMap tk)
 rs : ∃ o, RB W rv rest o ∧ ∀ b, o = some b → w.heap.size ≤ b
 kp : Keep [] w W
theorem PK.next {w : World} {mb : Nat} {tk : List PlV} {fv : Value} {f : List E} {rv : Value} {rest : List UInt8} {W W' : World} {F : List Nat} (h : PK w mb tk fv f rv rest W) (hk : Keep F W W')
  (hF : ∀ b ∈ F, w.heap.size ≤ b ∧ ((∃ cs t, W.heap[b]? = some (.cells cs t (0, 0)) ∧ t ≠ 34 ∧ t ≠ 5) ∨ W.heap.size ≤ b)) : PK w mb tk fv f rv rest W' := by
 have hE : ∀ {E' k n : Nat} {v : Value} {xs : List Value} {o : Option Nat}, (E' = 34 ∨ E' = 5) → Row W E' k v n xs o → ∀ b, o = some b → b ∉ F := fun {E' k n v xs o} hE h b hb hm => by
  subst hb
  obtain ⟨cs, hcs⟩ := row_blk h
  rcases (hF b hm).2 with ⟨cs', t', h1, h2, h3⟩ | h1
  ·rw [hcs] at h1
   injection h1 with h1
   injection h1 with _ h1
   rcases hE with rfl | rfl
   ·exact h2 h1.symm
   ·exact h3 h1.symm
  ·have := (Array.getElem?_eq_some_iff.1 hcs).1
   omega
 refine ⟨fun y hy => ?_, ?_, h.mp.keep hk (fun hm => ?_), ?_, h.kp.trans hk (fun b hb => .inr (hF b hb).1)⟩
 ·obtain ⟨o, h1, h2⟩ := h.ty y hy
  exact ⟨o, h1.keep hk (hE (.inl rfl) h1), h2⟩
 ·obtain ⟨o, h1, h2⟩ := h.fr
  exact ⟨o, h1.keep hk (hE (.inl rfl) h1), h2⟩
 ·have hlt := h.mp.lt
  obtain ⟨es, cl, h3, -⟩ := h.mp
  rcases (hF mb hm).2 with ⟨cs', t', h1, -⟩ | h1
  ·rw [h3] at h1; cases h1
  ·omega
 ·obtain ⟨o, h1, h2⟩ := h.rs
  exact ⟨o, h1.keep hk (hE (.inr rfl) h1), h2⟩
theorem PK.keep0 {w : World} {mb : Nat} {tk : List PlV} {fv : Value} {f : List E} {rv : Value} {rest : List UInt8} {W W' : World} (h : PK w mb tk fv f rv rest W) (hk : Keep [] W W') : PK w mb tk fv f rv rest W' := h.next hk (by simp)
theorem pick_read {S S' : Nat → Prop} {w : World} {mb : Nat} {tk : List PlV} {fv : Value} {f : List E} {rv : Value} {rest : List UInt8} {W : World} {m : MnV} (h : PK w mb tk fv f rv rest W) (hm : MRd S w m) (hS : ∀ b, b < w.heap.size → S b → S' b) (hS2 : ∀ b cs, w.heap.size ≤ b → W.heap[b]? = some (.cells cs 34 (0, 0)) → S' b)
  (hl : ∀ y ∈ tk, I64 y.p.pid ∧ I64 y.p.len ∧ (∀ x ∈ y.p.pieces, right x = true) ∧ y.p.pieces.length ≤ 16384) (pid : Int) : PRd1 S' W (pickV tk m pid) := by
 unfold pickV
 cases hf : tk.find? (fun y => decide (y.p.pid = pid)) with
 | some y =>
  have hy := List.mem_of_find?_eq_some hf
  obtain ⟨o, h1, h2⟩ := h.ty y hy
  obtain ⟨l1, l2, l3, l4⟩ := hl y hy
  exact ⟨l1, l2, h1.xrd (fun x hx => right_ok (l3 x hx)) (by omega) (fun b hb => by
    obtain ⟨cs, hcs⟩ := row_blk (show Row W _ _ _ _ _ (some b) from hb ▸ h1)
    exact hS2 b cs (h2 b hb) hcs)⟩
 | none =>
  cases hg : findL m pid with
  | some y =>
   exact ((hm.2.2.2.2.1 y (List.mem_of_find?_eq_some hg)).mono hS).keep h.kp (by simp)
  | none => exact ⟨by unfold I64; simp, by unfold I64; simp, XRd.nil _ _⟩
theorem take_nil {n most : Int} {l got left : List E} {e : Int} (h : TakeRes n most l got left e) (he : e ≠ 0) : got = [] := by
 rcases h with ⟨-, -, h, -⟩ | ⟨-, a, e1, -, h⟩
 ·exact h
 ·rcases h with ⟨-, -, h, -⟩ | ⟨-, -, -, h, -⟩ | ⟨-, -, g, -, -, h⟩
  ·exact h
  ·exact h
  ·exact h.nil he
theorem zeroP (W : World) : (zeroValue 48).run Tryz.prog W = .ok (.agg #[.int .i64 0, .int .i64 0, .slice none 0 0]) W := Tryz.zeroValue48 W
theorem st_plan {w : World} {s q : Nat} {lm : List Int} {D : List Nat} {d : DS} {x : SV} {src : ByteArray} {rv : Value} {rest : List UInt8} {av : Value} {alive : List Int} {iv : Value} {dirty : List ImV} (h : PlanIn w s q lm D d x src rv rest av alive iv dirty) :
  Calls Tryz.prog 36 #[.pointer (some ⟨s, 0, none⟩), .string src, rv, av, iv] w (PlanP w s D d.n d.sz x src rest alive dirty) := by
 obtain ⟨na, nc, ra, rc, pa, pc, oa, oc, sa, sc, ta, tc, e1, e2, e3, e4, e5, e6, hb⟩ := st_cells h.st.blk h.st.rd.forms
 obtain ⟨aa, ac, rfl⟩ := h.ha.form
 obtain ⟨ia, ic, rfl⟩ := h.hd.form
 obtain ⟨qa, qc, rfl, -, -⟩ := h.hr.form
 have H := hyd h
 have HB := hyd hb
 have c0 := (cell_of hb 0).trans (show _ = some (.pointer (some ⟨q, 0, none⟩)) from rfl)
 have HSZ := hyd (fun (W : World) (hk : Keep [] w W) => by
   obtain ⟨gb, c, logv, logs, lo, s', r, -, h1, -, -, -, -, ok⟩ := h.st.dk.keep0 hk
   exact p_size h1)
 have HRM := hyd (fun W => p_room (d.sz : Int) W)
 rw [roomI_nat] at HRM
 have HFR := hyd (fun (W : World) (hk : Keep [] w W) => st_free (w := W) (h.st.keep0 hk) h.hin h.hul)
 have hdl := h.hdl
 have hal := h.hal
 have hrm : roomN d.sz ≤ 4096 := by unfold roomN; split <;> omega
 clear hb h
 have hk1 : Keep [] w (w.alloc (ptBox (.int .u64 0) (.slice none 0 0) (.int .i64 0) (.int .i64 0) (.string ⟨#[]⟩) (.int .i64 0) (.int .i64 0) (.slice none 0 0) (.slice none 0 0))) := (Keep.refl [] w).alloc _
 have hbB := heap_new w (ptBox (.int .u64 0) (.slice none 0 0) (.int .i64 0) (.int .i64 0) (.string ⟨#[]⟩) (.int .i64 0) (.int .i64 0) (.slice none 0 0) (.slice none 0 0))
 have HK1 := hyd hk1
 have HBB := hyd hbB
 have c0' := hk1.cellOf c0 (by simp)
 unfold ptBox at c0'
 clear hk1 hbB c0
 have hmm := @run_makeMap Tryz.prog
 go_enter Tryz.func36, Tryz.ntmps36
 go_wp2_with fail
 refine (HSZ.o _ HK1.o).mono ?_
 rintro e w1 ⟨rfl, hk1⟩
 have HK2 := hyd (HK1.o.trans hk1 (by simp))
 have HBB2 := hyd (blkk HBB.o hk1 (by simp))
 clear hk1 c0' HK1 HBB
 go_wp2_with fail
 refine (HRM.o _).mono ?_
 rintro e w1' ⟨rfl, rfl⟩
 go_wp2_with fail
 refine (HFR.o _ HK2.o).mono ?_
 rintro e w2 ⟨fv, f0, fo, rfl, hfr, hfo, hif, hk2⟩
 obtain ⟨fa, fc, rfl⟩ := hfr.form
 have HK3 := hyd (HK2.o.trans hk2 (by simp))
 have HBB3 := hyd (blkk HBB2.o hk2 (by simp))
 have HFRo := hyd hfr
 have HFO := hyd (fun b hb => Nat.le_trans HK2.o.size (hfo b hb))
 have HIF := hyd hif
 have hm0 := MapA.made (Value.int .i64) w2
 have HM0 := hyd hm0
 have hma : Keep [] w2 (w2.alloc (.map #[] 0)) := (Keep.refl [] w2).alloc _
 have HKM := hyd (HK3.o.trans hma (by simp))
 have HBM := hyd (blkk HBB3.o hma (by simp))
 have HFM := hyd (RowE.keep HFRo.o hma (by simp))
 have hlm : w.heap.size < w2.heap.size := (Array.getElem?_eq_some_iff.1 HBB3.o).1
 clear hfr hfo hif hk2 hm0 hma HK2 HBB2 HFR HRM HSZ HK3 HBB3 HFRo
 go_wp2_with fail
 generalize w2.alloc (.map #[] 0) = wa at *
 generalize hmb : w2.heap.size = mb at *
 clear hmb hmm
 have hnd := H.o.rt.nodup
 have HND := hyd hnd
 have hf0 := (Tkn.nil (rm := (roomN d.sz : Int)) (f0 := f0)).ok HIF.o.1 HIF.o.2.1
 clear hnd hf0
 go_loopw [11, 13, 36] (fun e11 fv' i wr => ∃ (k : Nat) (tk : List PlV) (f : List E) (o : Option Nat), k ≤ dirty.length ∧ i = .int .i64 k ∧ e11 = .int .i64 0 ∧ RowE wr fv' f o ∧ (∀ b, o = some b → w.heap.size ≤ b) ∧ Tkn (roomN d.sz : Int) f0 (tk.map (PlV.p)) f ∧ tPl tk = dPl (dirty.take k) ∧
   (∀ y ∈ tk, ∃ o, RowE wr y.v y.p.pieces o ∧ ∀ b, o = some b → w.heap.size ≤ b) ∧ MapA (Value.int .i64) wr mb (tkMap tk) ∧ wr.heap[w.heap.size]? = some (ptBox (.int .u64 0) (.slice none 0 0) (.int .i64 0) (.int .i64 0) (.string ⟨#[]⟩) (.int .i64 0) (.int .i64 0) (.slice none 0 0) (.slice none 0 0)) ∧ Keep [] w wr) (fun _ _ i _ => dirty.length - (intOf i).toNat)
 case atStart => exact ⟨0, [], f0, fo, Nat.zero_le _, rfl, rfl, HFM.o, HFO.o, Tkn.nil, rfl, by simp, HM0.o, HBM.o, HKM.o⟩
 case round =>
  obtain ⟨k, tk, f, o, hk, rfl, rfl, hrow, hon, htk, htd, hty, hmp, hbx, hkw⟩ := hrel
  obtain ⟨ga, gc, rfl⟩ := hrow.form
  have htok := htk.ok HIF.o.1 HIF.o.2.1
  have hfl : f.length ≤ 16384 := by
   have h1 := plain_len htok.plain
   have h2 := sumL_le htok.plain htok.rf
   omega
  have HROW := hyd hrow
  have HON := hyd hon
  have HTK := hyd htk
  have HTD := hyd htd
  have HTY := hyd hty
  have HMP := hyd hmp
  have HBX := hyd hbx
  have HKW := hyd hkw
  have HTOK := hyd htok
  clear hrow hon htk htd hty hmp hbx hkw htok
  by_cases hlt : k < dirty.length
  ·obtain ⟨ib, ioff, rfl, -, -, g0, g1⟩ := (H.o.hd.keep HKW.o (by simp)).at hlt
   have hpI := H.o.hd.2.1 _ (List.getElem_mem hlt)
   have hbl := H.o.hdb _ (List.getElem_mem hlt)
   have hts := List.take_succ_eq_append_getElem hlt
   have htn := take_new HND.o hlt
   obtain ⟨y, hy⟩ : ∃ y, y = dirty[k] := ⟨_, rfl⟩
   rw [← hy] at g0 g1 hpI hbl hts htn
   have HY := hyd hy
   obtain ⟨ya, yc, hyv, -, -⟩ := hpI.2.form
   rw [hyv] at g1
   have HTS := hyd hts
   have HTN := hyd htn
   clear hpI hyv hts htn hy
   have i0' : (0 : Int) ≤ (k : Int) := by omega
   have i1' : (k : Int) < (dirty.length : Int) := by omega
   have hka : Keep [] wr (wr.alloc (.cells #[.int .i64 y.pid, .slice ya y.b.length yc] 52)) := (Keep.refl [] wr).alloc _
   have HIM := hyd (heap_new wr (.cells #[.int .i64 y.pid, .slice ya y.b.length yc] 52))
   have HKA := hyd hka
   obtain ⟨ro, hrd, hro⟩ := RowE.rde (HROW.o.keep hka (by simp))
   have HND2 := hyd (fun W => need_any (y.b.length : Int) (roomN d.sz : Int) W (by omega) (by omega))
   have HTA := hyd (fun (W : World) (hk : Keep [] (wr.alloc (.cells #[.int .i64 y.pid, .slice ya y.b.length yc] 52)) W) => take_any (w := W) (needE (y.b.length : Int) (roomN d.sz : Int)) 16384 (hrd.keep hk (by simp)) (by omega) (fun b hb => by
     rcases hro with h | h
     · rw [h] at hb; cases hb
     · exact Nat.lt_of_lt_of_le (Row.lt (HROW.o.keep hka (by simp)) b (h ▸ hb)) hk.size) (by omega))
   clear hka hrd hro
   go_wp2_with fail
   clear g0 g1
   refine (HND2.o _).mono ?_
   rintro e w3 ⟨rfl, rfl⟩
   go_wp2_with fail
   refine (HTA.o _ (Keep.refl _ _)).mono ?_
   rintro e w4 ⟨vg, vl, og, ol, got, left, err, rfl, htr, hrg, hrl, hog, hol, hk4⟩
   obtain ⟨gg, gh, rfl⟩ := hrg.form
   obtain ⟨la, lc, rfl⟩ := hrl.form
   have hk4' := HKA.o.trans hk4 (by simp)
   have hi4 := blkk HIM.o hk4 (by simp)
   have HMP4 := hyd (HMP.o.keep hk4' (by simp))
   have HBX4 := hyd (blkk HBX.o hk4' (by simp))
   have HTY4 := hyd (show ∀ y ∈ tk, ∃ o, RowE w4 y.v y.p.pieces o ∧ ∀ b, o = some b → w.heap.size ≤ b from fun z hz => by obtain ⟨o, h1, h2⟩ := HTY.o z hz; exact ⟨o, h1.keep hk4' (by simp), h2⟩)
   have HKW4 := hyd (HKW.o.trans hk4' (by simp))
   have HRG := hyd hrg
   have HRL := hyd hrl
   have hsz4 := (HKW.o.trans HKA.o (by simp)).size
   have HOG := hyd (fun b hb => Nat.le_trans hsz4 (hog b hb))
   have HOL := hyd (fun b hb => Nat.le_trans hsz4 (hol b hb))
   have HTR := hyd htr
   obtain ⟨d0, d1⟩ := cells2 hi4
   clear hk4 hk4' hi4 htr hrg hrl hog hol HTA HND2 HMP HBX HTY HKW HROW HIM HKA hsz4
   by_cases herr : err = 0
   ·subst herr
    obtain ⟨yn, hyn⟩ : ∃ z : PlV, z = ⟨⟨y.pid, (y.b.length : Int), got⟩, .slice gg got.length gh⟩ := ⟨_, rfl⟩
    have hput : mput (tkMap tk) y.pid (.agg #[.int .i64 y.pid, .int .i64 (y.b.length : Nat), .slice gg got.length gh]) = tkMap (tk ++ [yn]) := by
     have h := tkMap_put (tk := tk) (y := yn) (by
       have h1 : tk.map (·.p.pid) = (dirty.take k).map (·.pid) := by
         have := congrArg (List.map (·.1)) HTD.o
         unfold tPl dPl at this
         rw [List.map_map, List.map_map] at this
         exact this
       rw [h1, hyn]
       exact HTN.o)
     rw [hyn] at h ⊢
     exact h
    have HPUT := hyd hput
    have HYN := hyd hyn
    clear hput hyn
    go_wp2_with (at_mapUpdate; refine wpList_mapA_update _ rfl _ _ _ 114 rfl 2 48 keyI Tryz.underlying114 mb (tkMap tk) rfl HMP4.o y.pid rfl (.agg #[.int .i64 y.pid, .int .i64 (y.b.length : Nat), .slice gg got.length gh]) rfl ?_; intro w5 hm5 hk5)
    rw [HPUT.o] at hm5
    have hmx : ∀ (b : Nat) (cs : Array Value) (t : TypeId), w4.heap[b]? = some (.cells cs t (0, 0)) → b ∉ [mb] := fun b cs t hb hm => by
     simp at hm
     subst hm
     obtain ⟨es, cl, h, -⟩ := HMP4.o
     rw [h] at hb
     cases hb
    have hrowk : ∀ {v : Value} {l : List E} {o : Option Nat}, RowE w4 v l o → RowE w5 v l o := fun {v l o} h => h.keep hk5 (fun b hb => by
      obtain ⟨cs, hcs⟩ := row_blk (show Row w4 _ _ _ _ _ (some b) from hb ▸ h)
      exact hmx b _ _ hcs)
    have HM5 := hyd hm5
    have HTY5 := hyd (show ∀ y ∈ tk ++ [yn], ∃ o, RowE w5 y.v y.p.pieces o ∧ ∀ b, o = some b → w.heap.size ≤ b from fun z hz => by
      rcases List.mem_append.1 hz with hz | hz
      · obtain ⟨o, h1, h2⟩ := HTY4.o z hz
        exact ⟨o, hrowk h1, h2⟩
      · obtain rfl := List.mem_singleton.1 hz
        rw [HYN.o]
        exact ⟨og, hrowk HRG.o, HOG.o⟩)
    have HRL5 := hyd (hrowk HRL.o)
    have HBX5 := hyd (blkk HBX4.o hk5 (hmx _ _ _ HBX4.o))
    have HKW5 := hyd (HKW4.o.trans hk5 (fun b hb => by simp at hb; subst hb; exact .inr (Nat.le_of_lt hlm)))
    clear hm5 hk5 hmx hrowk
    go_wp2_with fail
    go_roundw
    case rel =>
     refine ⟨k + 1, tk ++ [yn], left, ol, by omega, by go_num, rfl, HRL5.o, HOL.o, ?_, ?_, HTY5.o, HM5.o, HBX5.o, HKW5.o⟩
     ·rw [List.map_append]
      exact Tkn.snoc HTK.o (by rw [HYN.o]; exact HTR.o)
     ·rw [HTS.o]
      unfold tPl dPl at *
      rw [List.map_append, List.map_append, HTD.o, HYN.o]
      rfl
    case measure => show dirty.length - (k + 1) < dirty.length - k; omega
   ·have herr' : (err != 0) = true := by rw [bne_iff_ne]; exact herr
    obtain ⟨b0, b1, b2, b3, b4, b5, b6, b7, b8⟩ := cells9 HBX4.o
    have fb := frozen4 HBX4.o
    have HS9 := hyd (set9 HBX4.o (.int .u64 0) (.slice none 0 0) (.int .i64 0) (.int .i64 0) (.string ⟨#[]⟩) (.int .i64 0) (.int .i64 0) (.slice none 0 0) (.slice none 0 0))
    have HNO := hyd (show PlanNo d.sz f0 x src rest alive dirty from .inl ⟨k, tk, f, got, left, err, hlt, HTK.o, HTD.o, by rw [← HY.o]; exact HTR.o, herr⟩)
    clear herr
    go_wp2_with fail
    refine bodyPost_ret (results_cell_tmp (ty := 82) rfl _ _ w.heap.size _ _ _ _ rfl HS9.o.1 Tryz.underlying82 rfl pt_size) rfl ?_
    exact ⟨⟨0, [], 0, 0⟩, .slice none 0 0, man0, 240, rfl, ⟨_, _, rfl⟩, ⟨_, _, rfl⟩, ⟨_, _, rfl⟩, .inr ⟨rfl, f0, HIF.o, HNO.o⟩, HKW4.o.trans HS9.o.2 (fun b hb => by simp at hb; subst hb; exact .inr (Nat.le_refl _))⟩
  ·obtain rfl : k = dirty.length := by omega
   rw [List.take_length] at HTD
   have hsB : s < w.heap.size := (Array.getElem?_eq_some_iff.1 HB.o).1
   obtain ⟨⟨qo, hqr, hqo⟩, hql⟩ := H.o.hr
   have HCS := hyd (fun (W : World) (hk : Keep [w.heap.size] wr W) => cells22 (blkk (blkk HB.o HKW.o (by simp)) hk (by simp; omega)))
   have HCL := hyd (fun (W : World) (hk : Keep [] wr W) => p_clone (w := W) (hqr.keep (HKW.o.trans hk (by simp)) (by simp)) hql)
   clear hqr hqo
   go_upto_region 13 with fail
   refine wp_region_held_drew (S := fun w' => Keep [w.heap.size] wr w') (by kernel_rfl) ((Keep.refl [w.heap.size] wr).drew) (fun hHeld => ?_)
   refine tkL 0 ?vR0 rfl ?runR0 hHeld ?_
   case runR0 => (intro w9 hS9; obtain ⟨c0, c1, c2, c3, c4, c5, c6, c7, c8, c9, c10, c11, -⟩ := HCS.o w9 hS9; go_simp; try exact rfl)
   try simp only [Act.put, lA, lZ, lS]
   refine tkL 1 ?vR1 rfl ?runR1 hHeld ?_
   case runR1 => (intro w9 hS9; obtain ⟨c0, c1, c2, c3, c4, c5, c6, c7, c8, c9, c10, c11, -⟩ := HCS.o w9 hS9; go_simp; try exact rfl)
   try simp only [Act.put, lA, lZ, lS]
   refine tkL 2 ?vR2 rfl ?runR2 hHeld ?_
   case runR2 => (intro w9 hS9; obtain ⟨c0, c1, c2, c3, c4, c5, c6, c7, c8, c9, c10, c11, -⟩ := HCS.o w9 hS9; go_simp; try exact rfl)
   try simp only [Act.put, lA, lZ, lS]
   refine tkL 3 ?vR3 rfl ?runR3 hHeld ?_
   case runR3 => (intro w9 hS9; obtain ⟨c0, c1, c2, c3, c4, c5, c6, c7, c8, c9, c10, c11, -⟩ := HCS.o w9 hS9; go_simp; try exact rfl)
   try simp only [Act.put, lA, lZ, lS]
   refine tkL 4 ?vR4 rfl ?runR4 hHeld ?_
   case runR4 => (intro w9 hS9; obtain ⟨c0, c1, c2, c3, c4, c5, c6, c7, c8, c9, c10, c11, -⟩ := HCS.o w9 hS9; go_simp; try exact rfl)
   try simp only [Act.put, lA, lZ, lS]
   refine tkL 5 ?vR5 rfl ?runR5 hHeld ?_
   case runR5 => (intro w9 hS9; obtain ⟨c0, c1, c2, c3, c4, c5, c6, c7, c8, c9, c10, c11, -⟩ := HCS.o w9 hS9; go_simp; try exact rfl)
   try simp only [Act.put, lA, lZ, lS]
   refine wpAnyH_ready (rs := [6]) (by kernel_rfl) (by simp) ?_
   refine AllReadyH.consL rfl (fun K hK => ?_) (AllReadyH.nil)
   go_simp
   refine (HCL.o _ (Keep.refl [] wr).drew).mono ?_
   rintro e wc ⟨vr, ro, rfl, hrr, hro, hkc⟩
   have hkc' := (Keep.refl [] wr).drew.trans hkc (by simp)
   have hbc := blkk HBX.o hkc' (by simp)
   obtain ⟨za, zc, rfl, -⟩ := hrr.form
   have HRR := hyd hrr
   have HRO := hyd hro
   have HKC := hyd hkc'
   have HBC := hyd hbc
   have hS := hkc'.mono (G := [w.heap.size]) (by simp)
   clear hrr hro hkc hkc' hbc
   go_wp2_with fail
   refine hK.out _ _ hS (fun hHeld2 => ?_)
   clear hK K hHeld; have hHeld := hHeld2; clear hHeld2
   try simp only [Act.put, lA, lZ, lS]
   refine tkL 7 ?vZ7 rfl ?runZ7 hHeld ?_
   case runZ7 => (intro w9 hS9; go_simp; try exact rfl)
   try simp only [Act.put, lA, lZ, lS]
   refine tkL 8 ?vZ8 rfl ?runZ8 hHeld ?_
   case runZ8 => (intro w9 hS9; go_simp; try exact rfl)
   try simp only [Act.put, lA, lZ, lS]
   obtain ⟨b0, b1, b2, b3, b4, b5, b6, b7, b8⟩ := cells9 HBC.o
   have fb := frozen4 HBC.o
   have hs5 := set5at HBC.o (.string src) (.int .i64 x.area.1) (.int .i64 x.area.2) (.slice za rest.length zc) (.slice none 0 0)
   have HS5 := hyd hs5
   have hS2 := hS.trans hs5.2 (fun b hb => .inl hb)
   clear hs5
   refine wpAnyH_ready (rs := [9]) (by kernel_rfl) (by simp) ?_
   refine AllReadyH.consL rfl (fun K hK => ?_) (AllReadyH.nil)
   go_simp
   refine hK.out _ _ hS2 (fun hHeld2 => ?_)
   clear hK K hHeld; have hHeld := hHeld2; clear hHeld2
   try simp only [Act.put, lA, lZ, lS]
   refine wpAnyH_done (by kernel_rfl) ?_ _
   clear hHeld hS hS2 b0 b1 b2 b3 b4 b5 b6 b7 b8 fb
   have hpk : PK w mb tk (.slice ga f.length gc) f (.slice za rest.length zc) rest wc := ⟨fun z hz => by obtain ⟨o, h1, h2⟩ := HTY.o z hz; exact ⟨o, h1.keep HKC.o (by simp), h2⟩, ⟨o, HROW.o.keep HKC.o (by simp), HON.o⟩, HMP.o.keep HKC.o (by simp), ⟨ro, HRR.o, fun b hb => Nat.le_trans HKW.o.size (by have := HRO.o b hb; exact this)⟩, HKW.o.trans HKC.o (by simp)⟩
   have hpk2 := hpk.next HS5.o.2 (fun b hb => by simp at hb; subst hb; exact ⟨Nat.le_refl _, .inl ⟨_, _, HBC.o, by decide, by decide⟩⟩)
   have HPK := hyd hpk2
   have HBD := hyd HS5.o.1
   generalize ((((wc.setCell ⟨w.heap.size, 4, none⟩ (.string src)).setCell ⟨w.heap.size, 5, none⟩ (.int .i64 x.area.1)).setCell ⟨w.heap.size, 6, none⟩ (.int .i64 x.area.2)).setCell ⟨w.heap.size, 7, none⟩ (.slice za rest.length zc)).setCell ⟨w.heap.size, 8, none⟩ (.slice none 0 0) = wd at *
   clear hpk hpk2 HS5 HBC HKC HRR HRO HCS HCL HROW HON HTY HMP HBX HKW
   go_wp2_with fail
   have HFI := hyd (fun (W : World) (hk : Keep [] w W) (p : Int) (hp : I64 p) => p_find (w := W) (m := x.nm) ((H.o.st.rd.nm.keep hk (by simp)).rdm) (by have := H.o.hpl; omega) hp)
   go_loopw [76] (fun i wr' => ∃ (k : Nat) (po : Option Nat) (va : Option Addr) (vc : Nat), k ≤ alive.length ∧ i = .int .i64 k ∧ wr'.heap[w.heap.size]? = some (ptBox (.int .u64 0) (.slice none 0 0) (.int .i64 0) (.int .i64 0) (.string src) (.int .i64 x.area.1) (.int .i64 x.area.2) (.slice za rest.length zc) (.slice va ((alive.take k).map (pickV tk x.nm)).length vc)) ∧
     Row wr' 48 3 (.slice va ((alive.take k).map (pickV tk x.nm)).length vc) ((alive.take k).map (pickV tk x.nm)).length (((alive.take k).map (pickV tk x.nm)).flatMap encP) po ∧ (∀ b, po = some b → w.heap.size ≤ b) ∧ PK w mb tk (.slice ga f.length gc) f (.slice za rest.length zc) rest wr') (fun i _ => alive.length - (intOf i).toNat)
   case atStart => exact ⟨0, none, none, 0, Nat.zero_le _, rfl, HBD.o, Row.nil _ _ _, by simp, HPK.o⟩
   case round =>
    rename World => wi
    obtain ⟨k, po, va, vc, hk, rfl, hbx, hrow, hpo, hpk⟩ := hrel
    have HBX := hyd hbx
    have HROW := hyd hrow
    have HPO := hyd hpo
    have HPKi := hyd hpk
    clear hbx hrow hpo hpk
    by_cases hlt : k < alive.length
    ·obtain ⟨ab, aoff, rfl, g0⟩ := (H.o.ha.keep HPKi.o.kp (by simp)).at hlt
     have hpI := H.o.ha.2.1 _ (List.getElem_mem hlt)
     have hst : (alive.take (k + 1)).map (pickV tk x.nm) = (alive.take k).map (pickV tk x.nm) ++ [pickV tk x.nm alive[k]] := by rw [List.take_succ_eq_append_getElem hlt, List.map_append]; rfl
     obtain ⟨p, hp⟩ : ∃ p, p = alive[k] := ⟨_, rfl⟩
     rw [← hp] at g0 hpI hst
     have HST := hyd hst
     have HPI := hyd hpI
     have hfd := tkMap_find tk p
     have hplen : ((alive.take k).map (pickV tk x.nm)).length = k := by rw [List.length_map, List.length_take]; omega
     obtain ⟨pls, hpls⟩ : ∃ l, l = (alive.take k).map (pickV tk x.nm) := ⟨_, rfl⟩
     rw [← hpls] at HBX HROW HST hplen
     have hpll : pls.length ≤ 3000 := by omega
     clear hst hpI hp hpls hplen
     have i0' : (0 : Int) ≤ (k : Int) := by omega
     have i1' : (k : Int) < (alive.length : Int) := by omega
     cases hf : tk.find? (fun y => decide (y.p.pid = p)) with
     | some y =>
      have hym := List.mem_of_find?_eq_some hf
      obtain ⟨yo, hyr, -⟩ := HPKi.o.ty y hym
      obtain ⟨ya, yc, hyv⟩ := hyr.form
      have HPV := hyd (show pickV tk x.nm p = y by unfold pickV; rw [hf]; rfl)
      rw [hf] at hfd
      have hfd' : (mfind (tkMap tk) p).getD (.agg #[.int .i64 0, .int .i64 0, .slice none 0 0]) = .agg #[.int .i64 y.p.pid, .int .i64 y.p.len, .slice ya y.p.pieces.length yc] := by rw [hfd]; show aggP y = _; unfold aggP; rw [hyv]
      have hfd2 : (mfind (tkMap tk) p).isSome = true := by rw [hfd]; rfl
      have HV := hyd hyv
      have HFD := hyd hfd'
      have HFD2 := hyd hfd2
      clear hfd hfd' hfd2 hyv hyr hym hf
      go_upto_region 20 with (at_lookup; refine wpList_mapA_look_ok _ rfl _ _ 114 rfl 2 48 keyI Tryz.underlying114 (zeroP _) mb (tkMap tk) rfl HPKi.o.mp p rfl ?_; rw [HFD.o, HFD2.o])
      have hka : Keep [] wi (wi.alloc (.cells #[.int .i64 y.p.pid, .int .i64 y.p.len, .slice ya y.p.pieces.length yc] 48)) := (Keep.refl [] wi).alloc _
      have HB20 := hyd (heap_new wi (.cells #[.int .i64 y.p.pid, .int .i64 y.p.len, .slice ya y.p.pieces.length yc] 48))
      have HBX20 := hyd (blkk HBX.o hka (by simp))
      have HROW20 := hyd (HROW.o.keep hka (by simp))
      have HPK20 := hyd (HPKi.o.keep0 hka)
      have hen : encP (pickV tk x.nm p) = [.int .i64 y.p.pid, .int .i64 y.p.len, .slice ya y.p.pieces.length yc] := by rw [HPV.o]; unfold encP; rw [HV.o]
      have HEN := hyd hen
      have hb20 : w.heap.size < wi.heap.size := (Array.getElem?_eq_some_iff.1 HBX.o).1
      clear hka hen HBX HROW HPKi HPV HV HFD HFD2 g0
      generalize wi.alloc (.cells #[.int .i64 y.p.pid, .int .i64 y.p.len, .slice ya y.p.pieces.length yc] 48) = W20 at *
      generalize wi.heap.size = b20 at *
      generalize y.p.pid = y1 at *
      generalize y.p.len = y2 at *
      generalize y.p.pieces.length = yn at *
      have e8 := (cell_of HBX20.o 8).trans (show _ = some (.slice va pls.length vc) from rfl)
      obtain ⟨n0, n1, n2⟩ := cells3b HB20.o
      have hka : Keep [] W20 (W20.alloc (.cells #[.int .i64 y1, .int .i64 y2, .slice ya yn yc] 48)) := (Keep.refl [] W20).alloc _
      have HNR := hyd (HROW20.o.keep hka (by simp))
      have HNS := hyd (rd_block (n := 1) (k := 3) (heap_new W20 (.cells #[.int .i64 y1, .int .i64 y2, .slice ya yn yc] 48)) (xs := [.int .i64 y1, .int .i64 y2, .slice ya yn yc]) (by simp) (by simp [maxLen]))
      have HN1 := hyd (show ∀ u ∈ [Value.int .i64 y1, Value.int .i64 y2, Value.slice ya yn yc], u.oneCell' = true from encP_one ⟨⟨y1, y2, []⟩, .slice ya yn yc⟩ rfl)
      have HKA := hyd hka
      obtain ⟨i0, hi, hz0, hz1, hz2⟩ := info_parts plc_info
      have HI := hyd hi
      clear hka hi
      go_wp2_with (at_builtin; refine wpList_append_any _ rfl _ _ 36 36 rfl 48 48 i0 (.agg #[.int .i64 0, .int .i64 0, .slice none 0 0]) 3 40 Tryz.underlying36 Tryz.underlying36 HI.o hz0 hz1 hz2 rfl _ pls.length (pls.flatMap encP) po rfl HNR.o _ rfl 1 [.int .i64 y1, .int .i64 y2, .slice ya yn yc] (some _) HNS.o HN1.o (by first | (unfold maxLen; omega) | (simp [maxLen] <;> omega)) (by omega) ?_)
      intro v' o' w' hr' hk' hg'
      have hrow2 : Row w' 48 3 v' (pls ++ [pickV tk x.nm p]).length ((pls ++ [pickV tk x.nm p]).flatMap encP) o' := by
       rw [List.flatMap_append, List.length_append, List.flatMap_cons, List.flatMap_nil, List.append_nil, HEN.o]; exact hr'
      obtain ⟨va2, vc2, N2, hN2, rfl⟩ : ∃ a c n, n = (pls ++ [pickV tk x.nm p]).length ∧ v' = .slice a n c := by
       obtain ⟨o2, ⟨-, a, c, h, -⟩, -⟩ := hrow2.rd
       exact ⟨a, c, _, rfl, h⟩
      have HN2 := hyd hN2
      clear hN2
      have hpn : ∀ b, po = some b → ∃ cs, W20.heap[b]? = some (.cells cs 48 (0, 0)) := fun b hb => row_blk (show Row W20 _ _ _ _ _ (some b) from hb ▸ HROW20.o)
      have hpB : w.heap.size ∉ po.toList := fun hm => by
       obtain ⟨cs, h⟩ := hpn w.heap.size (by simpa using hm)
       have h2 := HBX20.o
       rw [h] at h2
       injection h2 with h2
       injection h2 with _ h2
       exact absurd h2 (by decide)
      have hbw := blkk (blkk HBX20.o HKA.o (by simp)) hk' hpB
      have hpkw := (HPK20.o.keep0 HKA.o).next hk' (fun b hb => by
        have hb' : po = some b := by simpa using hb
        refine ⟨HPO.o b hb', .inl ?_⟩
        obtain ⟨cs, h⟩ := hpn b hb'
        exact ⟨cs, _, blkk h HKA.o (by simp), by decide, by decide⟩)
      have f8 := frozen4 hbw
      have e8' := (cell_of hbw 8).trans (show _ = some (.slice va pls.length vc) from rfl)
      have hnew : ∀ b, o' = some b → w.heap.size < b := fun b hb => by
       rcases hg' b hb with h | h
       ·have h1 := HPO.o b h
        have h2 : b ≠ w.heap.size := fun e => hpB (by rw [← e, h]; simp)
        omega
       ·have h1 := HKA.o.size
        have h2 := (Array.getElem?_eq_some_iff.1 HBX20.o).1
        omega
      have hset := set_of hbw 8 (.slice va2 N2 vc2)
      have hks : Keep [w.heap.size] w' (w'.setCell ⟨w.heap.size, 8, none⟩ (.slice va2 N2 vc2)) := Keep.set1 w' ⟨w.heap.size, 8, none⟩ _
      have HBZ := hyd hset
      have HRZ := hyd (hrow2.keep hks (fun b hb => by have := hnew b hb; simp; omega))
      have HPZ := hyd (hpkw.next hks (fun b hb => by simp at hb; subst hb; exact ⟨Nat.le_refl _, .inl ⟨_, _, hbw, by decide, by decide⟩⟩))
      have HNZ := hyd hnew
      clear hr' hk' hg' hrow2 hpn hpB hbw hpkw hnew hset hks HPK20 HROW20 HBX20 HB20 HKA HNR HNS HN1 n0 n1 n2 e8
      go_wp2_with fail
      go_roundw
      case rel =>
       refine ⟨k + 1, o', va2, vc2, by omega, by go_num, ?_, ?_, fun b hb => Nat.le_of_lt (HNZ.o b hb), HPZ.o⟩
       ·rw [HST.o, ← HN2.o]; exact HBZ.o
       ·rw [HST.o, ← HN2.o]; rw [← HN2.o] at HRZ; exact HRZ.o
      case measure => show alive.length - (k + 1) < alive.length - k; omega
     | none =>
      rw [hf] at hfd
      have hfd' : (mfind (tkMap tk) p).getD (.agg #[.int .i64 0, .int .i64 0, .slice none 0 0]) = .agg #[.int .i64 0, .int .i64 0, .slice none 0 0] := by rw [hfd]; rfl
      have hfd2 : (mfind (tkMap tk) p).isSome = false := by rw [hfd]; rfl
      have HFD := hyd hfd'
      have HFD2 := hyd hfd2
      obtain ⟨y1, y2, ya, yn, yc, hfm⟩ := find_form H.o.st.rd.nm p
      have hen : encP (pickV tk x.nm p) = [.int .i64 y1, .int .i64 y2, .slice ya yn yc] := by
       have e : aggP (pickV tk x.nm p) = .agg #[.int .i64 y1, .int .i64 y2, .slice ya yn yc] := by
        unfold pickV
        rw [hf, ← hfm]
        cases findL x.nm p <;> rfl
       unfold aggP at e
       injection e with e
       have := congrArg Array.toList e
       simpa [encP] using this
      have HEN := hyd hen
      clear hfd hfd' hfd2 hf hen
      have HFI2 := hyd (fun (W : World) (hk : Keep [] w W) => HFI.o W hk p HPI.o)
      unfold FindP at HFI2
      rw [hfm] at HFI2
      unfold aggM at HFI2
      rw [e2, e3] at HFI2
      clear hfm
      have hka : Keep [] wi (wi.alloc (.cells #[.int .i64 0, .int .i64 0, .slice none 0 0] 48)) := (Keep.refl [] wi).alloc _
      have HKA := hyd hka
      have HBn := hyd (heap_new wi (.cells #[.int .i64 0, .int .i64 0, .slice none 0 0] 48))
      have hsB : s < w.heap.size := (Array.getElem?_eq_some_iff.1 HB.o).1
      obtain ⟨z0, z1, z2, z3, z4, z5, z6, z7, z8, z9, z10, z11, -⟩ := cells22 (blkk HB.o (HPKi.o.kp.trans hka (by simp)) (by simp))
      have hb20 : w.heap.size < wi.heap.size := (Array.getElem?_eq_some_iff.1 HBX.o).1
      go_wp2_with (at_lookup; refine wpList_mapA_look_ok _ rfl _ _ 114 rfl 2 48 keyI Tryz.underlying114 (zeroP _) mb (tkMap tk) rfl HPKi.o.mp p rfl ?_; rw [HFD.o, HFD2.o])
      clear z0 z1 z2 z3 z4 z5 z6 z7 z8 z9 z10 z11 g0
      refine (HFI2.o _ (HPKi.o.kp.trans HKA.o (by simp))).mono ?_
      rintro e wf ⟨hkf, rfl⟩
      have hbn := blkk HBn.o hkf (by simp)
      obtain ⟨n0, n1, n2⟩ := cells3b hbn
      have fn := frozen4 hbn
      have hs3 := set3 hbn (.int .i64 y1) (.int .i64 y2) (.slice ya yn yc)
      have HB20 := hyd hs3.1
      have hkk := HKA.o.trans hkf (by simp)
      have HBX20 := hyd (blkk (blkk HBX.o hkk (by simp)) hs3.2 (by simp; omega))
      have HROW20 := hyd ((HROW.o.keep hkk (by simp)).keep hs3.2 (fun b hb => by have := HROW.o.lt b hb; simp; omega))
      have HPK20 := hyd ((HPKi.o.keep0 hkk).next hs3.2 (fun b hb => by simp at hb; subst hb; exact ⟨by omega, .inl ⟨_, _, hbn, by decide, by decide⟩⟩))
      clear hbn hs3 hkk hkf HBX HROW HPKi HFD HFD2 HFI2 HKA HBn
      go_upto_region 20 with fail
      clear n0 n1 n2 fn
      generalize ((wf.setCell ⟨wi.heap.size, 0, none⟩ (.int .i64 y1)).setCell ⟨wi.heap.size, 1, none⟩ (.int .i64 y2)).setCell ⟨wi.heap.size, 2, none⟩ (.slice ya yn yc) = W20 at *
      generalize wi.heap.size = b20 at *
      have e8 := (cell_of HBX20.o 8).trans (show _ = some (.slice va pls.length vc) from rfl)
      obtain ⟨n0, n1, n2⟩ := cells3b HB20.o
      have hka : Keep [] W20 (W20.alloc (.cells #[.int .i64 y1, .int .i64 y2, .slice ya yn yc] 48)) := (Keep.refl [] W20).alloc _
      have HNR := hyd (HROW20.o.keep hka (by simp))
      have HNS := hyd (rd_block (n := 1) (k := 3) (heap_new W20 (.cells #[.int .i64 y1, .int .i64 y2, .slice ya yn yc] 48)) (xs := [.int .i64 y1, .int .i64 y2, .slice ya yn yc]) (by simp) (by simp [maxLen]))
      have HN1 := hyd (show ∀ u ∈ [Value.int .i64 y1, Value.int .i64 y2, Value.slice ya yn yc], u.oneCell' = true from encP_one ⟨⟨y1, y2, []⟩, .slice ya yn yc⟩ rfl)
      have HKA := hyd hka
      obtain ⟨i0, hi, hz0, hz1, hz2⟩ := info_parts plc_info
      have HI := hyd hi
      clear hka hi
      go_wp2_with (at_builtin; refine wpList_append_any _ rfl _ _ 36 36 rfl 48 48 i0 (.agg #[.int .i64 0, .int .i64 0, .slice none 0 0]) 3 40 Tryz.underlying36 Tryz.underlying36 HI.o hz0 hz1 hz2 rfl _ pls.length (pls.flatMap encP) po rfl HNR.o _ rfl 1 [.int .i64 y1, .int .i64 y2, .slice ya yn yc] (some _) HNS.o HN1.o (by first | (unfold maxLen; omega) | (simp [maxLen] <;> omega)) (by omega) ?_)
      intro v' o' w' hr' hk' hg'
      have hrow2 : Row w' 48 3 v' (pls ++ [pickV tk x.nm p]).length ((pls ++ [pickV tk x.nm p]).flatMap encP) o' := by
       rw [List.flatMap_append, List.length_append, List.flatMap_cons, List.flatMap_nil, List.append_nil, HEN.o]; exact hr'
      obtain ⟨va2, vc2, N2, hN2, rfl⟩ : ∃ a c n, n = (pls ++ [pickV tk x.nm p]).length ∧ v' = .slice a n c := by
       obtain ⟨o2, ⟨-, a, c, h, -⟩, -⟩ := hrow2.rd
       exact ⟨a, c, _, rfl, h⟩
      have HN2 := hyd hN2
      clear hN2
      have hpn : ∀ b, po = some b → ∃ cs, W20.heap[b]? = some (.cells cs 48 (0, 0)) := fun b hb => row_blk (show Row W20 _ _ _ _ _ (some b) from hb ▸ HROW20.o)
      have hpB : w.heap.size ∉ po.toList := fun hm => by
       obtain ⟨cs, h⟩ := hpn w.heap.size (by simpa using hm)
       have h2 := HBX20.o
       rw [h] at h2
       injection h2 with h2
       injection h2 with _ h2
       exact absurd h2 (by decide)
      have hbw := blkk (blkk HBX20.o HKA.o (by simp)) hk' hpB
      have hpkw := (HPK20.o.keep0 HKA.o).next hk' (fun b hb => by
        have hb' : po = some b := by simpa using hb
        refine ⟨HPO.o b hb', .inl ?_⟩
        obtain ⟨cs, h⟩ := hpn b hb'
        exact ⟨cs, _, blkk h HKA.o (by simp), by decide, by decide⟩)
      have f8 := frozen4 hbw
      have e8' := (cell_of hbw 8).trans (show _ = some (.slice va pls.length vc) from rfl)
      have hnew : ∀ b, o' = some b → w.heap.size < b := fun b hb => by
       rcases hg' b hb with h | h
       ·have h1 := HPO.o b h
        have h2 : b ≠ w.heap.size := fun e => hpB (by rw [← e, h]; simp)
        omega
       ·have h1 := HKA.o.size
        have h2 := (Array.getElem?_eq_some_iff.1 HBX20.o).1
        omega
      have hset := set_of hbw 8 (.slice va2 N2 vc2)
      have hks : Keep [w.heap.size] w' (w'.setCell ⟨w.heap.size, 8, none⟩ (.slice va2 N2 vc2)) := Keep.set1 w' ⟨w.heap.size, 8, none⟩ _
      have HBZ := hyd hset
      have HRZ := hyd (hrow2.keep hks (fun b hb => by have := hnew b hb; simp; omega))
      have HPZ := hyd (hpkw.next hks (fun b hb => by simp at hb; subst hb; exact ⟨Nat.le_refl _, .inl ⟨_, _, hbw, by decide, by decide⟩⟩))
      have HNZ := hyd hnew
      clear hr' hk' hg' hrow2 hpn hpB hbw hpkw hnew hset hks HPK20 HROW20 HBX20 HB20 HKA HNR HNS HN1 n0 n1 n2 e8
      go_wp2_with fail
      go_roundw
      case rel =>
       refine ⟨k + 1, o', va2, vc2, by omega, by go_num, ?_, ?_, fun b hb => Nat.le_of_lt (HNZ.o b hb), HPZ.o⟩
       ·rw [HST.o, ← HN2.o]; exact HBZ.o
       ·rw [HST.o, ← HN2.o]; rw [← HN2.o] at HRZ; exact HRZ.o
      case measure => show alive.length - (k + 1) < alive.length - k; omega
    ·obtain rfl : k = alive.length := by omega
     rw [List.take_length] at HBX HROW
     have hS : ∀ b, w.heap.size ≤ b → b ∉ s :: D := fun b hb hm => by
      rcases List.mem_cons.1 hm with rfl | hm
      ·omega
      ·have := H.o.st.dk.lt b hm; omega
     have htok := HTOK.o
     have htkl : ∀ y ∈ tk, I64 y.p.pid ∧ I64 y.p.len ∧ (∀ x ∈ y.p.pieces, right x = true) ∧ y.p.pieces.length ≤ 16384 := fun y hy => by
      have h1 := htok.each y.p (List.mem_map.2 ⟨y, hy, rfl⟩)
      have h2 : (y.p.pid, y.p.len) ∈ dPl dirty := by rw [← HTD.o]; exact List.mem_map.2 ⟨y, hy, rfl⟩
      obtain ⟨z, hz, he⟩ := List.mem_map.1 h2
      injection he with he1 he2
      have h3 := (H.o.hd.2.1 z hz).1
      have h4 := H.o.hdb z hz
      have h5 := plain_len h1.1
      have h6 := sumL_le h1.1 h1.2.1
      refine ⟨he1 ▸ h3, ?_, h1.2.1, by omega⟩
      rw [← he2]
      unfold I64
      omega
     have hty : ∀ (b : Nat) (cs : Array Value) (E' : TypeId), wi.heap[b]? = some (.cells cs E' (0, 0)) → E' ≠ 82 → b ≠ w.heap.size := fun b cs E' h1 h2 e => by
      subst e
      have h3 := HBX.o
      rw [h1] at h3
      injection h3 with h3
      injection h3 with _ h3
      exact h2 h3
     have hpr : ∀ p, PRd1 (fun b => b ∉ s :: D ∧ b ≠ w.heap.size) wi (pickV tk x.nm p) := fun p => pick_read HPKi.o H.o.st.rd.nm (fun b h1 h2 => ⟨h2, by omega⟩) (fun b cs h1 h2 => ⟨hS b h1, hty b cs _ h2 (by decide)⟩) htkl p
     have hpsz : ∀ p, (pickV tk x.nm p).p.pieces.length ≤ 16384 := fun p => by
      unfold pickV
      cases hf : tk.find? (fun y => decide (y.p.pid = p)) with
      | some y => exact (htkl y (List.mem_of_find?_eq_some hf)).2.2.2
      | none =>
       cases hg : findL x.nm p with
       | some y => exact H.o.hps y (List.mem_of_find?_eq_some hg)
       | none => simp
     have hpll : (alive.map (pickV tk x.nm)).length ≤ 3000 := by rw [List.length_map]; exact hal
     have hmem : ∀ y ∈ alive.map (pickV tk x.nm), PRd1 (fun b => b ∉ s :: D ∧ b ≠ w.heap.size) wi y := fun y hy => by obtain ⟨p, -, rfl⟩ := List.mem_map.1 hy; exact hpr p
     have hmem2 : ∀ y ∈ alive.map (pickV tk x.nm), y.p.pieces.length ≤ 16384 := fun y hy => by obtain ⟨p, -, rfl⟩ := List.mem_map.1 hy; exact hpsz p
     obtain ⟨pls, hpls⟩ : ∃ l, l = alive.map (pickV tk x.nm) := ⟨_, rfl⟩
     have HPE := hyd hpls
     rw [← hpls] at HBX HROW hpll hmem hmem2
     obtain ⟨m, hm⟩ : ∃ m : MnV, m = ⟨src, x.area, .slice za rest.length zc, rest, .slice va pls.length vc, pls⟩ := ⟨_, rfl⟩
     have harea : 0 ≤ x.area.1 ∧ 0 ≤ x.area.2 ∧ x.area.1 + x.area.2 ≤ d.n := H.o.hin _ (by unfold usedL; simp)
     have hdn := H.o.st.dk.isok.2.1
     have hmrd : MRd (fun b => b ∉ s :: D ∧ b ≠ w.heap.size) wi m := by
      rw [hm]
      refine ⟨by have := H.o.hsrc; show src.size ≤ _; omega, (show ExtOk x.area from ⟨by unfold I64; omega, by unfold I64; omega⟩), ?_, ?_⟩
      ·obtain ⟨o, h1, h2⟩ := HPKi.o.rs
       obtain ⟨o', h3, h4⟩ := Row.rd h1
       refine ⟨⟨o', h3, fun b hb => ?_⟩, by have := H.o.hrl; omega⟩
       rcases h4 with h4 | h4
       ·rw [h4] at hb; cases hb
       ·have hob := h4.symm.trans hb
        obtain ⟨cs, hcs⟩ := row_blk (show Row wi 5 _ _ _ _ (some b) from hob ▸ h1)
        exact ⟨h1.lt b (h4 ▸ hb), hS b (h2 b (h4 ▸ hb)), hty b cs _ hcs (by decide)⟩
      ·obtain ⟨o', h3, h4⟩ := HROW.o.rd
       refine ⟨⟨o', h3, fun b hb => ?_⟩, hmem, by show pls.length ≤ _; omega⟩
       rcases h4 with h4 | h4
       ·rw [h4] at hb; cases hb
       ·have hob := h4.symm.trans hb
        obtain ⟨cs, hcs⟩ := row_blk (show Row wi 48 _ _ _ _ (some b) from hob ▸ HROW.o)
        exact ⟨HROW.o.lt b (h4 ▸ hb), hS b (HPO.o b (h4 ▸ hb)), hty b cs _ hcs (by decide)⟩
     have hml : (manL m.man).length ≤ 1000000000 := manL_le (by rw [hm]; have := H.o.hsrc; show src.data.toList.length ≤ _; simpa using this) (by rw [hm]; exact H.o.hrl) (by rw [hm]; show (pls.map _).length ≤ _; rw [List.length_map]; exact hpll) (fun p hp => by rw [hm] at hp; obtain ⟨y, hy, rfl⟩ := List.mem_map.1 hp; exact hmem2 y hy)
     have hput := p_put hmrd.rdm hml
     unfold aggM at hput
     have HPT := hyd hput
     rw [hm] at HPT
     simp only at HPT
     rw [← hm] at HPT
     have HMRD := hyd hmrd
     have HM := hyd (show m.s = src ∧ m.area = x.area ∧ m.rest = rest ∧ m.places = alive.map (pickV tk x.nm) ∧ m.rv = .slice za rest.length zc ∧ m.pv = .slice va pls.length vc from by rw [hm]; exact ⟨rfl, rfl, rfl, hpls, rfl, rfl⟩)
     have hrl := H.o.hrl
     have htl := plain_len htok.plain
     have htl2 := sumL_le htok.plain htok.rf
     obtain ⟨ml, hmle⟩ : ∃ n, n = (manL m.man).length := ⟨_, rfl⟩
     have HML := hyd hmle
     rw [← hmle] at hml
     clear hput hmrd hmem hmem2 hpsz hpr htkl htok harea hm hpls hty
     have HSS := hyd hS
     clear hS
     obtain ⟨b0, b1, b2, b3, b4, b5, b6, b7, b8⟩ := cells9 HBX.o
     go_wp2_with fail
     refine HPT.o.mono ?_
     rintro e w5 ⟨v5, o5, rfl, hrb5, -, hk5⟩
     obtain ⟨qa5, qc5, rfl, -⟩ := hrb5.form
     rw [← hmle]
     have HBX5 := hyd (blkk HBX.o hk5 (by simp))
     have HPK5 := hyd (HPKi.o.keep0 hk5)
     have HMRD5 := hyd (HMRD.o.keep hk5 (by simp))
     clear hrb5 hk5 HPT hmle b0 b1 b2 b3 b4 b5 b6 b7 b8 HBX HPKi HMRD HROW HPO
     go_wp2_with fail
     have HND2 := hyd (fun W => need_any (ml : Int) (roomN d.sz : Int) W (by omega) (by omega))
     refine (HND2.o _).mono ?_
     rintro e w5' ⟨rfl, rfl⟩
     go_wp2_with fail
     have HTA := hyd (show Calls Tryz.prog 60 #[.int .i64 (needE (ml : Int) (roomN d.sz : Int)), .int .i64 8, .slice ga f.length gc] w5 (TakeP w5 (needE (ml : Int) (roomN d.sz : Int)) 8 f) from by
       obtain ⟨fo', hfr, -⟩ := HPK5.o.fr
       obtain ⟨ro, hrd, hro⟩ := RowE.rde hfr
       exact take_any _ 8 hrd (by omega) (fun b hb => by
         rcases hro with h | h
         · rw [h] at hb; cases hb
         · exact Row.lt hfr b (h ▸ hb)) (by omega))
     refine HTA.o.mono ?_
     rintro e w6 ⟨vg, vl, og, ol, gm, f2, err, rfl, htr, hrg, hrl2, hog, -, hk6⟩
     obtain ⟨gg, gh, rfl⟩ := hrg.form
     obtain ⟨la, lc, rfl⟩ := hrl2.form
     have HBX6 := hyd (blkk HBX5.o hk6 (by simp))
     have HPK6 := hyd (HPK5.o.keep0 hk6)
     have HMRD6 := hyd (HMRD5.o.keep hk6 (by simp))
     have hsz5 := (Array.getElem?_eq_some_iff.1 HBX5.o).1
     have HRG := hyd hrg
     have HOG := hyd (fun b hb => Nat.lt_of_lt_of_le hsz5 (hog b hb))
     have HTR := hyd htr
     clear hrg hrl2 hog hk6 htr HTA HND2 HBX5 HPK5 HMRD5 hsz5
     go_upto_region 24 with fail
     have hsB : s < w.heap.size := (Array.getElem?_eq_some_iff.1 HB.o).1
     have HCS := hyd (fun (W : World) (hk : Keep [w.heap.size] w6 W) => cells22 (blkk (blkk HB.o HPK6.o.kp (by simp)) hk (by simp; omega)))
     have hgen := H.o.hgen
     have hep := H.o.hep
     have hwg : IntKind.u64.wrap ((x.ns.gen : Int) + 1) = ((x.ns.gen + 1 : Nat) : Int) := (IntWalk.u64_in _ (by omega)).trans (by omega)
     have hwe : IntKind.i64.wrap (x.ns.ep + 1) = x.ns.ep + 1 := IntWalk.i64_in _ (by omega)
     refine wp_region_held_drew (S := fun w' => Keep [w.heap.size] w6 w') (by kernel_rfl) ((Keep.refl [w.heap.size] w6).drew) (fun hHeld => ?_)
     have hbc : (w6.drew).heap[w.heap.size]? = _ := HBX6.o
     have hkd : Keep [] w6 w6.drew := (Keep.refl [] w6).drew
     generalize w6.drew = w7 at *
     refine tkL 0 ?vV0 rfl ?runV0 hHeld ?_
     case runV0 => (intro w9 hS9; obtain ⟨c0, c1, c2, c3, c4, c5, c6, c7, c8, c9, c10, c11, -⟩ := HCS.o w9 hS9; go_simp; try exact rfl)
     try simp only [Act.put, lA, lZ, lS]
     refine tkL 1 ?vV1 rfl ?runV1 hHeld ?_
     case runV1 => (intro w9 hS9; obtain ⟨c0, c1, c2, c3, c4, c5, c6, c7, c8, c9, c10, c11, -⟩ := HCS.o w9 hS9; go_simp; try exact rfl)
     try simp only [Act.put, lA, lZ, lS]
     refine tkL 2 ?vV2 rfl ?runV2 hHeld ?_
     case runV2 => (intro w9 hS9; obtain ⟨c0, c1, c2, c3, c4, c5, c6, c7, c8, c9, c10, c11, -⟩ := HCS.o w9 hS9; go_simp; try exact rfl)
     try simp only [Act.put, lA, lZ, lS]
     refine tkL 3 ?vV3 rfl ?runV3 hHeld ?_
     case runV3 => (intro w9 hS9; obtain ⟨c0, c1, c2, c3, c4, c5, c6, c7, c8, c9, c10, c11, -⟩ := HCS.o w9 hS9; go_simp; try exact rfl)
     try simp only [Act.put, lA, lZ, lS]
     refine tkL 4 ?vV4 rfl ?runV4 hHeld ?_
     case runV4 => (intro w9 hS9; obtain ⟨c0, c1, c2, c3, c4, c5, c6, c7, c8, c9, c10, c11, -⟩ := HCS.o w9 hS9; go_simp; try exact rfl)
     try simp only [Act.put, lA, lZ, lS]
     refine tkL 5 ?vV5 rfl ?runV5 hHeld ?_
     case runV5 => (intro w9 hS9; obtain ⟨c0, c1, c2, c3, c4, c5, c6, c7, c8, c9, c10, c11, -⟩ := HCS.o w9 hS9; go_simp; try exact rfl)
     try simp only [Act.put, lA, lZ, lS]
     refine tkL 6 ?vV6 rfl ?runV6 hHeld ?_
     case runV6 => (intro w9 hS9; obtain ⟨c0, c1, c2, c3, c4, c5, c6, c7, c8, c9, c10, c11, -⟩ := HCS.o w9 hS9; go_simp; try exact rfl)
     try simp only [Act.put, lA, lZ, lS]
     refine tkL 7 ?vV7 rfl ?runV7 hHeld ?_
     case runV7 => (intro w9 hS9; obtain ⟨c0, c1, c2, c3, c4, c5, c6, c7, c8, c9, c10, c11, -⟩ := HCS.o w9 hS9; go_simp; try exact rfl)
     try simp only [Act.put, lA, lZ, lS]
     refine tkL 8 ?vV8 rfl ?runV8 hHeld ?_
     case runV8 => (intro w9 hS9; obtain ⟨c0, c1, c2, c3, c4, c5, c6, c7, c8, c9, c10, c11, -⟩ := HCS.o w9 hS9; go_simp; try exact rfl)
     try simp only [Act.put, lA, lZ, lS]
     refine tkL 9 ?vV9 rfl ?runV9 hHeld ?_
     case runV9 => (intro w9 hS9; obtain ⟨c0, c1, c2, c3, c4, c5, c6, c7, c8, c9, c10, c11, -⟩ := HCS.o w9 hS9; go_simp; try exact rfl)
     try simp only [Act.put, lA, lZ, lS]
     refine tkL 10 ?vV10 rfl ?runV10 hHeld ?_
     case runV10 => (intro w9 hS9; obtain ⟨c0, c1, c2, c3, c4, c5, c6, c7, c8, c9, c10, c11, -⟩ := HCS.o w9 hS9; go_simp; try exact rfl)
     try simp only [Act.put, lA, lZ, lS]
     refine tkL 11 ?vV11 rfl ?runV11 hHeld ?_
     case runV11 => (intro w9 hS9; obtain ⟨c0, c1, c2, c3, c4, c5, c6, c7, c8, c9, c10, c11, -⟩ := HCS.o w9 hS9; go_simp; try exact rfl)
     try simp only [Act.put, lA, lZ, lS]
     refine tkL 12 ?vV12 rfl ?runV12 hHeld ?_
     case runV12 => (intro w9 hS9; obtain ⟨c0, c1, c2, c3, c4, c5, c6, c7, c8, c9, c10, c11, -⟩ := HCS.o w9 hS9; go_simp; try exact rfl)
     try simp only [Act.put, lA, lZ, lS]
     refine tkL 13 ?vV13 rfl ?runV13 hHeld ?_
     case runV13 => (intro w9 hS9; obtain ⟨c0, c1, c2, c3, c4, c5, c6, c7, c8, c9, c10, c11, -⟩ := HCS.o w9 hS9; go_simp; try exact rfl)
     try simp only [Act.put, lA, lZ, lS]
     refine tkL 14 ?vV14 rfl ?runV14 hHeld ?_
     case runV14 => (intro w9 hS9; obtain ⟨c0, c1, c2, c3, c4, c5, c6, c7, c8, c9, c10, c11, -⟩ := HCS.o w9 hS9; go_simp; try exact rfl)
     try simp only [Act.put, lA, lZ, lS]
     refine tkL 15 ?vV15 rfl ?runV15 hHeld ?_
     case runV15 => (intro w9 hS9; obtain ⟨c0, c1, c2, c3, c4, c5, c6, c7, c8, c9, c10, c11, -⟩ := HCS.o w9 hS9; go_simp; try exact rfl)
     try simp only [Act.put, lA, lZ, lS]
     refine tkL 16 ?vV16 rfl ?runV16 hHeld ?_
     case runV16 => (intro w9 hS9; obtain ⟨c0, c1, c2, c3, c4, c5, c6, c7, c8, c9, c10, c11, -⟩ := HCS.o w9 hS9; go_simp; try exact rfl)
     try simp only [Act.put, lA, lZ, lS]
     refine tkL 17 ?vV17 rfl ?runV17 hHeld ?_
     case runV17 => (intro w9 hS9; obtain ⟨c0, c1, c2, c3, c4, c5, c6, c7, c8, c9, c10, c11, -⟩ := HCS.o w9 hS9; go_simp; try exact rfl)
     try simp only [Act.put, lA, lZ, lS]
     obtain ⟨b0, b1, b2, b3, b4, b5, b6, b7, b8⟩ := cells9 hbc
     have fb := frozen4 hbc
     have hs4 := set4at hbc (.int .u64 ((x.ns.gen : Int) + 1)) (.slice gg gm.length gh) (.int .i64 (ml : Nat)) (.int .i64 (x.ns.ep + 1))
     have HS4 := hyd hs4
     have hS2 := hHeld.trans hs4.2 (fun b hb => .inl hb)
     clear hs4
     refine wpAnyH_ready (rs := [18]) (by kernel_rfl) (by simp) ?_
     refine AllReadyH.consL rfl (fun K hK => ?_) (AllReadyH.nil)
     go_simp
     refine hK.out _ _ hS2 (fun hHeld2 => ?_)
     clear hK K hHeld; have hHeld := hHeld2; clear hHeld2
     try simp only [Act.put, lA, lZ, lS]
     refine wpAnyH_done (by kernel_rfl) ?_ _
     clear hHeld hS2 b0 b1 b2 b3 b4 b5 b6 b7 b8 fb hbc
     have hb6 : w.heap.size < w6.heap.size := (Array.getElem?_eq_some_iff.1 HBX6.o).1
     have HB8 := hyd HS4.o.1
     have HK8 := hyd ((hkd.mono (G := [w.heap.size]) (by simp)).trans HS4.o.2 (fun b hb => .inl hb))
     generalize (((w7.setCell ⟨w.heap.size, 0, none⟩ (.int .u64 ((x.ns.gen : Int) + 1))).setCell ⟨w.heap.size, 1, none⟩ (.slice gg gm.length gh)).setCell ⟨w.heap.size, 2, none⟩ (.int .i64 (ml : Nat))).setCell ⟨w.heap.size, 3, none⟩ (.int .i64 (x.ns.ep + 1)) = w8 at *
     have HEND := hyd (fun (W : World) (hk : Keep [w.heap.size] w6 W) => And.intro (fun (hgm : ∀ x ∈ gm, right x = true) => RowE.xrd (S := fun b => b ∉ s :: D) (RowE.keep HRG.o hk (fun b hb => by have := HOG.o b hb; simp; omega)) (fun x hx => right_ok (hgm x hx)) (by
         have h1 := HTR.o
         have h2 := HTOK.o
         by_cases h : err = 0
         · subst h
           have h3 := take_ok h2.plain h2.rf h1
           have := h3.len
           omega
         · rw [take_nil h1 h]; simp) (fun b hb => HSS.o b (Nat.le_of_lt (HOG.o b hb)))) (And.intro (HMRD6.o.keep hk (by simp) |>.mono (fun b _ h => h.1)) (HPK6.o.kp.trans hk (fun b hb => by simp at hb; subst hb; exact .inr (Nat.le_refl _)))))
     have HAG := hyd (show aggPt ⟨x.ns.gen + 1, gm, (ml : Int), x.ns.ep + 1⟩ (.slice gg gm.length gh) m = .agg #[.int .u64 ((x.ns.gen : Int) + 1), .slice gg gm.length gh, .int .i64 (ml : Nat), .int .i64 (x.ns.ep + 1), .string src, .int .i64 x.area.1, .int .i64 x.area.2, .slice za rest.length zc, .slice va pls.length vc] from by
       unfold aggPt
       rw [HM.o.1, HM.o.2.1, HM.o.2.2.2.2.1, HM.o.2.2.2.2.2]
       rfl)
     have HNO := hyd (show (err ≠ 0 ∨ 1048576 < ml ∨ roomN d.sz < (loadL ⟨x.ns.gen + 1, gm, (ml : Int), x.ns.ep + 1⟩).length) → PlanNo d.sz f0 x src rest alive dirty from fun h => .inr ⟨tk, f, gm, f2, err, m, HTK.o, HTD.o, HM.o.1, HM.o.2.1, HM.o.2.2.1, HM.o.2.2.2.1, by rw [← HML.o]; exact HTR.o, by rw [← HML.o]; exact h⟩)
     have HFM := hyd (show (∃ a cc, m.rv = .slice a m.rest.length cc) ∧ (∃ a cc, m.pv = .slice a m.places.length cc) from ⟨⟨za, zc, by rw [HM.o.2.2.2.2.1, HM.o.2.2.1]⟩, va, vc, by rw [HM.o.2.2.2.2.2, HPE.o, HM.o.2.2.2.1]⟩)
     have HCC := hyd (fun (W : World) (hk : Keep [] w8 W) => cells9 (blkk HB8.o hk (by simp)))
     have hs0 : (fun W => Keep [] w8 W) w8 := Keep.refl _ _
     clear HS4 hkd HBX6 hs0
     go_upto_region 25 with fail
     by_cases herr : err = 0
     ·subst herr
      by_cases hbig : 1048576 < ml
      ·have hbig' : (1048576 : Int) < (ml : Int) := by omega
       have HN1 := hyd (HNO.o (.inr (.inl hbig)))
       refine wp_region_held_drew (S := fun w' => Keep [] w8 w') (by kernel_rfl) ((Keep.refl [] w8).drew) (fun hHeld => ?_)
       have hb9 : (w8.drew).heap[w.heap.size]? = _ := HB8.o
       have hk9 : Keep [w.heap.size] w6 w8.drew := HK8.o.trans ((Keep.refl [] w8).drew.mono (by simp)) (fun b hb => .inl hb)
       generalize w8.drew = w9' at *
       refine tkL 0 ?vWB0 rfl ?runWB0 hHeld ?_
       case runWB0 => (intro w9 hS9; obtain ⟨b0, b1, b2, b3, b4, b5, b6, b7, b8⟩ := HCC.o w9 hS9; go_simp; try exact rfl)
       try simp only [Act.put, lA, lZ, lS]
       refine tkL 1 ?vWB1 rfl ?runWB1 hHeld ?_
       case runWB1 => (intro w9 hS9; obtain ⟨b0, b1, b2, b3, b4, b5, b6, b7, b8⟩ := HCC.o w9 hS9; go_simp; try exact rfl)
       try simp only [Act.put, lA, lZ, lS]
       refine tkL 2 ?vWB2 rfl ?runWB2 hHeld ?_
       case runWB2 => (intro w9 hS9; obtain ⟨b0, b1, b2, b3, b4, b5, b6, b7, b8⟩ := HCC.o w9 hS9; go_simp; try exact rfl)
       try simp only [Act.put, lA, lZ, lS]
       refine tkL 3 ?vWB3 rfl ?runWB3 hHeld ?_
       case runWB3 => (intro w9 hS9; obtain ⟨b0, b1, b2, b3, b4, b5, b6, b7, b8⟩ := HCC.o w9 hS9; go_simp; try exact rfl)
       try simp only [Act.put, lA, lZ, lS]
       refine tkL 4 ?vWB4 rfl ?runWB4 hHeld ?_
       case runWB4 => (intro w9 hS9; obtain ⟨b0, b1, b2, b3, b4, b5, b6, b7, b8⟩ := HCC.o w9 hS9; go_simp; try exact rfl)
       try simp only [Act.put, lA, lZ, lS]
       refine tkL 5 ?vWB5 rfl ?runWB5 hHeld ?_
       case runWB5 => (intro w9 hS9; obtain ⟨b0, b1, b2, b3, b4, b5, b6, b7, b8⟩ := HCC.o w9 hS9; go_simp; try exact rfl)
       try simp only [Act.put, lA, lZ, lS]
       refine tkL 6 ?vWB6 rfl ?runWB6 hHeld ?_
       case runWB6 => (intro w9 hS9; obtain ⟨b0, b1, b2, b3, b4, b5, b6, b7, b8⟩ := HCC.o w9 hS9; go_simp; try exact rfl)
       try simp only [Act.put, lA, lZ, lS]
       refine skL 7 rfl hHeld ?_
       try simp only [Act.put, lA, lZ, lS]
       refine skL 8 rfl hHeld ?_
       try simp only [Act.put, lA, lZ, lS]
       refine skL 9 rfl hHeld ?_
       try simp only [Act.put, lA, lZ, lS]
       refine skL 10 rfl hHeld ?_
       try simp only [Act.put, lA, lZ, lS]
       refine skL 11 rfl hHeld ?_
       try simp only [Act.put, lA, lZ, lS]
       refine skL 12 rfl hHeld ?_
       try simp only [Act.put, lA, lZ, lS]
       refine skL 13 rfl hHeld ?_
       try simp only [Act.put, lA, lZ, lS]
       refine skL 14 rfl hHeld ?_
       try simp only [Act.put, lA, lZ, lS]
       refine skL 15 rfl hHeld ?_
       try simp only [Act.put, lA, lZ, lS]
       refine tkL 16 ?vWB16 rfl ?runWB16 hHeld ?_
       case runWB16 => (intro w9 hS9; obtain ⟨b0, b1, b2, b3, b4, b5, b6, b7, b8⟩ := HCC.o w9 hS9; go_simp; try exact rfl)
       try simp only [Act.put, lA, lZ, lS]
       refine wpAnyH_done (by kernel_rfl) ?_ _
       clear hHeld
       have HS9 := hyd (set9 hb9 (.int .u64 ((x.ns.gen : Int) + 1)) (.slice gg gm.length gh) (.int .i64 (ml : Nat)) (.int .i64 (x.ns.ep + 1)) (.string src) (.int .i64 x.area.1) (.int .i64 x.area.2) (.slice za rest.length zc) (.slice va pls.length vc))
       have HKE := hyd (hk9.trans HS9.o.2 (fun b hb => .inl hb))
       obtain ⟨b0, b1, b2, b3, b4, b5, b6, b7, b8⟩ := cells9 hb9
       have fb := frozen4 hb9
       clear hb9 hk9
       go_wp2_with fail
       refine bodyPost_ret (results_cell_tmp (ty := 82) rfl _ _ w.heap.size _ _ _ _ rfl HS9.o.1 Tryz.underlying82 rfl pt_size) rfl ?_
       exact ⟨⟨x.ns.gen + 1, gm, (ml : Int), x.ns.ep + 1⟩, _, m, 240, by rw [HAG.o]; rfl, ⟨_, _, rfl⟩, HFM.o.1, HFM.o.2, .inr ⟨rfl, f0, HIF.o, HN1.o⟩, (HEND.o _ HKE.o).2.2⟩
      ·have hbig' : ¬ (1048576 : Int) < (ml : Int) := by omega
       have htk8 := take_ok HTOK.o.plain HTOK.o.rf HTR.o
       have hg8 := htk8.len
       have hgr := htk8.rg
       have HGR := hyd hgr
       have HCS2 := hyd (fun (W : World) (hk : Keep [] w8 W) => And.intro ((cell_of (blkk (blkk HB.o (HEND.o w8 HK8.o).2.2 (by simp)) hk (by simp)) 0).trans (show _ = some (.pointer (some ⟨q, 0, none⟩)) from rfl)) (HCC.o W hk))
       have HSZ2 := hyd (fun (W : World) (hk : Keep [w.heap.size] w6 W) => by
         obtain ⟨gb, c, logv, logs, lo, s', r, -, h1, -, -, -, -, ok⟩ := H.o.st.dk.keep0 (HEND.o W hk).2.2
         exact p_size h1)
       obtain ⟨LN, hLN⟩ : ∃ n, n = (loadL ⟨x.ns.gen + 1, gm, (ml : Int), x.ns.ep + 1⟩).length := ⟨_, rfl⟩
       have HFIT := hyd (fun (W : World) (hk : Keep [w.heap.size] w6 W) => by
         obtain ⟨⟨o, h1, -⟩, -, -⟩ := (HEND.o W hk).1 hgr
         exact st_fits (w := W) (size := d.sz) (x := ⟨x.ns.gen + 1, gm, (ml : Int), x.ns.ep + 1⟩) (pv := .slice gg gm.length gh) h1 (by show gm.length ≤ _; omega) (fun e he => by have := (right_iff e).1 (hgr e he); omega) (by show 0 ≤ (ml : Int) ∧ (ml : Int) ≤ _; omega) (by show 0 ≤ x.ns.ep + 1 ∧ x.ns.ep + 1 ≤ _; omega))
       unfold aggS at HFIT
       simp only at HFIT
       rw [← hLN] at HFIT HNO
       have hcast : ((x.ns.gen + 1 : Nat) : Int) = (x.ns.gen : Int) + 1 := by omega
       rw [hcast] at HFIT
       clear hgr hcast htk8
       by_cases hfit : LN ≤ roomN d.sz
       ·rw [decide_eq_true hfit] at HFIT
        refine wp_region_held_drew (S := fun w' => Keep [] w8 w') (by kernel_rfl) ((Keep.refl [] w8).drew) (fun hHeld => ?_)
        have hb9 : (w8.drew).heap[w.heap.size]? = _ := HB8.o
        have hk9 : Keep [w.heap.size] w6 w8.drew := HK8.o.trans ((Keep.refl [] w8).drew.mono (by simp)) (fun b hb => .inl hb)
        generalize w8.drew = w9' at *
        refine tkL 0 ?vWC0 rfl ?runWC0 hHeld ?_
        case runWC0 => (intro w9 hS9; obtain ⟨a0, b0, b1, b2, b3, b4, b5, b6, b7, b8⟩ := HCS2.o w9 hS9; go_simp; try exact rfl)
        try simp only [Act.put, lA, lZ, lS]
        refine tkL 1 ?vWC1 rfl ?runWC1 hHeld ?_
        case runWC1 => (intro w9 hS9; obtain ⟨a0, b0, b1, b2, b3, b4, b5, b6, b7, b8⟩ := HCS2.o w9 hS9; go_simp; try exact rfl)
        try simp only [Act.put, lA, lZ, lS]
        refine tkL 2 ?vWC2 rfl ?runWC2 hHeld ?_
        case runWC2 => (intro w9 hS9; obtain ⟨a0, b0, b1, b2, b3, b4, b5, b6, b7, b8⟩ := HCS2.o w9 hS9; go_simp; try exact rfl)
        try simp only [Act.put, lA, lZ, lS]
        refine tkL 3 ?vWC3 rfl ?runWC3 hHeld ?_
        case runWC3 => (intro w9 hS9; obtain ⟨a0, b0, b1, b2, b3, b4, b5, b6, b7, b8⟩ := HCS2.o w9 hS9; go_simp; try exact rfl)
        try simp only [Act.put, lA, lZ, lS]
        refine tkL 4 ?vWC4 rfl ?runWC4 hHeld ?_
        case runWC4 => (intro w9 hS9; obtain ⟨a0, b0, b1, b2, b3, b4, b5, b6, b7, b8⟩ := HCS2.o w9 hS9; go_simp; try exact rfl)
        try simp only [Act.put, lA, lZ, lS]
        refine tkL 5 ?vWC5 rfl ?runWC5 hHeld ?_
        case runWC5 => (intro w9 hS9; obtain ⟨a0, b0, b1, b2, b3, b4, b5, b6, b7, b8⟩ := HCS2.o w9 hS9; go_simp; try exact rfl)
        try simp only [Act.put, lA, lZ, lS]
        refine tkL 6 ?vWC6 rfl ?runWC6 hHeld ?_
        case runWC6 => (intro w9 hS9; obtain ⟨a0, b0, b1, b2, b3, b4, b5, b6, b7, b8⟩ := HCS2.o w9 hS9; go_simp; try exact rfl)
        try simp only [Act.put, lA, lZ, lS]
        refine tkL 7 ?vWC7 rfl ?runWC7 hHeld ?_
        case runWC7 => (intro w9 hS9; obtain ⟨a0, b0, b1, b2, b3, b4, b5, b6, b7, b8⟩ := HCS2.o w9 hS9; go_simp; try exact rfl)
        try simp only [Act.put, lA, lZ, lS]
        refine tkL 8 ?vWC8 rfl ?runWC8 hHeld ?_
        case runWC8 => (intro w9 hS9; obtain ⟨a0, b0, b1, b2, b3, b4, b5, b6, b7, b8⟩ := HCS2.o w9 hS9; go_simp; try exact rfl)
        try simp only [Act.put, lA, lZ, lS]
        refine tkL 9 ?vWC9 rfl ?runWC9 hHeld ?_
        case runWC9 => (intro w9 hS9; obtain ⟨a0, b0, b1, b2, b3, b4, b5, b6, b7, b8⟩ := HCS2.o w9 hS9; go_simp; try exact rfl)
        try simp only [Act.put, lA, lZ, lS]
        refine tkL 10 ?vWC10 rfl ?runWC10 hHeld ?_
        case runWC10 => (intro w9 hS9; obtain ⟨a0, b0, b1, b2, b3, b4, b5, b6, b7, b8⟩ := HCS2.o w9 hS9; go_simp; try exact rfl)
        try simp only [Act.put, lA, lZ, lS]
        refine tkL 12 ?vWC12 rfl ?runWC12 hHeld ?_
        case runWC12 => (intro w9 hS9; obtain ⟨a0, b0, b1, b2, b3, b4, b5, b6, b7, b8⟩ := HCS2.o w9 hS9; go_simp; try exact rfl)
        try simp only [Act.put, lA, lZ, lS]
        refine tkL 13 ?vWC13 rfl ?runWC13 hHeld ?_
        case runWC13 => (intro w9 hS9; obtain ⟨a0, b0, b1, b2, b3, b4, b5, b6, b7, b8⟩ := HCS2.o w9 hS9; go_simp; try exact rfl)
        try simp only [Act.put, lA, lZ, lS]
        refine wpAnyH_ready (rs := [11]) (by kernel_rfl) (by simp) ?_
        refine AllReadyH.consL rfl (fun K hK => ?_) (AllReadyH.nil)
        go_simp
        refine (HSZ2.o _ hk9).mono ?_
        rintro e wk1 ⟨rfl, hkc1⟩
        have hS1 := hHeld.trans hkc1 (by simp)
        have hk91 := hk9.trans (hkc1.mono (G := [w.heap.size]) (by simp)) (fun b hb => .inl hb)
        have hb91 := blkk hb9 hkc1 (by simp)
        go_wp2_with fail
        refine hK.out _ _ hS1 (fun hHeld2 => ?_)
        clear hK K hHeld; have hHeld := hHeld2; clear hHeld2
        try simp only [Act.put, lA, lZ, lS]
        refine wpAnyH_ready (rs := [14]) (by kernel_rfl) (by simp) ?_
        refine AllReadyH.consL rfl (fun K hK => ?_) (AllReadyH.nil)
        go_simp
        refine (HFIT.o _ hk91).mono ?_
        rintro e wk2 ⟨rfl, hkc2⟩
        have hS2 := hHeld.trans hkc2 (by simp)
        have hk92 := hk91.trans (hkc2.mono (G := [w.heap.size]) (by simp)) (fun b hb => .inl hb)
        have hb92 := blkk hb91 hkc2 (by simp)
        go_wp2_with fail
        refine hK.out _ _ hS2 (fun hHeld2 => ?_)
        clear hK K hHeld; have hHeld := hHeld2; clear hHeld2
        try simp only [Act.put, lA, lZ, lS]
        refine tkL 15 ?vXC15 rfl ?runXC15 hHeld ?_
        case runXC15 => (intro w9 hS9; go_simp; try exact rfl)
        try simp only [Act.put, lA, lZ, lS]
        refine tkL 16 ?vXC16 rfl ?runXC16 hHeld ?_
        case runXC16 => (intro w9 hS9; go_simp; try exact rfl)
        try simp only [Act.put, lA, lZ, lS]
        refine wpAnyH_done (by kernel_rfl) ?_ _
        clear hHeld
        have HS9 := hyd (set9 hb92 (.int .u64 ((x.ns.gen : Int) + 1)) (.slice gg gm.length gh) (.int .i64 (ml : Nat)) (.int .i64 (x.ns.ep + 1)) (.string src) (.int .i64 x.area.1) (.int .i64 x.area.2) (.slice za rest.length zc) (.slice va pls.length vc))
        have HKE := hyd (hk92.trans HS9.o.2 (fun b hb => .inl hb))
        obtain ⟨b0, b1, b2, b3, b4, b5, b6, b7, b8⟩ := cells9 hb92
        have fb := frozen4 hb92
        clear hb9 hk9 hb91 hk91 hb92 hk92 hS1 hS2 hkc1 hkc2
        go_wp2_with fail
        refine bodyPost_ret (results_cell_tmp (ty := 82) rfl _ _ w.heap.size _ _ _ _ rfl HS9.o.1 Tryz.underlying82 rfl pt_size) rfl ?_
        refine ⟨⟨x.ns.gen + 1, gm, (ml : Int), x.ns.ep + 1⟩, _, m, 0, by rw [HAG.o]; rfl, ⟨_, _, rfl⟩, HFM.o.1, HFM.o.2, .inl ⟨rfl, f0, tk, f, gm, f2, HIF.o, ⟨HTK.o, HTD.o, HM.o.1, HM.o.2.1, HM.o.2.2.1, HM.o.2.2.2.1, by rw [← HML.o]; exact HTR.o, by rw [← HML.o], by rw [← HML.o]; omega, by rw [← hLN]; exact hfit⟩, (HEND.o _ HKE.o).1 HGR.o, (HEND.o _ HKE.o).2.1⟩, (HEND.o _ HKE.o).2.2⟩
       ·rw [decide_eq_false hfit] at HFIT
        have HN1 := hyd (HNO.o (.inr (.inr (by omega))))
        refine wp_region_held_drew (S := fun w' => Keep [] w8 w') (by kernel_rfl) ((Keep.refl [] w8).drew) (fun hHeld => ?_)
        have hb9 : (w8.drew).heap[w.heap.size]? = _ := HB8.o
        have hk9 : Keep [w.heap.size] w6 w8.drew := HK8.o.trans ((Keep.refl [] w8).drew.mono (by simp)) (fun b hb => .inl hb)
        generalize w8.drew = w9' at *
        refine tkL 0 ?vWD0 rfl ?runWD0 hHeld ?_
        case runWD0 => (intro w9 hS9; obtain ⟨a0, b0, b1, b2, b3, b4, b5, b6, b7, b8⟩ := HCS2.o w9 hS9; go_simp; try exact rfl)
        try simp only [Act.put, lA, lZ, lS]
        refine tkL 1 ?vWD1 rfl ?runWD1 hHeld ?_
        case runWD1 => (intro w9 hS9; obtain ⟨a0, b0, b1, b2, b3, b4, b5, b6, b7, b8⟩ := HCS2.o w9 hS9; go_simp; try exact rfl)
        try simp only [Act.put, lA, lZ, lS]
        refine tkL 2 ?vWD2 rfl ?runWD2 hHeld ?_
        case runWD2 => (intro w9 hS9; obtain ⟨a0, b0, b1, b2, b3, b4, b5, b6, b7, b8⟩ := HCS2.o w9 hS9; go_simp; try exact rfl)
        try simp only [Act.put, lA, lZ, lS]
        refine tkL 3 ?vWD3 rfl ?runWD3 hHeld ?_
        case runWD3 => (intro w9 hS9; obtain ⟨a0, b0, b1, b2, b3, b4, b5, b6, b7, b8⟩ := HCS2.o w9 hS9; go_simp; try exact rfl)
        try simp only [Act.put, lA, lZ, lS]
        refine tkL 4 ?vWD4 rfl ?runWD4 hHeld ?_
        case runWD4 => (intro w9 hS9; obtain ⟨a0, b0, b1, b2, b3, b4, b5, b6, b7, b8⟩ := HCS2.o w9 hS9; go_simp; try exact rfl)
        try simp only [Act.put, lA, lZ, lS]
        refine tkL 5 ?vWD5 rfl ?runWD5 hHeld ?_
        case runWD5 => (intro w9 hS9; obtain ⟨a0, b0, b1, b2, b3, b4, b5, b6, b7, b8⟩ := HCS2.o w9 hS9; go_simp; try exact rfl)
        try simp only [Act.put, lA, lZ, lS]
        refine tkL 6 ?vWD6 rfl ?runWD6 hHeld ?_
        case runWD6 => (intro w9 hS9; obtain ⟨a0, b0, b1, b2, b3, b4, b5, b6, b7, b8⟩ := HCS2.o w9 hS9; go_simp; try exact rfl)
        try simp only [Act.put, lA, lZ, lS]
        refine tkL 7 ?vWD7 rfl ?runWD7 hHeld ?_
        case runWD7 => (intro w9 hS9; obtain ⟨a0, b0, b1, b2, b3, b4, b5, b6, b7, b8⟩ := HCS2.o w9 hS9; go_simp; try exact rfl)
        try simp only [Act.put, lA, lZ, lS]
        refine tkL 8 ?vWD8 rfl ?runWD8 hHeld ?_
        case runWD8 => (intro w9 hS9; obtain ⟨a0, b0, b1, b2, b3, b4, b5, b6, b7, b8⟩ := HCS2.o w9 hS9; go_simp; try exact rfl)
        try simp only [Act.put, lA, lZ, lS]
        refine tkL 9 ?vWD9 rfl ?runWD9 hHeld ?_
        case runWD9 => (intro w9 hS9; obtain ⟨a0, b0, b1, b2, b3, b4, b5, b6, b7, b8⟩ := HCS2.o w9 hS9; go_simp; try exact rfl)
        try simp only [Act.put, lA, lZ, lS]
        refine tkL 10 ?vWD10 rfl ?runWD10 hHeld ?_
        case runWD10 => (intro w9 hS9; obtain ⟨a0, b0, b1, b2, b3, b4, b5, b6, b7, b8⟩ := HCS2.o w9 hS9; go_simp; try exact rfl)
        try simp only [Act.put, lA, lZ, lS]
        refine tkL 12 ?vWD12 rfl ?runWD12 hHeld ?_
        case runWD12 => (intro w9 hS9; obtain ⟨a0, b0, b1, b2, b3, b4, b5, b6, b7, b8⟩ := HCS2.o w9 hS9; go_simp; try exact rfl)
        try simp only [Act.put, lA, lZ, lS]
        refine tkL 13 ?vWD13 rfl ?runWD13 hHeld ?_
        case runWD13 => (intro w9 hS9; obtain ⟨a0, b0, b1, b2, b3, b4, b5, b6, b7, b8⟩ := HCS2.o w9 hS9; go_simp; try exact rfl)
        try simp only [Act.put, lA, lZ, lS]
        refine wpAnyH_ready (rs := [11]) (by kernel_rfl) (by simp) ?_
        refine AllReadyH.consL rfl (fun K hK => ?_) (AllReadyH.nil)
        go_simp
        refine (HSZ2.o _ hk9).mono ?_
        rintro e wk1 ⟨rfl, hkc1⟩
        have hS1 := hHeld.trans hkc1 (by simp)
        have hk91 := hk9.trans (hkc1.mono (G := [w.heap.size]) (by simp)) (fun b hb => .inl hb)
        have hb91 := blkk hb9 hkc1 (by simp)
        go_wp2_with fail
        refine hK.out _ _ hS1 (fun hHeld2 => ?_)
        clear hK K hHeld; have hHeld := hHeld2; clear hHeld2
        try simp only [Act.put, lA, lZ, lS]
        refine wpAnyH_ready (rs := [14]) (by kernel_rfl) (by simp) ?_
        refine AllReadyH.consL rfl (fun K hK => ?_) (AllReadyH.nil)
        go_simp
        refine (HFIT.o _ hk91).mono ?_
        rintro e wk2 ⟨rfl, hkc2⟩
        have hS2 := hHeld.trans hkc2 (by simp)
        have hk92 := hk91.trans (hkc2.mono (G := [w.heap.size]) (by simp)) (fun b hb => .inl hb)
        have hb92 := blkk hb91 hkc2 (by simp)
        go_wp2_with fail
        refine hK.out _ _ hS2 (fun hHeld2 => ?_)
        clear hK K hHeld; have hHeld := hHeld2; clear hHeld2
        try simp only [Act.put, lA, lZ, lS]
        refine tkL 15 ?vXD15 rfl ?runXD15 hHeld ?_
        case runXD15 => (intro w9 hS9; go_simp; try exact rfl)
        try simp only [Act.put, lA, lZ, lS]
        refine tkL 16 ?vXD16 rfl ?runXD16 hHeld ?_
        case runXD16 => (intro w9 hS9; go_simp; try exact rfl)
        try simp only [Act.put, lA, lZ, lS]
        refine wpAnyH_done (by kernel_rfl) ?_ _
        clear hHeld
        have HS9 := hyd (set9 hb92 (.int .u64 ((x.ns.gen : Int) + 1)) (.slice gg gm.length gh) (.int .i64 (ml : Nat)) (.int .i64 (x.ns.ep + 1)) (.string src) (.int .i64 x.area.1) (.int .i64 x.area.2) (.slice za rest.length zc) (.slice va pls.length vc))
        have HKE := hyd (hk92.trans HS9.o.2 (fun b hb => .inl hb))
        obtain ⟨b0, b1, b2, b3, b4, b5, b6, b7, b8⟩ := cells9 hb92
        have fb := frozen4 hb92
        clear hb9 hk9 hb91 hk91 hb92 hk92 hS1 hS2 hkc1 hkc2
        go_wp2_with fail
        refine bodyPost_ret (results_cell_tmp (ty := 82) rfl _ _ w.heap.size _ _ _ _ rfl HS9.o.1 Tryz.underlying82 rfl pt_size) rfl ?_
        exact ⟨⟨x.ns.gen + 1, gm, (ml : Int), x.ns.ep + 1⟩, _, m, 240, by rw [HAG.o]; rfl, ⟨_, _, rfl⟩, HFM.o.1, HFM.o.2, .inr ⟨rfl, f0, HIF.o, HN1.o⟩, (HEND.o _ HKE.o).2.2⟩
     ·have herr' : (err != 0) = true := by rw [bne_iff_ne]; exact herr
      have HN1 := hyd (HNO.o (.inl herr))
      clear herr
      refine wp_region_held_drew (S := fun w' => Keep [] w8 w') (by kernel_rfl) ((Keep.refl [] w8).drew) (fun hHeld => ?_)
      have hb9 : (w8.drew).heap[w.heap.size]? = _ := HB8.o
      have hk9 : Keep [w.heap.size] w6 w8.drew := HK8.o.trans ((Keep.refl [] w8).drew.mono (by simp)) (fun b hb => .inl hb)
      generalize w8.drew = w9' at *
      refine tkL 0 ?vWA0 rfl ?runWA0 hHeld ?_
      case runWA0 => (intro w9 hS9; obtain ⟨b0, b1, b2, b3, b4, b5, b6, b7, b8⟩ := HCC.o w9 hS9; go_simp; try exact rfl)
      try simp only [Act.put, lA, lZ, lS]
      refine tkL 1 ?vWA1 rfl ?runWA1 hHeld ?_
      case runWA1 => (intro w9 hS9; obtain ⟨b0, b1, b2, b3, b4, b5, b6, b7, b8⟩ := HCC.o w9 hS9; go_simp; try exact rfl)
      try simp only [Act.put, lA, lZ, lS]
      refine tkL 2 ?vWA2 rfl ?runWA2 hHeld ?_
      case runWA2 => (intro w9 hS9; obtain ⟨b0, b1, b2, b3, b4, b5, b6, b7, b8⟩ := HCC.o w9 hS9; go_simp; try exact rfl)
      try simp only [Act.put, lA, lZ, lS]
      refine skL 3 rfl hHeld ?_
      try simp only [Act.put, lA, lZ, lS]
      refine skL 4 rfl hHeld ?_
      try simp only [Act.put, lA, lZ, lS]
      refine tkL 5 ?vWA5 rfl ?runWA5 hHeld ?_
      case runWA5 => (intro w9 hS9; obtain ⟨b0, b1, b2, b3, b4, b5, b6, b7, b8⟩ := HCC.o w9 hS9; go_simp; try exact rfl)
      try simp only [Act.put, lA, lZ, lS]
      refine tkL 6 ?vWA6 rfl ?runWA6 hHeld ?_
      case runWA6 => (intro w9 hS9; obtain ⟨b0, b1, b2, b3, b4, b5, b6, b7, b8⟩ := HCC.o w9 hS9; go_simp; try exact rfl)
      try simp only [Act.put, lA, lZ, lS]
      refine skL 7 rfl hHeld ?_
      try simp only [Act.put, lA, lZ, lS]
      refine skL 8 rfl hHeld ?_
      try simp only [Act.put, lA, lZ, lS]
      refine skL 9 rfl hHeld ?_
      try simp only [Act.put, lA, lZ, lS]
      refine skL 10 rfl hHeld ?_
      try simp only [Act.put, lA, lZ, lS]
      refine skL 11 rfl hHeld ?_
      try simp only [Act.put, lA, lZ, lS]
      refine skL 12 rfl hHeld ?_
      try simp only [Act.put, lA, lZ, lS]
      refine skL 13 rfl hHeld ?_
      try simp only [Act.put, lA, lZ, lS]
      refine skL 14 rfl hHeld ?_
      try simp only [Act.put, lA, lZ, lS]
      refine skL 15 rfl hHeld ?_
      try simp only [Act.put, lA, lZ, lS]
      refine tkL 16 ?vWA16 rfl ?runWA16 hHeld ?_
      case runWA16 => (intro w9 hS9; obtain ⟨b0, b1, b2, b3, b4, b5, b6, b7, b8⟩ := HCC.o w9 hS9; go_simp; try exact rfl)
      try simp only [Act.put, lA, lZ, lS]
      refine wpAnyH_done (by kernel_rfl) ?_ _
      clear hHeld
      have HS9 := hyd (set9 hb9 (.int .u64 ((x.ns.gen : Int) + 1)) (.slice gg gm.length gh) (.int .i64 (ml : Nat)) (.int .i64 (x.ns.ep + 1)) (.string src) (.int .i64 x.area.1) (.int .i64 x.area.2) (.slice za rest.length zc) (.slice va pls.length vc))
      have HKE := hyd (hk9.trans HS9.o.2 (fun b hb => .inl hb))
      obtain ⟨b0, b1, b2, b3, b4, b5, b6, b7, b8⟩ := cells9 hb9
      have fb := frozen4 hb9
      clear hb9 hk9
      go_wp2_with fail
      refine bodyPost_ret (results_cell_tmp (ty := 82) rfl _ _ w.heap.size _ _ _ _ rfl HS9.o.1 Tryz.underlying82 rfl pt_size) rfl ?_
      exact ⟨⟨x.ns.gen + 1, gm, (ml : Int), x.ns.ep + 1⟩, _, m, 240, by rw [HAG.o]; rfl, ⟨_, _, rfl⟩, HFM.o.1, HFM.o.2, .inr ⟨rfl, f0, HIF.o, HN1.o⟩, (HEND.o _ HKE.o).2.2⟩
end Go.Proofs.YtimpadpeibgmoaaGreat
