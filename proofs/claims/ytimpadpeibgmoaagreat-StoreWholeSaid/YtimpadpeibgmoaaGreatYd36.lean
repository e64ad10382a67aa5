/- A part of the proof (St11), joined by squeeze2.py. -/
import Derived.Test.YtimpadpeibgmoaaGreatYd35
set_option maxHeartbeats 8000000
set_option maxRecDepth 100000
namespace Go.Proofs.YtimpadpeibgmoaaGreat
open Go.RowKit Go.Emb Go.Lib Go.Emb.Ext Go.Shelf
attribute [local go_sem] Oper.semAt_some
structure SaveIn (w : World) (s q : Nat) (lm : List Int) (D : List Nat) (d : DS) (x : SV) (src : ByteArray) (rv : Value) (rest : List UInt8) (av : Value) (alive : List Int) (iv : Value) (dirty : List ImV) : Prop where
 st : STD w s q lm D d x
 hin : ∀ e ∈ usedL x, 0 ≤ e.1 ∧ 0 ≤ e.2 ∧ e.1 + e.2 ≤ d.n
 hul : (usedL x).length ≤ 1000000
 hpl : x.nm.places.length ≤ 1500
 hps : ∀ y ∈ x.nm.places, y.p.pieces.length ≤ 16384
 ha : NRd (fun b => b ∉ s :: D) w av alive
 hal : alive.length ≤ 1000000
 hd : IRd (fun b => b ∉ s :: D) w iv dirty
 hdl : dirty.length ≤ 1500
 hdb : ∀ y ∈ dirty, y.b.length ≤ 1000000
 hr : BRd (fun b => b ∉ s :: D) w rv rest
 hsrc : src.size ≤ 1000000
 hrl : rest.length ≤ 1000000
 hgen : x.ns.gen ≤ 1000000000
 hep : 0 ≤ x.ns.ep ∧ x.ns.ep ≤ 16777215
 n2 : 2 ≤ d.n
 lg : lm.length + dirty.length * d.n + d.n + 1 ≤ 1000000
section
variable {w w' : World} {s q : Nat} {lm : List Int} {D : List Nat} {d : DS} {x : SV} {src : ByteArray} {rv : Value} {rest : List UInt8} {av : Value} {alive : List Int} {iv : Value} {dirty : List ImV}
theorem nodup_le : ∀ {l m : List Int}, l.Nodup → (∀ x ∈ l, x ∈ m) → l.length ≤ m.length
 | [], _, _, _ => Nat.zero_le _
 | x :: l, m, h, hs => by
  obtain ⟨h1, h2⟩ := List.nodup_cons.1 h
  have h3 := nodup_le (l := l) (m := m.erase x) h2 (fun y hy => (List.mem_erase_of_ne (show y ≠ x from fun e => h1 (by rw [← e]; exact hy))).2 (hs y (by simp [hy])))
  have h4 := List.length_erase_of_mem (hs x (by simp))
  have h5 : 0 < m.length := List.length_pos_of_mem (hs x (by simp))
  rw [List.length_cons]
  omega
theorem aOk_nodup {had : Int → Prop} : ∀ {l : List Int} {last : Int}, aOk had last l → (∀ p ∈ l, last < p ∧ had p) ∧ l.Nodup
 | [], _, _ => by simp
 | p :: l, last, h => by
  obtain ⟨h1, h2⟩ := aOk_nodup h.2
  refine ⟨fun y hy => ?_, ?_⟩
  ·rcases List.mem_cons.1 hy with rfl | hy
   ·exact h.1
   ·have := h1 y hy; have := h.1.1; exact ⟨by omega, (h1 y hy).2⟩
  ·rw [List.nodup_cons]
   exact ⟨fun hm => by have := (h1 _ hm).1; omega, h2⟩
theorem right_len {m : MnV} {alive : List Int} {dirty : List ImV} (h : Right m alive dirty) : alive.length ≤ m.places.length + dirty.length := by
 obtain ⟨h1, h2⟩ := aOk_nodup h.1
 have h3 := nodup_le (m := m.places.map (·.p.pid) ++ dirty.map (·.pid)) h2 (fun p hp => by
   rcases (h1 p hp).2 with h | h
   · rw [Option.isSome_iff_exists] at h
     obtain ⟨y, hy⟩ := h
     have e := List.find?_some hy
     exact List.mem_append_left _ (List.mem_map.2 ⟨y, List.mem_of_find?_eq_some hy, by simpa using e⟩)
   · exact List.mem_append_right _ h)
 simpa using h3
theorem SaveIn.plan (h : SaveIn w s q lm D d x src rv rest av alive iv dirty) (hr : Right x.nm alive dirty) (hk : Keep [] w w') : PlanIn w' s q lm D d x src rv rest av alive iv dirty :=
 ⟨h.st.keep0 hk, h.hin, h.hul, Nat.le_trans h.hpl (by omega), h.hps, hr, h.ha.keep hk (by simp), by have := right_len hr; have := h.hpl; have := h.hdl; omega, h.hd.keep hk (by simp), Nat.le_trans h.hdl (by omega), h.hdb, h.hr.keep hk (by simp), h.hsrc, h.hrl, h.hgen, h.hep⟩
theorem flat_most {α β : Type} (f : α → List β) (n : Nat) : ∀ (l : List α), (∀ y ∈ l, (f y).length ≤ n) → (l.flatMap f).length ≤ l.length * n
 | [], _ => by simp
 | y :: l, h => by
  have h1 := h y (by simp)
  have h2 := flat_most f n l (fun z hz => h z (by simp [hz]))
  rw [List.flatMap_cons, List.length_append, List.length_cons, Nat.add_mul]
  omega
theorem sumL_nonneg {l : List E} (h : ∀ e ∈ l, 0 ≤ e.2) : 0 ≤ sumL l := by
 rw [← blkE_sum l h]; omega
theorem sum_mem {l : List E} {a : List E} (h : ∀ e ∈ l, 0 ≤ e.2) (p q : List E) (hl : l = p ++ a ++ q) : sumL a ≤ sumL l := by
 subst hl
 rw [sumL_append, sumL_append]
 have h1 := (sumL_nonneg (l := p) (fun e he => h e (by simp [he])))
 have h2 := (sumL_nonneg (l := q) (fun e he => h e (by simp [he])))
 omega
theorem blk_need {sz : Nat} {l : List E} {b : List UInt8} (hz : 1 ≤ roomN sz) (hp : ∀ e ∈ l, 0 ≤ e.2) (h : sumL l = needE b.length (roomN sz : Int)) : (blkL l).length = cnt (roomN sz) b := by
 have h1 := blkE_sum l hp
 rw [h, need_cnt hz] at h1
 omega
theorem plan_len {n sz : Nat} {f0 : List E} {tk : List PlV} {m : MnV} {sp : Sup} (hz : 1 ≤ roomN sz) (h : PlanIs n sz x alive dirty tk f0 m sp) : (∀ y ∈ dirty, (imgW sz m y).length = cnt (roomN sz) y.b ∧ cnt (roomN sz) y.b ≤ n) ∧ (blkL sp.ps).length = cnt (roomN sz) (manL m.man) ∧ cnt (roomN sz) (manL m.man) ≤ n := by
 have hz0 : ∀ e ∈ plcX (tk.map (·.p)) ++ sp.ps, 0 ≤ e.2 := fun e he => by
  rcases List.mem_append.1 he with he | he
  ·obtain ⟨p, hp, he⟩ := List.mem_flatMap.1 he
   obtain ⟨z, hz, rfl⟩ := List.mem_map.1 hp
   have := ((h.each z hz).2.2.2 e he).2.1
   omega
  ·have := (h.gm.2.2.2.2 e he).2.1
   omega
 have htot := h.total
 refine ⟨fun y hy => ?_, ?_⟩
 ·obtain ⟨h1, h2, h3, h4, h5⟩ := h.new y hy
  obtain ⟨h6, h7, h8, h9⟩ := h.each _ h4
  rw [h5] at h8
  have hc := blk_need hz (fun e he => by have := (h9 e he).2.1; omega) h8
  have hf := h.find y.pid h1
  have hl := imgW_len hf hc
  refine ⟨by rw [hl.2, hc], ?_⟩
  obtain ⟨a, b, hab⟩ := List.append_of_mem h4
  have h10 := sum_mem hz0 (plcX (a.map (·.p))) (plcX (b.map (·.p)) ++ sp.ps) (a := (pickV tk x.nm y.pid).p.pieces) (by
    conv => lhs; rw [hab]
    unfold plcX
    simp [List.flatMap_append, List.flatMap_cons, List.append_assoc])
  rw [h8, need_cnt hz] at h10
  omega
 ·have hc := blk_need hz (fun e he => by have := (h.gm.2.2.2.2 e he).2.1; omega) h.gm.2.2.1
  refine ⟨hc, ?_⟩
  have h10 := sum_mem hz0 (plcX (tk.map (·.p))) [] (a := sp.ps) (by simp)
  rw [h.gm.2.2.1, need_cnt hz] at h10
  omega
theorem allW_le {n sz : Nat} {f0 : List E} {tk : List PlV} {m : MnV} {sp : Sup} (hz : 1 ≤ roomN sz) (h : PlanIs n sz x alive dirty tk f0 m sp) : (allW sz sp m dirty).length ≤ dirty.length * n + n + 1 := by
 obtain ⟨h1, h2, h3⟩ := plan_len hz h
 have h4 := flat_most (imgW sz m) n dirty (fun y hy => by have := h1 y hy; omega)
 unfold allW
 simp only [List.length_append, List.length_singleton]
 have h5 : (layW sz (blkL sp.ps) 77 sp.gen (manL m.man)).length ≤ (blkL sp.ps).length := by unfold layW; rw [List.length_zip]; omega
 omega
theorem SaveIn.write {f0 : List E} {tk : List PlV} {f gm f2 : List E} {m : MnV} {sp : Sup} {pv : Value} (h : SaveIn w s q lm D d x src rv rest av alive iv dirty) (hr : Right x.nm alive dirty) (hep : x.ns.ep < 16777215) (hk : Keep [] w w') (hf : IsFree d.n (usedL x) f0) (hp : PlanOk d.sz f0 x src rest alive dirty tk f gm f2 m sp)
  (hx : XRd (fun b => b ∉ s :: D) w' pv sp.ps) (hm : MRd (fun b => b ∉ s :: D) w' m) : WriteIn w' s q lm D d x sp pv m iv dirty := by
 have hi := plan_is hf hp hr
 have hrm := (room_ok h.st.dk.isok).2
 obtain ⟨l1, l2, l3⟩ := plan_len (by omega) hi
 have hal := allW_le (by omega) hi
 have hs := hp.sup
 have hgm := hi.gm
 refine ⟨h.st.keep0 hk, hx, hm, h.hd.keep hk (by simp), by rw [hp.mp, List.length_map]; have := h.hal; omega, fun y hy => ?_, ⟨fun e he => ?_, l2⟩, hp.ml, ?_, hp.fit, by rw [hs]; have := h.hgen; show x.ns.gen + 1 < _; omega, by have := h.lg; omega, h.n2⟩
 ·obtain ⟨h1, h2, h3, h4, h5⟩ := hi.new y hy
  obtain ⟨h6, h7, h8, h9⟩ := hi.each _ h4
  rw [h5] at h8
  exact ⟨h2, h3, _, hi.find y.pid h1, fun e he => by have := h9 e he; omega, blk_need (by omega) (fun e he => by have := (h9 e he).2.1; omega) h8⟩
 ·have := hgm.2.2.2.2 e he; omega
 ·refine ⟨⟨by rw [hs]; simp, by rw [hs]; have := h.hep; show 0 ≤ x.ns.ep + 1; omega, by rw [hs]; show x.ns.ep + 1 ≤ _; omega, by rw [hs]; show 0 ≤ ((manL m.man).length : Int); omega, by rw [hs]; have := hp.ml; show ((manL m.man).length : Int) ≤ _; omega, hgm.2.2.2.1⟩, fun e he => ?_, ?_⟩
  ·have := hgm.2.2.2.2 e he; unfold okE; omega
  ·exact hgm.1.gap.imp (fun {a b} hab => .inl (by omega))
end
theorem set18 {w : World} {q : Nat} {v0 v1 v2 v3 v4 v5 v6 v7 v8 v9 v10 v11 v12 v13 v14 v15 v16 v17 v18 v19 v20 v21 : Value} {t : TypeId} (h : w.heap[q]? = some (.cells #[v0, v1, v2, v3, v4, v5, v6, v7, v8, v9, v10, v11, v12, v13, v14, v15, v16, v17, v18, v19, v20, v21] t (0, 0))) (u0 u1 u2 u3 u4 u5 u6 u7 u8 : Value) :
  ((((((((((w.setCell ⟨q, 12, none⟩ u0).setCell ⟨q, 13, none⟩ u1).setCell ⟨q, 14, none⟩ u2).setCell ⟨q, 15, none⟩ u3).setCell ⟨q, 16, none⟩ u4).setCell ⟨q, 17, none⟩ u5).setCell ⟨q, 18, none⟩ u6).setCell ⟨q, 19, none⟩ u7).setCell ⟨q, 20, none⟩ u8)).heap[q]? = some (.cells #[v0, v1, v2, v3, v4, v5, v6, v7, v8, v9, v10, v11, u0, u1, u2, u3, u4, u5, u6, u7, u8, v21] t (0, 0)) ∧ Keep [q] w ((((((((((w.setCell ⟨q, 12, none⟩ u0).setCell ⟨q, 13, none⟩ u1).setCell ⟨q, 14, none⟩ u2).setCell ⟨q, 15, none⟩ u3).setCell ⟨q, 16, none⟩ u4).setCell ⟨q, 17, none⟩ u5).setCell ⟨q, 18, none⟩ u6).setCell ⟨q, 19, none⟩ u7).setCell ⟨q, 20, none⟩ u8)) := by
 refine ⟨?_, ?_⟩
 ·have h8 := set_of (set_of (set_of (set_of (set_of (set_of (set_of (set_of (set_of h 12 u0) 13 u1) 14 u2) 15 u3) 16 u4) 17 u5) 18 u6) 19 u7) 20 u8
  simpa using h8
 ·exact (((((((((Keep.set1 w ⟨q, 12, none⟩ u0).setCell (.inl (by simp)) u1).setCell (.inl (by simp)) u2).setCell (.inl (by simp)) u3).setCell (.inl (by simp)) u4).setCell (.inl (by simp)) u5).setCell (.inl (by simp)) u6).setCell (.inl (by simp)) u7).setCell (.inl (by simp)) u8)
theorem set03 {w : World} {q : Nat} {v0 v1 v2 v3 v4 v5 v6 v7 v8 v9 v10 v11 v12 v13 v14 v15 v16 v17 v18 v19 v20 v21 : Value} {t : TypeId} (h : w.heap[q]? = some (.cells #[v0, v1, v2, v3, v4, v5, v6, v7, v8, v9, v10, v11, v12, v13, v14, v15, v16, v17, v18, v19, v20, v21] t (0, 0))) (u0 u1 u2 u3 u4 u5 u6 u7 u8 : Value) :
  ((((((((((w.setCell ⟨q, 3, none⟩ u0).setCell ⟨q, 4, none⟩ u1).setCell ⟨q, 5, none⟩ u2).setCell ⟨q, 6, none⟩ u3).setCell ⟨q, 7, none⟩ u4).setCell ⟨q, 8, none⟩ u5).setCell ⟨q, 9, none⟩ u6).setCell ⟨q, 10, none⟩ u7).setCell ⟨q, 11, none⟩ u8)).heap[q]? = some (.cells #[v0, v1, v2, u0, u1, u2, u3, u4, u5, u6, u7, u8, v12, v13, v14, v15, v16, v17, v18, v19, v20, v21] t (0, 0)) ∧ Keep [q] w ((((((((((w.setCell ⟨q, 3, none⟩ u0).setCell ⟨q, 4, none⟩ u1).setCell ⟨q, 5, none⟩ u2).setCell ⟨q, 6, none⟩ u3).setCell ⟨q, 7, none⟩ u4).setCell ⟨q, 8, none⟩ u5).setCell ⟨q, 9, none⟩ u6).setCell ⟨q, 10, none⟩ u7).setCell ⟨q, 11, none⟩ u8)) := by
 refine ⟨?_, ?_⟩
 ·have h8 := set_of (set_of (set_of (set_of (set_of (set_of (set_of (set_of (set_of h 3 u0) 4 u1) 5 u2) 6 u3) 7 u4) 8 u5) 9 u6) 10 u7) 11 u8
  simpa using h8
 ·exact (((((((((Keep.set1 w ⟨q, 3, none⟩ u0).setCell (.inl (by simp)) u1).setCell (.inl (by simp)) u2).setCell (.inl (by simp)) u3).setCell (.inl (by simp)) u4).setCell (.inl (by simp)) u5).setCell (.inl (by simp)) u6).setCell (.inl (by simp)) u7).setCell (.inl (by simp)) u8)
theorem STD.own {w w' : World} {s q : Nat} {m : List Int} {D : List Nat} {d : DS} {x x' : SV} (h : STD w s q m D d x) (hk : Keep [s] w w') (hb : w'.heap[s]? = some (.cells (stCells q x') 84)) (hr : SRd (fun b => b ∉ s :: D) w x') : STD w' s q m D d x' :=
 ⟨h.dk.keep hk (fun b hb hm => h.sD (by simp at hm; rw [← hm]; exact hb)), hb, hr.keep hk (by simp)⟩
inductive SaveNo (n sz : Nat) (x : SV) (src : ByteArray) (rest : List UInt8) (alive : List Int) (dirty : List ImV) : Int → Prop
 | broken : x.bk = true → SaveNo n sz x src rest alive dirty 61
 | arg : ¬ Right x.nm alive dirty → SaveNo n sz x src rest alive dirty 2
 | many : 16777215 ≤ x.ns.ep → SaveNo n sz x src rest alive dirty 6
 | full (f0 : List E) : Right x.nm alive dirty → IsFree n (usedL x) f0 → PlanNo sz f0 x src rest alive dirty → SaveNo n sz x src rest alive dirty 240
def savedV (x : SV) (sp : Sup) (pv : Value) (m : MnV) (c : Int) : SV := if c = 0 then ⟨x.area, sp, pv, m, x.ns, x.nv, x.nm, false⟩ else { x with bk := true }
def SaveP (w : World) (s q : Nat) (lm : List Int) (D : List Nat) (d : DS) (x : SV) (src : ByteArray) (rest : List UInt8) (alive : List Int) (dirty : List ImV) (e : Ending) (w' : World) : Prop :=
 ∃ (c : Int), e = .returned (.int .i64 c) ∧
  ((SaveNo d.n d.sz x src rest alive dirty c ∧ STD w' s q lm D d x ∧ Keep [] w w') ∨
   (x.bk = false ∧ Right x.nm alive dirty ∧ x.ns.ep < 16777215 ∧ ∃ f0 tk f gm f2 m sp pv D', IsFree d.n (usedL x) f0 ∧ PlanOk d.sz f0 x src rest alive dirty tk f gm f2 m sp ∧ c = (runW d (allW d.sz sp m dirty)).1 ∧
     STD w' s q (lm ++ (runW d (allW d.sz sp m dirty)).2.2) D' (runW d (allW d.sz sp m dirty)).2.1 (savedV x sp pv m c) ∧ (∀ b ∈ D', b ∈ D ∨ w.heap.size ≤ b) ∧ Keep (s :: D) w w'))
theorem st_save {w : World} {s q : Nat} {lm : List Int} {D : List Nat} {d : DS} {x : SV} {src : ByteArray} {rv : Value} {rest : List UInt8} {av : Value} {alive : List Int} {iv : Value} {dirty : List ImV} (h : SaveIn w s q lm D d x src rv rest av alive iv dirty) :
  Calls Tryz.prog 13 #[.pointer (some ⟨s, 0, none⟩), .string src, rv, av, iv] w (SaveP w s q lm D d x src rest alive dirty) := by
 obtain ⟨na, nc, ra, rc, pa, pc, oa, oc, sa, sc, ta, tc, e1, e2, e3, e4, e5, e6, hb⟩ := st_cells h.st.blk h.st.rd.forms
 obtain ⟨aa, ac, rfl⟩ := h.ha.form
 obtain ⟨ia, ic, rfl⟩ := h.hd.form
 obtain ⟨qa, qc, rfl, -, -⟩ := h.hr.form
 have H := hyd h
 have HB := hyd hb
 have HE := hyd (And.intro e1 (And.intro e2 (And.intro e3 (And.intro e4 (And.intro e5 e6)))))
 have hrt := st_right h.st (by have := h.hpl; omega) h.ha h.hd
 unfold RightP at hrt
 have HRT := hyd hrt
 have HCC := hyd (fun (W : World) (hk : Keep [] w W) => cells22 (blkk hb hk (by simp)))
 have hsD := h.st.sD
 have HSD := hyd hsD
 clear h hrt e1 e2 e3 e4 e5 e6 hsD
 obtain ⟨b0, b1, b2, b3, b4, b5, b6, b7, b8, b9, b10, b11, b12, b13, b14, b15, b16, b17, b18, b19, b20, b21⟩ := cells22 hb
 cases hbk : x.bk with
 | true =>
  rw [hbk] at b21
  have HBK := hyd hbk
  clear hbk hb
  go_enter Tryz.func13, Tryz.ntmps13
  go_wp2_with fail
  go_ret
  exact ⟨61, rfl, .inl ⟨.broken HBK.o, H.o.st, Keep.refl _ _⟩⟩
 | false =>
  rw [hbk] at b21
  have HBK := hyd hbk
  clear hbk hb
  go_enter Tryz.func13, Tryz.ntmps13
  go_wp2_with fail
  refine HRT.o.mono ?_
  rintro e wr ⟨b, rfl, hbr, hkr⟩
  have HBR := hyd hbr
  have HKR := hyd hkr
  clear hbr b0 b1 b2 b3 b4 b5 b6 b7 b8 b9 b10 b11 b12 b13 b14 b15 b16 b17 b18 b19 b20 b21
  obtain ⟨b0, b1, b2, b3, b4, b5, b6, b7, b8, b9, b10, b11, b12, b13, b14, b15, b16, b17, b18, b19, b20, b21⟩ := HCC.o wr hkr
  clear hkr
  cases b with
  | false =>
   go_wp2_with fail
   go_ret
   exact ⟨2, rfl, .inl ⟨.arg (fun h => nomatch HBR.o.2 h), H.o.st.keep0 HKR.o, HKR.o⟩⟩
  | true =>
   by_cases hep : (16777215 : Int) ≤ x.ns.ep
   ·go_wp2_with fail
    go_ret
    exact ⟨6, rfl, .inl ⟨.many hep, H.o.st.keep0 HKR.o, HKR.o⟩⟩
   ·have hep2 : x.ns.ep < 16777215 := by omega
    have HEP := hyd hep2
    have hright := HBR.o.1 rfl
    have HR := hyd hright
    have HPL := hyd (st_plan (H.o.plan hright HKR.o))
    clear hright hep2
    go_wp2_with fail
    refine HPL.o.mono ?_
    rintro e w2 ⟨sp, pv, m, c, rfl, ⟨ga, gc, hpv⟩, ⟨za, zc, hrv⟩, ⟨va, vc, hmv⟩, hcase, hk2⟩
    have hag : aggPt sp pv m = .agg #[.int .u64 (sp.gen : Nat), .slice ga sp.ps.length gc, .int .i64 sp.len, .int .i64 sp.ep, .string m.s, .int .i64 m.area.1, .int .i64 m.area.2, .slice za m.rest.length zc, .slice va m.places.length vc] := by unfold aggPt; rw [hrv, hmv, hpv]
    rw [hag]
    have HV := hyd (And.intro hpv (And.intro hrv (And.intro hmv hag)))
    have HCASE := hyd hcase
    have HK2 := hyd (HKR.o.trans hk2 (by simp))
    have hzb := heap_new w2 (.cells #[.int .u64 (sp.gen : Nat), .slice ga sp.ps.length gc, .int .i64 sp.len, .int .i64 sp.ep, .string m.s, .int .i64 m.area.1, .int .i64 m.area.2, .slice za m.rest.length zc, .slice va m.places.length vc] 82)
    have HB9 := hyd hzb
    clear HPL hcase hpv hrv hmv hag hk2 hep b0 b1 b2 b3 b4 b5 b6 b7 b8 b9 b10 b11 b12 b13 b14 b15 b16 b17 b18 b19 b20 b21 hzb
    go_upto_region 10 with fail
    have HK3 := hyd (HK2.o.trans ((Keep.refl [] w2).alloc (.cells #[.int .u64 (sp.gen : Nat), .slice ga sp.ps.length gc, .int .i64 sp.len, .int .i64 sp.ep, .string m.s, .int .i64 m.area.1, .int .i64 m.area.2, .slice za m.rest.length zc, .slice va m.places.length vc] 82)) (by simp))
    have HK23 := hyd ((Keep.refl [] w2).alloc (.cells #[.int .u64 (sp.gen : Nat), .slice ga sp.ps.length gc, .int .i64 sp.len, .int .i64 sp.ep, .string m.s, .int .i64 m.area.1, .int .i64 m.area.2, .slice za m.rest.length zc, .slice va m.places.length vc] 82))
    generalize w2.alloc (.cells #[.int .u64 (sp.gen : Nat), .slice ga sp.ps.length gc, .int .i64 sp.len, .int .i64 sp.ep, .string m.s, .int .i64 m.area.1, .int .i64 m.area.2, .slice za m.rest.length zc, .slice va m.places.length vc] 82) = w3 at *
    have hsz2 := HK2.o.size
    have HSZ2 := hyd hsz2
    clear hsz2
    generalize w2.heap.size = Bp at *
    rcases HCASE.o with ⟨rfl, f0, tk, f, gm, f2, hif, hok, hx2, hm2⟩ | ⟨rfl, f0, hif, hno⟩
    ·have HX := hyd (And.intro hif hok)
     have hwr := H.o.write HR.o HEP.o HK3.o hif hok (hx2.keep HK23.o (by simp)) (hm2.keep HK23.o (by simp))
     have HM2 := hyd (And.intro (hx2.keep HK23.o (by simp)) (hm2.keep HK23.o (by simp)))
     have hw := st_write hwr
     rw [HV.o.2.2.2] at hw
     unfold LayP at hw
     have HW := hyd hw
     obtain ⟨p0, p1, p2, p3, p4, p5, p6, p7, p8⟩ := cells9 HB9.o
     clear hif hok hx2 hm2 hwr hw HCASE
     go_wp2_with fail
     refine HW.o.mono ?_
     rintro e w4 ⟨D2, rfl, hst, hD2, hk4⟩
     obtain ⟨cw, hcw⟩ : ∃ z, z = (runW d (allW d.sz sp m dirty)).1 := ⟨_, rfl⟩
     rw [← hcw]
     have hsz3 : w.heap.size ≤ w3.heap.size := HK3.o.size
     have hka : Keep D w w4 := (HK3.o.mono (by simp)).trans hk4 (fun b hb => .inl hb)
     have hDa : ∀ b ∈ D2, b ∈ D ∨ w.heap.size ≤ b := fun b hb => (hD2 b hb).imp id (fun h => Nat.le_trans hsz3 h)
     have hBst := blkk HB.o hka HSD.o
     have hDlt := H.o.st.dk.lt
     have hpD : Bp ∉ D := fun hm => by have := hDlt _ hm; have := HSZ2.o; omega
     have hB9 := blkk HB9.o hk4 hpD
     have hBps : Bp ≠ s := fun h => by
      have h1 := HSZ2.o
      have h2 := (Array.getElem?_eq_some_iff.1 HB.o).1
      omega
     have HPS := hyd hBps
     clear hBps
     have HST := hyd hst
     have HDA := hyd hDa
     have HKA := hyd hka
     have HCW := hyd hcw
     have HBst := hyd hBst
     have HB94 := hyd hB9
     have HK34 := hyd hk4
     have HD34 := hyd hD2
     clear p0 p1 p2 p3 p4 p5 p6 p7 p8 HW hst hD2 hk4 hcw hsz3 hka hDa hBst hDlt hpD hB9
     by_cases hc : cw = 0
     ·subst hc
      go_upto_region 16 with fail
      refine wp_regionB [5, 6, 9, 10, 11] (fun W => W.heap[Bp]? = some (.cells #[.int .u64 (sp.gen : Nat), .slice ga sp.ps.length gc, .int .i64 sp.len, .int .i64 sp.ep, .string m.s, .int .i64 m.area.1, .int .i64 m.area.2, .slice za m.rest.length zc, .slice va m.places.length vc] 82 (0, 0)) ∧ ∃ y12 y13 y14 y15 y16 y17 y18 y19 y20, W.heap[s]? = some (.cells #[.pointer (some ⟨q, 0, none⟩), .int .i64 x.area.1, .int .i64 x.area.2, .int .u64 (x.ns.gen : Nat), .slice na x.ns.ps.length nc, .int .i64 x.ns.len, .int .i64 x.ns.ep, .string x.nm.s, .int .i64 x.nm.area.1, .int .i64 x.nm.area.2, .slice ra x.nm.rest.length rc, .slice pa x.nm.places.length pc, y12, y13, y14, y15, y16, y17, y18, y19, y20, .bool false] 84 (0, 0))) (by kernel_rfl) ?_
      have hst0 := HBst.o
      rw [HBK.o] at hst0
      have HS0 := hyd (show (fun W => W.heap[Bp]? = some (.cells #[.int .u64 (sp.gen : Nat), .slice ga sp.ps.length gc, .int .i64 sp.len, .int .i64 sp.ep, .string m.s, .int .i64 m.area.1, .int .i64 m.area.2, .slice za m.rest.length zc, .slice va m.places.length vc] 82 (0, 0)) ∧ ∃ y12 y13 y14 y15 y16 y17 y18 y19 y20, W.heap[s]? = some (.cells #[.pointer (some ⟨q, 0, none⟩), .int .i64 x.area.1, .int .i64 x.area.2, .int .u64 (x.ns.gen : Nat), .slice na x.ns.ps.length nc, .int .i64 x.ns.len, .int .i64 x.ns.ep, .string x.nm.s, .int .i64 x.nm.area.1, .int .i64 x.nm.area.2, .slice ra x.nm.rest.length rc, .slice pa x.nm.places.length pc, y12, y13, y14, y15, y16, y17, y18, y19, y20, .bool false] 84 (0, 0))) w4.drew from ⟨HB94.o, _, _, _, _, _, _, _, _, _, hst0⟩)
      have HB0 := hyd (show w4.drew.heap[s]? = _ from hst0)
      have HKD := hyd ((Keep.refl [] w4).drew)
      clear hst0
      generalize w4.drew = wd at *
      refine tkY 0 ?vW0 rfl ?runW0 ?_
      case runW0 => (intro w9 _; go_simp; try exact rfl)
      try simp only [Act.put, lA, lZ, lS]
      refine tkY 1 ?vW1 rfl ?runW1 ?_
      case runW1 => (intro w9 _; go_simp; try exact rfl)
      try simp only [Act.put, lA, lZ, lS]
      refine tkY 2 ?vW2 rfl ?runW2 ?_
      case runW2 => (intro w9 _; go_simp; try exact rfl)
      try simp only [Act.put, lA, lZ, lS]
      refine tkY 3 ?vW3 rfl ?runW3 ?_
      case runW3 => (intro w9 _; go_simp; try exact rfl)
      try simp only [Act.put, lA, lZ, lS]
      refine tkY 4 ?vW4 rfl ?runW4 ?_
      case runW4 => (intro w9 _; go_simp; try exact rfl)
      try simp only [Act.put, lA, lZ, lS]
      refine tkB [6] 5 ?vW5 rfl ?runW5 (HS0.o) ?_
      case runW5 => (intro w9 hS9; obtain ⟨hp9, y12, y13, y14, y15, y16, y17, y18, y19, y20, hs9⟩ := hS9; obtain ⟨p0, p1, p2, p3, p4, p5, p6, p7, p8⟩ := cells9 hp9; obtain ⟨b0, b1, b2, b3, b4, b5, b6, b7, b8, b9, b10, b11, b12, b13, b14, b15, b16, b17, b18, b19, b20, b21⟩ := cells22 hs9; go_simp; try exact rfl)
      try simp only [Act.put, lA, lZ, lS]
      refine tkY 7 ?vW7 rfl ?runW7 ?_
      case runW7 => (intro w9 _; go_simp; try exact rfl)
      try simp only [Act.put, lA, lZ, lS]
      refine tkY 8 ?vW8 rfl ?runW8 ?_
      case runW8 => (intro w9 _; go_simp; try exact rfl)
      try simp only [Act.put, lA, lZ, lS]
      refine tkB [9, 10, 11] 6 ?vW6 rfl ?runW6 (HS0.o) ?_
      case runW6 => (intro w9 hS9; obtain ⟨hp9, y12, y13, y14, y15, y16, y17, y18, y19, y20, hs9⟩ := hS9; obtain ⟨p0, p1, p2, p3, p4, p5, p6, p7, p8⟩ := cells9 hp9; obtain ⟨b0, b1, b2, b3, b4, b5, b6, b7, b8, b9, b10, b11, b12, b13, b14, b15, b16, b17, b18, b19, b20, b21⟩ := cells22 hs9; go_simp; try exact rfl)
      try simp only [Act.put, lA, lZ, lS]
      refine rdB 9 rfl (fun K hK => ?_)
      obtain ⟨b0, b1, b2, b3, b4, b5, b6, b7, b8, b9, b10, b11, b12, b13, b14, b15, b16, b17, b18, b19, b20, b21⟩ := cells22 HB0.o
      have fb := frozen4 HB0.o
      have h18 := set18 HB0.o (.int .u64 (x.ns.gen : Nat)) (.slice na x.ns.ps.length nc) (.int .i64 x.ns.len) (.int .i64 x.ns.ep) (.string x.nm.s) (.int .i64 x.nm.area.1) (.int .i64 x.nm.area.2) (.slice ra x.nm.rest.length rc) (.slice pa x.nm.places.length pc)
      have HB5 := hyd h18.1
      have HK5 := hyd h18.2
      clear h18
      go_simp
      have HS5 := hyd (show (fun W => W.heap[Bp]? = some (.cells #[.int .u64 (sp.gen : Nat), .slice ga sp.ps.length gc, .int .i64 sp.len, .int .i64 sp.ep, .string m.s, .int .i64 m.area.1, .int .i64 m.area.2, .slice za m.rest.length zc, .slice va m.places.length vc] 82 (0, 0)) ∧ ∃ y12 y13 y14 y15 y16 y17 y18 y19 y20, W.heap[s]? = some (.cells #[.pointer (some ⟨q, 0, none⟩), .int .i64 x.area.1, .int .i64 x.area.2, .int .u64 (x.ns.gen : Nat), .slice na x.ns.ps.length nc, .int .i64 x.ns.len, .int .i64 x.ns.ep, .string x.nm.s, .int .i64 x.nm.area.1, .int .i64 x.nm.area.2, .slice ra x.nm.rest.length rc, .slice pa x.nm.places.length pc, y12, y13, y14, y15, y16, y17, y18, y19, y20, .bool false] 84 (0, 0))) ((((((((((wd.setCell ⟨s, 12, none⟩ (.int .u64 (x.ns.gen : Nat))).setCell ⟨s, 13, none⟩ (.slice na x.ns.ps.length nc)).setCell ⟨s, 14, none⟩ (.int .i64 x.ns.len)).setCell ⟨s, 15, none⟩ (.int .i64 x.ns.ep)).setCell ⟨s, 16, none⟩ (.string x.nm.s)).setCell ⟨s, 17, none⟩ (.int .i64 x.nm.area.1)).setCell ⟨s, 18, none⟩ (.int .i64 x.nm.area.2)).setCell ⟨s, 19, none⟩ (.slice ra x.nm.rest.length rc)).setCell ⟨s, 20, none⟩ (.slice pa x.nm.places.length pc))) from ⟨blkk HS0.o.1 HK5.o (by simp; intro h; exact (HPS.o h).elim), _, _, _, _, _, _, _, _, _, HB5.o⟩)
      clear fb b0 b1 b2 b3 b4 b5 b6 b7 b8 b9 b10 b11 b12 b13 b14 b15 b16 b17 b18 b19 b20 b21
      generalize (((((((((wd.setCell ⟨s, 12, none⟩ (.int .u64 (x.ns.gen : Nat))).setCell ⟨s, 13, none⟩ (.slice na x.ns.ps.length nc)).setCell ⟨s, 14, none⟩ (.int .i64 x.ns.len)).setCell ⟨s, 15, none⟩ (.int .i64 x.ns.ep)).setCell ⟨s, 16, none⟩ (.string x.nm.s)).setCell ⟨s, 17, none⟩ (.int .i64 x.nm.area.1)).setCell ⟨s, 18, none⟩ (.int .i64 x.nm.area.2)).setCell ⟨s, 19, none⟩ (.slice ra x.nm.rest.length rc)).setCell ⟨s, 20, none⟩ (.slice pa x.nm.places.length pc)) = w5 at *
      refine hK.out _ _ (fun h => HS5.o) ?_
      clear hK K
      try simp only [Act.put, lA, lZ, lS]
      refine tkB [] 10 ?vW10 rfl ?runW10 (HS5.o) ?_
      case runW10 => (intro w9 hS9; obtain ⟨hp9, y12, y13, y14, y15, y16, y17, y18, y19, y20, hs9⟩ := hS9; obtain ⟨p0, p1, p2, p3, p4, p5, p6, p7, p8⟩ := cells9 hp9; obtain ⟨b0, b1, b2, b3, b4, b5, b6, b7, b8, b9, b10, b11, b12, b13, b14, b15, b16, b17, b18, b19, b20, b21⟩ := cells22 hs9; go_simp; try exact rfl)
      try simp only [Act.put, lA, lZ, lS]
      refine tkB [] 11 ?vW11 rfl ?runW11 (HS5.o) ?_
      case runW11 => (intro w9 hS9; obtain ⟨hp9, y12, y13, y14, y15, y16, y17, y18, y19, y20, hs9⟩ := hS9; obtain ⟨p0, p1, p2, p3, p4, p5, p6, p7, p8⟩ := cells9 hp9; obtain ⟨b0, b1, b2, b3, b4, b5, b6, b7, b8, b9, b10, b11, b12, b13, b14, b15, b16, b17, b18, b19, b20, b21⟩ := cells22 hs9; go_simp; try exact rfl)
      try simp only [Act.put, lA, lZ, lS]
      refine rdB 12 rfl (fun K hK => ?_)
      obtain ⟨b0, b1, b2, b3, b4, b5, b6, b7, b8, b9, b10, b11, b12, b13, b14, b15, b16, b17, b18, b19, b20, b21⟩ := cells22 HB5.o
      have fb := frozen4 HB5.o
      have HS6 := hyd (set03 HB5.o (.int .u64 (sp.gen : Nat)) (.slice ga sp.ps.length gc) (.int .i64 sp.len) (.int .i64 sp.ep) (.string m.s) (.int .i64 m.area.1) (.int .i64 m.area.2) (.slice za m.rest.length zc) (.slice va m.places.length vc))
      go_simp
      clear fb b0 b1 b2 b3 b4 b5 b6 b7 b8 b9 b10 b11 b12 b13 b14 b15 b16 b17 b18 b19 b20 b21
      generalize (((((((((w5.setCell ⟨s, 3, none⟩ (.int .u64 (sp.gen : Nat))).setCell ⟨s, 4, none⟩ (.slice ga sp.ps.length gc)).setCell ⟨s, 5, none⟩ (.int .i64 sp.len)).setCell ⟨s, 6, none⟩ (.int .i64 sp.ep)).setCell ⟨s, 7, none⟩ (.string m.s)).setCell ⟨s, 8, none⟩ (.int .i64 m.area.1)).setCell ⟨s, 9, none⟩ (.int .i64 m.area.2)).setCell ⟨s, 10, none⟩ (.slice za m.rest.length zc)).setCell ⟨s, 11, none⟩ (.slice va m.places.length vc)) = w6 at *
      refine hK.out _ _ (fun h => (nomatch h)) ?_
      clear hK K
      try simp only [Act.put, lA, lZ, lS]
      refine wpAnyB_done (by kernel_rfl) ?_ _
      have hk46 : Keep [s] w4 w6 := ((HKD.o.mono (by simp)).trans HK5.o (fun b hb => .inl hb)).trans HS6.o.2 (fun b hb => .inl hb)
      have HK46 := hyd hk46
      have HKF := hyd ((HKA.o.mono (G := s :: D) (fun b hb _ => List.mem_cons_of_mem _ hb)).trans hk46 (fun b hb => by simp at hb; subst hb; exact .inl (by simp)))
      clear hk46
      go_wp2_with fail
      go_ret
      have hfin := And.intro HS6.o.1 HS6.o.2
      refine ⟨0, rfl, .inr ⟨HBK.o, HR.o, HEP.o, f0, tk, f, gm, f2, m, sp, pv, D2, HX.o.1, HX.o.2, HCW.o, ?_, HDA.o, HKF.o⟩⟩
      have hsv : savedV x sp pv m 0 = ⟨x.area, sp, pv, m, x.ns, x.nv, x.nm, false⟩ := rfl
      rw [hsv]
      refine HST.o.own HK46.o ?_ ⟨XRd.turn HM2.o.1 HK34.o HD34.o, MRd.turn HM2.o.2 HK34.o HD34.o, HST.o.rd.nx, HST.o.rd.nm⟩
      unfold stCells
      simp only
      rw [HV.o.1, HV.o.2.1, HV.o.2.2.1, HE.o.1, HE.o.2.1, HE.o.2.2.1]
      exact HS6.o.1
     ·have hc' : (cw != 0) = true := by rw [bne_iff_ne]; exact hc
      obtain ⟨b0, b1, b2, b3, b4, b5, b6, b7, b8, b9, b10, b11, b12, b13, b14, b15, b16, b17, b18, b19, b20, b21⟩ := cells22 HBst.o
      have fb := frozen4 HBst.o
      have hst := set_of HBst.o 21 (.bool true)
      have HS5 := hyd hst
      have HK5 := hyd (Keep.set1 w4 ⟨s, 21, none⟩ (.bool true))
      clear hst
      go_wp2_with fail
      go_ret
      refine ⟨cw, rfl, .inr ⟨HBK.o, HR.o, HEP.o, f0, tk, f, gm, f2, m, sp, pv, D2, HX.o.1, HX.o.2, HCW.o, ?_, HDA.o, (HKA.o.mono (by simp +contextual)).trans HK5.o (fun b hb => by simp at hb; subst hb; exact .inl (by simp))⟩⟩
      have hsv : savedV x sp pv m cw = { x with bk := true } := if_neg hc
      rw [hsv]
      refine HST.o.own HK5.o ?_ ⟨HST.o.rd.nx, HST.o.rd.nm, HST.o.rd.ox, HST.o.rd.om⟩
      unfold stCells
      simp only
      rw [HE.o.1, HE.o.2.1, HE.o.2.2.1, HE.o.2.2.2.1, HE.o.2.2.2.2.1, HE.o.2.2.2.2.2]
      simpa using HS5.o
    ·have HNO := hyd (And.intro hif hno)
     clear hif hno HCASE
     go_wp2_with fail
     go_ret
     exact ⟨240, rfl, .inl ⟨.full f0 HR.o HNO.o.1 HNO.o.2, H.o.st.keep0 HK3.o, HK3.o⟩⟩
end Go.Proofs.YtimpadpeibgmoaaGreat
