/- A part of the proof (StI), joined by squeeze2.py. -/
import Derived.Test.YtimpadpeibgmoaaGreatYd39
import Derived.Test.YtimpadpeibgmoaaGreatYd35
set_option maxHeartbeats 8000000
set_option maxRecDepth 100000
namespace Go.Proofs.YtimpadpeibgmoaaGreat
open Go.RowKit Go.Emb Go.Lib Go.Emb.Ext Go.Shelf
theorem mem_blkE {e : E} (h : 0 ≤ e.1) (k : Nat) : k ∈ blkE e ↔ covers e (k : Int) := by
 unfold blkE covers
 rw [List.mem_map]
 constructor
 ·rintro ⟨j, hj, rfl⟩
  have := List.mem_range.1 hj
  omega
 ·intro hk
  exact ⟨k - e.1.toNat, List.mem_range.2 (by omega), by omega⟩
theorem mem_blk {l : List E} (h : ∀ e ∈ l, 0 ≤ e.1) (k : Nat) : k ∈ blkL l ↔ cov l (k : Int) := by
 unfold blkL cov
 rw [List.mem_flatMap]
 exact ⟨fun ⟨e, he, hk⟩ => ⟨e, he, (mem_blkE (h e he) k).1 hk⟩, fun ⟨e, he, hk⟩ => ⟨e, he, (mem_blkE (h e he) k).2 hk⟩⟩
theorem blk_nodup {l : List E} (h : ∀ e ∈ l, 0 ≤ e.1) (hd : Disj l) : (blkL l).Nodup := by
 unfold blkL List.Nodup
 rw [List.pairwise_flatMap]
 refine ⟨fun e he => ?_, ?_⟩
 ·unfold blkE
  rw [List.pairwise_map]
  exact List.Pairwise.imp (fun h => by omega) List.nodup_range
 ·refine List.Pairwise.imp_of_mem (fun {a b} ha hb hab x hx y hy e => ?_) hd
  subst e
  exact hab _ ((mem_blkE (h _ ha) _).1 hx) ((mem_blkE (h _ hb) _).1 hy)
theorem disj_len {l : List E} {n : Nat} (hd : Disj l) (h : ∀ e ∈ l, 0 ≤ e.1 ∧ 1 ≤ e.2 ∧ e.1 + e.2 ≤ n) : l.length ≤ n := by
 have h1 : (l.map (·.1)).Nodup := by
  unfold List.Nodup
  rw [List.pairwise_map]
  refine List.Pairwise.imp_of_mem (fun {a b} ha hb hab e => ?_) hd
  have ha := h a ha
  have hb := h b hb
  exact hab a.1 ⟨by omega, by omega⟩ ⟨by omega, by omega⟩
 have h2 := nodup_le (m := (List.range n).map (fun k : Nat => (k : Int))) h1 (fun x hx => by
   obtain ⟨e, he, rfl⟩ := List.mem_map.1 hx
   have := h e he
   exact List.mem_map.2 ⟨e.1.toNat, List.mem_range.2 (by omega), by omega⟩)
 simpa using h2
theorem blk_range {l : List E} {n : Nat} (hd : Disj l) (h : ∀ e ∈ l, 0 ≤ e.1 ∧ 1 ≤ e.2 ∧ e.1 + e.2 ≤ n) : (blkL l).length ≤ n := by
 have h1 := blk_nodup (fun e he => (h e he).1) hd
 have h2 : ((blkL l).map (fun k : Nat => (k : Int))).Nodup := by
  unfold List.Nodup
  rw [List.pairwise_map]
  exact List.Pairwise.imp (fun h => by omega) h1
 have h3 := nodup_le (m := (List.range n).map (fun k : Nat => (k : Int))) h2 (fun x hx => by
   obtain ⟨k, hk, rfl⟩ := List.mem_map.1 hx
   exact List.mem_map.2 ⟨k, List.mem_range.2 (blk_lt h k hk), rfl⟩)
 simpa using h3
theorem runW_last {a : List (Nat × List UInt8)} {x : Nat × List UInt8} {d : DS} (hd : d.ok) (hf : ∀ y ∈ a ++ [x], FitW d y) (hn : x.1 ∉ a.map (·.1)) (hc : (runW d (a ++ [x])).1 ≠ 0) : blkOf (runW d (a ++ [x])).2.1 x.1 = blkOf d x.1 := by
 have ha := runW_ok a hd (fun y hy => hf y (by simp [hy]))
 have hx := hf x (by simp)
 by_cases h : (runW d a).1 = 0
 ·rw [runW_snoc h] at hc ⊢
  have hx' : FitW (runW d a).2.1 x := ⟨by rw [ha.2.1]; exact hx.1, by rw [ha.2.2.1]; exact hx.2⟩
  exact (writeD_same hx' hc _).trans (ha.2.2.2.2 _ hx.1 hn)
 ·rw [runW_append, if_neg h]
  exact ha.2.2.2.2 _ hx.1 hn
theorem ptX_man (ps : List E) (m : MnV) : ptX ps m.places = ps ++ plcX m.man.places := by
 unfold ptX plcX MnV.man
 rw [List.flatMap_map]
theorem find_self {α : Type} {g : α → Int} : ∀ {l : List α}, (l.map g).Nodup → ∀ z ∈ l, l.find? (fun y => decide (g y = g z)) = some z
 | [], _, z, h => by cases h
 | x :: l, hn, z, h => by
  rw [List.map_cons, List.nodup_cons] at hn
  rw [List.find?_cons]
  rcases List.mem_cons.1 h with rfl | h
  ·simp
  ·have : g x ≠ g z := fun e => hn.1 (List.mem_map.2 ⟨z, h, e.symm⟩)
   rw [decide_eq_false this]
   exact find_self hn.2 z h
theorem flatMap_congr' {α β : Type} {f g : α → List β} : ∀ {l : List α}, (∀ a ∈ l, f a = g a) → l.flatMap f = l.flatMap g
 | [], _ => rfl
 | a :: l, h => by rw [List.flatMap_cons, List.flatMap_cons, h a (by simp), flatMap_congr' (fun b hb => h b (by simp [hb]))]
section
variable {n sz : Nat} {x : SV} {src : ByteArray} {rest : List UInt8} {alive : List Int} {dirty : List ImV} {tk : List PlV} {f0 f gm f2 : List E} {m : MnV} {sp : Sup}
theorem PlanIs.tk_map (h : PlanIs n sz x alive dirty tk f0 m sp) (hn : (dirty.map (·.pid)).Nodup) : dirty.map (fun y => pickV tk x.nm y.pid) = tk := by
 have e1 : dirty.map (fun y => pickV tk x.nm y.pid) = (dirty.map (·.pid)).map (pickV tk x.nm) := by rw [List.map_map]; rfl
 rw [e1, ← h.tpid, List.map_map]
 rw [← h.tpid] at hn
 conv => rhs; rw [← List.map_id tk]
 refine List.map_congr_left fun z hz => ?_
 show pickV tk x.nm z.p.pid = z
 unfold pickV
 rw [find_self hn z hz]
 rfl
theorem PlanIs.img (hz : 1 ≤ roomN sz) (h : PlanIs n sz x alive dirty tk f0 m sp) {y : ImV} (hy : y ∈ dirty) : imgW sz m y = layW sz (blkL (pickV tk x.nm y.pid).p.pieces) 73 y.pid.toNat y.b ∧ (blkL (pickV tk x.nm y.pid).p.pieces).length = cnt (roomN sz) y.b := by
 obtain ⟨h1, h2, h3, h4, h5⟩ := h.new y hy
 obtain ⟨h6, h7, h8, h9⟩ := h.each _ h4
 rw [h5] at h8
 have hc := blk_need hz (fun e he => by have := (h9 e he).2.1; omega) h8
 exact ⟨(imgW_len (h.find y.pid h1) hc).1, hc⟩
theorem PlanIs.man (hz : 1 ≤ roomN sz) (h : PlanIs n sz x alive dirty tk f0 m sp) : (blkL sp.ps).length = cnt (roomN sz) (manL m.man) := (plan_len hz h).2.1
theorem PlanIs.fst (hz : 1 ≤ roomN sz) (h : PlanIs n sz x alive dirty tk f0 m sp) (hn : (dirty.map (·.pid)).Nodup) : (allW sz sp m dirty).map (·.1) = blkL (plcX (tk.map (·.p)) ++ sp.ps) ++ [sp.gen % 2] := by
 unfold allW
 rw [List.map_append, List.map_append, layW_fst (h.man hz)]
 congr 1
 unfold blkL
 rw [List.flatMap_append]
 congr 1
 conv => rhs; rw [← h.tk_map hn]
 unfold plcX
 rw [List.map_flatMap, List.map_map, List.flatMap_map, List.flatMap_assoc]
 refine flatMap_congr' fun y hy => ?_
 rw [(h.img hz hy).1, layW_fst (h.img hz hy).2]
 rfl
theorem PlanIs.inr (h : PlanIs n sz x alive dirty tk f0 m sp) : ∀ e ∈ plcX (tk.map (·.p)) ++ sp.ps, 2 ≤ e.1 ∧ 1 ≤ e.2 ∧ e.1 + e.2 ≤ n := by
 intro e he
 rcases List.mem_append.1 he with he | he
 ·unfold plcX at he
  obtain ⟨z, hz, he⟩ := List.mem_flatMap.1 he
  obtain ⟨u, hu, rfl⟩ := List.mem_map.1 hz
  exact (h.each u hu).2.2.2 e he
 ·exact h.gm.2.2.2.2 e he
theorem PlanIs.nodup (hz : 1 ≤ roomN sz) (h : PlanIs n sz x alive dirty tk f0 m sp) (hn : (dirty.map (·.pid)).Nodup) : ((allW sz sp m dirty).map (·.1)).Nodup := by
 rw [h.fst hz hn]
 have h0 : ∀ e ∈ plcX (tk.map (·.p)) ++ sp.ps, 0 ≤ e.1 := fun e he => by have := (h.inr e he).1; omega
 refine List.nodup_append.2 ⟨blk_nodup h0 h.disj, by simp, fun a ha b hb => ?_⟩
 rw [List.mem_singleton.1 hb]
 obtain ⟨e, he, hc⟩ := (mem_blk h0 a).1 ha
 have := (h.inr e he).1
 unfold covers at hc
 omega
theorem PlanIs.kept (hz : 1 ≤ roomN sz) (h : PlanIs n sz x alive dirty tk f0 m sp) (hn : (dirty.map (·.pid)).Nodup) (hf : IsFree n (usedL x) f0) {j : Nat} (hj : cov (usedL x) (j : Int)) (hs : j ≠ sp.gen % 2) : j ∉ (allW sz sp m dirty).map (·.1) := by
 rw [h.fst hz hn]
 intro hm
 rcases List.mem_append.1 hm with hm | hm
 ·have h0 : ∀ e ∈ plcX (tk.map (·.p)) ++ sp.ps, 0 ≤ e.1 := fun e he => by have := (h.inr e he).1; omega
  exact ((hf.2.2 j).1 (h.free _ ((mem_blk h0 j).1 hm))).2.2 hj
 ·exact hs (List.mem_singleton.1 hm)
theorem okS_seal {d : DS} (hd : d.ok) {sp : Sup} (hfit : (loadL sp).length ≤ roomN d.sz) (hg : sp.gen < 18446744073709551616) : SealOk d.sz ⟨83, sp.gen, loadL sp⟩ := seal_ok hd (by decide) hg hfit
theorem PlanIs.fit {d : DS} (hd : d.ok) (hn2 : 2 ≤ d.n) (h : PlanIs d.n d.sz x alive dirty tk f0 m sp) (hi : ∀ y ∈ dirty, I64 y.pid) (hfit : (loadL sp).length ≤ roomN d.sz) (hg : sp.gen < 18446744073709551616) : ∀ w ∈ allW d.sz sp m dirty, FitW d w := by
 have hz : 1 ≤ roomN d.sz := by have := room_ok hd; omega
 intro w hw
 unfold allW at hw
 rcases List.mem_append.1 hw with hw | hw
 ·rcases List.mem_append.1 hw with hw | hw
  ·obtain ⟨y, hy, hw⟩ := List.mem_flatMap.1 hw
   rw [(h.img hz hy).1] at hw
   have hp := hi y hy
   unfold I64 at hp
   exact layW_fit hd (by decide) (by omega) (blk_lt (fun e he => by have := (h.each _ (h.new y hy).2.2.2.1).2.2.2 e he; omega)) w hw
  ·exact layW_fit hd (by decide) hg (blk_lt (fun e he => by have := h.gm.2.2.2.2 e he; omega)) w hw
 ·rw [List.mem_singleton.1 hw]
  exact ⟨by show sp.gen % 2 < d.n; omega, sealL_len (okS_seal hd hfit hg)⟩
end
structure ImOk (d : DS) (mm : Man) (im : Int → List UInt8) : Prop where
 each : ∀ p ∈ mm.places, 1 ≤ p.pid ∧ I64 p.pid ∧ (∀ e ∈ p.pieces, 0 ≤ e.1 ∧ 1 ≤ e.2 ∧ e.1 + e.2 ≤ d.n) ∧ Holds d (blkL p.pieces) 73 p.pid.toNat (im p.pid) ∧ p.len = ((im p.pid).length : Int) ∧ (blkL p.pieces).length ≤ 1000000 ∧ (im p.pid).length ≤ 1000000000
def WasOk (d : DS) (ow : Option Sup) (b : Sup) (os : Sup) (om : Man) : Prop :=
 (os = zSup ∧ om = zMn.man ∧ ∀ x, ow = some x → x.gen + 1 ≠ b.gen) ∨ (ow = some os ∧ os.gen + 1 = b.gen ∧ CkOk d os om)
theorem inr_ok {n : Nat} (hn : n ≤ 16384) {e : E} : (2 ≤ e.1 ∧ 1 ≤ e.2 ∧ e.1 + e.2 ≤ n) ↔ badX n e = false ∧ right e = true := by
 rw [right_iff]
 unfold badX
 simp only [Bool.or_eq_false_iff, decide_eq_false_iff_not]
 omega
theorem okPl_mem {rm : Int} : ∀ {l : List Plc} {last : Int}, okPl rm last l → ∀ p ∈ l, last < p.pid ∧ 1 ≤ p.len ∧ countE p.pieces = needE p.len rm
 | [], _, _ => by simp
 | x :: l, last, h => by
  intro p hp
  rcases List.mem_cons.1 hp with rfl | hp
  ·exact h.1
  ·have := okPl_mem h.2 p hp
   exact ⟨by have := h.1.1; omega, this.2⟩
theorem okPl_of {rm : Int} {had : Int → Prop} {g : Int → Plc} : ∀ {l : List Int} {last : Int}, aOk had last l → (∀ p ∈ l, (g p).pid = p ∧ 1 ≤ (g p).len ∧ countE (g p).pieces = needE (g p).len rm) → okPl rm last (l.map g)
 | [], _, _, _ => trivial
 | p :: l, last, h, hg => by
  have h1 := hg p (by simp)
  refine ⟨⟨by rw [h1.1]; exact h.1.1, h1.2⟩, ?_⟩
  rw [h1.1]
  exact okPl_of h.2 (fun q hq => hg q (by simp [hq]))
theorem disj_two {α : Type} {g : α → List E} : ∀ {l : List α}, Disj (l.flatMap g) → ∀ {a b : α}, a ∈ l → b ∈ l → a ≠ b → ∀ e ∈ g a, ∀ e' ∈ g b, apartE e e'
 | [], _, a, _, h, _, _ => by cases h
 | x :: l, hd, a, b, ha, hb, hne => by
  intro e he e' he'
  rw [List.flatMap_cons] at hd
  obtain ⟨-, h2, h3⟩ := List.pairwise_append.1 hd
  rcases List.mem_cons.1 ha with e1 | ha' <;> rcases List.mem_cons.1 hb with e2 | hb'
  ·exact absurd (e1.trans e2.symm) hne
  ·subst e1
   exact h3 e he e' (List.mem_flatMap.2 ⟨b, hb', he'⟩)
  ·subst e2
   exact apartE_symm (h3 e' he' e (List.mem_flatMap.2 ⟨a, ha', he⟩))
  ·exact disj_two h2 ha' hb' hne e he e' he'
theorem disj_one {α : Type} {g : α → List E} {l : List α} (hd : Disj (l.flatMap g)) {a : α} (ha : a ∈ l) : Disj (g a) := (List.pairwise_flatMap.1 hd).1 a ha
theorem CkOk.inr {d : DS} {s : Sup} {m : Man} (h : CkOk d s m) (hd : d.ok) : ∀ e ∈ m.area :: plcX m.places, 2 ≤ e.1 ∧ 1 ≤ e.2 ∧ e.1 + e.2 ≤ d.n := fun e he =>
 (inr_ok hd.2.1).2 ⟨h.chk.2.2.2.1 e he, h.chk.2.2.2.2.1 e he⟩
theorem CkOk.keep {d d' : DS} {s : Sup} {m : Man} (h : CkOk d s m) (hn : d'.n = d.n) (hs : d'.sz = d.sz) (hb : ∀ j : Nat, cov s.ps j → blkOf d' j = blkOf d j) : CkOk d' s m :=
 ⟨by rw [hn]; exact h.inb, h.holds.same hs (fun k hk => hb k ((mem_blk (fun e he => (h.inb e he).1) k).1 hk)), h.len, h.ml, h.gen, h.back, by rw [hn, hs]; exact h.chk, h.bl, h.al⟩
theorem ImOk.keep {d d' : DS} {m : Man} {im : Int → List UInt8} (h : ImOk d m im) (hn : d'.n = d.n) (hs : d'.sz = d.sz) (hb : ∀ j : Nat, cov (plcX m.places) j → blkOf d' j = blkOf d j) : ImOk d' m im := by
 refine ⟨fun p hp => ?_⟩
 obtain ⟨h1, h2, h3, h4, h5, h6, h7⟩ := h.each p hp
 refine ⟨h1, h2, by rw [hn]; exact h3, h4.same hs (fun k hk => hb k ?_), h5, h6, h7⟩
 obtain ⟨e, he, hc⟩ := (mem_blk (fun e he => (h3 e he).1) k).1 hk
 exact ⟨e, List.mem_flatMap.2 ⟨p, hp, he⟩, hc⟩
structure SInv (d : DS) (ar : E) (ns : Sup) (nm : Man) (os : Sup) (om : Man) (im : Int → List UInt8) : Prop where
 ok : d.ok
 n2 : 2 ≤ d.n
 area : 2 ≤ ar.1 ∧ 1 ≤ ar.2 ∧ ar.1 + ar.2 ≤ d.n
 ep : ns.ep = (ns.gen : Int)
 now : (ns = zSup ∧ nm = zMn.man ∧ SlotIs d 0 none) ∨ (ns.gen ≠ 0 ∧ CkOk d ns nm ∧ ImOk d nm im ∧ nm.area = ar ∧ SlotIs d (ns.gen % 2) (some ns))
 was : (os = zSup ∧ om = zMn.man ∧ SlotIs d ((ns.gen + 1) % 2) none ∧ ns.gen ≤ 1) ∨ (os.gen + 1 = ns.gen ∧ os.gen ≠ 0 ∧ CkOk d os om ∧ om.area = ar ∧ SlotIs d ((ns.gen + 1) % 2) (some os))
def ckX (s : Sup) (m : Man) : List E := s.ps ++ plcX m.places
theorem usedL_eq (x : SV) : usedL x = (0, 2) :: x.area :: (ckX x.ns x.nm.man ++ ckX x.os x.om.man) := by
 unfold usedL ckX
 rw [ptX_man, ptX_man]
theorem ck_inr {d : DS} {s : Sup} {m : Man} (hd : d.ok) (hc : CkOk d s m) {k : Nat} (hs : SlotIs d k (some s)) : ∀ e ∈ ckX s m, 2 ≤ e.1 ∧ 1 ≤ e.2 ∧ e.1 + e.2 ≤ d.n := by
 intro e he
 rcases List.mem_append.1 he with he | he
 ·have := (hs.2 s rfl).1.2.1 e he
  unfold okE at this
  omega
 ·exact hc.inr hd e (by simp [he])
theorem SInv.inrN {d : DS} {ar : E} {ns : Sup} {nm : Man} {os : Sup} {om : Man} {im : Int → List UInt8} (h : SInv d ar ns nm os om im) : ∀ e ∈ ckX ns nm, 2 ≤ e.1 ∧ 1 ≤ e.2 ∧ e.1 + e.2 ≤ d.n := by
 rcases h.now with ⟨h1, h2, -⟩ | ⟨-, h1, -, -, h2⟩
 ·rw [h1, h2]; simp [ckX, zSup, zMn, MnV.man, plcX]
 ·exact ck_inr h.ok h1 h2
theorem SInv.inrO {d : DS} {ar : E} {ns : Sup} {nm : Man} {os : Sup} {om : Man} {im : Int → List UInt8} (h : SInv d ar ns nm os om im) : ∀ e ∈ ckX os om, 2 ≤ e.1 ∧ 1 ≤ e.2 ∧ e.1 + e.2 ≤ d.n := by
 rcases h.was with ⟨h1, h2, -⟩ | ⟨-, -, h1, -, h2⟩
 ·rw [h1, h2]; simp [ckX, zSup, zMn, MnV.man, plcX]
 ·exact ck_inr h.ok h1 h2
theorem ck_len {d : DS} {s : Sup} {m : Man} (hd : d.ok) (hc : CkOk d s m) {k : Nat} (hs : SlotIs d k (some s)) : (ckX s m).length ≤ d.n + 8 := by
 have h1 := (hs.2 s rfl).1.1.2.2.2.2.2
 have h2 := disj_len (n := d.n) hc.chk.2.2.2.2.2.1 (fun e he => by have := hc.inr hd e he; omega)
 unfold ckX
 rw [List.length_append]
 rw [List.length_cons] at h2
 omega
theorem SInv.lenN {d : DS} {ar : E} {ns : Sup} {nm : Man} {os : Sup} {om : Man} {im : Int → List UInt8} (h : SInv d ar ns nm os om im) : (ckX ns nm).length ≤ d.n + 8 := by
 rcases h.now with ⟨h1, h2, -⟩ | ⟨-, h1, -, -, h2⟩
 ·rw [h1, h2]; simp [ckX, zSup, zMn, MnV.man, plcX]
 ·exact ck_len h.ok h1 h2
theorem SInv.lenO {d : DS} {ar : E} {ns : Sup} {nm : Man} {os : Sup} {om : Man} {im : Int → List UInt8} (h : SInv d ar ns nm os om im) : (ckX os om).length ≤ d.n + 8 := by
 rcases h.was with ⟨h1, h2, -⟩ | ⟨-, -, h1, -, h2⟩
 ·rw [h1, h2]; simp [ckX, zSup, zMn, MnV.man, plcX]
 ·exact ck_len h.ok h1 h2
theorem place_len {rm : Int} {l : List Plc} {last : Int} (hrm : 1 ≤ rm) (h : okPl rm last l) : l.length ≤ (plcX l).length := by
 have h1 : ∀ (l : List Plc), (∀ p ∈ l, p.pieces ≠ []) → l.length ≤ (plcX l).length := fun l => by
  induction l with
  | nil => intro _; simp
  | cons p l ih =>
   intro hl
   have h2 := ih (fun q hq => hl q (by simp [hq]))
   have h3 := List.length_pos_iff.2 (hl p (by simp))
   unfold plcX at h2 ⊢
   rw [List.flatMap_cons, List.length_append, List.length_cons]
   omega
 refine h1 l fun p hp he => ?_
 obtain ⟨-, h2, h3⟩ := okPl_mem h p hp
 rw [he] at h3
 have h4 : countE [] = 0 := rfl
 rw [h4] at h3
 unfold needE at h3
 rw [if_neg (by omega)] at h3
 have := Int.ediv_nonneg (show 0 ≤ p.len - 1 by omega) (show 0 ≤ rm by omega)
 omega
theorem SInv.places {d : DS} {ar : E} {ns : Sup} {nm : Man} {os : Sup} {om : Man} {im : Int → List UInt8} (h : SInv d ar ns nm os om im) : nm.places.length ≤ d.n ∧ ∀ p ∈ nm.places, p.pieces.length ≤ d.n := by
 rcases h.now with ⟨h1, h2, -⟩ | ⟨-, hc, -, -, h2⟩
 ·rw [h2]; simp [zMn, MnV.man]
 ·have h3 := disj_len (n := d.n) hc.chk.2.2.2.2.2.1 (fun e he => by have := hc.inr h.ok e he; omega)
  have h4 := place_len (by rw [roomI_nat]; have := room_ok h.ok; omega) hc.chk.2.2.2.2.2.2
  rw [List.length_cons] at h3
  refine ⟨by omega, fun p hp => ?_⟩
  have h5 : p.pieces.length ≤ (plcX nm.places).length := by
   obtain ⟨a, b, e⟩ := List.append_of_mem hp
   unfold plcX
   rw [e, List.flatMap_append, List.flatMap_cons, List.length_append, List.length_append]
   omega
  omega
theorem SInv.used {d : DS} {x : SV} {im : Int → List UInt8} (h : SInv d x.area x.ns x.nm.man x.os x.om.man im) : (∀ e ∈ usedL x, 0 ≤ e.1 ∧ 0 ≤ e.2 ∧ e.1 + e.2 ≤ d.n) ∧ (usedL x).length ≤ 1000000 := by
 rw [usedL_eq]
 have hn := h.ok.2.1
 refine ⟨fun e he => ?_, ?_⟩
 ·rcases List.mem_cons.1 he with rfl | he
  ·have := h.n2; simp only; omega
  rcases List.mem_cons.1 he with rfl | he
  ·have := h.area; omega
  rcases List.mem_append.1 he with he | he
  ·have := h.inrN e he; omega
  ·have := h.inrO e he; omega
 ·have h1 := h.lenN
  have h2 := h.lenO
  simp only [List.length_cons, List.length_append]
  omega
def nextIm (im : Int → List UInt8) (dirty : List ImV) (p : Int) : List UInt8 := ((dirty.find? fun y => decide (y.pid = p)).map (·.b)).getD (im p)
section
variable {d : DS} {x : SV} {src : ByteArray} {rest : List UInt8} {alive : List Int} {dirty : List ImV} {tk : List PlV} {f0 f gm f2 : List E} {m : MnV} {sp : Sup} {im : Int → List UInt8}
theorem SInv.stays (h : SInv d x.area x.ns x.nm.man x.os x.om.man im) (hi : PlanIs d.n d.sz x alive dirty tk f0 m sp) (hn : (dirty.map (·.pid)).Nodup) (hf : IsFree d.n (usedL x) f0) (hI : ∀ y ∈ dirty, I64 y.pid) (hfit : (loadL sp).length ≤ roomN d.sz) (hg : sp.gen < 18446744073709551616) :
  ∀ {j : Nat}, j < d.n → cov (usedL x) (j : Int) → j ≠ sp.gen % 2 → blkOf (runW d (allW d.sz sp m dirty)).2.1 j = blkOf d j := fun hj hc hs =>
 (runW_ok _ h.ok (hi.fit h.ok h.n2 hI hfit hg)).2.2.2.2 _ hj (hi.kept (by have := room_ok h.ok; omega) hn hf hc hs)
theorem cov_ck {l : List E} (hr : ∀ e ∈ l, 2 ≤ e.1 ∧ 1 ≤ e.2 ∧ e.1 + e.2 ≤ (d.n : Int)) {j : Nat} (hc : cov l j) : 2 ≤ j ∧ j < d.n := by
 obtain ⟨e, he, hc⟩ := hc
 have := hr e he
 unfold covers at hc
 omega
theorem used_now {i : Int} (h : cov (ckX x.ns x.nm.man) i) : cov (usedL x) i := by
 rw [usedL_eq, cov_cons, cov_cons, cov_append]
 exact .inr (.inr (.inl h))
theorem used_was {i : Int} (h : cov (ckX x.os x.om.man) i) : cov (usedL x) i := by
 rw [usedL_eq, cov_cons, cov_cons, cov_append]
 exact .inr (.inr (.inr h))
theorem cov_ps {s : Sup} {mm : Man} {i : Int} (h : cov s.ps i) : cov (ckX s mm) i := by unfold ckX; rw [cov_append]; exact .inl h
theorem cov_pl {s : Sup} {mm : Man} {i : Int} (h : cov (plcX mm.places) i) : cov (ckX s mm) i := by unfold ckX; rw [cov_append]; exact .inr h
theorem SInv.fail (h : SInv d x.area x.ns x.nm.man x.os x.om.man im) (hr : Right x.nm alive dirty) (hf : IsFree d.n (usedL x) f0) (hp : PlanOk d.sz f0 x src rest alive dirty tk f gm f2 m sp) (hI : ∀ y ∈ dirty, I64 y.pid) (hg : x.ns.gen < 1000000000)
  (hc : (runW d (allW d.sz sp m dirty)).1 ≠ 0) {d' : DS} (hd' : d'.ok) (hL : ∀ j, blkOf d' j = blkOf (runW d (allW d.sz sp m dirty)).2.1 j) (hn' : d'.n = d.n) (hs' : d'.sz = d.sz) : SInv d' x.area x.ns x.nm.man x.os x.om.man im := by
 have hi := plan_is hf hp hr
 have hsg : sp.gen = x.ns.gen + 1 := by rw [hp.sup]
 have hfit := hi.fit h.ok h.n2 hI hp.fit (by omega)
 have hz : 1 ≤ roomN d.sz := by have := room_ok h.ok; omega
 have hnd := hi.nodup hz hr.nodup
 have hall : ∀ {j : Nat}, j < d.n → cov (usedL x) (j : Int) → blkOf d' j = blkOf d j := fun {j} hj hu => by
  rw [hL]
  by_cases e : j = sp.gen % 2
  ·subst e
   unfold allW at hc hfit hnd ⊢
   rw [List.map_append, List.nodup_append] at hnd
   exact runW_last h.ok hfit (fun hm => hnd.2.2 _ hm (sp.gen % 2) (by simp) rfl) hc
  ·exact h.stays hi hr.nodup hf hI hp.fit (by omega) hj hu e
 have hslot : ∀ {k : Nat}, k < 2 → blkOf d' k = blkOf d k := fun {k} hk => hall (by have := h.n2; omega) (by
   rw [usedL_eq, cov_cons]
   exact .inl ⟨by show (0 : Int) ≤ k; omega, by show (k : Int) < 0 + 2; omega⟩)
 have hN : ∀ {j : Nat}, cov (ckX x.ns x.nm.man) j → blkOf d' j = blkOf d j := fun hj => hall (cov_ck h.inrN hj).2 (used_now hj)
 have hO : ∀ {j : Nat}, cov (ckX x.os x.om.man) j → blkOf d' j = blkOf d j := fun hj => hall (cov_ck h.inrO hj).2 (used_was hj)
 refine ⟨hd', by rw [hn']; exact h.n2, by rw [hn']; exact h.area, h.ep, ?_, ?_⟩
 ·rcases h.now with ⟨h1, h2, h3⟩ | ⟨h0, h1, h2, h3, h4⟩
  ·exact .inl ⟨h1, h2, h3.same hn' (hslot (by omega))⟩
  ·exact .inr ⟨h0, h1.keep hn' hs' (fun j hj => hN (cov_ps hj)), h2.keep hn' hs' (fun j hj => hN (cov_pl hj)), h3, h4.same hn' (hslot (by omega))⟩
 ·rcases h.was with ⟨h1, h2, h3, h4⟩ | ⟨h0, h0', h1, h2, h3⟩
  ·exact .inl ⟨h1, h2, h3.same hn' (hslot (by omega)), h4⟩
  ·exact .inr ⟨h0, h0', h1.keep hn' hs' (fun j hj => hO (cov_ps hj)), h2, h3.same hn' (hslot (by omega))⟩
theorem SInv.whose (h : SInv d x.area x.ns x.nm.man x.os x.om.man im) (hi : PlanIs d.n d.sz x alive dirty tk f0 m sp) {p : Int} (hp : p ∈ alive) :
  (∃ y ∈ dirty, y.pid = p ∧ pickV tk x.nm p ∈ tk ∧ (pickV tk x.nm p).p.len = y.b.length ∧ y.b ≠ []) ∨
  (p ∉ dirty.map (·.pid) ∧ x.ns.gen ≠ 0 ∧ CkOk d x.ns x.nm.man ∧ ImOk d x.nm.man im ∧ pickV tk x.nm p ∈ x.nm.places ∧ findL x.nm p = some (pickV tk x.nm p)) := by
 by_cases hd : p ∈ dirty.map (·.pid)
 ·obtain ⟨y, hy, rfl⟩ := List.mem_map.1 hd
  obtain ⟨h1, h2, h3, h4, h5⟩ := hi.new y hy
  exact .inl ⟨y, hy, rfl, h4, h5, h3⟩
 ·obtain ⟨z, hz, e⟩ := hi.old p hp hd
  have hm := List.mem_of_find?_eq_some hz
  rcases h.now with ⟨h1, h2, -⟩ | ⟨h0, h1, h2, -, -⟩
  ·have h3 : x.nm.man.places = [] := by rw [h2]; rfl
   have h4 : x.nm.places = [] := by
    have := congrArg List.length h3
    unfold MnV.man at this
    simpa using this
   rw [h4] at hm
   cases hm
  ·exact .inr ⟨hd, h0, h1, h2, e ▸ hm, e ▸ hz⟩
theorem find_dirty {p : Int} (hn : (dirty.map (·.pid)).Nodup) {y : ImV} (hy : y ∈ dirty) (e : y.pid = p) : nextIm im dirty p = y.b := by
 subst e
 unfold nextIm
 rw [find_self hn y hy]
 rfl
theorem find_clean {p : Int} (h : p ∉ dirty.map (·.pid)) : nextIm im dirty p = im p := by
 unfold nextIm
 rw [List.find?_eq_none.2 (fun y hy e => h (List.mem_map.2 ⟨y, hy, by simpa using e⟩))]
 rfl
theorem SInv.save (h : SInv d x.area x.ns x.nm.man x.os x.om.man im) (hr : Right x.nm alive dirty) (hf : IsFree d.n (usedL x) f0) (hp : PlanOk d.sz f0 x src rest alive dirty tk f gm f2 m sp) (hI : ∀ y ∈ dirty, I64 y.pid ∧ y.b.length ≤ 1000000) (hg : x.ns.gen < 10000000) (hm : ManOk m.man)
  (hc : (runW d (allW d.sz sp m dirty)).1 = 0) : SInv (runW d (allW d.sz sp m dirty)).2.1 x.area sp m.man x.ns x.nm.man (nextIm im dirty) := by
 have hi := plan_is hf hp hr
 have hsg : sp.gen = x.ns.gen + 1 := by rw [hp.sup]
 have hfit := hi.fit h.ok h.n2 (fun y hy => (hI y hy).1) hp.fit (by omega)
 have hz : 1 ≤ roomN d.sz := by have := room_ok h.ok; omega
 have hnd := hi.nodup hz hr.nodup
 have hat := runW_at _ h.ok hfit hnd hc
 have hok := runW_ok _ h.ok hfit
 have hst := fun {j : Nat} => h.stays hi hr.nodup hf (fun y hy => (hI y hy).1) hp.fit (by omega) (j := j)
 obtain ⟨hok, hn', hs', -, -⟩ := hok
 obtain ⟨ha1, ha2⟩ := aOk_lt hr.1
 have hmp : m.man.places = alive.map (fun p => (pickV tk x.nm p).p) := by
  unfold MnV.man
  simp only
  rw [hp.mp, List.map_map]
  rfl
 have hpx : plcX m.man.places = alive.flatMap (fun p => (pickV tk x.nm p).p.pieces) := by
  unfold plcX
  rw [hmp, List.flatMap_map]
 have hma : m.man.area = x.area := hp.ma
 have hnI : ∀ e ∈ plcX (tk.map (·.p)), 2 ≤ e.1 ∧ 1 ≤ e.2 ∧ e.1 + e.2 ≤ d.n := fun e he => hi.inr e (by simp [he])
 have htk : ∀ {z : PlV}, z ∈ tk → ∀ e ∈ z.p.pieces, e ∈ plcX (tk.map (·.p)) := fun hz e he => List.mem_flatMap.2 ⟨_, List.mem_map.2 ⟨_, hz, rfl⟩, he⟩
 have hpl : ∀ {z : PlV}, z ∈ x.nm.places → ∀ e ∈ z.p.pieces, e ∈ plcX x.nm.man.places := fun hz e he => List.mem_flatMap.2 ⟨_, List.mem_map.2 ⟨_, hz, rfl⟩, he⟩
 have hfr : ∀ {e : E}, e ∈ plcX (tk.map (·.p)) → ∀ i, covers e i → ¬ cov (usedL x) i := fun {e} he i hci => ((hf.2.2 i).1 (hi.free i (by rw [cov_append]; exact .inl ⟨e, he, hci⟩))).2.2
 have hpc : ∀ p ∈ alive, ∀ e ∈ (pickV tk x.nm p).p.pieces, 2 ≤ e.1 ∧ 1 ≤ e.2 ∧ e.1 + e.2 ≤ d.n := fun p hpa e he => by
  rcases h.whose hi hpa with ⟨y, hy, -, h4, -⟩ | ⟨-, -, h1, -, h4, -⟩
  ·exact hnI e (htk h4 e he)
  ·exact h1.inr h.ok e (by simp [hpl h4 e he])
 have hall : ∀ e ∈ m.man.area :: plcX m.man.places, 2 ≤ e.1 ∧ 1 ≤ e.2 ∧ e.1 + e.2 ≤ d.n := fun e he => by
  rcases List.mem_cons.1 he with rfl | he
  ·rw [hma]; exact h.area
  ·rw [hpx] at he
   obtain ⟨p, hpa, he⟩ := List.mem_flatMap.1 he
   exact hpc p hpa e he
 have hov : ∀ {p : Int}, p ∈ alive → p ∉ dirty.map (·.pid) → ∀ e ∈ (pickV tk x.nm p).p.pieces, ∀ i, covers e i → cov (usedL x) i := fun {p} hpa hnd e he i hci => by
  rcases h.whose hi hpa with ⟨y, hy, e1, -⟩ | ⟨-, -, -, -, h4, -⟩
  ·exact absurd (List.mem_map.2 ⟨y, hy, e1⟩) hnd
  ·exact used_now (cov_pl ⟨e, hpl h4 e he, hci⟩)
 have hdj : Disj (m.man.area :: plcX m.man.places) := by
  refine List.pairwise_cons.2 ⟨fun e he => ?_, ?_⟩
  ·rw [hma]
   rw [hpx] at he
   obtain ⟨p, hpa, he⟩ := List.mem_flatMap.1 he
   rcases h.whose hi hpa with ⟨y, hy, -, h4, -⟩ | ⟨-, h0, h1, -, h4, -⟩
   ·intro i h5 h6
    refine hfr (htk h4 e he) i h6 ?_
    rw [usedL_eq, cov_cons, cov_cons]
    exact .inr (.inl h5)
   ·have h5 := (List.pairwise_cons.1 h1.chk.2.2.2.2.2.1).1 e (hpl h4 e he)
    rcases h.now with ⟨h6, -, -⟩ | ⟨-, -, -, h6, -⟩
    ·rw [h6] at h0; exact absurd rfl h0
    ·rwa [h6] at h5
  ·rw [hpx, List.pairwise_flatMap]
   refine ⟨fun p hpa => ?_, List.Pairwise.imp_of_mem (fun {p q} hpa hqa hne e he e' he' => ?_) ha2⟩
   ·rcases h.whose hi hpa with ⟨y, hy, -, h4, -⟩ | ⟨-, -, h1, -, h4, -⟩
    ·exact ((hi.each _ h4).1).disj
    ·have h5 := (List.pairwise_cons.1 h1.chk.2.2.2.2.2.1).2
     exact disj_one (g := Plc.pieces) (l := x.nm.man.places) h5 (List.mem_map.2 ⟨_, h4, rfl⟩)
   ·have hpp := hi.pid p hpa
    have hqp := hi.pid q hqa
    by_cases hpd : p ∈ dirty.map (·.pid)
    ·by_cases hqd : q ∈ dirty.map (·.pid)
     ·rcases h.whose hi hpa with ⟨-, -, -, h4, -⟩ | ⟨h4, -⟩
      ·rcases h.whose hi hqa with ⟨-, -, -, h5, -⟩ | ⟨h5, -⟩
       ·refine disj_two (g := Plc.pieces) (l := tk.map (fun z : PlV => z.p)) (show Disj (plcX (tk.map (·.p))) from (List.pairwise_append.1 hi.disj).1) (List.mem_map.2 ⟨_, h4, rfl⟩) (List.mem_map.2 ⟨_, h5, rfl⟩) (fun e => hne ?_) e he e' he'
        rw [← hpp, ← hqp, e]
       ·exact absurd hqd h5
      ·exact absurd hpd h4
     ·rcases h.whose hi hpa with ⟨-, -, -, h4, -⟩ | ⟨h4, -⟩
      ·exact fun i h5 h6 => hfr (htk h4 e he) i h5 (hov hqa hqd e' he' i h6)
      ·exact absurd hpd h4
    ·by_cases hqd : q ∈ dirty.map (·.pid)
     ·rcases h.whose hi hqa with ⟨-, -, -, h4, -⟩ | ⟨h4, -⟩
      ·exact fun i h5 h6 => hfr (htk h4 e' he') i h6 (hov hpa hpd e he i h5)
      ·exact absurd hqd h4
     ·rcases h.whose hi hpa with ⟨y, hy, e1, -⟩ | ⟨-, -, h1, -, h4, -⟩
      ·exact absurd (List.mem_map.2 ⟨y, hy, e1⟩) hpd
      ·rcases h.whose hi hqa with ⟨y, hy, e1, -⟩ | ⟨-, -, -, -, h5, -⟩
       ·exact absurd (List.mem_map.2 ⟨y, hy, e1⟩) hqd
       ·refine disj_two (g := Plc.pieces) (l := x.nm.man.places) (List.pairwise_cons.1 h1.chk.2.2.2.2.2.1).2 (List.mem_map.2 ⟨_, h4, rfl⟩) (List.mem_map.2 ⟨_, h5, rfl⟩) (fun e => hne ?_) e he e' he'
        rw [← hpp, ← hqp, e]
 have hok16 := h.ok.2.1
 have hdl := disj_len (n := d.n) hdj (fun e he => by have := hall e he; omega)
 have hpll : ∀ p ∈ alive, 1 ≤ (pickV tk x.nm p).p.len ∧ countE (pickV tk x.nm p).p.pieces = needE (pickV tk x.nm p).p.len (roomI d.sz) := fun p hpa => by
  rcases h.whose hi hpa with ⟨y, hy, -, h4, h5, h6⟩ | ⟨-, -, h1, -, h4, -⟩
  ·obtain ⟨-, h7, h8, -⟩ := hi.each _ h4
   have := List.length_pos_iff.2 h6
   exact ⟨by rw [h5]; omega, by rw [countE_right h7, h8, roomI_nat]⟩
  ·exact (okPl_mem h1.chk.2.2.2.2.2.2 _ (List.mem_map.2 ⟨_, h4, rfl⟩)).2
 have hwr : ∀ z ∈ allW d.sz sp m dirty, blkOf (runW d (allW d.sz sp m dirty)).2.1 z.1 = z.2 := hat.1
 have hps := hp.sup
 have hgm := hi.gm
 have hck : CkOk (runW d (allW d.sz sp m dirty)).2.1 sp m.man := by
  refine ⟨by rw [hn']; exact fun e he => by have := hgm.2.2.2.2 e he; omega, ?_, by rw [hps], hp.ml, by omega, hm, ?_, ?_, by omega⟩
  ·exact holds_of (by rw [hs']; exact hi.man hz) (fun z hz => hwr z (by rw [hs'] at hz; unfold allW; simp [hz]))
  ·rw [hn', hs']
   refine ⟨by rw [roomI_nat]; omega, by have := h.n2; omega, by omega, fun e he => ((inr_ok hok16).1 (hall e he)).1, fun e he => ((inr_ok hok16).1 (hall e he)).2, hdj, ?_⟩
   rw [hmp]
   exact okPl_of (had := hadP x.nm dirty) hr.1 (fun p hpa => ⟨hi.pid p hpa, hpll p hpa⟩)
  ·have := (plan_len hz hi).2.2
   rw [hi.man hz]
   omega
 have hslot : SlotIs (runW d (allW d.sz sp m dirty)).2.1 (sp.gen % 2) (some sp) := by
  have h1 := hwr (sp.gen % 2, sealL d.sz ⟨83, sp.gen, loadL sp⟩) (by unfold allW; simp)
  refine ⟨?_, ?_⟩
  ·simp only at h1
   rw [h1, openS_sealL (okS_seal h.ok hp.fit (by omega))]
   rfl
  ·intro u hu
   injection hu with hu
   subst hu
   rw [hn']
   refine ⟨⟨⟨by omega, ?_, ?_, ?_, ?_, hgm.2.2.2.1⟩, fun e he => ?_, ?_⟩, by omega, rfl⟩
   ·rw [hps]; show 0 ≤ x.ns.ep + 1; rw [h.ep]; omega
   ·rw [hps]; show x.ns.ep + 1 ≤ _; rw [h.ep]; omega
   ·rw [hps]; show 0 ≤ ((manL m.man).length : Int); omega
   ·rw [hps]; show ((manL m.man).length : Int) ≤ _; have := hp.ml; omega
   ·have := hgm.2.2.2.2 e he; unfold okE; omega
   ·exact hgm.1.gap.imp (fun {a b} hab => .inl (by omega))
 have hN : ∀ {j : Nat}, cov (ckX x.ns x.nm.man) j → blkOf (runW d (allW d.sz sp m dirty)).2.1 j = blkOf d j := fun hj => by
  have := cov_ck h.inrN hj
  exact hst this.2 (used_now hj) (by omega)
 have hother : blkOf (runW d (allW d.sz sp m dirty)).2.1 (x.ns.gen % 2) = blkOf d (x.ns.gen % 2) := hst (by have := h.n2; omega) (by
   rw [usedL_eq, cov_cons]
   exact .inl ⟨by show (0 : Int) ≤ ((x.ns.gen % 2 : Nat) : Int); omega, by show ((x.ns.gen % 2 : Nat) : Int) < 0 + 2; omega⟩) (by omega)
 have hog : (sp.gen + 1) % 2 = x.ns.gen % 2 := by omega
 refine ⟨hok, by rw [hn']; exact h.n2, by rw [hn']; exact h.area, by rw [hps]; show x.ns.ep + 1 = ((x.ns.gen + 1 : Nat) : Int); rw [h.ep]; omega, .inr ⟨by omega, hck, ⟨fun q hq => ?_⟩, hma, hslot⟩, ?_⟩
 ·rw [hmp] at hq
  obtain ⟨p, hpa, rfl⟩ := List.mem_map.1 hq
  have hpid := hi.pid p hpa
  have hrg : ∀ e ∈ (pickV tk x.nm p).p.pieces, 0 ≤ e.1 ∧ 1 ≤ e.2 ∧ e.1 + e.2 ≤ d.n := fun e he => by have := hpc p hpa e he; omega
  have hdp : Disj (pickV tk x.nm p).p.pieces := by
   have := List.pairwise_cons.1 hdj
   rw [hpx] at this
   exact disj_one (g := fun p => (pickV tk x.nm p).p.pieces) this.2 hpa
  have hbl := blk_range (n := d.n) hdp hrg
  have hi64 : I64 (pickV tk x.nm p).p.pid := (hm.2.2.2.2 _ (by rw [hmp]; exact List.mem_map.2 ⟨p, hpa, rfl⟩)).1
  have hp1 : 1 ≤ p := by have := (ha1 p hpa).1; omega
  refine ⟨by rw [hpid]; exact hp1, hi64, by rw [hn']; exact hrg, ?_, ?_, by omega, ?_⟩
  ·rcases h.whose hi hpa with ⟨y, hy, e1, h4, h5, h6⟩ | ⟨hnd, -, h1, h2, h4, -⟩
   ·rw [hpid, find_dirty hr.nodup hy e1]
    obtain ⟨g1, g2⟩ := hi.img hz hy
    rw [e1] at g1 g2
    exact holds_of (by rw [hs']; exact g2) (fun z hz => hwr z (by
      rw [hs', ← g1] at hz
      unfold allW
      rw [List.append_assoc]
      exact List.mem_append_left _ (List.mem_flatMap.2 ⟨y, hy, hz⟩)))
   ·have h7 := (h2.each _ (List.mem_map.2 ⟨_, h4, rfl⟩)).2.2.2.1
    rw [hpid] at h7 ⊢
    rw [find_clean hnd]
    refine h7.same hs' (fun k hk => hN ?_)
    obtain ⟨e, he, hcv⟩ := (mem_blk (fun e he => (hrg e he).1) k).1 hk
    exact cov_pl ⟨e, hpl h4 e he, hcv⟩
  ·rcases h.whose hi hpa with ⟨y, hy, e1, h4, h5, h6⟩ | ⟨hnd, -, h1, h2, h4, -⟩
   ·rw [hpid, find_dirty hr.nodup hy e1]; exact h5
   ·have h7 := (h2.each _ (List.mem_map.2 ⟨_, h4, rfl⟩)).2.2.2.2.1
    rw [hpid] at h7 ⊢
    rw [find_clean hnd]; exact h7
  ·rcases h.whose hi hpa with ⟨y, hy, e1, h4, h5, h6⟩ | ⟨hnd, -, h1, h2, h4, -⟩
   ·rw [hpid, find_dirty hr.nodup hy e1]; have := (hI y hy).2; omega
   ·have h7 := (h2.each _ (List.mem_map.2 ⟨_, h4, rfl⟩)).2.2.2.2.2.2
    rw [hpid] at h7 ⊢
    rw [find_clean hnd]; exact h7
 ·rw [hog]
  rcases h.now with ⟨h1, h2, h3⟩ | ⟨h0, h1, h2, h3, h4⟩
  ·refine .inl ⟨h1, h2, ?_, ?_⟩
   ·rw [h1] at hother ⊢
    exact h3.same hn' hother
   ·rw [hsg, h1]; decide
  ·exact .inr ⟨by omega, h0, h1.keep hn' hs' (fun j hj => hN (cov_ps hj)), h3, h4.same hn' hother⟩
end
end Go.Proofs.YtimpadpeibgmoaaGreat
