/- A part of the proof (St28, St29), joined by squeeze2.py. -/
import Derived.Test.YtimpadpeibgmoaaGreatYd44
import Derived.Deep.CutRange
set_option maxHeartbeats 8000000
set_option maxRecDepth 100000
namespace Go.Proofs.YtimpadpeibgmoaaGreat
open Go.RowKit Go.Emb Go.Lib Go.Emb.Ext Go.Shelf
theorem SInv.same {d : DS} {ar : E} {ns : Sup} {nm : Man} {os : Sup} {om : Man} {im : Int → List UInt8} (h : SInv d ar ns nm os om im) {d' : DS} (hd' : d'.ok) (hL : ∀ j, blkOf d' j = blkOf d j) (hn : d'.n = d.n) (hs : d'.sz = d.sz) : SInv d' ar ns nm os om im := by
 refine ⟨hd', by rw [hn]; exact h.n2, by rw [hn]; exact h.area, h.ep, ?_, ?_⟩
 ·rcases h.now with ⟨h1, h2, h3⟩ | ⟨h0, h1, h2, h3, h4⟩
  ·exact .inl ⟨h1, h2, h3.same hn (hL _)⟩
  ·exact .inr ⟨h0, h1.keep hn hs (fun j _ => hL j), h2.keep hn hs (fun j _ => hL j), h3, h4.same hn (hL _)⟩
 ·rcases h.was with ⟨h1, h2, h3, h4⟩ | ⟨h0, h0', h1, h2, h3⟩
  ·exact .inl ⟨h1, h2, h3.same hn (hL _), h4⟩
  ·exact .inr ⟨h0, h0', h1.keep hn hs (fun j _ => hL j), h2, h3.same hn (hL _)⟩
theorem cutD_ok {d : DS} (h : d.ok) {a : Int} (ha : a ≤ 9223372036854775807) : (cutD d a).ok ∧ (cutD d a).n = d.n ∧ (cutD d a).sz = d.sz := by
 unfold cutD
 split
 ·exact ⟨h, rfl, rfl⟩
 ·obtain ⟨h1, h2, h3, h4, h5, h6, h7⟩ := h
  exact ⟨⟨h1, h2, h3, h4, h5, by show -1 ≤ max a (-1); omega, by show max a (-1) ≤ _; omega⟩, rfl, rfl⟩
theorem restD_ok {d : DS} (h : d.ok) : (restD d).ok := by
 obtain ⟨h1, h2, h3, h4, h5, h6, h7⟩ := h
 exact ⟨h1, h2, h3, h4, h5, by show (-1 : Int) ≤ -1; omega, by show (-1 : Int) ≤ _; omega⟩
def nextOf (was dirty : List ImV) (p : Int) : Option ImV := match dirty.find? (fun y => decide (y.pid = p)) with | some y => some y | none => was.find? (fun y => decide (y.pid = p))
def nextL (was dirty : List ImV) (alive : List Int) : List ImV := alive.flatMap (fun p => (nextOf was dirty p).toList)
theorem nextL_snoc (was dirty : List ImV) (l : List Int) (p : Int) : nextL was dirty (l ++ [p]) = nextL was dirty l ++ (nextOf was dirty p).toList := by unfold nextL; simp
theorem nextOf_mem {was dirty : List ImV} {p : Int} {y : ImV} (h : nextOf was dirty p = some y) : (y ∈ dirty ∨ y ∈ was) ∧ y.pid = p := by
 unfold nextOf at h
 split at h
 ·rename_i z hz
  cases h
  exact ⟨.inl (List.mem_of_find?_eq_some hz), by simpa using List.find?_some hz⟩
 ·exact ⟨.inr (List.mem_of_find?_eq_some h), by simpa using List.find?_some h⟩
theorem nextL_mem {was dirty : List ImV} {alive : List Int} {y : ImV} (h : y ∈ nextL was dirty alive) : y ∈ dirty ∨ y ∈ was := by
 obtain ⟨p, -, h1⟩ := List.mem_flatMap.1 h
 cases ho : nextOf was dirty p with
 | none => rw [ho] at h1; cases h1
 | some z =>
  rw [ho] at h1
  have h2 : y = z := by simpa using h1
  exact h2 ▸ (nextOf_mem ho).1
theorem nextL_len (was dirty : List ImV) : ∀ (l : List Int), (nextL was dirty l).length ≤ l.length
 | [] => by simp [nextL]
 | p :: l => by
  have h1 := nextL_len was dirty l
  unfold nextL at h1 ⊢
  rw [List.flatMap_cons, List.length_append, List.length_cons]
  have h2 : (nextOf was dirty p).toList.length ≤ 1 := by cases nextOf was dirty p <;> simp
  omega
theorem nextIm_eq (im : Int → List UInt8) {a b : List ImV} (h : imL a = imL b) (p : Int) : nextIm im a p = nextIm im b p := by
 have e : ∀ l : List ImV, (l.find? fun y => decide (y.pid = p)).map (·.b) = ((imL l).find? fun y => decide (y.1 = p)).map (·.2) := fun l => by
  unfold imL
  rw [List.find?_map, Option.map_map]
  rfl
 unfold nextIm
 rw [e, e, h]
section
variable {d : DS} {x : SV} {alive : List Int} {dirty ims was : List ImV} {tk : List PlV} {f0 : List E} {m : MnV} {sp : Sup} {im : Int → List UInt8}
theorem next_is (hi : PlanIs d.n d.sz x alive ims tk f0 m sp) (hmp : m.places = alive.map (pickV tk x.nm)) (hil : imL ims = imL dirty) (hw : imL was = x.nm.man.places.map (fun p => (p.pid, im p.pid))) :
  imL (nextL was dirty alive) = m.man.places.map (fun p => (p.pid, nextIm im ims p.pid)) := by
 have e1 : m.man.places.map (fun p => (p.pid, nextIm im ims p.pid)) = alive.flatMap (fun p => [(p, nextIm im dirty p)]) := by
  have e2 : m.man.places = alive.map (fun p => (pickV tk x.nm p).p) := by unfold MnV.man; simp only; rw [hmp, List.map_map]; rfl
  rw [e2, List.map_map, ← List.map_eq_flatMap]
  refine List.map_congr_left fun p hp => ?_
  show ((pickV tk x.nm p).p.pid, nextIm im ims (pickV tk x.nm p).p.pid) = _
  rw [hi.pid p hp, nextIm_eq im hil]
 rw [e1]
 unfold nextL imL
 rw [List.map_flatMap]
 refine flatMap_congr' fun p hp => ?_
 unfold nextOf nextIm
 cases hd : dirty.find? (fun y => decide (y.pid = p)) with
 | some y =>
  have := List.find?_some hd
  simp only [Option.map_some, Option.getD_some, Option.toList_some, List.map_cons, List.map_nil]
  rw [show y.pid = p by simpa using this]
 | none =>
  have hnd : p ∉ ims.map (·.pid) := fun hm => by
   rw [imL_pid hil] at hm
   obtain ⟨y, hy, e⟩ := List.mem_map.1 hm
   have := List.find?_eq_none.1 hd y hy
   simp [e] at this
  obtain ⟨z, hz, -⟩ := hi.old p hp hnd
  have hzm := List.mem_of_find?_eq_some hz
  have hzp : z.p.pid = p := by have := List.find?_some hz; simpa using this
  have h1 : (p, im p) ∈ imL was := by
   rw [hw]
   refine List.mem_map.2 ⟨z.p, List.mem_map.2 ⟨z, hzm, rfl⟩, ?_⟩
   rw [hzp]
  obtain ⟨u, hu, e⟩ := List.mem_map.1 h1
  injection e with e3 e4
  cases hf : was.find? (fun y => decide (y.pid = p)) with
  | none => have := List.find?_eq_none.1 hf u hu; simp [e3] at this
  | some v =>
   have hvp : v.pid = p := by simpa using List.find?_some hf
   have hv : (v.pid, v.b) ∈ imL was := List.mem_map.2 ⟨v, List.mem_of_find?_eq_some hf, rfl⟩
   rw [hw] at hv
   obtain ⟨g, -, e5⟩ := List.mem_map.1 hv
   injection e5 with e6 e7
   simp only [Option.map_none, Option.getD_none, Option.toList_some, List.map_cons, List.map_nil]
   rw [hvp, ← e7, e6, hvp]
def needS (l : List ImV) : Int := (l.map (fun y => needE (y.b.length : Int) 49)).sum
theorem needS_snoc (l : List ImV) (y : ImV) : needS (l ++ [y]) = needS l + needE (y.b.length : Int) 49 := by unfold needS; simp
theorem needS_eq {a b : List ImV} (h : imL a = imL b) : needS a = needS b := by
 have e : ∀ l : List ImV, needS l = ((imL l).map (fun y => needE (y.2.length : Int) 49)).sum := fun l => by unfold needS imL; rw [List.map_map]; rfl
 rw [e, e, h]
theorem sum_flat {β : Type} {f : ImV → List β} : ∀ {l : List ImV}, (∀ y ∈ l, ((f y).length : Int) = needE (y.b.length : Int) 49) → ((l.flatMap f).length : Int) = needS l
 | [], _ => rfl
 | y :: l, h => by
  have h1 := sum_flat (l := l) (fun z hz => h z (by simp [hz]))
  have h2 := h y (by simp)
  have h3 : needS (y :: l) = needE (y.b.length : Int) 49 + needS l := by unfold needS; simp
  rw [List.flatMap_cons, List.length_append, h3, ← h1, ← h2]
  omega
theorem allW_need (hsz : d.sz = 64) (hi : PlanIs d.n d.sz x alive ims tk f0 m sp) (hl : sp.len = ((manL m.man).length : Int)) : ((allW d.sz sp m ims).length : Int) = 1 + needE sp.len 49 + needS ims := by
 have hr : roomN d.sz = 49 := by rw [hsz]; decide
 have hz : 1 ≤ roomN d.sz := by omega
 obtain ⟨h1, h2, h3⟩ := plan_len hz hi
 have h4 : ((ims.flatMap (imgW d.sz m)).length : Int) = needS ims := sum_flat fun y hy => by
  rw [(h1 y hy).1, hr]
  exact (need_cnt (n := 49) (by omega) y.b).symm
 have h5 : ((layW d.sz (blkL sp.ps) 77 sp.gen (manL m.man)).length : Int) = needE sp.len 49 := by
  unfold layW
  rw [List.length_zip, secs_len, h2, hl]
  have h6 : needE ((manL m.man).length : Int) 49 = ((cnt 49 (manL m.man) : Nat) : Int) := need_cnt (n := 49) (by omega) _
  rw [hr, h6]
  omega
 unfold allW
 simp only [List.length_append, List.length_singleton]
 omega
end
section
variable {w0 w w' : World} {s q : Nat} {lm : List Int} {D : List Nat} {d : DS} {x : SV} {im : Int → List UInt8} {N k : Nat}
structure LC (w0 w : World) (s q : Nat) (lm : List Int) (D : List Nat) (d : DS) (x : SV) (im : Int → List UInt8) (k : Nat) : Prop where
 st : STD w s q lm D d x
 inv : SInv d x.area x.ns x.nm.man x.os x.om.man im
 bk : x.bk = false
 n : d.n = 60
 sz : d.sz = 64
 gen : x.ns.gen ≤ k
 gen0 : x.ns.gen ≠ 0
 lg : lm.length ≤ 100 + k * 4000
 ds : ∀ b ∈ s :: D, w0.heap.size ≤ b
 kp : Keep [] w0 w
theorem LW.lc (h : LW w0 w s q lm D d x im 60 k) (h0 : x.ns.gen ≠ 0) : LC w0 w s q lm D d x im k := ⟨h.st, h.inv, h.bk, h.n, h.sz, h.gen, h0, h.lg, h.ds, h.kp⟩
theorem LC.keep (h : LC w0 w s q lm D d x im k) (hk : Keep [] w w') : LC w0 w' s q lm D d x im k := ⟨h.st.keep0 hk, h.inv, h.bk, h.n, h.sz, h.gen, h.gen0, h.lg, h.ds, h.kp.trans hk (by simp)⟩
theorem LC.cut (h : LC w0 w s q lm D d x im k) {a : Int} (ha : a ≤ 9223372036854775807) (hd : DK w' q lm D (cutD d a)) (hk : Keep D w w') : LC w0 w' s q lm D (cutD d a) x im k := by
 obtain ⟨h1, h2, h3⟩ := cutD_ok h.inv.ok ha
 exact ⟨h.st.turn hd hk (fun b hb => .inl hb), h.inv.same h1 (blkOf_cut d a) h2 h3, h.bk, h2.trans h.n, h3.trans h.sz, h.gen, h.gen0, h.lg, h.ds, h.kp.trans hk (fun b hb => .inr (h.ds b (by simp [hb])))⟩
theorem LC.lt (h : LC w0 w s q lm D d x im k) : ∀ b ∈ s :: D, b < w.heap.size := fun b hb => by
 rcases List.mem_cons.1 hb with h1 | h1
 ·rw [h1]; exact lt_of_some h.st.blk
 ·exact h.st.dk.lt b h1
theorem LC.no (h : LC w0 w s q lm D d x im k) {b : Nat} (hb : b < w0.heap.size) : b ∉ s :: D := fun hm => by have := h.ds b hm; omega
end
section
variable {w0 w : World} {s q : Nat} {lm : List Int} {D : List Nat} {d : DS} {x : SV} {im : Int → List UInt8} {k : Nat} {src : ByteArray} {rv : Value} {rest : List UInt8} {av : Value} {alive : List Int} {iv : Value} {dirty : List ImV}
def LcSave (w0 w : World) (s q : Nat) (lm : List Int) (D : List Nat) (d : DS) (x : SV) (im : Int → List UInt8) (src : ByteArray) (rest : List UInt8) (alive : List Int) (dirty : List ImV) (e : Ending) (w' : World) : Prop :=
 ∃ c, e = .returned (.int .i64 c) ∧ ∃ lm' D' d' x', STD w' s q lm' D' d' x' ∧ (∀ b ∈ D', b ∈ D ∨ w.heap.size ≤ b) ∧ Keep (s :: D) w w' ∧ d'.ok ∧ d'.n = 60 ∧ d'.sz = 64 ∧ x'.ns.ps.length ≤ 1000 ∧
  ((c ≠ 0 ∧ lm'.length ≤ lm.length + 4000 ∧ ∀ d2 : DS, d2.ok → (∀ j, blkOf d2 j = blkOf d' j) → d2.n = d'.n → d2.sz = d'.sz → SInv d2 x.area x.ns x.nm.man x.os x.om.man im) ∨
   (c = 0 ∧ lm'.length ≤ lm.length + 4000 ∧ (lm'.length : Int) = lm.length + (1 + needE x'.ns.len 49 + needS dirty) ∧ 0 ≤ x'.ns.len ∧ x'.ns.len ≤ 1048576 ∧ x'.ns.gen = x.ns.gen + 1 ∧ x'.nm.s = src ∧ x'.nm.rest = rest ∧ (∀ was, imL was = x.nm.man.places.map (fun p => (p.pid, im p.pid)) → ∀ act : List ImV, imL dirty = imL act → imL (nextL was act alive) = x'.nm.man.places.map (fun p => (p.pid, nextIm im dirty p.pid))) ∧
     ∀ d2 : DS, d2.ok → (∀ j, blkOf d2 j = blkOf d' j) → d2.n = d'.n → d2.sz = d'.sz → SInv d2 x.area x'.ns x'.nm.man x.ns x.nm.man (nextIm im dirty)))
theorem lc_save (h : LC w0 w s q lm D d x im k) (hk : k ≤ 42) (ha : RdN w0.heap.size w av alive) (hal : alive.length ≤ 8000) (hd : IRd (fun c => c ∉ s :: D) w iv dirty) (hdl : dirty.length ≤ 40) (hdb : ∀ y ∈ dirty, y.b.length ≤ 8000) (hr : RdB w0.heap.size w rv rest) (hrl : rest.length ≤ 8000) (hsrc : src.size ≤ 8000) :
  Calls Tryz.prog 13 #[.pointer (some ⟨s, 0, none⟩), .string src, rv, av, iv] w (LcSave w0 w s q lm D d x im src rest alive dirty) := by
 have hn := h.n
 have hlg := h.lg
 have hge := h.gen
 have hmul : dirty.length * d.n ≤ 40 * 60 := Nat.mul_le_mul hdl (by omega)
 have ha' : NRd (fun b => b ∉ s :: D) w av alive := by
  obtain ⟨⟨o, h1, h2⟩, h3, h4⟩ := ha
  exact ⟨⟨o, h1, fun b hb => ⟨Nat.lt_of_lt_of_le (h2 b hb) h.kp.size, h.no (h2 b hb)⟩⟩, h3, by omega⟩
 have hr' : BRd (fun b => b ∉ s :: D) w rv rest := by
  obtain ⟨⟨o, h1, h2⟩, h3⟩ := hr
  exact ⟨⟨o, h1, fun b hb => ⟨Nat.lt_of_lt_of_le (h2 b hb) h.kp.size, h.no (h2 b hb)⟩⟩, by omega⟩
 have hI : ∀ y ∈ dirty, I64 y.pid ∧ y.b.length ≤ 1000000 := fun y hy => ⟨(hd.2.1 y hy).1, by have := hdb y hy; omega⟩
 have hIn := h.inv.saveIn h.st (by omega) (by omega) ha' (by omega) hd (by omega) (fun y hy => (hI y hy).2) hr' (by omega) (by omega) (by omega) (src := src)
 refine (st_save hIn).mono ?_
 intro e w' hP
 obtain ⟨c, rfl, hQ⟩ := h.inv.saved hI (by omega) hP
 refine ⟨c, rfl, ?_⟩
 have hps : x.ns.ps.length ≤ 1000 := by
  have h1 := h.inv.lenN
  unfold ckX at h1
  rw [List.length_append] at h1
  omega
 rcases hQ with ⟨hc, hno, hst, hkw⟩ | ⟨-, hrt, f0, tk, f, gm, f2, m, sp, pv, D', hf, hp, hc, hc2, hs2, hD, hkw, hi2, hi3⟩
 ·exact ⟨lm, D, d, x, hst, fun b hb => .inl hb, hkw.mono (by simp), h.inv.ok, hn, h.sz, hps, .inl ⟨hc, by omega, fun d2 g1 g2 g3 g4 => h.inv.same g1 g2 g3 g4⟩⟩
 ·have hi := plan_is hf hp hrt
  have hsg : sp.gen = x.ns.gen + 1 := by rw [hp.sup]
  have hfit := hi.fit h.inv.ok h.inv.n2 (fun y hy => (hI y hy).1) hp.fit (by omega)
  have hz : 1 ≤ roomN d.sz := by have := room_ok h.inv.ok; omega
  have hnd := hi.nodup hz hrt.nodup
  have hal' := allW_le hz hi
  have hro := runW_ok _ h.inv.ok hfit
  have hlen : (runW d (allW d.sz sp m dirty)).2.2.length ≤ (allW d.sz sp m dirty).length := runW_len _ _
  have hl4 : (lm ++ (runW d (allW d.sz sp m dirty)).2.2).length ≤ lm.length + 4000 := by rw [List.length_append]; omega
  refine ⟨_, D', _, _, hs2, hD, hkw, hro.1, hro.2.1.trans hn, hro.2.2.1.trans h.sz, ?_, ?_⟩
  ·unfold savedV
   split
   ·have := hi.gm.2.2.2.1
    show sp.ps.length ≤ 1000
    omega
   ·exact hps
  ·by_cases hc0 : c = 0
   ·have hr0 : (runW d (allW d.sz sp m dirty)).1 = 0 := hc ▸ hc0
    have hat := runW_at _ h.inv.ok hfit hnd hr0
    have hsv : savedV x sp pv m c = ⟨x.area, sp, pv, m, x.ns, x.nv, x.nm, false⟩ := if_pos hc0
    have hsl : sp.len = ((manL m.man).length : Int) := by rw [hp.sup]
    refine .inr ⟨hc0, hl4, ?_, ?_⟩
    ·rw [List.length_append, hat.2.2.1, List.length_map, hsv]
     have := allW_need h.sz hi hsl
     show ((lm.length + (allW d.sz sp m dirty).length : Nat) : Int) = lm.length + (1 + needE sp.len 49 + needS dirty)
     omega
    ·rw [hsv]
     refine ⟨by show 0 ≤ sp.len; omega, by show sp.len ≤ _; have := hp.ml; omega, hsg, hp.ms, hp.mr, fun was hw act hact => next_is hi hp.mp hact hw, fun d2 g1 g2 g3 g4 => ?_⟩
     exact (hi2 hc0).same g1 g2 g3 g4
   ·exact .inl ⟨hc0, hl4, fun d2 g1 g2 g3 g4 => hi3 hc0 d2 g1 g2 (g3.trans hro.2.1) (g4.trans hro.2.2.1)⟩
end
open Go.RowKit Go.Emb Go.Lib Go.Emb.Ext Go.Shelf
def ImR (w : World) (v : Value) (l : List ImV) : Prop := (∃ o, Rd w 2 v l.length (l.flatMap encI) o) ∧ ∀ y ∈ l, I64 y.pid ∧ ∃ a n c, y.v = .slice a n c
theorem ImR.keep {w w' : World} {v : Value} {l : List ImV} (h : ImR w v l) (hk : Keep [] w w') : ImR w' v l := by
 obtain ⟨⟨o, h1⟩, h2⟩ := h
 exact ⟨⟨o, h1.keep0 hk⟩, h2⟩
theorem ImR.form {w : World} {v : Value} {l : List ImV} (h : ImR w v l) : ∃ a c, v = .slice a l.length c := by
 obtain ⟨⟨o, ⟨-, a, c, h, -⟩⟩, -⟩ := h
 exact ⟨a, c, h⟩
theorem ImR.at {w : World} {a : Option Addr} {c n : Nat} {l : List ImV} (h : ImR w (.slice a n c) l) {k : Nat} (hk : k < l.length) :
  ∃ b off, a = some ⟨b, off, none⟩ ∧ w.cell? ⟨b, off + k * 2, none⟩ = some (.int .i64 l[k].pid) ∧ w.cell? ⟨b, off + k * 2 + 1, none⟩ = some l[k].v := by
 obtain ⟨⟨o, h1⟩, -⟩ := h
 obtain ⟨b, off, e1, e2, e3⟩ := rd_at (e := encI) (m := 2) (fun x => rfl) h1 hk (by decide)
 exact ⟨b, off, e1, by have := e3 0 (by decide); simpa [encI] using this, by have := e3 1 (by decide); simpa [encI, Nat.add_assoc] using this⟩
theorem RdIm.imr {B : Nat} {w : World} {v : Value} {l : List ImV} (h : RdIm B w v l) : ImR w v l := by
 obtain ⟨⟨o, h1, h2⟩, h3, -⟩ := h
 refine ⟨⟨o, h1⟩, fun y hy => ⟨(h3 y hy).1, ?_⟩⟩
 obtain ⟨a, c, e⟩ := rdB_form (h3 y hy).2
 exact ⟨a, _, c, e⟩
structure MgR (w wx : World) (base : List ImV) (r : Option ImV) (s : Value) : Prop where
 row : ∃ io, Row wx 52 2 s (base ++ r.toList).length ((base ++ r.toList).flatMap encI) io ∧ ∀ c, io = some c → w.heap.size ≤ c
 kp : Keep [] w wx
theorem MgR.keep {w wx wy : World} {base : List ImV} {r : Option ImV} {s : Value} (h : MgR w wx base r s) (hk : Keep [] wx wy) : MgR w wy base r s := by
 obtain ⟨⟨io, h1, h2⟩, h3⟩ := h
 exact ⟨⟨io, h1.keep hk (by simp), h2⟩, h3.trans hk (by simp)⟩
theorem MgR.base {w wx : World} {base : List ImV} {r : Option ImV} {s : Value} (h : MgR w wx base r s) {l : List ImV} (e : base ++ r.toList = l) : MgR w wx l none s := by
 obtain ⟨⟨io, h1, h2⟩, h3⟩ := h
 exact ⟨⟨io, by rw [e] at h1; simpa using h1, h2⟩, h3⟩
def AtP (w : World) (a : Option Addr) (i : Nat) (p : Int) : Prop := ∃ b off, a = some ⟨b, off, none⟩ ∧ w.cell? ⟨b, off + i, none⟩ = some (.int .i64 p)
theorem AtP.at {w wx : World} {a : Option Addr} {i : Nat} {p : Int} (h : AtP w a i p) (hk : Keep [] w wx) : ∃ (_ : Unit) (b off : Nat), a = some ⟨b, off, none⟩ ∧ wx.cell? ⟨b, off + i, none⟩ = some (.int .i64 p) := by
 obtain ⟨b, off, e, h1⟩ := h
 exact ⟨(), b, off, e, hk.cellOf h1 (by simp)⟩
theorem RdN.atp {B : Nat} {w : World} {a : Option Addr} {c n : Nat} {l : List Int} (h : RdN B w (.slice a n c) l) {k : Nat} (hk : k < l.length) : AtP w a k l[k] := by
 obtain ⟨⟨o, h1, -⟩, -⟩ := h
 have e : l.map (Value.int .i64) = l.flatMap (fun z => [Value.int .i64 z]) := List.map_eq_flatMap
 rw [e] at h1
 obtain ⟨b, off, e1, -, e3⟩ := rd_at (e := fun z : Int => [Value.int .i64 z]) (m := 1) (fun x => rfl) h1 hk (by decide)
 exact ⟨b, off, e1, by have := e3 0 (by decide); simpa using this⟩
theorem find_none {l : List ImV} {p : Int} (h : ∀ y ∈ l, y.pid ≠ p) : l.find? (fun y => decide (y.pid = p)) = none := List.find?_eq_none.2 (fun y hy => by simpa using h y hy)
theorem find_at {l a b : List ImV} {y : ImV} {p : Int} (e : l = a ++ y :: b) (h : ∀ z ∈ a, z.pid ≠ p) (hy : y.pid = p) : l.find? (fun y => decide (y.pid = p)) = some y := by
 rw [e, List.find?_append, find_none h]
 simp [hy]
theorem next_first {was dirty : List ImV} {p : Int} {y : ImV} (h : dirty.find? (fun y => decide (y.pid = p)) = some y) : nextOf was dirty p = some y := by unfold nextOf; rw [h]
theorem next_second {was dirty : List ImV} {p : Int} (h : dirty.find? (fun y => decide (y.pid = p)) = none) : nextOf was dirty p = was.find? (fun y => decide (y.pid = p)) := by unfold nextOf; rw [h]
def MergeP (w : World) (was dirty : List ImV) (alive : List Int) (e : Ending) (w' : World) : Prop := ∃ v, e = .returned v ∧ MgR w w' (nextL was dirty alive) none v
theorem w_merge {B : Nat} {w : World} {wv dv av : Value} {was dirty : List ImV} {alive : List Int} (hw : ImR w wv was) (hd : ImR w dv dirty) (ha : RdN B w av alive) (hwl : was.length ≤ 10000) (hdl : dirty.length ≤ 10000) (hal : alive.length ≤ 10000) :
  Calls Tryz.prog 22 #[wv, dv, av] w (MergeP w was dirty alive) := by
 obtain ⟨i0, hi, hz0, hz1, hz2⟩ := info_parts im_info
 obtain ⟨wa, wc, rfl⟩ := hw.form
 obtain ⟨da, dc, rfl⟩ := hd.form
 obtain ⟨aa, ac, rfl⟩ := ha.form
 obtain ⟨nw, hnw⟩ : ∃ z, z = was.length := ⟨_, rfl⟩
 obtain ⟨nd, hnd⟩ : ∃ z, z = dirty.length := ⟨_, rfl⟩
 obtain ⟨na, hna⟩ : ∃ z, z = alive.length := ⟨_, rfl⟩
 have HW := hyd hw
 have HD := hyd hd
 have HAL := hyd ha
 have HI := hyd hi
 have HWL := hyd hnw
 have HDL := hyd hnd
 have HNA := hyd hna
 rw [← hnw] at hwl ⊢
 rw [← hnd] at hdl ⊢
 rw [← hna] at hal ⊢
 clear hw hd ha hi hnw hnd hna
 go_enter Tryz.func22, Tryz.ntmps22
 go_wp2_with fail
 go_loopw [7, 8] (fun s i wr => ∃ (i' : Nat), i' ≤ na ∧ i = .int .i64 i' ∧ MgR w wr (nextL was dirty (alive.take i')) none s) (fun _ i _ => na - (intOf i).toNat)
 case atStart => exact ⟨0, Nat.zero_le _, rfl, ⟨none, by simpa [nextL] using Row.nil _ _ _, by simp⟩, Keep.refl _ _⟩
 case round =>
  obtain ⟨i, hin, rfl, hmr⟩ := hrel
  by_cases hilt : i < na
  ·have hia : i < alive.length := by have := HNA.o; omega
   have htk : alive.take (i + 1) = alive.take i ++ [alive[i]] := List.take_succ_eq_append_getElem hia
   have hat : AtP w aa i alive[i] := HAL.o.atp hia
   obtain ⟨p, hp⟩ : ∃ p, p = alive[i] := ⟨_, rfl⟩
   rw [← hp] at htk hat
   have HA := hyd hat
   have HTK := hyd htk
   have hbl : (nextL was dirty (alive.take i)).length ≤ 10000 := by
    have h1 := nextL_len was dirty (alive.take i)
    rw [List.length_take] at h1
    omega
   obtain ⟨base, hbase⟩ : ∃ z, z = nextL was dirty (alive.take i) := ⟨_, rfl⟩
   rw [← hbase] at hmr hbl
   have HBA := hyd hbase
   have HMR0 := hyd hmr
   obtain ⟨bn, hbn⟩ : ∃ z, z = base.length := ⟨_, rfl⟩
   have HBN := hyd hbn
   have i0' : (0 : Int) ≤ (i : Int) := by omega
   have i1' : (i : Int) < (na : Int) := by omega
   rw [← hbn] at hbl
   clear hia htk hat hp hbase hmr hbn hin hilt
   go_upto_region 5 with fail
   iterate 8 go_step
   go_cut [7, 9] from 18 to 44 (fun s f wx => ∃ r : Option ImV, f = .bool r.isSome ∧ MgR w wx base r s ∧ r = dirty.find? (fun y => decide (y.pid = p)))
   case first =>
    go_wp2_with fail
    go_loopw [7, 9, 10] (fun s f j wx => ∃ (k : Nat) (r : Option ImV), k ≤ nd ∧ j = .int .i64 k ∧ f = .bool r.isSome ∧ MgR w wx base r s ∧ ((r = none ∧ ∀ y ∈ dirty.take k, y.pid ≠ p) ∨ (r ≠ none ∧ r = dirty.find? (fun y => decide (y.pid = p))))) (fun _ _ j _ => nd - (intOf j).toNat)
    case atStart => exact ⟨0, none, Nat.zero_le _, rfl, rfl, HMR0.o, .inl ⟨rfl, by simp⟩⟩
    case round =>
     obtain ⟨k, r, hk, rfl, rfl, hmr, hcase⟩ := hrel
     have HMR := hyd hmr
     have HCS := hyd hcase
     clear hmr hcase
     by_cases hlt : k < nd
     ·have j0 : (0 : Int) ≤ (k : Int) := by omega
      have j1 : (k : Int) < (nd : Int) := by omega
      cases r with
      | some z =>
       skip
       go_wp2_with fail
       go_meet
       case rel => exact ⟨some z, rfl, HMR.o, by rcases HCS.o with h | h; exact absurd h.1 (by simp); exact h.2⟩
      | none =>
       have hlk : k < dirty.length := by have := HDL.o; omega
       have hrl := HD.o.keep HMR.o.kp
       rw [← HDL.o] at hrl
       obtain ⟨lb, loff, rfl, g0, g1⟩ := hrl.at hlk
       obtain ⟨hy1, ya, yn, yc, hyv⟩ := HD.o.2 _ (List.getElem_mem hlk)
       have htk : dirty.take (k + 1) = dirty.take k ++ [dirty[k]] := List.take_succ_eq_append_getElem hlk
       have hdr : dirty = dirty.take k ++ dirty[k] :: dirty.drop (k + 1) := by
        conv => lhs; rw [← List.take_append_drop k dirty, List.drop_eq_getElem_cons hlk]
       obtain ⟨y, hy⟩ : ∃ y, y = dirty[k] := ⟨_, rfl⟩
       rw [← hy] at g0 g1 hyv htk hdr
       rw [hyv] at g1
       obtain ⟨pid, hpid⟩ : ∃ z, z = y.pid := ⟨_, rfl⟩
       rw [← hpid] at g0
       obtain ⟨-, eb, eoff, ee, ge⟩ := HA.o.at HMR.o.kp
       obtain ⟨⟨io, hrow, hio⟩, hkp⟩ := HMR.o
       simp only [Option.toList_none, List.append_nil] at hrow
       rw [← HBN.o] at hrow
       obtain ⟨o5, ⟨-, sa, sc, hs, -⟩, -⟩ := hrow.rd
       subst hs
       have HROW := hyd hrow
       have HIO := hyd (And.intro hio hkp)
       have HY := hyd (And.intro hpid (And.intro hyv (And.intro htk (And.intro hdr True.intro))))
       subst ee
       clear hlk hrl hy1 hyv htk hdr hy hpid
       go_wp2_with fail
       go_quiet (fail)
       by_cases hep : pid = p
       ·have hep' : decide (pid = p) = true := decide_eq_true hep
        go_wp2_with (at_builtin; refine wpList_append_row _ rfl _ _ 42 42 rfl 52 i0 _ 2 32 Tryz.underlying42 HI.o hz0 hz1 hz2 rfl _ _ _ io rfl (Row.keep HROW.o (F := []) (by repeat (first | exact Keep.refl _ _ | refine Keep.drewN ?_ _ | refine Keep.drew ?_ | refine Keep.alloc ?_ _)) (by simp)) _ rfl 1 _ (two_srcB Tryz.underlying42 _ _ (by first | rfl | simp) _ _ rfl rfl _) (by omega) (by unfold maxLen; omega) (by omega) ?_; intro g off cap w2 hrow2 hk2 hg2)
        have hk3 : Keep io.toList wr w2 := (show Keep io.toList wr _ from (by repeat (first | exact Keep.refl _ _ | refine Keep.drewN ?_ _ | refine Keep.drew ?_ | refine Keep.alloc ?_ _))).trans hk2 (fun x hx => .inl hx)
        have hm2 : MgR w w2 base (some y) (.slice (some ⟨g, off, none⟩) (bn + 1) cap) := by
         refine ⟨⟨some g, ?_, fun c hc => ?_⟩, HIO.o.2.trans hk3 (fun c hc => .inr (HIO.o.1 c (by simpa using hc)))⟩
         ·have e1 : (base ++ (some y).toList).length = bn + 1 := by have := HBN.o; simp; omega
          have e3 : y.pid = p := by rw [← HY.o.1]; exact hep
          have e2 : (base ++ (some y).toList).flatMap encI = base.flatMap encI ++ [.int .i64 p, .slice ya yn yc] := by simp [encI, e3, HY.o.2.1]
          rw [e1, e2]
          exact hrow2
         ·cases hc
          rcases hg2 with h | h
          ·exact HIO.o.1 g h
          ·have := HIO.o.2.size
           simp at h
           omega
        have HM2 := hyd hm2
        clear hrow2 hk2 hg2 hk3 hm2
        go_wp2_with fail
        go_roundw
        case rel => exact ⟨k + 1, some y, by omega, by go_num, rfl, HM2.o, .inr ⟨by simp, (find_at HY.o.2.2.2.1 (fun z hz => by rcases HCS.o with h | h; exact h.2 z hz; exact absurd rfl h.1) (by rw [← HY.o.1]; exact hep)).symm⟩⟩
        case measure => show nd - (k + 1) < nd - k; omega
       ·have hep' : decide (pid = p) = false := decide_eq_false hep
        go_wp2_with fail
        go_roundw
        case rel =>
         refine ⟨k + 1, none, by omega, by go_num, rfl, HMR.o.keep (by repeat (first | exact Keep.refl _ _ | refine Keep.drewN ?_ _ | refine Keep.drew ?_)), .inl ⟨rfl, fun z hz => ?_⟩⟩
         rw [HY.o.2.2.1] at hz
         rcases List.mem_append.1 hz with hz | hz
         ·rcases HCS.o with h | h
          ·exact h.2 z hz
          ·exact absurd rfl h.1
         ·rw [List.mem_singleton.1 hz, ← HY.o.1]
          exact hep
        case measure => show nd - (k + 1) < nd - k; omega
     ·have hkn : k = nd := by omega
      have j1 : ¬ ((k : Int) < (nd : Int)) := by omega
      have j1' : decide ((k : Int) < (nd : Int)) = false := decide_eq_false j1
      skip
      go_wp2_with fail
      go_meet
      case rel => exact ⟨r, rfl, HMR.o, by rcases HCS.o with h | h; (rw [h.1]; exact (find_none (fun z hz => h.2 z (by rw [List.take_of_length_le (by have := HDL.o; omega)]; exact hz))).symm); exact h.2⟩
   case rest =>
    obtain ⟨r1, rfl, hmr1, hr1⟩ := hcut
    have HMR1 := hyd hmr1
    have HR1 := hyd hr1
    clear hmr1 hr1
    go_wp2_with fail
    go_loopw [7, 9, 11] (fun s f j wx => ∃ (k : Nat) (r : Option ImV), k ≤ nw ∧ j = .int .i64 k ∧ f = .bool r.isSome ∧ MgR w wx base r s ∧ ((r = none ∧ r1 = none ∧ ∀ y ∈ was.take k, y.pid ≠ p) ∨ (r ≠ none ∧ r = nextOf was dirty p))) (fun _ _ j _ => nw - (intOf j).toNat)
    case atStart => exact ⟨0, r1, Nat.zero_le _, rfl, rfl, HMR1.o, by cases r1 with | none => exact .inl ⟨rfl, rfl, by simp⟩ | some y => exact .inr ⟨by simp, (next_first HR1.o.symm).symm⟩⟩
    case round =>
     obtain ⟨k, r, hk, rfl, rfl, hmr, hcase⟩ := hrel
     have HMR := hyd hmr
     have HCS := hyd hcase
     clear hmr hcase
     by_cases hlt : k < nw
     ·have j0 : (0 : Int) ≤ (k : Int) := by omega
      have j1 : (k : Int) < (nw : Int) := by omega
      cases r with
      | some z =>
       skip
       have hr2 : some z = nextOf was dirty p := by rcases HCS.o with h | h; exact absurd h.1 (by simp); exact h.2
       have hfin := HMR.o.base (l := nextL was dirty (alive.take (i + 1))) (by rw [HTK.o, nextL_snoc, hr2, ← HBA.o])
       have HFIN := hyd hfin
       clear hr2 hfin
       go_wp2_with fail
       go_roundw
       case rel => exact ⟨i + 1, by omega, by go_num, HFIN.o⟩
       case measure => show na - (i + 1) < na - i; omega
      | none =>
       have hlk : k < was.length := by have := HWL.o; omega
       have hrl := HW.o.keep HMR.o.kp
       rw [← HWL.o] at hrl
       obtain ⟨lb, loff, rfl, g0, g1⟩ := hrl.at hlk
       obtain ⟨hy1, ya, yn, yc, hyv⟩ := HW.o.2 _ (List.getElem_mem hlk)
       have htk : was.take (k + 1) = was.take k ++ [was[k]] := List.take_succ_eq_append_getElem hlk
       have hdr : was = was.take k ++ was[k] :: was.drop (k + 1) := by
        conv => lhs; rw [← List.take_append_drop k was, List.drop_eq_getElem_cons hlk]
       obtain ⟨y, hy⟩ : ∃ y, y = was[k] := ⟨_, rfl⟩
       rw [← hy] at g0 g1 hyv htk hdr
       rw [hyv] at g1
       obtain ⟨pid, hpid⟩ : ∃ z, z = y.pid := ⟨_, rfl⟩
       rw [← hpid] at g0
       obtain ⟨-, eb, eoff, ee, ge⟩ := HA.o.at HMR.o.kp
       obtain ⟨⟨io, hrow, hio⟩, hkp⟩ := HMR.o
       simp only [Option.toList_none, List.append_nil] at hrow
       rw [← HBN.o] at hrow
       obtain ⟨o5, ⟨-, sa, sc, hs, -⟩, -⟩ := hrow.rd
       subst hs
       have HROW := hyd hrow
       have HIO := hyd (And.intro hio hkp)
       have HY := hyd (And.intro hpid (And.intro hyv (And.intro htk (And.intro hdr True.intro))))
       subst ee
       clear hlk hrl hy1 hyv htk hdr hy hpid
       go_wp2_with fail
       go_quiet (fail)
       by_cases hep : pid = p
       ·have hep' : decide (pid = p) = true := decide_eq_true hep
        go_wp2_with (at_builtin; refine wpList_append_row _ rfl _ _ 42 42 rfl 52 i0 _ 2 32 Tryz.underlying42 HI.o hz0 hz1 hz2 rfl _ _ _ io rfl (Row.keep HROW.o (F := []) (by repeat (first | exact Keep.refl _ _ | refine Keep.drewN ?_ _ | refine Keep.drew ?_ | refine Keep.alloc ?_ _)) (by simp)) _ rfl 1 _ (two_srcB Tryz.underlying42 _ _ (by first | rfl | simp) _ _ rfl rfl _) (by omega) (by unfold maxLen; omega) (by omega) ?_; intro g off cap w2 hrow2 hk2 hg2)
        have hk3 : Keep io.toList wr w2 := (show Keep io.toList wr _ from (by repeat (first | exact Keep.refl _ _ | refine Keep.drewN ?_ _ | refine Keep.drew ?_ | refine Keep.alloc ?_ _))).trans hk2 (fun x hx => .inl hx)
        have hm2 : MgR w w2 base (some y) (.slice (some ⟨g, off, none⟩) (bn + 1) cap) := by
         refine ⟨⟨some g, ?_, fun c hc => ?_⟩, HIO.o.2.trans hk3 (fun c hc => .inr (HIO.o.1 c (by simpa using hc)))⟩
         ·have e1 : (base ++ (some y).toList).length = bn + 1 := by have := HBN.o; simp; omega
          have e3 : y.pid = p := by rw [← HY.o.1]; exact hep
          have e2 : (base ++ (some y).toList).flatMap encI = base.flatMap encI ++ [.int .i64 p, .slice ya yn yc] := by simp [encI, e3, HY.o.2.1]
          rw [e1, e2]
          exact hrow2
         ·cases hc
          rcases hg2 with h | h
          ·exact HIO.o.1 g h
          ·have := HIO.o.2.size
           simp at h
           omega
        have HM2 := hyd hm2
        clear hrow2 hk2 hg2 hk3 hm2
        go_wp2_with fail
        go_roundw
        case rel => exact ⟨k + 1, some y, by omega, by go_num, rfl, HM2.o, .inr ⟨by simp, ((next_second (by rcases HCS.o with h | h; rw [← HR1.o]; exact h.2.1; exact absurd rfl h.1)).trans (find_at HY.o.2.2.2.1 (fun z hz => by rcases HCS.o with h | h; exact h.2.2 z hz; exact absurd rfl h.1) (by rw [← HY.o.1]; exact hep))).symm⟩⟩
        case measure => show nw - (k + 1) < nw - k; omega
       ·have hep' : decide (pid = p) = false := decide_eq_false hep
        go_wp2_with fail
        go_roundw
        case rel =>
         refine ⟨k + 1, none, by omega, by go_num, rfl, HMR.o.keep (by repeat (first | exact Keep.refl _ _ | refine Keep.drewN ?_ _ | refine Keep.drew ?_)), .inl ⟨rfl, by rcases HCS.o with h | h; exact h.2.1; exact absurd rfl h.1, fun z hz => ?_⟩⟩
         rw [HY.o.2.2.1] at hz
         rcases List.mem_append.1 hz with hz | hz
         ·rcases HCS.o with h | h
          ·exact h.2.2 z hz
          ·exact absurd rfl h.1
         ·rw [List.mem_singleton.1 hz, ← HY.o.1]
          exact hep
        case measure => show nw - (k + 1) < nw - k; omega
     ·have hkn : k = nw := by omega
      have j1 : ¬ ((k : Int) < (nw : Int)) := by omega
      have j1' : decide ((k : Int) < (nw : Int)) = false := decide_eq_false j1
      skip
      have hr2 : r = nextOf was dirty p := by rcases HCS.o with h | h; (rw [h.1]; exact ((next_second (by rw [← HR1.o]; exact h.2.1)).trans (find_none (fun z hz => h.2.2 z (by rw [List.take_of_length_le (by have := HWL.o; omega)]; exact hz)))).symm); exact h.2
      have hfin := HMR.o.base (l := nextL was dirty (alive.take (i + 1))) (by rw [HTK.o, nextL_snoc, hr2, ← HBA.o])
      have HFIN := hyd hfin
      clear hr2 hfin
      go_wp2_with fail
      go_roundw
      case rel => exact ⟨i + 1, by omega, by go_num, HFIN.o⟩
      case measure => show na - (i + 1) < na - i; omega
  ·obtain rfl : i = na := by omega
   have i1' : ¬ ((i : Int) < (i : Int)) := by omega
   have HMR := hyd hmr
   clear hmr
   go_wp2_with fail
   go_ret
   have h1 := HMR.o
   rw [List.take_of_length_le (by have := HNA.o; omega)] at h1
   exact ⟨_, rfl, h1⟩
end Go.Proofs.YtimpadpeibgmoaaGreat
