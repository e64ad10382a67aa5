/- A part of the proof (St25, St26, ExtR1), joined by squeeze2.py. -/
import Derived.Test.YtimpadpeibgmoaaGreatYc44
import Derived.Test.YtimpadpeibgmoaaGreatYc26
import Derived.Test.YtimpadpeibgmoaaGreatYc23
set_option maxHeartbeats 8000000
set_option maxRecDepth 100000
namespace Go.Proofs.YtimpadpeibgmoaaGreat
open Go.RowKit Go.Emb Go.Lib Go.Emb.Ext Go.Shelf
structure LW (w0 w : World) (s q : Nat) (lm : List Int) (D : List Nat) (d : DS) (x : SV) (im : Int → List UInt8) (N k : Nat) : Prop where
 st : STD w s q lm D d x
 inv : SInv d x.area x.ns x.nm.man x.os x.om.man im
 bk : x.bk = false
 n : d.n = N
 sz : d.sz = 64
 off : d.off = false
 left : d.left < 0
 gen : x.ns.gen ≤ k
 lg : lm.length ≤ 100 + k * 4000
 ds : ∀ b ∈ s :: D, w0.heap.size ≤ b
 kp : Keep [] w0 w
section
variable {w0 w w' : World} {s q : Nat} {lm : List Int} {D : List Nat} {d : DS} {x : SV} {im : Int → List UInt8} {N k : Nat}
theorem LW.keep (h : LW w0 w s q lm D d x im N k) (hk : Keep [] w w') : LW w0 w' s q lm D d x im N k := ⟨h.st.keep0 hk, h.inv, h.bk, h.n, h.sz, h.off, h.left, h.gen, h.lg, h.ds, h.kp.trans hk (by simp)⟩
theorem LW.more (h : LW w0 w s q lm D d x im N k) {k' : Nat} (hk : k ≤ k') : LW w0 w s q lm D d x im N k' := ⟨h.st, h.inv, h.bk, h.n, h.sz, h.off, h.left, Nat.le_trans h.gen hk, Nat.le_trans h.lg (by omega), h.ds, h.kp⟩
theorem LW.lt (h : LW w0 w s q lm D d x im N k) : ∀ b ∈ s :: D, b < w.heap.size := fun b hb => by
 rcases List.mem_cons.1 hb with h1 | h1
 ·rw [h1]; exact lt_of_some h.st.blk
 ·exact h.st.dk.lt b h1
theorem LW.no (h : LW w0 w s q lm D d x im N k) {b : Nat} (hb : b < w0.heap.size) : b ∉ s :: D := fun hm => by have := h.ds b hm; omega
theorem LW.sizes (h : LW w0 w s q lm D d x im N k) (hN : N ≤ 80) : (ckX x.ns x.nm.man).length ≤ 100 ∧ (ckX x.os x.om.man).length ≤ 100 ∧ x.nm.places.length ≤ 100 ∧ (∀ y ∈ x.nm.places, y.p.pieces.length ≤ 100) ∧ x.ns.ps.length ≤ 100 := by
 have h1 := h.inv.lenN
 have h2 := h.inv.lenO
 have h3 := h.inv.places
 have h4 := h.n
 have e1 : x.nm.man.places.length = x.nm.places.length := by simp [MnV.man]
 refine ⟨by omega, by omega, by omega, fun y hy => by have := h3.2 y.p (List.mem_map.2 ⟨y, hy, rfl⟩); omega, ?_⟩
 unfold ckX at h1
 rw [List.length_append] at h1
 omega
end
section
variable {w0 w : World} {s q : Nat} {lm : List Int} {D : List Nat} {d : DS} {x : SV} {im : Int → List UInt8} {N k : Nat} {src : ByteArray} {rv : Value} {rest : List UInt8} {av : Value} {alive : List Int} {iv : Value} {dirty : List ImV}
def LwSave (w0 w : World) (s q : Nat) (lm : List Int) (D : List Nat) (d : DS) (x : SV) (im : Int → List UInt8) (N k : Nat) (alive : List Int) (dirty : List ImV) (e : Ending) (w' : World) : Prop :=
 ∃ c, e = .returned (.int .i64 c) ∧
  ((c ≠ 0 ∧ LW w0 w' s q lm D d x im N k ∧ Keep [] w w') ∨
   (c = 0 ∧ Right x.nm alive dirty ∧ ∃ f0 tk m sp pv D' d', IsFree d.n (usedL x) f0 ∧ PlanIs d.n d.sz x alive dirty tk f0 m sp ∧ sp.gen = x.ns.gen + 1 ∧ m.places = alive.map (pickV tk x.nm) ∧
     LW w0 w' s q (lm ++ (allW d.sz sp m dirty).map (fun z => (z.1 : Int))) D' d' ⟨x.area, sp, pv, m, x.ns, x.nv, x.nm, false⟩ (nextIm im dirty) N (k + 1) ∧ (∀ b ∈ D', b ∈ D ∨ w.heap.size ≤ b) ∧ Keep (s :: D) w w'))
theorem lw_save (h : LW w0 w s q lm D d x im N k) (hk : k ≤ 40) (hN : N ≤ 80) (ha : RdN w0.heap.size w av alive) (hal : alive.length ≤ 8000) (hd : IRd (fun c => c ∉ s :: D) w iv dirty) (hdl : dirty.length ≤ 40) (hdb : ∀ y ∈ dirty, y.b.length ≤ 8000) (hr : RdB w0.heap.size w rv rest) (hrl : rest.length ≤ 8000) (hsrc : src.size ≤ 8000) :
  Calls Tryz.prog 13 #[.pointer (some ⟨s, 0, none⟩), .string src, rv, av, iv] w (LwSave w0 w s q lm D d x im N k alive dirty) := by
 have hn := h.n
 have hlg := h.lg
 have hge := h.gen
 have hmul : dirty.length * d.n ≤ 40 * 80 := Nat.mul_le_mul hdl (by omega)
 have ha' : NRd (fun b => b ∉ s :: D) w av alive := by
  obtain ⟨⟨o, h1, h2⟩, h3, h4⟩ := ha
  exact ⟨⟨o, h1, fun b hb => ⟨Nat.lt_of_lt_of_le (h2 b hb) h.kp.size, h.no (h2 b hb)⟩⟩, h3, by omega⟩
 have hr' : BRd (fun b => b ∉ s :: D) w rv rest := by
  obtain ⟨⟨o, h1, h2⟩, h3⟩ := hr
  exact ⟨⟨o, h1, fun b hb => ⟨Nat.lt_of_lt_of_le (h2 b hb) h.kp.size, h.no (h2 b hb)⟩⟩, by omega⟩
 have hI : ∀ y ∈ dirty, I64 y.pid ∧ y.b.length ≤ 1000000 := fun y hy => ⟨(hd.2.1 y hy).1, by have := hdb y hy; omega⟩
 have hIn := h.inv.saveIn h.st (by omega) (by omega) ha' (by omega) hd (by omega) (fun y hy => (hI y hy).2) hr' (by omega) (by omega) (by omega) (src := src)
 refine (st_save hIn).mono ?_
 intro e w' hP
 obtain ⟨c, rfl, hQ⟩ := h.inv.saved hI (by omega) hP
 refine ⟨c, rfl, ?_⟩
 rcases hQ with ⟨hc, hno, hst, hkw⟩ | ⟨-, hrt, f0, tk, f, gm, f2, m, sp, pv, D', hf, hp, hc, hc2, hs2, hD, hkw, hi2, -⟩
 ·exact .inl ⟨hc, h.keep hkw, hkw⟩
 ·have hi := plan_is hf hp hrt
  have hsg : sp.gen = x.ns.gen + 1 := by rw [hp.sup]
  have hfit := hi.fit h.inv.ok h.inv.n2 (fun y hy => (hI y hy).1) hp.fit (by omega)
  have hz : 1 ≤ roomN d.sz := by have := room_ok h.inv.ok; omega
  have hnd := hi.nodup hz hrt.nodup
  have hc0 : (runW d (allW d.sz sp m dirty)).1 = 0 := runW_all _ h.inv.ok hfit h.off h.left
  obtain ⟨l1, l2, l3, l4, l5⟩ := save_left h.inv.ok hfit hnd hc0 h.off h.left
  rw [hc0] at hc
  subst hc
  have hal' := allW_le hz hi
  rw [l5] at hs2
  have hkw' : Keep [] w0 w' := h.kp.trans hkw (fun b hb => .inr (h.ds b hb))
  refine .inr ⟨rfl, hrt, f0, tk, m, sp, pv, D', _, hf, hi, hsg, hp.mp, ⟨hs2, hi2 rfl, rfl, l1.trans hn, l2.trans h.sz, l3, l4, by show sp.gen ≤ k + 1; omega, ?_, fun b hb => ?_, hkw'⟩, hD, hkw⟩
  ·rw [List.length_append, List.length_map]; omega
  ·rcases List.mem_cons.1 hb with h1 | h1
   ·exact h.ds b (by simp [h1])
   ·rcases hD b h1 with h2 | h2
    ·exact h.ds b (by simp [h2])
    ·have := h.kp.size; omega
theorem imL_len {a b : List ImV} (h : imL a = imL b) : a.length = b.length := by
 have := congrArg List.length h
 unfold imL at this
 simpa using this
theorem imL_len' {a b : List ImV} (h : imL a = imL b) {m : Nat} (hb : ∀ y ∈ b, y.b.length ≤ m) : ∀ y ∈ a, y.b.length ≤ m := fun y hy => by
 have h2 : (y.pid, y.b) ∈ imL a := List.mem_map.2 ⟨y, hy, rfl⟩
 rw [h] at h2
 obtain ⟨z, hz, e⟩ := List.mem_map.1 h2
 injection e with _ e
 rw [← e]
 exact hb z hz
end
theorem lw_new {w0 w w' : World} {s q N A : Nat} {D D' : List Nat} (h1 : 1 ≤ A) (h2 : A + 3 ≤ N) (hN : N ≤ 80) (hk1 : Keep [] w0 w) (hD : ∀ b ∈ D, w0.heap.size ≤ b) (hs : w.heap.size ≤ s)
  (hst : STD w' s q ([] ++ (runW ⟨N, 64, List.replicate (N * 64) 0, -1, false⟩ (zW 64 (A + 2))).2.2) D' (runW ⟨N, 64, List.replicate (N * 64) 0, -1, false⟩ (zW 64 (A + 2))).2.1 (zSV A)) (hD' : ∀ b ∈ D', b ∈ D ∨ w.heap.size ≤ b) (hk2 : Keep D w w') (im : Int → List UInt8) :
  ∃ lm d, LW w0 w' s q lm D' d (zSV A) im N 0 := by
 obtain ⟨i1, i2, i3, i4, i5, i6⟩ := format_inv (n := N) (A := A) h1 h2 (by omega) im rfl
 refine ⟨_, _, hst, i1, rfl, i2, i3, i4, i5, Nat.le_refl _, ?_, fun b hb => ?_, hk1.trans hk2 (fun b hb => .inr (hD b hb))⟩
 ·rw [List.nil_append, i6]; omega
 ·have := hk1.size
  rcases List.mem_cons.1 hb with h | h
  ·omega
  ·rcases hD' b h with h | h
   ·exact hD b h
   ·omega
end Go.Proofs.YtimpadpeibgmoaaGreat
