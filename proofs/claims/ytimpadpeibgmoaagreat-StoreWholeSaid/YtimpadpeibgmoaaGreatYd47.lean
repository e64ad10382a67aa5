/- A part of the proof (St31), joined by squeeze2.py. -/
import Derived.Test.YtimpadpeibgmoaaGreatYd46
set_option maxHeartbeats 8000000
set_option maxRecDepth 100000
namespace Go.Proofs.YtimpadpeibgmoaaGreat
open Go.RowKit Go.Emb Go.Lib Go.Emb.Ext Go.Shelf
def begB : List UInt8 := [98, 101, 103, 105, 110]
def begM : Man := ⟨begB, (2, 3), [], []⟩
theorem beg_len : needE ((manL begM).length : Int) (roomN 64 : Int) = 1 ∧ (manL begM).length ≤ 1048576 ∧ 1 ≤ (manL begM).length := by
 have h : (manL begM).length ≤ 49 ∧ 1 ≤ (manL begM).length := by decide
 have h2 : (roomN 64 : Int) = 49 := by decide
 exact ⟨need_one (by omega) (by omega), by omega, by omega⟩
theorem beg_free {f0 : List E} (hf : IsFree 60 (usedL (zSV 3)) f0) : f0 = [(5, 55)] := by
 refine free_one (by omega) (by decide) (fun i => ?_) hf
 have : usedL (zSV 3) = [(0, 2), (2, 3)] := rfl
 rw [this]
 simp only [cov_cons, covers]
 have := cov_nil i
 constructor
 ·intro h; exact ⟨by omega, by omega, fun h2 => by rcases h2 with h2 | h2 | h2 <;> first | omega | exact this h2⟩
 ·intro h
  have h1 : ¬ ((0 : Int) ≤ i ∧ i < 0 + 2) := fun h2 => h.2.2 (.inl h2)
  have h2 : ¬ ((2 : Int) ≤ i ∧ i < 2 + 3) := fun h2 => h.2.2 (.inr (.inl h2))
  omega
theorem beg_man {m : MnV} {src : ByteArray} (hs : m.s = src) (hsrc : src.data.toList = begB) (ha : m.area = (2, 3)) (hr : m.rest = []) (hp : m.places = []) : m.man = begM := by
 unfold MnV.man begM
 rw [hs, hsrc, ha, hr, hp]
 rfl
theorem beg_no {src : ByteArray} (hsrc : src.data.toList = begB) {f0 : List E} (hf : IsFree 60 (usedL (zSV 3)) f0) : ¬ PlanNo 64 f0 (zSV 3) src [] [] [] := by
 obtain rfl := beg_free hf
 rintro (⟨k, tk, f, got, left, err, hk, -⟩ | ⟨tk, f, gm, f2, err, m, ht, hd, h1, h2, h3, h4, h5, h6⟩)
 ·simp at hk
 ·obtain ⟨rfl, rfl⟩ := live_tk2 ht hd
  have hm := beg_man h1 hsrc h2 h3 h4
  rw [hm] at h5 h6
  obtain ⟨l1, l2, -⟩ := beg_len
  rw [l1] at h5
  obtain ⟨rfl, rfl, -⟩ := take_first (by omega) (by omega) (by decide) (by omega) h5
  rcases h6 with h6 | h6 | h6
  ·exact h6 rfl
  ·omega
  ·revert h6
   show ¬ (roomN 64 < (loadL ⟨(zSV 3).ns.gen + 1, [(5, 1)], ((manL begM).length : Int), (zSV 3).ns.ep + 1⟩).length)
   decide
theorem IRd.nil (S : Nat → Prop) (w : World) : IRd S w (.slice none 0 0) [] := ⟨⟨none, ⟨rfl, none, 0, rfl, Nat.le_refl _, by unfold maxLen; omega, .inl ⟨rfl, rfl⟩⟩, fun b hb => by cases hb⟩, by simp, by simp⟩
theorem NRd.nil (S : Nat → Prop) (w : World) : NRd S w (.slice none 0 0) [] := ⟨⟨none, ⟨rfl, none, 0, rfl, Nat.le_refl _, by unfold maxLen; omega, .inl ⟨rfl, rfl⟩⟩, fun b hb => by cases hb⟩, by simp, by simp⟩
section
variable {w0 w : World} {s q : Nat} {lm : List Int} {D : List Nat} {d : DS} {im : Int → List UInt8} {src : ByteArray}
theorem beg_save (h : LW w0 w s q lm D d (zSV 3) im 60 0) (hsrc : src.data.toList = begB) :
  Calls Tryz.prog 13 #[.pointer (some ⟨s, 0, none⟩), .string src, .slice none 0 0, .slice none 0 0, .slice none 0 0] w fun e w' => e = .returned (.int .i64 0) ∧ ∃ lm' D' d' x' im', LW w0 w' s q lm' D' d' x' im' 60 1 ∧ x'.ns.gen ≠ 0 ∧ x'.nm.man = begM ∧ (∀ b ∈ D', b ∈ D ∨ w.heap.size ≤ b) ∧ Keep (s :: D) w w' := by
 have hn := h.n
 have hsz := h.sz
 have hlg := h.lg
 have hsz1 : src.size ≤ 1000000 := by
  have : src.data.toList.length = 5 := by rw [hsrc]; rfl
  have h2 : src.size = src.data.toList.length := rfl
  omega
 have hI : ∀ y ∈ ([] : List ImV), I64 y.pid ∧ y.b.length ≤ 1000000 := fun y hy => by cases hy
 have hIn := SInv.saveIn (x := zSV 3) (im := im) (src := src) (rv := .slice none 0 0) (rest := []) (av := .slice none 0 0) (alive := []) (iv := .slice none 0 0) (dirty := []) h.inv h.st (by omega) (by decide) (NRd.nil _ _) (by show 0 ≤ _; omega) (IRd.nil _ _) (by show 0 ≤ _; omega) (fun y hy => (hI y hy).2) (BRd.nil _ _) hsz1 (by show 0 ≤ _; omega) (by show lm.length + 0 * d.n + d.n + 1 ≤ 1000000; omega)
 refine (st_save hIn).mono ?_
 intro e w' hP
 obtain ⟨c, rfl, hQ⟩ := SInv.saved (x := zSV 3) (im := im) h.inv hI (by decide) hP
 rcases hQ with ⟨hc, hno, -, -⟩ | ⟨-, hrt, f0, tk, f, gm, f2, m, sp, pv, D', hf, hp, hc, -, hs2, hD, hk, hi2, -⟩
 ·exfalso
  rw [hn, hsz] at hno
  cases hno with
  | broken h => cases h
  | arg h => exact h ⟨trivial, trivial⟩
  | many h => exact absurd h (by decide)
  | full f0 h1 h2 h3 => exact beg_no hsrc h2 h3
 ·have hi := plan_is hf hp hrt
  have hfit := hi.fit h.inv.ok (by omega) (fun y hy => (hI y hy).1) hp.fit (by rw [hp.sup]; show 0 + 1 < _; omega)
  have hz : 1 ≤ roomN d.sz := by have := room_ok h.inv.ok; omega
  have hnd := hi.nodup hz hrt.nodup
  have hc0 : (runW d (allW d.sz sp m [])).1 = 0 := runW_all _ h.inv.ok hfit h.off h.left
  obtain ⟨l1, l2, l3, l4, l5⟩ := save_left h.inv.ok hfit hnd hc0 h.off h.left
  rw [hc0] at hc
  subst hc
  have hw := hi2 rfl
  have hal := allW_le hz hi
  rw [l5] at hs2
  refine ⟨rfl, _, D', _, _, _, ⟨hs2, hw, rfl, l1.trans hn, l2.trans hsz, l3, l4, ?_, ?_, fun b hb => ?_, h.kp.trans hk (fun b hb => .inr (h.ds b hb))⟩, ?_, ?_, hD, hk⟩
  ·show sp.gen ≤ 1
   rw [hp.sup]
   exact Nat.le_refl 1
  ·rw [List.length_append, List.length_map]
   simp only [List.length_nil] at hal
   omega
  ·rcases List.mem_cons.1 hb with h1 | h1
   ·exact h.ds b (by simp [h1])
   ·rcases hD b h1 with h2 | h2
    ·exact h.ds b (by simp [h2])
    ·have := h.kp.size; omega
  ·show sp.gen ≠ 0
   rw [hp.sup]
   show 0 + 1 ≠ 0
   omega
  ·exact beg_man hp.ms hsrc hp.ma hp.mr hp.mp
end
theorem needE_bd (b : Int) (h0 : 0 ≤ b) : 0 ≤ needE b 49 ∧ needE b 49 ≤ b + 1 := by
 unfold needE
 split
 ·omega
 ·have h1 := Int.ediv_nonneg (show 0 ≤ b - 1 by omega) (show (0 : Int) ≤ 49 by omega)
  have h2 : (b - 1) / 49 ≤ b - 1 := Int.ediv_le_self _ (by omega)
  omega
theorem needS_bd {l : List ImV} (h : ∀ y ∈ l, y.b.length ≤ 8000) : 0 ≤ needS l ∧ needS l ≤ (l.length : Int) * 8001 := by
 induction l with
 | nil => exact ⟨Int.le_refl _, by simp [needS]⟩
 | cons y l ih =>
  obtain ⟨h1, h2⟩ := ih (fun z hz => h z (by simp [hz]))
  have h3 : needS (y :: l) = needE (y.b.length : Int) 49 + needS l := by unfold needS; simp
  have h4 := needE_bd (y.b.length : Int) (by omega)
  have h5 := h y (by simp)
  rw [h3, List.length_cons]
  omega
section
variable {w0 w : World} {q : Nat} {lm : List Int} {D : List Nat} {d : DS} {ar : E} {ns : Sup} {nm : Man} {os : Sup} {om : Man} {im : Int → List UInt8} {k : Nat}
def ReopP (w0 w : World) (q : Nat) (lm : List Int) (D : List Nat) (d : DS) (nm : Man) (im : Int → List UInt8) (k : Nat) (e : Ending) (w' : World) : Prop :=
 ∃ (t : Nat) (m : MnV) (iv : Value) (imgs : List ImV) (x : SV), e = .returned (.tuple #[.pointer (some ⟨t, 0, none⟩), aggM m, iv, .int .i64 0]) ∧ w.heap.size ≤ t ∧ LW w0 w' t q lm D d x im 60 k ∧ x.ns.gen ≠ 0 ∧ x.nm.man = nm ∧
  m.man = nm ∧ MRd (fun c => w.heap.size ≤ c) w' m ∧ IRd (fun c => w.heap.size ≤ c) w' iv imgs ∧ imL imgs = nm.places.map (fun p => (p.pid, im p.pid)) ∧ imgs.length ≤ 3000 ∧ Keep [] w w'
theorem reopen (hdk : DK w q lm D d) (h : SInv d ar ns nm os om im) (hn : d.n = 60) (hsz : d.sz = 64) (hoff : d.off = false) (hleft : d.left < 0) (hg : ns.gen ≠ 0) (hk : ns.gen ≤ k) (hk2 : k ≤ 1000) (hlg : lm.length ≤ 100 + k * 4000) (hds : ∀ b ∈ D, w0.heap.size ≤ b) (hkp : Keep [] w0 w) :
  Calls Tryz.prog 18 #[.pointer (some ⟨q, 0, none⟩)] w (ReopP w0 w q lm D d nm im k) := by
 have hIn := h.openIn hdk hoff hg (by omega) (by omega)
 have hna : nm.area = ar := by
  rcases h.now with ⟨h1, -, -⟩ | ⟨-, -, -, h1, -⟩
  ·rw [h1] at hg; exact absurd rfl hg
  ·exact h1
 have hpl := h.places
 refine (st_open hIn).mono ?_
 rintro e w' ⟨t, m, iv, imgs, x, rfl, ht, hst, e1, e2, e3, e4, e5, e6, hm, hmr, hir, hil, hkw⟩
 have e2' : x.ns = ns := e2.trans (h.best hg)
 refine ⟨t, m, iv, imgs, x, rfl, ht, ⟨hst, ?_, e6, hn, hsz, hoff, hleft, by rw [e2']; exact hk, hlg, fun b hb => ?_, hkp.trans hkw (by simp)⟩, by rw [e2']; exact hg, e3, hm, hmr, hir, hil, ?_, hkw⟩
 ·rw [e1, e2', e3, e4, e5, hna]
  exact h
 ·rcases List.mem_cons.1 hb with h1 | h1
  ·have := hkp.size; omega
  ·exact hds b h1
 ·have h1 := congrArg List.length hil
  unfold imL at h1
  simp only [List.length_map] at h1
  omega
end
section
variable {w w' : World} {S : Nat → Prop} {B : Nat} {nv dv : Value} {was dirty : List ImV} {alive : List Int}
theorem MgR.ird (h : MgR w w' (nextL was dirty alive) none nv) (hw : ∃ v, IRd S w v was) (hd : RdIm B w dv dirty) (hB : ∀ b, b < B → S b ∧ b < w.heap.size) (hS : ∀ b, w.heap.size ≤ b → S b) (hb : ∀ y ∈ dirty, y.b.length ≤ 1000000) (hal : alive.length ≤ 1000000) : IRd S w' nv (nextL was dirty alive) := by
 obtain ⟨⟨io, hr, hio⟩, hk⟩ := h
 simp only [Option.toList_none, List.append_nil] at hr
 obtain ⟨wv, hw⟩ := hw
 have hlen := nextL_len was dirty alive
 obtain ⟨o, hrd, ho⟩ := hr.rd
 refine ⟨⟨o, hrd, fun c hc => ?_⟩, fun y hy => ?_, by omega⟩
 ·rcases ho with h | h
  ·rw [h] at hc; cases hc
  ·rw [h] at hc
   exact ⟨Row.lt hr c hc, hS c (hio c hc)⟩
 ·rcases nextL_mem hy with h1 | h1
  ·obtain ⟨g1, ⟨o2, g2, g3⟩, -⟩ := hd.2.1 y h1
   exact ⟨g1, ⟨o2, g2.keep0 hk, fun b hb => ⟨Nat.lt_of_lt_of_le (hB b (g3 b hb)).2 hk.size, (hB b (g3 b hb)).1⟩⟩, by have := hb y h1; omega⟩
  ·have g1 := hw.2.1 y h1
   exact ⟨g1.1, g1.2.keep hk (by simp)⟩
end
theorem bytes_eq {a b : ByteArray} (h : a.data.toList = b.data.toList) : a = b := by
 obtain ⟨⟨x⟩⟩ := a
 obtain ⟨⟨y⟩⟩ := b
 simp only at h
 rw [h]
theorem tl_ne {a b : ByteArray} (h : ¬ a = b) : ¬ a.toList = b.toList := by
 rw [Go.ByteArray.toList_eq, Go.ByteArray.toList_eq]
 exact fun h2 => h (bytes_eq h2)
end Go.Proofs.YtimpadpeibgmoaaGreat
