/- A part of the proof (St18, St19, St20), joined by squeeze2.py. -/
import Derived.Test.YtimpadpeibgmoaaGreatYd41
set_option maxHeartbeats 8000000
set_option maxRecDepth 100000
namespace Go.Emb.Ext
theorem take_first {n most a L : Int} {got left : List E} {err : Int} (hn : 1 ≤ n) (hL : n ≤ L) (hr : right (a, L) = true) (hm : 1 ≤ most) (h : TakeRes n most [(a, L)] got left err) : err = 0 ∧ got = [(a, n)] ∧ left = restAt (a, L) n := by
 rcases h with ⟨h, -⟩ | ⟨-, p, e1, hj, h⟩
 ·omega
 obtain ⟨rfl, rfl⟩ := JoinRes.oneX hr hj
 obtain ⟨m, hm'⟩ : ∃ m, most.toNat = m + 1 := ⟨most.toNat - 1, by omega⟩
 have ht : takeL most.toNat n [(a, L)] [] = some ([(a, n)], restAt (a, L) n) := by
  have hc : chooseI [(a, L)] n = 0 := by
   unfold chooseI
   rw [List.findIdx?_cons, decide_eq_true hL]
   rfl
  rw [hm']
  unfold takeL
  rw [if_neg (by omega), hc]
  simp only [List.getElem?_cons_zero]
  rw [show min L n = n by omega, show n - n = 0 by omega]
  unfold takeL
  rw [if_pos (by omega)]
  simp [updI]
 rw [ht] at h
 rcases h with ⟨h, _⟩ | ⟨_, h, _⟩ | ⟨_, _, g, h3, h4, h5⟩
 ·exact absurd rfl h
 ·rcases h with h | ⟨_, h⟩
  ·simp [sumL] at h; omega
  ·cases h
 ·simp only [Option.some.injEq, Prod.mk.injEq] at h3
  obtain ⟨rfl, rfl⟩ := h3
  obtain ⟨rfl, rfl⟩ := JoinRes.oneX (h4 _ (by simp)) h5
  exact ⟨rfl, rfl, rfl⟩
end Go.Emb.Ext
namespace Go.Proofs.YtimpadpeibgmoaaGreat
open Go.RowKit Go.Emb Go.Lib Go.Emb.Ext Go.Shelf
theorem RdM.ok {B : Nat} {w : World} {m : MnV} (h : RdM B w m) : ManOk m.man := by
 obtain ⟨h1, h2, ⟨-, h3⟩, -, h4, h5⟩ := h
 have e1 : m.man.source.length = m.s.size := by simp [MnV.man]
 have e2 : m.man.places.length = m.places.length := by simp [MnV.man]
 refine ⟨by omega, h2, by show m.rest.length < _; omega, by omega, fun p hp => ?_⟩
 obtain ⟨y, hy, rfl⟩ := List.mem_map.1 hp
 obtain ⟨q1, q2, q3, q4, q5⟩ := h4 y hy
 exact ⟨q1, q2, by omega, q4⟩
theorem need_one {b : Int} {r : Int} (h1 : 1 ≤ b) (h2 : b ≤ r) : needE b r = 1 := by
 unfold needE
 rw [if_neg (by omega), Int.ediv_eq_zero_of_lt (by omega) (by omega)]
 rfl
def slotsOf (ns os : Sup) (k : Nat) : Option Sup := if k = ns.gen % 2 then some ns else if os.gen + 1 = ns.gen ∧ os.gen ≠ 0 then some os else none
section
variable {d : DS} {ar : E} {ns : Sup} {nm : Man} {os : Sup} {om : Man} {im : Int → List UInt8}
theorem SInv.best (h : SInv d ar ns nm os om im) (hg : ns.gen ≠ 0) : bkN (slotsOf ns os) 2 = ns := by
 have hlt : ∀ (b o : Sup), b.gen < o.gen → stepB b (some o) = o := fun b o h => by unfold stepB; simp only; rw [if_pos h]
 have hge : ∀ (b o : Sup), o.gen ≤ b.gen → stepB b (some o) = b := fun b o h => by unfold stepB; simp only; rw [if_neg (by omega)]
 have hz : zSup.gen = 0 := rfl
 unfold bkN bkN bkN
 have h2 : ns.gen % 2 = 0 ∨ ns.gen % 2 = 1 := by omega
 rcases h2 with h2 | h2
 ·have e0 : slotsOf ns os 0 = some ns := by unfold slotsOf; rw [if_pos h2.symm]
  rw [e0, hlt _ _ (by omega)]
  unfold slotsOf
  rw [if_neg (by omega)]
  split
  ·rename_i hs; exact hge _ _ (by omega)
  ·rfl
 ·have e1 : slotsOf ns os 1 = some ns := by unfold slotsOf; rw [if_pos h2.symm]
  rw [e1]
  have e0 : (stepB zSup (slotsOf ns os 0)).gen < ns.gen := by
   unfold slotsOf
   rw [if_neg (by omega)]
   split
   ·rename_i hs; rw [hlt _ _ (by omega)]; omega
   ·show zSup.gen < _; omega
  exact hlt _ _ e0
theorem SInv.slots (h : SInv d ar ns nm os om im) (hg : ns.gen ≠ 0) : ∀ k, k < 2 → SlotIs d k (slotsOf ns os k) := by
 intro k hk
 have hn : SlotIs d (ns.gen % 2) (some ns) := by
  rcases h.now with ⟨h1, -, -⟩ | ⟨-, -, -, -, h1⟩
  ·rw [h1] at hg; exact absurd rfl hg
  ·exact h1
 unfold slotsOf
 by_cases e : k = ns.gen % 2
 ·rw [if_pos e, e]; exact hn
 ·rw [if_neg e]
  have e2 : k = (ns.gen + 1) % 2 := by omega
  rcases h.was with ⟨h1, -, h3, h4⟩ | ⟨h1, h2, -, -, h3⟩
  ·rw [if_neg (by rw [h1]; show ¬ (0 + 1 = ns.gen ∧ 0 ≠ 0); omega), e2]; exact h3
  ·rw [if_pos ⟨h1, h2⟩, e2]; exact h3
theorem SInv.openIn {w : World} {q : Nat} {lm : List Int} {D : List Nat} (h : SInv d ar ns nm os om im) (hdk : DK w q lm D d) (hoff : d.off = false) (hg : ns.gen ≠ 0) (hg2 : ns.gen < 1000000000) (hn3 : d.n ≤ 3000) : OpenIn w q lm D d (slotsOf ns os) nm im os om := by
 have hb := h.best hg
 have hsl := h.slots hg
 have hpl := h.places
 have hd16 := h.ok.2.1
 obtain ⟨hck, him, -, hns⟩ : CkOk d ns nm ∧ ImOk d nm im ∧ nm.area = ar ∧ SlotIs d (ns.gen % 2) (some ns) := by
  rcases h.now with ⟨h1, -, -⟩ | ⟨-, h1⟩
  ·rw [h1] at hg; exact absurd rfl hg
  ·exact h1
 refine ⟨hdk, hoff, h.n2, hsl, by rw [hb]; exact hg, by rw [hb]; exact hg2, by rw [hb]; exact hck, him, ?_, ?_, ?_, ?_, ?_⟩
 ·rw [hb]
  unfold WasOk slotsOf
  rw [if_neg (by omega)]
  rcases h.was with ⟨h1, h2, -, -⟩ | ⟨h1, h2, h3, -, -⟩
  ·exact .inl ⟨h1, h2, fun x hx => by rw [if_neg (by rw [h1]; show ¬ (0 + 1 = ns.gen ∧ 0 ≠ 0); omega)] at hx; cases hx⟩
  ·exact .inr ⟨if_pos ⟨h1, h2⟩, h1, h3⟩
 ·rw [hb]
  intro e he
  have := hck.inb e he
  unfold ExtOk I64
  omega
 ·rw [hb]
  have := (hns.2 ns rfl).1.1.2.2.2.2.2
  omega
 ·have := hpl.1; omega
 ·exact fun p hp => by have := hpl.2 p hp; omega
end
section
variable {w w' : World} {s q : Nat} {lm : List Int} {D : List Nat} {d : DS} {x : SV} {src : ByteArray} {rv : Value} {rest : List UInt8} {av : Value} {alive : List Int} {iv : Value} {dirty : List ImV} {im : Int → List UInt8} {e : Ending}
theorem SInv.saveIn (h : SInv d x.area x.ns x.nm.man x.os x.om.man im) (hs : STD w s q lm D d x) (hn : d.n ≤ 1500) (hg : x.ns.gen ≤ 1000000) (ha : NRd (fun b => b ∉ s :: D) w av alive) (hal : alive.length ≤ 1000000) (hd : IRd (fun b => b ∉ s :: D) w iv dirty) (hdl : dirty.length ≤ 1500) (hdb : ∀ y ∈ dirty, y.b.length ≤ 1000000)
  (hr : BRd (fun b => b ∉ s :: D) w rv rest) (hsrc : src.size ≤ 1000000) (hrl : rest.length ≤ 1000000) (hlg : lm.length + dirty.length * d.n + d.n + 1 ≤ 1000000) : SaveIn w s q lm D d x src rv rest av alive iv dirty := by
 have hu := h.used
 have hpl := h.places
 have e1 : x.nm.man.places.length = x.nm.places.length := by simp [MnV.man]
 have he := h.ep
 exact ⟨hs, hu.1, hu.2, by omega, fun y hy => by have := hpl.2 y.p (List.mem_map.2 ⟨y, hy, rfl⟩); omega, ha, hal, hd, hdl, hdb, hr, hsrc, hrl, by omega, by omega, h.n2, hlg⟩
theorem SInv.saved (h : SInv d x.area x.ns x.nm.man x.os x.om.man im) (hI : ∀ y ∈ dirty, I64 y.pid ∧ y.b.length ≤ 1000000) (hg : x.ns.gen < 10000000) (hP : SaveP w s q lm D d x src rest alive dirty e w') :
  ∃ c, e = .returned (.int .i64 c) ∧
   ((c ≠ 0 ∧ SaveNo d.n d.sz x src rest alive dirty c ∧ STD w' s q lm D d x ∧ Keep [] w w') ∨
    (x.bk = false ∧ Right x.nm alive dirty ∧ ∃ f0 tk f gm f2 m sp pv D', IsFree d.n (usedL x) f0 ∧ PlanOk d.sz f0 x src rest alive dirty tk f gm f2 m sp ∧ c = (runW d (allW d.sz sp m dirty)).1 ∧ (c = 0 ∨ c = 20) ∧
      STD w' s q (lm ++ (runW d (allW d.sz sp m dirty)).2.2) D' (runW d (allW d.sz sp m dirty)).2.1 (savedV x sp pv m c) ∧ (∀ b ∈ D', b ∈ D ∨ w.heap.size ≤ b) ∧ Keep (s :: D) w w' ∧
      (c = 0 → SInv (runW d (allW d.sz sp m dirty)).2.1 x.area sp m.man x.ns x.nm.man (nextIm im dirty)) ∧
      (c ≠ 0 → ∀ d' : DS, d'.ok → (∀ j, blkOf d' j = blkOf (runW d (allW d.sz sp m dirty)).2.1 j) → d'.n = d.n → d'.sz = d.sz → SInv d' x.area x.ns x.nm.man x.os x.om.man im))) := by
 obtain ⟨c, he, hP⟩ := hP
 refine ⟨c, he, ?_⟩
 rcases hP with ⟨h1, h2, h3⟩ | ⟨h1, h2, h3, f0, tk, f, gm, f2, m, sp, pv, D', h4, h5, h6, h7, h8, h9⟩
 ·exact .inl ⟨by cases h1 <;> decide, h1, h2, h3⟩
 ·have hi := plan_is h4 h5 h2
  have hsg : sp.gen = x.ns.gen + 1 := by rw [h5.sup]
  have hok := runW_ok _ h.ok (hi.fit h.ok h.n2 (fun y hy => (hI y hy).1) h5.fit (by omega))
  refine .inr ⟨h1, h2, f0, tk, f, gm, f2, m, sp, pv, D', h4, h5, h6, by rw [h6]; exact hok.2.2.2.1, h7, h8, h9, fun hc => ?_, fun hc d' hd' hL hn hs => ?_⟩
  ·refine h.save h2 h4 h5 hI hg ?_ (h6.symm.trans hc)
   have := h7.rd.nm
   unfold savedV at this
   rw [if_pos hc] at this
   exact this.rdm.ok
  ·exact h.fail h2 h4 h5 (fun y hy => (hI y hy).1) (by omega) (by rw [← h6]; exact hc) hd' hL hn hs
end
open Go.RowKit Go.Emb Go.Lib Go.Emb.Ext Go.Shelf
theorem p_cloneN {w : World} {v : Value} {l : List Int} {o : Option Nat} (h : Rd w 1 v l.length (l.map (Value.int .i64)) o) (hsz : l.length ≤ 10000000) :
  Calls Tryz.prog 47 #[v] w fun e w' => ∃ v' o', e = .returned v' ∧ Row w' 3 1 v' l.length (l.map (Value.int .i64)) o' ∧ (∀ b, o' = some b → w.heap.size ≤ b) ∧ Keep [] w w' := by
 obtain ⟨i0, hi, hz0, hz1, hz2⟩ := info_parts int_info
 obtain ⟨-, a, c, rfl, hc1, hc2, hrd⟩ := id h
 unfold maxLen at hc2
 have heq := fun wx : World => Lib.run_eql_slice_nil (P := Tryz.prog) (w := wx) (t := 63) (e := 3) (a := a) (n := l.length) (c := c) (n' := 0) (c' := 0) (h := Tryz.underlying63)
 have H := hyd h
 have HI := hyd hi
 cases a with
 | none =>
  have hbs : l = [] := by
   rcases hrd with ⟨h0, -⟩ | ⟨b, off, h0, -⟩
   ·exact List.eq_nil_of_length_eq_zero h0
   ·cases h0
  subst hbs
  clear h hrd hi
  go_enter Tryz.func47, Tryz.ntmps47
  have heq0 : ∀ wx : World, (binOp .eql 63 (.slice none 0 c) (.slice none 0 0)).run Tryz.prog wx = .ok (.bool true) wx := heq
  clear heq
  go_wp2_with fail
  go_ret
  exact ⟨_, none, rfl, Row.nil _ _ _, by simp, Keep.refl _ _⟩
 | some p =>
  clear h hrd hi
  go_enter Tryz.func47, Tryz.ntmps47
  go_wp2_with (at_builtin; refine wpList_append_rd _ rfl _ _ 63 63 rfl 3 3 i0 (.int .i64 0) 1 8 Tryz.underlying63 Tryz.underlying63 HI.o hz0 hz1 hz2 rfl w.heap.size 0 0 0 [] rfl (Row.made0 w _ _) _ rfl l.length (l.map (Value.int .i64)) o (H.o.keep ((Keep.refl [] w).alloc _) (by simp)) (by intro u hu; obtain ⟨x, -, rfl⟩ := List.mem_map.1 hu; rfl) (by unfold maxLen; omega) (by omega) ?_)
  intro g off cap w2 hr hk hg
  try simp only [Nat.zero_add, List.nil_append] at hr
  try simp only [Nat.zero_add, List.nil_append]
  have hk2 : Keep [] w w2 := ((Keep.refl [] w).alloc _).trans hk (by simp)
  have hg2 : w.heap.size ≤ g := by
   rcases hg with h | h
   ·omega
   ·first | omega | (simp at h; omega)
  have HR := hyd hr
  clear hr hk hg
  go_wp2_with fail
  go_ret
  exact ⟨_, some g, rfl, HR.o, fun b hb => by cases hb; exact hg2, hk2⟩
def LogP (w : World) (lm : List Int) (e : Ending) (w' : World) : Prop := ∃ v o, e = .returned v ∧ Row w' 3 1 v lm.length (lm.map (Value.int .i64)) o ∧ (∀ b, o = some b → w.heap.size ≤ b) ∧ Keep [] w w'
theorem d_log {w : World} {q : Nat} {lm : List Int} {D : List Nat} {d : DS} (h : DK w q lm D d) (hl : lm.length ≤ 10000000) : Calls Tryz.prog 23 #[.pointer (some ⟨q, 0, none⟩)] w (LogP w lm) := by
 obtain ⟨gb, c, logv, logs, lo, s, r, rfl, h1, h2, h3, h4, h5, h6⟩ := id h
 subst h5
 rw [List.length_map] at h4
 unfold dkCells at h1
 have c2 : w.cell? ⟨q, 2, none⟩ = some logv := cell_of h1 2
 obtain ⟨o, hr, ho⟩ := h4.rd
 obtain ⟨a, cc, rfl⟩ : ∃ a cc, logv = .slice a lm.length cc := by obtain ⟨-, a, c, h, -⟩ := hr; exact ⟨a, c, h⟩
 have HCL := hyd (p_cloneN hr hl)
 clear h h1 h2 h3 h4 h6 hr ho
 go_enter Tryz.func23, Tryz.ntmps23
 go_wp2_with fail
 refine HCL.o.mono ?_
 rintro e w2 ⟨v, o2, rfl, hr2, ho2, hk2⟩
 have HR2 := hyd hr2
 have HK2 := hyd hk2
 have HO2 := hyd ho2
 obtain ⟨o5, ⟨-, a2, c2', hv, -⟩, -⟩ := hr2.rd
 subst hv
 clear hk2 ho2
 go_wp2_with fail
 go_ret
 exact ⟨_, o2, rfl, HR2.o, HO2.o, HK2.o⟩
theorem zW_len (sz k : Nat) : (zW sz k).length = k := by unfold zW; simp
theorem format_inv {n A : Nat} (h1 : 1 ≤ A) (h2 : A + 3 ≤ n) (hn : n ≤ 16384) (im : Int → List UInt8) {d : DS} (hd : d = (runW ⟨n, 64, List.replicate (n * 64) 0, -1, false⟩ (zW 64 (A + 2))).2.1) :
  SInv d ((2 : Int), (A : Int)) zSup zMn.man zSup zMn.man im ∧ d.n = n ∧ d.sz = 64 ∧ d.off = false ∧ d.left < 0 ∧ (runW ⟨n, 64, List.replicate (n * 64) 0, -1, false⟩ (zW 64 (A + 2))).2.2.length = A + 2 := by
 have hok : DS.ok ⟨n, 64, List.replicate (n * 64) 0, -1, false⟩ := ⟨by show 1 ≤ n; omega, hn, by show 64 ≤ 64; omega, by show 64 ≤ 4096; omega, List.length_replicate, by show (-1 : Int) ≤ -1; omega, by show (-1 : Int) ≤ 9223372036854775807; omega⟩
 have hfit := zW_fit (d := ⟨n, 64, List.replicate (n * 64) 0, -1, false⟩) (k := A + 2) (by show A + 2 ≤ n; omega)
 have hl : (⟨n, 64, List.replicate (n * 64) 0, -1, false⟩ : DS).left < 0 := by show (-1 : Int) < 0; omega
 have hall := runW_all (zW 64 (A + 2)) hok hfit rfl hl
 have hnd : ((zW 64 (A + 2)).map (·.1)).Nodup := by
  unfold zW
  rw [List.map_map]
  have : (List.range (A + 2)).map ((fun x : Nat × List UInt8 => x.1) ∘ fun j => (j, List.replicate 64 (0 : UInt8))) = List.range (A + 2) := by
   conv => rhs; rw [← List.map_id (List.range (A + 2))]
   rfl
  rw [this]
  exact List.nodup_range
 have hat := runW_at (zW 64 (A + 2)) hok hfit hnd hall
 have hrk := runW_ok (zW 64 (A + 2)) hok hfit
 rw [← hd] at hat hrk
 have hsl : ∀ k, k < 2 → SlotIs d k none := fun k hk => by
  refine ⟨?_, fun x hx => by cases hx⟩
  have := hat.1 (k, List.replicate 64 0) (List.mem_map.2 ⟨k, List.mem_range.2 (by omega), rfl⟩)
  simp only at this
  rw [this]
  exact openS_zero _
 refine ⟨⟨hrk.1, by rw [hrk.2.1]; show 2 ≤ n; omega, ?_, rfl, .inl ⟨rfl, rfl, hsl 0 (by omega)⟩, .inl ⟨rfl, rfl, hsl 1 (by omega), by decide⟩⟩, hrk.2.1, hrk.2.2.1, hat.2.1, by rw [hat.2.2.2 hl]; exact hl, by rw [hat.2.2.1, List.length_map, zW_len]⟩
 rw [hrk.2.1]
 show (2 : Int) ≤ 2 ∧ (1 : Int) ≤ (A : Int) ∧ (2 : Int) + A ≤ (n : Int)
 omega
theorem free_one {n : Nat} {l : List E} {a L : Int} (h1 : 1 ≤ L) (hr : right (a, L) = true) (hc : ∀ i, a ≤ i ∧ i < a + L ↔ 0 ≤ i ∧ i < n ∧ ¬ cov l i) {f0 : List E} (hf : IsFree n l f0) : f0 = [(a, L)] := by
 refine hf.uniq ⟨⟨by simpa using h1, by simp⟩, by simpa using hr, fun i => ?_⟩
 rw [← hc i]
 simp [cov, covers]
def liveB : List UInt8 := [105, 109, 97, 103, 101]
def liveM : Man := ⟨[115], (2, 4), [114], [⟨1, 5, [(6, 1)]⟩]⟩
theorem live_free1 {f0 : List E} (hf : IsFree 16 (usedL (zSV 4)) f0) : f0 = [(6, 10)] := by
 refine free_one (by omega) (by decide) (fun i => ?_) hf
 have : usedL (zSV 4) = [(0, 2), (2, 4)] := rfl
 rw [this]
 simp only [cov_cons, covers]
 have := cov_nil i
 constructor
 ·intro h; exact ⟨by omega, by omega, fun h2 => by rcases h2 with h2 | h2 | h2 <;> first | omega | exact this h2⟩
 ·intro h
  have h1 : ¬ ((0 : Int) ≤ i ∧ i < 0 + 2) := fun h2 => h.2.2 (.inl h2)
  have h2 : ¬ ((2 : Int) ≤ i ∧ i < 2 + 4) := fun h2 => h.2.2 (.inr (.inl h2))
  omega
theorem live_tk {tk : List PlV} {f : List E} {v : Value} (ht : Tkn (roomN 64 : Int) [(6, 10)] (tk.map (·.p)) f) (hd : tPl tk = dPl [(⟨1, v, liveB⟩ : ImV)]) : ∃ z : PlV, tk = [z] ∧ z.p = ⟨1, 5, [(6, 1)]⟩ ∧ f = [(7, 9)] := by
 have hl := congrArg List.length hd
 unfold tPl dPl at hl
 simp only [List.length_map, List.length_singleton] at hl
 obtain ⟨z, rfl⟩ := List.length_eq_one_iff.1 hl
 unfold tPl dPl at hd
 simp only [List.map_cons, List.map_nil, List.cons.injEq, Prod.mk.injEq, and_true] at hd
 obtain ⟨e1, e2⟩ := hd
 simp only [List.map_cons, List.map_nil] at ht
 have e2' : z.p.len = 5 := e2
 generalize hpl : [z.p] = pl at ht
 cases ht with
 | nil => cases hpl
 | @snoc pl' f' p f'' h1 h2 =>
  have h3 := congrArg List.length hpl
  simp only [List.length_append, List.length_singleton] at h3
  obtain rfl : pl' = [] := List.eq_nil_of_length_eq_zero (by omega)
  simp only [List.nil_append, List.cons.injEq, and_true] at hpl
  subst hpl
  generalize hnl : ([] : List Plc) = nl at h1
  cases h1 with
  | nil =>
   rw [e2', need_one (by omega) (by decide)] at h2
   obtain ⟨-, h4, h5⟩ := take_first (by omega) (by omega) (by decide) (by omega) h2
   refine ⟨z, rfl, ?_, h5.trans (by decide)⟩
   obtain ⟨⟨a, b, c⟩, u⟩ := z
   simp only at e1 e2' h4
   rw [e1, e2', h4]
  | snoc _ _ => exact absurd (congrArg List.length hnl) (by simp)
theorem live_man {m : MnV} {z : PlV} {src : ByteArray} (hs : m.s = src) (hsrc : src.data.toList = [115]) (ha : m.area = (2, 4)) (hr : m.rest = [114]) (hp : m.places = [z]) (hz : z.p = ⟨1, 5, [(6, 1)]⟩) : m.man = liveM := by
 unfold MnV.man liveM
 rw [hs, hsrc, ha, hr, hp]
 simp [hz]
theorem live_len : needE ((manL liveM).length : Int) (roomN 64 : Int) = 1 ∧ (manL liveM).length ≤ 1048576 ∧ 1 ≤ (manL liveM).length := by
 have h : (manL liveM).length ≤ 49 ∧ 1 ≤ (manL liveM).length := by decide
 have h2 : (roomN 64 : Int) = 49 := by decide
 exact ⟨need_one (by omega) (by omega), by omega, by omega⟩
theorem live_right1 {v : Value} : Right zMn [1] [⟨1, v, liveB⟩] := ⟨⟨⟨by decide, .inr (by simp)⟩, trivial⟩, ⟨⟨by show (0 : Int) < 1; omega, by show liveB ≠ []; decide, by show (1 : Int) ∈ [(1 : Int)]; simp⟩, trivial⟩⟩
theorem live_no1 {v : Value} {src : ByteArray} (hsrc : src.data.toList = [115]) {f0 : List E} (hf : IsFree 16 (usedL (zSV 4)) f0) : ¬ PlanNo 64 f0 (zSV 4) src [114] [1] [⟨1, v, liveB⟩] := by
 obtain rfl := live_free1 hf
 rintro (⟨k, tk, f, got, left, err, hk, ht, hd, hr, he⟩ | ⟨tk, f, gm, f2, err, m, ht, hd, h1, h2, h3, h4, h5, h6⟩)
 ·simp only [List.length_singleton] at hk
  obtain rfl : k = 0 := by omega
  simp only [List.take_zero] at hd
  have htk : tk = [] := by have := congrArg List.length hd; unfold tPl dPl at this; simpa using this
  subst htk
  generalize hnl : (([] : List PlV).map PlV.p) = nl at ht
  cases ht with
  | nil =>
   simp only [List.getElem_cons_zero] at hr
   have h5 : (liveB.length : Int) = 5 := rfl
   rw [h5, need_one (by omega) (by decide)] at hr
   exact he (take_first (by omega) (by omega) (by decide) (by omega) hr).1
  | snoc _ _ => exact absurd (congrArg List.length hnl) (by simp)
 ·obtain ⟨z, rfl, hz, rfl⟩ := live_tk ht hd
  have hm := live_man h1 hsrc h2 h3 (h4.trans (by simp [pickV, hz])) hz
  rw [hm] at h5 h6
  obtain ⟨l1, l2, -⟩ := live_len
  rw [l1] at h5
  obtain ⟨rfl, rfl, -⟩ := take_first (by omega) (by omega) (by decide) (by omega) h5
  rcases h6 with h6 | h6 | h6
  ·exact h6 rfl
  ·omega
  ·revert h6
   show ¬ (roomN 64 < (loadL ⟨(zSV 4).ns.gen + 1, [(7, 1)], ((manL liveM).length : Int), (zSV 4).ns.ep + 1⟩).length)
   decide
theorem live_ok1 {v : Value} {src : ByteArray} (hsrc : src.data.toList = [115]) {f0 : List E} {tk : List PlV} {f gm f2 : List E} {m : MnV} {sp : Sup} (hf : IsFree 16 (usedL (zSV 4)) f0) (hp : PlanOk 64 f0 (zSV 4) src [114] [1] [⟨1, v, liveB⟩] tk f gm f2 m sp) :
  m.man = liveM ∧ sp.gen = 1 ∧ sp.ps = [(7, 1)] := by
 obtain rfl := live_free1 hf
 obtain ⟨z, rfl, hz, rfl⟩ := live_tk hp.tkn hp.tkd
 have hm := live_man hp.ms hsrc hp.ma hp.mr (hp.mp.trans (by simp [pickV, hz])) hz
 have h5 := hp.gmt
 rw [hm, live_len.1] at h5
 obtain ⟨-, rfl, -⟩ := take_first (by omega) (by omega) (by decide) (by omega) h5
 rw [hp.sup]
 exact ⟨hm, rfl, rfl⟩
theorem live_free2 {x : SV} (ha : x.area = (2, 4)) (hn : x.ns.ps = [(7, 1)]) (hm : x.nm.man = liveM) (ho : x.os = zSup) (hom : x.om = zMn) {f0 : List E} (hf : IsFree 16 (usedL x) f0) : f0 = [(8, 8)] := by
 refine free_one (by omega) (by decide) (fun i => ?_) hf
 have : usedL x = [(0, 2), (2, 4), (7, 1), (6, 1)] := by
  rw [usedL_eq, ha, hm, ho, hom]
  unfold ckX
  rw [hn]
  rfl
 rw [this]
 simp only [cov_cons, covers]
 have := cov_nil i
 constructor
 ·intro h; exact ⟨by omega, by omega, fun h2 => by rcases h2 with h2 | h2 | h2 | h2 | h2 <;> first | omega | exact this h2⟩
 ·intro h
  have h1 : ¬ ((0 : Int) ≤ i ∧ i < 0 + 2) := fun h2 => h.2.2 (.inl h2)
  have h2 : ¬ ((2 : Int) ≤ i ∧ i < 2 + 4) := fun h2 => h.2.2 (.inr (.inl h2))
  have h3 : ¬ ((7 : Int) ≤ i ∧ i < 7 + 1) := fun h2 => h.2.2 (.inr (.inr (.inl h2)))
  have h4 : ¬ ((6 : Int) ≤ i ∧ i < 6 + 1) := fun h2 => h.2.2 (.inr (.inr (.inr (.inl h2))))
  omega
theorem live_place {m : MnV} (hm : m.man = liveM) : ∃ z : PlV, m.places = [z] ∧ z.p = ⟨1, 5, [(6, 1)]⟩ ∧ findL m 1 = some z := by
 have h := congrArg Man.places hm
 unfold MnV.man liveM at h
 simp only at h
 have hl := congrArg List.length h
 simp only [List.length_map, List.length_singleton] at hl
 obtain ⟨z, hz⟩ := List.length_eq_one_iff.1 hl
 rw [hz] at h
 simp only [List.map_cons, List.map_nil, List.cons.injEq, and_true] at h
 refine ⟨z, hz, h, ?_⟩
 unfold findL
 rw [hz]
 simp [h]
theorem live_right2 {m : MnV} (hm : m.man = liveM) : Right m [1] [] := by
 obtain ⟨z, hz, hp, hf⟩ := live_place hm
 exact ⟨⟨⟨by decide, .inl (by rw [hf]; rfl)⟩, trivial⟩, trivial⟩
theorem live_tk2 {tk : List PlV} {f0 f : List E} (ht : Tkn (roomN 64 : Int) f0 (tk.map (·.p)) f) (hd : tPl tk = dPl ([] : List ImV)) : tk = [] ∧ f = f0 := by
 have htk : tk = [] := by have := congrArg List.length hd; unfold tPl dPl at this; simpa using this
 subst htk
 generalize hnl : (([] : List PlV).map PlV.p) = nl at ht
 cases ht with
 | nil => exact ⟨rfl, rfl⟩
 | snoc _ _ => exact absurd (congrArg List.length hnl) (by simp)
theorem live_no2 {x : SV} (ha : x.area = (2, 4)) (hn : x.ns.ps = [(7, 1)]) (hg : x.ns.gen = 1) (hep : x.ns.ep = 1) (hm : x.nm.man = liveM) (ho : x.os = zSup) (hom : x.om = zMn) {src : ByteArray} (hsrc : src.data.toList = [115]) {f0 : List E} (hf : IsFree 16 (usedL x) f0) : ¬ PlanNo 64 f0 x src [114] [1] [] := by
 obtain rfl := live_free2 ha hn hm ho hom hf
 rintro (⟨k, tk, f, got, left, err, hk, -⟩ | ⟨tk, f, gm, f2, err, m, ht, hd, h1, h2, h3, h4, h5, h6⟩)
 ·simp at hk
 ·obtain ⟨rfl, rfl⟩ := live_tk2 ht hd
  obtain ⟨z, hz, hp, hfd⟩ := live_place hm
  have hm := live_man h1 hsrc (h2.trans ha) h3 (h4.trans (by simp [pickV, hfd])) hp
  rw [hm] at h5 h6
  obtain ⟨l1, l2, -⟩ := live_len
  rw [l1] at h5
  obtain ⟨rfl, rfl, -⟩ := take_first (by omega) (by omega) (by decide) (by omega) h5
  rcases h6 with h6 | h6 | h6
  ·exact h6 rfl
  ·omega
  ·rw [hg, hep] at h6
   revert h6
   decide
theorem live_ok2 {x : SV} (ha : x.area = (2, 4)) (hn : x.ns.ps = [(7, 1)]) (hg : x.ns.gen = 1) (hm : x.nm.man = liveM) (ho : x.os = zSup) (hom : x.om = zMn) {src : ByteArray} (hsrc : src.data.toList = [115]) {f0 : List E} {tk : List PlV} {f gm f2 : List E} {m : MnV} {sp : Sup} (hf : IsFree 16 (usedL x) f0) (hp : PlanOk 64 f0 x src [114] [1] [] tk f gm f2 m sp) :
  m.man = liveM ∧ sp.gen = 2 ∧ (allW 64 sp m []).length = 2 := by
 obtain rfl := live_free2 ha hn hm ho hom hf
 obtain ⟨rfl, rfl⟩ := live_tk2 hp.tkn hp.tkd
 obtain ⟨z, hz, hpp, hfd⟩ := live_place hm
 have hm := live_man hp.ms hsrc (hp.ma.trans ha) hp.mr (hp.mp.trans (by simp [pickV, hfd])) hpp
 have h5 := hp.gmt
 rw [hm, live_len.1] at h5
 obtain ⟨-, rfl, -⟩ := take_first (by omega) (by omega) (by decide) (by omega) h5
 rw [hp.sup]
 refine ⟨hm, by show x.ns.gen + 1 = 2; rw [hg], ?_⟩
 unfold allW
 rw [hm]
 simp only [List.flatMap_nil, List.nil_append, List.length_append, List.length_singleton]
 unfold layW
 rw [List.length_zip, secs_len]
 have h1 : (blkL [((8 : Int), (1 : Int))]).length = 1 := by decide
 have h2 : cnt (roomN 64) (manL liveM) = 1 := by decide
 rw [h1, h2]
 rfl
end Go.Proofs.YtimpadpeibgmoaaGreat
