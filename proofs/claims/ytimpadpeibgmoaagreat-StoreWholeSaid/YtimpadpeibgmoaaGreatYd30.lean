/- A part of the proof (St3), joined by squeeze2.py. -/
import Derived.Test.YtimpadpeibgmoaaGreatYd27
import Derived.Test.YtimpadpeibgmoaaGreatYd23
set_option maxHeartbeats 8000000
set_option maxRecDepth 100000
namespace Go.Proofs.YtimpadpeibgmoaaGreat
open Go.RowKit Go.Emb Go.Emb.Ext
attribute [local go_sem] Oper.semAt_some
structure ImV where
 pid : Int
 v : Value
 b : List UInt8
def encI (x : ImV) : List Value := [.int .i64 x.pid, x.v]
def IRd (S : Nat → Prop) (w : World) (v : Value) (xs : List ImV) : Prop := (∃ o, Rd w 2 v xs.length (xs.flatMap encI) o ∧ InS S w o) ∧ (∀ x ∈ xs, I64 x.pid ∧ BRd S w x.v x.b) ∧ xs.length ≤ 1000000000
theorem IRd.keep {S : Nat → Prop} {F : List Nat} {w w' : World} {v : Value} {xs : List ImV} (h : IRd S w v xs) (hk : Keep F w w') (hF : ∀ b ∈ F, b < w.heap.size → ¬ S b) : IRd S w' v xs := by
 obtain ⟨⟨o, h1, h2⟩, h3, h4⟩ := h
 exact ⟨⟨o, h1.keep hk (h2.no hF), h2.keep hk⟩, fun x hx => ⟨(h3 x hx).1, (h3 x hx).2.keep hk hF⟩, h4⟩
theorem IRd.mono {S T : Nat → Prop} {w : World} {v : Value} {xs : List ImV} (h : IRd S w v xs) (hs : ∀ b, b < w.heap.size → S b → T b) : IRd T w v xs := by
 obtain ⟨⟨o, h1, h2⟩, h3, h4⟩ := h
 exact ⟨⟨o, h1, h2.mono hs⟩, fun x hx => ⟨(h3 x hx).1, (h3 x hx).2.mono hs⟩, h4⟩
theorem IRd.form {S : Nat → Prop} {w : World} {v : Value} {xs : List ImV} (h : IRd S w v xs) : ∃ a c, v = .slice a xs.length c := by
 obtain ⟨⟨o, ⟨-, a, c, h1, -⟩, -⟩, -⟩ := h
 exact ⟨a, c, h1⟩
theorem IRd.at {S : Nat → Prop} {w : World} {a : Option Addr} {c n : Nat} {l : List ImV} (h : IRd S w (.slice a n c) l) {k : Nat} (hk : k < l.length) :
  ∃ b off, a = some ⟨b, off, none⟩ ∧ S b ∧ b < w.heap.size ∧ w.cell? ⟨b, off + k * 2, none⟩ = some (.int .i64 l[k].pid) ∧ w.cell? ⟨b, off + k * 2 + 1, none⟩ = some l[k].v := by
 obtain ⟨⟨o, h1, h2⟩, -, -⟩ := h
 obtain ⟨b, off, e1, e2, e3⟩ := rd_at (e := encI) (m := 2) (fun x => rfl) h1 hk (by decide)
 exact ⟨b, off, e1, (h2 b e2).2, (h2 b e2).1, by have := e3 0 (by decide); simpa [encI] using this, by have := e3 1 (by decide); simpa [encI, Nat.add_assoc] using this⟩
def NRd (S : Nat → Prop) (w : World) (v : Value) (xs : List Int) : Prop := (∃ o, Rd w 1 v xs.length (xs.map (Value.int .i64)) o ∧ InS S w o) ∧ (∀ x ∈ xs, I64 x) ∧ xs.length ≤ 1000000000
theorem NRd.keep {S : Nat → Prop} {F : List Nat} {w w' : World} {v : Value} {xs : List Int} (h : NRd S w v xs) (hk : Keep F w w') (hF : ∀ b ∈ F, b < w.heap.size → ¬ S b) : NRd S w' v xs := by
 obtain ⟨⟨o, h1, h2⟩, h3, h4⟩ := h
 exact ⟨⟨o, h1.keep hk (h2.no hF), h2.keep hk⟩, h3, h4⟩
theorem NRd.form {S : Nat → Prop} {w : World} {v : Value} {xs : List Int} (h : NRd S w v xs) : ∃ a c, v = .slice a xs.length c := by
 obtain ⟨⟨o, ⟨-, a, c, h1, -⟩, -⟩, -⟩ := h
 exact ⟨a, c, h1⟩
theorem NRd.at {S : Nat → Prop} {w : World} {a : Option Addr} {c n : Nat} {l : List Int} (h : NRd S w (.slice a n c) l) {k : Nat} (hk : k < l.length) :
  ∃ b off, a = some ⟨b, off, none⟩ ∧ w.cell? ⟨b, off + k, none⟩ = some (.int .i64 l[k]) := by
 obtain ⟨⟨o, ⟨h0, a', c', e, h1, h2, h3⟩, -⟩, -⟩ := h
 injection e with e1 e2 e3
 subst e1
 rcases h3 with ⟨h3, -⟩ | ⟨b, off, h3, -, h4⟩
 ·omega
 ·refine ⟨b, off, h3, ?_⟩
  have := h4 k (by omega)
  rw [this, List.getElem?_map, List.getElem?_eq_getElem hk]
  rfl
theorem st_hasA {S : Nat → Prop} {w : World} {v : Value} {xs : List Int} (h : NRd S w v xs) (x : Int) :
  Calls Tryz.prog 57 #[v, .int .i64 x] w fun e w' => e = .returned (.bool (decide (x ∈ xs))) ∧ Keep [] w w' := by
 obtain ⟨a, c, rfl⟩ := h.form
 by_cases h0 : xs.length = 0
 ·obtain rfl := List.eq_nil_of_length_eq_zero h0
  refine (Tryz.slices_Contains_int_empty a c x w).mono ?_
  rintro e w' ⟨rfl, rfl⟩
  exact ⟨by simp, Keep.refl _ _⟩
 ·obtain ⟨b, off, rfl, -⟩ := h.at (k := 0) (by omega)
  refine (Tryz.slices_Contains_int b off xs.length c xs x w (Nat.le_refl _) (by have := h.2.2; omega) (fun j hj => ?_)).mono ?_
  ·obtain ⟨b', off', e, h2⟩ := h.at hj
   cases e
   rw [h2, List.getD_eq_getElem?_getD, List.getElem?_eq_getElem hj]
   rfl
  ·rintro e w' ⟨rfl, rfl⟩
   exact ⟨by rw [List.take_length, List.contains_eq_mem], Keep.refl _ _⟩
theorem p_right1 {W : World} {q : Nat} {pid : Int} (hq : W.heap[q]? = some (.cells #[.int .i64 pid] 2)) (a : Int) (va : Option Addr) (vn vc : Nat) : Calls Tryz.prog 56 #[.agg #[.int .i64 a, .slice va vn vc], .pointer (some ⟨q, 0, none⟩)] W fun e w' => e = .returned (.bool (decide (a = pid))) ∧ Keep [] W w' := by
 have hk : Keep [] W (W.alloc (.cells #[.int .i64 a, .slice va vn vc] 52)) := (Keep.refl [] W).alloc _
 have hb := heap_new W (.cells #[.int .i64 a, .slice va vn vc] 52)
 have hq2 := lit_alloc hq (.cells #[.int .i64 a, .slice va vn vc] 52)
 obtain ⟨c0, c1⟩ := cells2 hb
 have d0 := (cell_of hq2 0).trans (show _ = some (.int .i64 pid) from rfl)
 have HK := hyd hk
 clear hk hb hq2 hq
 by_cases h : a = pid
 ·rw [decide_eq_true h]
  subst h
  go_enter Tryz.func56, Tryz.ntmps56
  go_wp2_with fail
  go_ret
  exact ⟨by simp, HK.o⟩
 ·rw [decide_eq_false h]
  go_enter Tryz.func56, Tryz.ntmps56
  go_wp2_with fail
  go_ret
  exact ⟨by simp [h], HK.o⟩
def IdxI (ps : List ImV) (pid : Int) (i : Int) : Prop := (i = -1 ∧ ∀ y ∈ ps, y.pid ≠ pid) ∨ ∃ (k : Nat) (h : k < ps.length), i = (k : Int) ∧ ps[k].pid = pid
theorem p_indexI {S : Nat → Prop} {q : Nat} {w : World} {v : Value} {ps : List ImV} {pid : Int} (hps : IRd S w v ps) (hq : w.heap[q]? = some (.cells #[.int .i64 pid] 2)) :
  Calls Tryz.prog 83 #[v, .func (.func 56) #[] #[.pointer (some ⟨q, 0, none⟩)]] w fun e w' => ∃ i : Int, e = .returned (.int .i64 i) ∧ IdxI ps pid i ∧ Keep [] w w' := by
 have eg : ∀ args w, (callFunc 56 args).run Tryz.prog w = .ok (.enter 56 args) w := enters_of Tryz.func56 (by kernel_rfl) rfl
 obtain ⟨a, c, rfl⟩ := hps.form
 have HPS := hyd hps
 have HQ := hyd hq
 have hl := hps.2.2
 clear hps hq
 go_enter Tryz.func83, Tryz.ntmps83
 go_wp2_with fail
 go_loopw [5, 8] (fun _ i wr => ∃ k : Nat, k ≤ ps.length ∧ i = .int .i64 (k : Int) ∧ Keep [] w wr ∧ ∀ y ∈ ps.take k, y.pid ≠ pid) (fun _ i _ => ps.length - (intOf i).toNat)
 case atStart => exact ⟨0, Nat.zero_le _, rfl, Keep.refl _ _, fun y hy => by simp at hy⟩
 case round =>
  obtain ⟨k, hk, rfl, hK, hno⟩ := hrel
  have HK := hyd hK
  have HNO := hyd hno
  clear hK hno
  by_cases hlt : k < ps.length
  ·obtain ⟨pb, poff, rfl, -, -, g0, g1⟩ := (HPS.o.keep HK.o (by simp)).at hlt
   obtain ⟨y0, hy0⟩ : ∃ y, y = ps[k] := ⟨_, rfl⟩
   have hpx := HPS.o.2.1 _ (List.getElem_mem hlt)
   rw [← hy0] at g0 g1 hpx
   have HY0 := hyd hy0
   obtain ⟨xa, xc, hxv, -, -⟩ := hpx.2.form
   rw [hxv] at g1
   have hcall := p_right1 (blk_keep HQ.o HK.o (by simp)) y0.pid xa y0.b.length xc
   clear hpx hy0 hxv
   have i0' : (0 : Int) ≤ (k : Int) := by omega
   have i1' : (k : Int) < (ps.length : Int) := by omega
   by_cases hq : y0.pid = pid
   ·rw [decide_eq_true hq] at hcall
    have HQQ := hyd hq
    clear hq
    go_wp2_with (go_at_fn 56; refine hcall.mono ?_; rintro e w' ⟨rfl, hk'⟩)
    go_ret
    exact ⟨(k : Int), rfl, .inr ⟨k, hlt, rfl, by rw [← HY0.o]; exact HQQ.o⟩, HK.o.trans hk' (by simp)⟩
   ·rw [decide_eq_false hq] at hcall
    have HQQ := hyd hq
    clear hq
    go_wp2_with (go_at_fn 56; refine hcall.mono ?_; rintro e w' ⟨rfl, hk'⟩)
    go_roundw
    case rel => exact ⟨k + 1, by omega, by go_num, HK.o.trans hk' (by simp), fun y hy => by
      rw [List.take_succ_eq_append_getElem hlt, List.mem_append] at hy
      rcases hy with hy | hy
      · exact HNO.o y hy
      · simp at hy; rw [hy, ← HY0.o]; exact HQQ.o⟩
    case measure => simp [intOf]; omega
  ·obtain rfl : k = ps.length := by omega
   have i1' : ¬ (ps.length : Int) < (ps.length : Int) := by omega
   go_wp2_with fail
   go_ret
   exact ⟨-1, rfl, .inl ⟨rfl, by have := HNO.o; rwa [List.take_length] at this⟩, HK.o⟩
theorem p_hasI {S : Nat → Prop} {q : Nat} {w : World} {v : Value} {ps : List ImV} {pid : Int} (hps : IRd S w v ps) (hq : w.heap[q]? = some (.cells #[.int .i64 pid] 2)) :
  Calls Tryz.prog 55 #[v, .func (.func 56) #[] #[.pointer (some ⟨q, 0, none⟩)]] w fun e w' => e = .returned (.bool (decide (pid ∈ ps.map (·.pid)))) ∧ Keep [] w w' := by
 have h := p_indexI hps hq
 clear hps hq
 go_enter Tryz.func55, Tryz.ntmps55
 go_wp2_with (go_at_call 83; refine h.mono ?_; rintro e w' ⟨i, rfl, hi, hk⟩)
 have hv : decide (0 ≤ i) = decide (pid ∈ ps.map (·.pid)) := by
  rcases hi with ⟨rfl, h⟩ | ⟨k, hk, rfl, h⟩
  ·rw [decide_eq_false (by omega), decide_eq_false]
   rintro hm
   obtain ⟨y, hy, e⟩ := List.mem_map.1 hm
   exact h y hy e
  ·rw [decide_eq_true (by omega), decide_eq_true]
   exact List.mem_map.2 ⟨_, List.getElem_mem hk, h⟩
 have HV := hyd hv
 clear hv hi
 go_wp2_with fail
 go_ret
 exact ⟨by rw [← HV.o]; rfl, hk⟩
def aOk (had : Int → Prop) : Int → List Int → Prop
 | _, [] => True
 | last, p :: ps => (last < p ∧ had p) ∧ aOk had p ps
def dOk (al : List Int) : Int → List (Int × List UInt8) → Prop
 | _, [] => True
 | last, x :: xs => (last < x.1 ∧ x.2 ≠ [] ∧ x.1 ∈ al) ∧ dOk al x.1 xs
def imL (l : List ImV) : List (Int × List UInt8) := l.map fun x => (x.pid, x.b)
def hadP (now : MnV) (dirty : List ImV) (p : Int) : Prop := (findL now p).isSome = true ∨ p ∈ dirty.map (·.pid)
def Right (now : MnV) (alive : List Int) (dirty : List ImV) : Prop := aOk (hadP now dirty) 0 alive ∧ dOk alive 0 (imL dirty)
theorem aOk_drop {had : Int → Prop} {al : List Int} {k : Nat} (h : k < al.length) (last : Int) : aOk had last (al.drop k) ↔ (last < al[k] ∧ had al[k]) ∧ aOk had al[k] (al.drop (k + 1)) := by
 rw [List.drop_eq_getElem_cons h]; rfl
theorem dOk_drop {al : List Int} {l : List ImV} {k : Nat} (h : k < l.length) (last : Int) : dOk al last (imL (l.drop k)) ↔ (last < l[k].pid ∧ l[k].b ≠ [] ∧ l[k].pid ∈ al) ∧ dOk al l[k].pid (imL (l.drop (k + 1))) := by
 rw [List.drop_eq_getElem_cons h]; rfl
def RightP (w : World) (now : MnV) (alive : List Int) (dirty : List ImV) (e : Ending) (w' : World) : Prop := ∃ b : Bool, e = .returned (.bool b) ∧ (b = true ↔ Right now alive dirty) ∧ Keep [] w w'
theorem find_form {S : Nat → Prop} {w : World} {m : MnV} (h : MRd S w m) (p : Int) : ∃ a b va n c, ((findL m p).map aggP).getD (.agg #[.int .i64 0, .int .i64 0, .slice none 0 0]) = .agg #[.int .i64 a, .int .i64 b, .slice va n c] := by
 cases hf : findL m p with
 | none => exact ⟨0, 0, none, 0, 0, rfl⟩
 | some y =>
  have hm : y ∈ m.places := List.mem_of_find?_eq_some hf
  obtain ⟨a, c, hv, -, -⟩ := (h.2.2.2.2.1 y hm).2.2.form
  exact ⟨_, _, a, _, c, by show aggP y = _; unfold aggP; rw [hv]⟩
theorem st_right {S : Nat → Prop} {w : World} {s q : Nat} {m : List Int} {D : List Nat} {d : DS} {x : SV} {av iv : Value} {alive : List Int} {dirty : List ImV} (h : STD w s q m D d x) (hpl : x.nm.places.length ≤ 1000000) (ha : NRd S w av alive) (hd : IRd S w iv dirty) :
  Calls Tryz.prog 35 #[.pointer (some ⟨s, 0, none⟩), av, iv] w (RightP w x.nm alive dirty) := by
 obtain ⟨na, nc, ra, rc, pa, pc, oa, oc, sa, sc, ta, tc, e1, e2, e3, e4, e5, e6, hb⟩ := st_cells h.blk h.rd.forms
 obtain ⟨aa, ac, rfl⟩ := ha.form
 obtain ⟨ia, ic, rfl⟩ := hd.form
 have HM := hyd h.rd.nm
 have HFI := hyd (fun (W : World) (hk : Keep [] w W) (p : Int) (hp : I64 p) => p_find (w := W) (m := x.nm) ((h.rd.nm.keep hk (by simp)).rdm) hpl hp)
 have HA := hyd ha
 have HD := hyd hd
 have HB := hyd hb
 have hal := ha.2.2
 have hdl := hd.2.2
 clear h hb ha hd e1 e4 e5 e6 hpl
 go_enter Tryz.func35, Tryz.ntmps35
 go_wp2_with fail
 go_loopw [7, 16] (fun l i wr => ∃ (k : Nat) (last : Int), k ≤ alive.length ∧ i = .int .i64 k ∧ l = .int .i64 last ∧ (aOk (hadP x.nm dirty) 0 alive ↔ aOk (hadP x.nm dirty) last (alive.drop k)) ∧ Keep [] w wr) (fun _ i _ => alive.length - (intOf i).toNat)
 case atStart => exact ⟨0, 0, Nat.zero_le _, rfl, rfl, Iff.rfl, Keep.refl _ _⟩
 case round =>
  obtain ⟨k, last, hk, rfl, rfl, hio, hkw⟩ := hrel
  have HIO := hyd hio
  have HK := hyd hkw
  clear hio hkw
  by_cases hlt : k < alive.length
  ·obtain ⟨ab, aoff, rfl, g0⟩ := (HA.o.keep HK.o (by simp)).at hlt
   have hdr := aOk_drop (had := hadP x.nm dirty) hlt last
   have hpI := HA.o.2.1 _ (List.getElem_mem hlt)
   obtain ⟨p, hp⟩ : ∃ p, p = alive[k] := ⟨_, rfl⟩
   rw [← hp] at g0 hdr hpI
   have HDR := hyd hdr
   have HPI := hyd hpI
   clear hdr hpI hp
   have i0' : (0 : Int) ≤ (k : Int) := by omega
   have i1' : (k : Int) < (alive.length : Int) := by omega
   have hk9 : Keep [] wr (wr.alloc (.cells #[.int .i64 p] 2)) := (Keep.refl [] wr).alloc _
   have HB9 := hyd (heap_new wr (.cells #[.int .i64 p] 2))
   have HK9 := hyd (HK.o.trans hk9 (by simp))
   clear hk9
   go_upto_region 5 with fail
   generalize wr.alloc (.cells #[.int .i64 p] 2) = w1 at *
   generalize wr.heap.size = Bp at *
   have HCS := hyd (fun (W : World) (hk : Keep [] w1 W) => And.intro (cells22 (blkk (blkk HB.o HK9.o (by simp)) hk (by simp))) ((cell_of (blkk HB9.o hk (by simp)) 0).trans (show _ = some (.int .i64 p) from rfl)))
   obtain ⟨fa, fb, fv, fn, fc, hfm⟩ := find_form HM.o p
   have HFI2 := hyd (fun (W : World) (hk : Keep [] w1 W) => HFI.o W (HK9.o.trans hk (by simp)) p HPI.o)
   unfold FindP at HFI2
   rw [hfm] at HFI2
   unfold aggM at HFI2
   rw [e2, e3] at HFI2
   clear hfm
   obtain ⟨had, hhad⟩ : ∃ b, b = (findL x.nm p).isSome := ⟨_, rfl⟩
   rw [← hhad] at HFI2
   have HHAD := hyd hhad
   clear hhad g0
   refine wp_region_held_drew (S := fun w' => Keep [] w1 w') (by kernel_rfl) ((Keep.refl [] w1).drew) (fun hHeld => ?_)
   have HC0 := hyd hHeld
   refine tkL 0 ?vR0 rfl ?runR0 hHeld ?_
   case runR0 => (intro w9 hS9; obtain ⟨⟨c0, c1, c2, c3, c4, c5, c6, c7, c8, c9, c10, c11, -⟩, d0⟩ := HCS.o w9 hS9; go_simp; try exact rfl)
   try simp only [Act.put, lA, lZ, lS]
   refine tkL 1 ?vR1 rfl ?runR1 hHeld ?_
   case runR1 => (intro w9 hS9; obtain ⟨⟨c0, c1, c2, c3, c4, c5, c6, c7, c8, c9, c10, c11, -⟩, d0⟩ := HCS.o w9 hS9; go_simp; try exact rfl)
   try simp only [Act.put, lA, lZ, lS]
   refine tkL 2 ?vR2 rfl ?runR2 hHeld ?_
   case runR2 => (intro w9 hS9; obtain ⟨⟨c0, c1, c2, c3, c4, c5, c6, c7, c8, c9, c10, c11, -⟩, d0⟩ := HCS.o w9 hS9; go_simp; try exact rfl)
   try simp only [Act.put, lA, lZ, lS]
   refine tkL 3 ?vR3 rfl ?runR3 hHeld ?_
   case runR3 => (intro w9 hS9; obtain ⟨⟨c0, c1, c2, c3, c4, c5, c6, c7, c8, c9, c10, c11, -⟩, d0⟩ := HCS.o w9 hS9; go_simp; try exact rfl)
   try simp only [Act.put, lA, lZ, lS]
   refine tkL 4 ?vR4 rfl ?runR4 hHeld ?_
   case runR4 => (intro w9 hS9; obtain ⟨⟨c0, c1, c2, c3, c4, c5, c6, c7, c8, c9, c10, c11, -⟩, d0⟩ := HCS.o w9 hS9; go_simp; try exact rfl)
   try simp only [Act.put, lA, lZ, lS]
   refine tkL 5 ?vR5 rfl ?runR5 hHeld ?_
   case runR5 => (intro w9 hS9; obtain ⟨⟨c0, c1, c2, c3, c4, c5, c6, c7, c8, c9, c10, c11, -⟩, d0⟩ := HCS.o w9 hS9; go_simp; try exact rfl)
   try simp only [Act.put, lA, lZ, lS]
   refine wpAnyH_cut (P := Tryz.prog) (md := ?md1) (ops := ?ops1) (Q := ?Q1) (S := ?S1) (fuel := ?fuel1) (listed := ?listed1) (n := 71) (R := fun f W => f 0 = (.pointer (some ⟨s, 0, none⟩)) ∧ f 1 = (.slice (some ⟨ab, aoff, none⟩) alive.length ac) ∧ f 2 = (.slice ia dirty.length ic) ∧ f 3 = undef ∧ f 4 = undef ∧ f 5 = undef ∧ f 7 = (.int .i64 last) ∧ f 8 = undef ∧ f 9 = (.pointer (some ⟨Bp, 0, none⟩)) ∧ f 12 = undef ∧ f 13 = undef ∧ f 14 = (.slice (some ⟨ab, aoff, none⟩) alive.length ac) ∧ f 15 = (.int .i64 (alive.length : Nat)) ∧ f 16 = (.int .i64 (k : Nat)) ∧ f 20 = (.tuple #[.agg #[.int .i64 fa, .int .i64 fb, .slice fv fn fc], .bool had]) ∧ f 27 = (.tuple #[.agg #[.int .i64 fa, .int .i64 fb, .slice fv fn fc], .bool had]) ∧ f 28 = (.agg #[.int .i64 fa, .int .i64 fb, .slice fv fn fc]) ∧ f 29 = (.bool had) ∧ f 45 = undef ∧ f 46 = undef ∧ f 47 = undef ∧ f 48 = undef ∧ f 49 = undef ∧ f 50 = undef ∧ f 51 = undef ∧ f 52 = undef ∧ f 53 = undef ∧ f 54 = undef ∧ f 55 = undef ∧ f 56 = undef ∧ f 57 = undef ∧ f 58 = undef ∧ f 59 = undef ∧ f 60 = undef ∧ f 61 = undef ∧ f 62 = undef ∧ f 63 = undef ∧ f 64 = undef ∧ f 65 = undef ∧ f 66 = undef ∧ f 67 = undef ∧ f 68 = undef ∧ f 69 = undef ∧ f 70 = undef ∧ ∃ b, f 10 = .pointer (some ⟨b, 0, none⟩) ∧ w1.heap.size ≤ b ∧ W.heap[b]? = some (.cells #[.int .i64 0, .int .i64 0, .slice none 0 0] 48) ∧ Keep [] w1 W) (fun hcut => ?first1) ?rest1
   case first1 =>
    have hk0 := HC0.o
    refine wpAnyH_ready (rs := [6, 10]) (by kernel_rfl) (by simp) ?_
    refine AllReadyH.consL rfl (fun K hK => ?_) (AllReadyH.consL rfl (fun K hK => ?_) (AllReadyH.nil))
    ·skip
     go_simp
     refine (HFI2.o _ hk0).mono ?_
     rintro e wq1 ⟨hq1, rfl⟩
     have hk1 := hk0.trans hq1 (by simp)
     go_wp2_with fail
     refine hK.out _ _ hk1 (fun hHeld => ?_)
     clear hK K
     try simp only [Act.put, lA, lZ, lS]
     refine tkL 7 ?vQ7 rfl ?runQ7 hHeld ?_
     case runQ7 => (intro w9 hS9; go_simp; try exact rfl)
     try simp only [Act.put, lA, lZ, lS]
     refine tkL 8 ?vQ8 rfl ?runQ8 hHeld ?_
     case runQ8 => (intro w9 hS9; go_simp; try exact rfl)
     try simp only [Act.put, lA, lZ, lS]
     refine tkL 9 ?vQ9 rfl ?runQ9 hHeld ?_
     case runQ9 => (intro w9 hS9; go_simp; try exact rfl)
     try simp only [Act.put, lA, lZ, lS]
     try (clear hK K)
     try simp only [Act.put, lA, lZ, lS]
     refine wpAnyH_ready (rs := [10]) (by kernel_rfl) (by simp) ?_
     refine AllReadyH.consL rfl (fun K hK => ?_) (AllReadyH.nil)
     go_simp
     have hk2 : Keep [] w1 (wq1.alloc (.cells #[.int .i64 0, .int .i64 0, .slice none 0 0] 48)) := hk1.alloc _
     have hbl := heap_new wq1 (.cells #[.int .i64 0, .int .i64 0, .slice none 0 0] 48)
     have hnw := hk1.size
     refine hK.out _ _ hk2 (fun hHeld => ?_)
     try (clear hK K)
     try simp only [Act.put, lA, lZ, lS]
     refine hcut _ _ ?_
     exact CutF.mk rfl ⟨rfl, rfl, rfl, rfl, rfl, rfl, rfl, rfl, rfl, rfl, rfl, rfl, rfl, rfl, rfl, rfl, rfl, rfl, rfl, rfl, rfl, rfl, rfl, rfl, rfl, rfl, rfl, rfl, rfl, rfl, rfl, rfl, rfl, rfl, rfl, rfl, rfl, rfl, rfl, rfl, rfl, rfl, rfl, rfl, _, rfl, hnw, hbl, hk2⟩
    ·skip
     go_simp
     have hk1 : Keep [] w1 (w1.drew.alloc (.cells #[.int .i64 0, .int .i64 0, .slice none 0 0] 48)) := hk0.alloc _
     have hbl := heap_new w1.drew (.cells #[.int .i64 0, .int .i64 0, .slice none 0 0] 48)
     have hnw := hk0.size
     refine hK.out _ _ hk1 (fun hHeld => ?_)
     try (clear hK K)
     try simp only [Act.put, lA, lZ, lS]
     refine wpAnyH_ready (rs := [6]) (by kernel_rfl) (by simp) ?_
     refine AllReadyH.consL rfl (fun K hK => ?_) (AllReadyH.nil)
     go_simp
     refine (HFI2.o _ hk1).mono ?_
     rintro e wq2 ⟨hq2, rfl⟩
     have hk2 := hk1.trans hq2 (by simp)
     have hbl := blkk hbl hq2 (by simp)
     go_wp2_with fail
     refine hK.out _ _ hk2 (fun hHeld => ?_)
     clear hK K
     try simp only [Act.put, lA, lZ, lS]
     refine tkL 7 ?vQ7 rfl ?runQ7 hHeld ?_
     case runQ7 => (intro w9 hS9; go_simp; try exact rfl)
     try simp only [Act.put, lA, lZ, lS]
     refine tkL 8 ?vQ8 rfl ?runQ8 hHeld ?_
     case runQ8 => (intro w9 hS9; go_simp; try exact rfl)
     try simp only [Act.put, lA, lZ, lS]
     refine tkL 9 ?vQ9 rfl ?runQ9 hHeld ?_
     case runQ9 => (intro w9 hS9; go_simp; try exact rfl)
     try simp only [Act.put, lA, lZ, lS]
     try (clear hK K)
     try simp only [Act.put, lA, lZ, lS]
     refine hcut _ _ ?_
     exact CutF.mk rfl ⟨rfl, rfl, rfl, rfl, rfl, rfl, rfl, rfl, rfl, rfl, rfl, rfl, rfl, rfl, rfl, rfl, rfl, rfl, rfl, rfl, rfl, rfl, rfl, rfl, rfl, rfl, rfl, rfl, rfl, rfl, rfl, rfl, rfl, rfl, rfl, rfl, rfl, rfl, rfl, rfl, rfl, rfl, rfl, rfl, _, rfl, hnw, hbl, hk2⟩
   intro a' W hc
   obtain ⟨f, rfl, hf0, hf1, hf2, hf3, hf4, hf5, hf7, hf8, hf9, hf12, hf13, hf14, hf15, hf16, hf20, hf27, hf28, hf29, hf45, hf46, hf47, hf48, hf49, hf50, hf51, hf52, hf53, hf54, hf55, hf56, hf57, hf58, hf59, hf60, hf61, hf62, hf63, hf64, hf65, hf66, hf67, hf68, hf69, hf70, bq, h10, hbq, hbl, hkW⟩ := hc.lit
   rw [show ((List.range 71).map f).toArray = #[f 0, f 1, f 2, f 3, f 4, f 5, f 6, f 7, f 8, f 9, f 10, f 11, f 12, f 13, f 14, f 15, f 16, f 17, f 18, f 19, f 20, f 21, f 22, f 23, f 24, f 25, f 26, f 27, f 28, f 29, f 30, f 31, f 32, f 33, f 34, f 35, f 36, f 37, f 38, f 39, f 40, f 41, f 42, f 43, f 44, f 45, f 46, f 47, f 48, f 49, f 50, f 51, f 52, f 53, f 54, f 55, f 56, f 57, f 58, f 59, f 60, f 61, f 62, f 63, f 64, f 65, f 66, f 67, f 68, f 69, f 70] from rfl]
   rw [hf0, hf1, hf2, hf3, hf4, hf5, hf7, hf8, hf9, hf12, hf13, hf14, hf15, hf16, hf20, hf27, hf28, hf29, hf45, hf46, hf47, hf48, hf49, hf50, hf51, hf52, hf53, hf54, hf55, hf56, hf57, hf58, hf59, hf60, hf61, hf62, hf63, hf64, hf65, hf66, hf67, hf68, hf69, hf70]
   clear hc hf0 hf1 hf2 hf3 hf4 hf5 hf7 hf8 hf9 hf12 hf13 hf14 hf15 hf16 hf20 hf27 hf28 hf29 hf45 hf46 hf47 hf48 hf49 hf50 hf51 hf52 hf53 hf54 hf55 hf56 hf57 hf58 hf59 hf60 hf61 hf62 hf63 hf64 hf65 hf66 hf67 hf68 hf69 hf70
   rw [h10]
   clear h10
   have hHeld := hkW
   obtain ⟨p0, p1, p2⟩ := cells3b hbl
   have f3 := frozen4 hbl
   have HBL := hyd hbl
   refine wpAnyH_ready (rs := [11]) (by kernel_rfl) (by simp) ?_
   refine AllReadyH.consL rfl (fun K hK => ?_) (AllReadyH.nil)
   go_simp
   have hk3 : Keep [bq] W (((W.setCell ⟨bq, 0, none⟩ (.int .i64 fa)).setCell ⟨bq, 1, none⟩ (.int .i64 fb)).setCell ⟨bq, 2, none⟩ (.slice fv fn fc)) := (set3 hbl _ _ _).2
   have hkZ := hkW.trans hk3 (fun b hb => by simp at hb; subst hb; exact .inr hbq)
   have HKZ := hyd hkZ
   refine hK.out _ _ hkZ (fun hHeld2 => ?_)
   clear hK K hHeld; have hHeld := hHeld2; clear hHeld2
   try simp only [Act.put, lA, lZ, lS]
   generalize ((W.setCell ⟨bq, 0, none⟩ (.int .i64 fa)).setCell ⟨bq, 1, none⟩ (.int .i64 fb)).setCell ⟨bq, 2, none⟩ (.slice fv fn fc) = w2 at *
   clear hk3 hkZ hkW hbl p0 p1 p2 f3 HBL
   refine tkL 12 ?vY12 rfl ?runY12 hHeld ?_
   case runY12 => (intro w9 hS9; go_simp; try exact rfl)
   try simp only [Act.put, lA, lZ, lS]
   refine wpAnyH_done (by kernel_rfl) ?_ _
   clear hHeld HC0 HCS HFI2
   have HKw := hyd (HK9.o.trans HKZ.o (by simp))
   have hb9 := blkk HB9.o HKZ.o (by simp)
   have hc9 := (cell_of hb9 0).trans (show _ = some (.int .i64 p) from rfl)
   have HHI := hyd (p_hasI (HD.o.keep HKw.o (by simp)) hb9)
   clear hb9 HB9 HKZ HK9
   by_cases hle : p ≤ last
   ·have HNO := hyd (show ¬ aOk (hadP x.nm dirty) 0 alive from fun h => by have := (HDR.o.1 (HIO.o.1 h)).1.1; omega)
    go_wp2_with fail
    go_ret
    exact ⟨false, rfl, ⟨(fun h => by cases h), fun h => absurd h.1 HNO.o⟩, HKw.o⟩
   ·cases had with
    | true =>
     go_wp2_with fail
     go_roundw
     case rel => exact ⟨k + 1, p, by omega, by go_num, rfl, HIO.o.trans (HDR.o.trans ⟨fun h => h.2, fun h => ⟨⟨by omega, .inl HHAD.o.symm⟩, h⟩⟩), HKw.o⟩
     case measure => show alive.length - (k + 1) < alive.length - k; omega
    | false =>
     go_wp2_with fail
     refine HHI.o.mono ?_
     rintro e w4 ⟨rfl, hk4⟩
     have HK4 := hyd (HKw.o.trans hk4 (by simp))
     have hc9' := hk4.cellOf hc9 (by simp)
     clear hk4 hc9
     by_cases hm : p ∈ dirty.map (·.pid)
     ·rw [decide_eq_true hm]
      have HMM := hyd hm
      clear hm
      go_wp2_with fail
      go_roundw
      case rel => exact ⟨k + 1, p, by omega, by go_num, rfl, HIO.o.trans (HDR.o.trans ⟨fun h => h.2, fun h => ⟨⟨by omega, .inr HMM.o⟩, h⟩⟩), HK4.o⟩
      case measure => show alive.length - (k + 1) < alive.length - k; omega
     ·rw [decide_eq_false hm]
      have HNO := hyd (show ¬ aOk (hadP x.nm dirty) 0 alive from fun h => by
        rcases (HDR.o.1 (HIO.o.1 h)).1.2 with h1 | h1
        · rw [← HHAD.o] at h1; cases h1
        · exact hm h1)
      clear hm
      go_wp2_with fail
      go_ret
      exact ⟨false, rfl, ⟨(fun h => by cases h), fun h => absurd h.1 HNO.o⟩, HK4.o⟩
  ·obtain rfl : k = alive.length := by omega
   have HAL := hyd (show aOk (hadP x.nm dirty) 0 alive from HIO.o.2 (by rw [List.drop_length]; trivial))
   clear HIO HFI HB HM
   go_wp2_with fail
   go_loopw [7, 47] (fun l i wr => ∃ (k : Nat) (last : Int), k ≤ dirty.length ∧ i = .int .i64 k ∧ l = .int .i64 last ∧ (dOk alive 0 (imL dirty) ↔ dOk alive last (imL (dirty.drop k))) ∧ Keep [] w wr) (fun _ i _ => dirty.length - (intOf i).toNat)
   case atStart => exact ⟨0, 0, Nat.zero_le _, rfl, rfl, Iff.rfl, HK.o⟩
   case round =>
    rename World => wi
    obtain ⟨k, last, hk, rfl, rfl, hio, hkw⟩ := hrel
    have HIO := hyd hio
    have HKi := hyd hkw
    clear hio hkw
    by_cases hlt : k < dirty.length
    ·obtain ⟨ib, ioff, rfl, -, -, g0, g1⟩ := (HD.o.keep HKi.o (by simp)).at hlt
     have hdr := dOk_drop (al := alive) hlt last
     have hpI := HD.o.2.1 _ (List.getElem_mem hlt)
     obtain ⟨y, hy⟩ : ∃ y, y = dirty[k] := ⟨_, rfl⟩
     rw [← hy] at g0 g1 hdr hpI
     obtain ⟨ya, yc, hyv, -, -⟩ := hpI.2.form
     have hyl := hpI.2.2
     rw [hyv] at g1
     have HDR := hyd hdr
     have hka : Keep [] wi (wi.alloc (.cells #[.int .i64 y.pid, .slice ya y.b.length yc] 52)) := (Keep.refl [] wi).alloc _
     have HKa := hyd (HKi.o.trans hka (by simp))
     have HHA := hyd (st_hasA (HA.o.keep HKa.o (by simp)) y.pid)
     clear hdr hpI hy hyv hka
     have i0' : (0 : Int) ≤ (k : Int) := by omega
     have i1' : (k : Int) < (dirty.length : Int) := by omega
     by_cases hle : y.pid ≤ last
     ·have HNO := hyd (show ¬ dOk alive 0 (imL dirty) from fun h => by have := (HDR.o.1 (HIO.o.1 h)).1.1; omega)
      go_wp2_with fail
      go_ret
      exact ⟨false, rfl, ⟨(fun h => by cases h), fun h => absurd h.2 HNO.o⟩, HKa.o⟩
     ·by_cases hz : y.b.length = 0
      ·have hz' : (y.b.length : Int) = 0 := by omega
       have HNO := hyd (show ¬ dOk alive 0 (imL dirty) from fun h => (HDR.o.1 (HIO.o.1 h)).1.2.1 (List.eq_nil_of_length_eq_zero hz))
       rw [hz] at HKa HHA g1
       go_wp2_with fail
       go_ret
       exact ⟨false, rfl, ⟨(fun h => by cases h), fun h => absurd h.2 HNO.o⟩, HKa.o⟩
      ·have hz' : ((y.b.length : Int) == 0) = false := by rw [beq_eq_false_iff_ne]; omega
       go_wp2_with fail
       refine HHA.o.mono ?_
       rintro e w4 ⟨rfl, hk4⟩
       have hb4 := blkk (heap_new wi (.cells #[.int .i64 y.pid, .slice ya y.b.length yc] 52)) hk4 (by simp)
       obtain ⟨d0, d1⟩ := cells2 hb4
       have HK4 := hyd (HKa.o.trans hk4 (by simp))
       clear hk4 hb4 HHA
       by_cases hm : y.pid ∈ alive
       ·rw [decide_eq_true hm]
        have HMM := hyd hm
        clear hm
        go_wp2_with fail
        go_roundw
        case rel => exact ⟨k + 1, y.pid, by omega, by go_num, rfl, HIO.o.trans (HDR.o.trans ⟨fun h => h.2, fun h => ⟨⟨by omega, (fun e => hz (by rw [e]; rfl)), HMM.o⟩, h⟩⟩), HK4.o⟩
        case measure => show dirty.length - (k + 1) < dirty.length - k; omega
       ·rw [decide_eq_false hm]
        have HNO := hyd (show ¬ dOk alive 0 (imL dirty) from fun h => hm (HDR.o.1 (HIO.o.1 h)).1.2.2)
        clear hm
        go_wp2_with fail
        go_ret
        exact ⟨false, rfl, ⟨(fun h => by cases h), fun h => absurd h.2 HNO.o⟩, HK4.o⟩
    ·obtain rfl : k = dirty.length := by omega
     have HDL := hyd (show dOk alive 0 (imL dirty) from HIO.o.2 (by rw [List.drop_length]; trivial))
     go_wp2_with fail
     go_ret
     exact ⟨true, rfl, ⟨fun _ => ⟨HAL.o, HDL.o⟩, fun _ => rfl⟩, HKi.o⟩
end Go.Proofs.YtimpadpeibgmoaaGreat
