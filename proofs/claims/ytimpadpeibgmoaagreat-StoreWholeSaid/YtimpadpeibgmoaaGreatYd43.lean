/- A part of the proof (St21, StOpen), joined by squeeze2.py. -/
import Derived.Test.YtimpadpeibgmoaaGreatYd42
import Derived.Lib.SlBytesConst
import Derived.Deep.Slices
import Derived.Deep.Fields
import Derived.ChangeSame
import Derived.SizedLaws
import Derived.KernelRfl
set_option maxHeartbeats 8000000
set_option maxRecDepth 100000
namespace Go.Proofs.YtimpadpeibgmoaaGreat
open Go.RowKit Go.Emb Go.Lib Go.Emb.Ext Go.Shelf
theorem pl_num {w : World} (x : Int) : Calls Tryz.prog 11 #[.int .i64 x] w fun e w' => e = .returned (.int .i64 x) ∧ w = w' := by
 go_enter Tryz.func11, Tryz.ntmps11
 go_wp2_with fail
 go_ret
 exact ⟨rfl, rfl⟩
structure LvS (w : World) (s q : Nat) (lm : List Int) (D : List Nat) (d : DS) (x : SV) (g : Nat) (im : Int → List UInt8) : Prop where
 st : STD w s q lm D d x
 area : x.area = (2, 4)
 gen : x.ns.gen = g
 man : x.nm.man = liveM
 inv : SInv d x.area x.ns x.nm.man x.os x.om.man im
 n : d.n = 16
 sz : d.sz = 64
 off : d.off = false
 left : d.left < 0
 bk : x.bk = false
 im1 : im 1 = liveB
section
variable {w : World} {s q : Nat} {lm : List Int} {D : List Nat} {d : DS} {x : SV} {rv av iv : Value} {src : ByteArray}
theorem save_left {d : DS} {W : List (Nat × List UInt8)} (hok : d.ok) (hf : ∀ x ∈ W, FitW d x) (hn : (W.map (·.1)).Nodup) (hc : (runW d W).1 = 0) (ho : d.off = false) (hl : d.left < 0) : (runW d W).2.1.n = d.n ∧ (runW d W).2.1.sz = d.sz ∧ (runW d W).2.1.off = false ∧ (runW d W).2.1.left < 0 ∧ (runW d W).2.2 = W.map (fun x => (x.1 : Int)) := by
 have h1 := runW_ok W hok hf
 have h2 := runW_at W hok hf hn hc
 exact ⟨h1.2.1, h1.2.2.1, by rw [h2.2.1]; exact ho, by rw [h2.2.2.2 hl]; exact hl, h2.2.2.1⟩
theorem live_save1 {v : Value} {im : Int → List UInt8} (hst : STD w s q lm D d (zSV 4)) (hinv : SInv d (2, 4) zSup zMn.man zSup zMn.man im) (hn : d.n = 16) (hsz : d.sz = 64) (hoff : d.off = false) (hleft : d.left < 0) (hlm : lm.length ≤ 100)
  (ha : NRd (fun b => b ∉ s :: D) w av [1]) (hd : IRd (fun b => b ∉ s :: D) w iv [⟨1, v, liveB⟩]) (hr : BRd (fun b => b ∉ s :: D) w rv [114]) (hsrc : src.data.toList = [115]) :
  Calls Tryz.prog 13 #[.pointer (some ⟨s, 0, none⟩), .string src, rv, av, iv] w fun e w' => e = .returned (.int .i64 0) ∧ ∃ lm' D' d' x', LvS w' s q lm' D' d' x' 1 (nextIm im [⟨1, v, liveB⟩]) ∧ x'.ns.ps = [(7, 1)] ∧ x'.os = zSup ∧ x'.om = zMn ∧ lm'.length ≤ 1000 ∧ (∀ b ∈ D', b ∈ D ∨ w.heap.size ≤ b) ∧ Keep (s :: D) w w' := by
 have hsz1 : src.size ≤ 1000000 := by
  have : src.data.toList.length = 1 := by rw [hsrc]; rfl
  have h2 : src.size = src.data.toList.length := rfl
  omega
 have hI : ∀ y ∈ [(⟨1, v, liveB⟩ : ImV)], I64 y.pid ∧ y.b.length ≤ 1000000 := fun y hy => by
  rw [List.mem_singleton.1 hy]
  exact ⟨⟨by show (-9223372036854775808 : Int) ≤ 1; omega, by show (1 : Int) ≤ 9223372036854775807; omega⟩, by show liveB.length ≤ _; decide⟩
 have hIn := SInv.saveIn (x := zSV 4) (im := im) hinv hst (by omega) (by decide) ha (by show 1 ≤ _; omega) hd (by show 1 ≤ _; omega) (fun y hy => (hI y hy).2) hr hsz1 (by show 1 ≤ _; omega) (by rw [hn]; show lm.length + 1 * 16 + 16 + 1 ≤ 1000000; omega)
 refine (st_save hIn).mono ?_
 intro e w' hP
 obtain ⟨c, rfl, hQ⟩ := SInv.saved (x := zSV 4) (im := im) hinv hI (by decide) hP
 rw [hn, hsz] at hQ
 rcases hQ with ⟨hc, hno, -, -⟩ | ⟨-, hrt, f0, tk, f, gm, f2, m, sp, pv, D', hf, hp, hc, -, hs2, hD, hk, hi2, -⟩
 ·exfalso
  cases hno with
  | broken h => cases h
  | arg h => exact h live_right1
  | many h => exact absurd h (by decide)
  | full f0 h1 h2 h3 => exact live_no1 hsrc h2 h3
 ·have hi := plan_is (n := 16) hf hp hrt
  rw [← hn, ← hsz] at hi
  have hfit := hi.fit hinv.ok (by omega) (fun y hy => (hI y hy).1) (by rw [hsz]; exact hp.fit) (by rw [hp.sup]; show 0 + 1 < _; omega)
  have hnd := hi.nodup (by rw [hsz]; decide) hrt.nodup
  have hc0 : (runW d (allW d.sz sp m [⟨1, v, liveB⟩])).1 = 0 := runW_all _ hinv.ok hfit hoff hleft
  obtain ⟨l1, l2, l3, l4, l5⟩ := save_left hinv.ok hfit hnd hc0 hoff hleft
  rw [hsz] at hc0 l1 l2 l3 l4 l5
  rw [hc0] at hc
  subst hc
  obtain ⟨g1, g2, g3⟩ := live_ok1 hsrc hf hp
  have hw := hi2 rfl
  have hal := allW_le (by rw [hsz]; decide) hi
  refine ⟨rfl, _, D', _, _, ⟨hs2, rfl, g2, g1, hw, l1.trans hn, l2, l3, l4, rfl, rfl⟩, g3, rfl, rfl, ?_, hD, hk⟩
  rw [List.length_append, l5, List.length_map]
  rw [hn, hsz] at hal
  simp only [List.length_singleton] at hal
  omega
theorem live_save2 {im : Int → List UInt8} (h : LvS w s q lm D d x 1 im) (hps : x.ns.ps = [(7, 1)]) (hos : x.os = zSup) (hom : x.om = zMn) (hlm : lm.length ≤ 1000)
  (ha : NRd (fun b => b ∉ s :: D) w av [1]) (hr : BRd (fun b => b ∉ s :: D) w rv [114]) (hsrc : src.data.toList = [115]) :
  Calls Tryz.prog 13 #[.pointer (some ⟨s, 0, none⟩), .string src, rv, av, .slice none 0 0] w fun e w' => e = .returned (.int .i64 0) ∧ ∃ lm' D' d' x', LvS w' s q lm' D' d' x' 2 im ∧ lm'.length = lm.length + 2 ∧ (∀ b ∈ D', b ∈ D ∨ w.heap.size ≤ b) ∧ Keep (s :: D) w w' := by
 have hsz1 : src.size ≤ 1000000 := by
  have : src.data.toList.length = 1 := by rw [hsrc]; rfl
  have h2 : src.size = src.data.toList.length := rfl
  omega
 have hn := h.n
 have hsz := h.sz
 have hI : ∀ y ∈ ([] : List ImV), I64 y.pid ∧ y.b.length ≤ 1000000 := fun y hy => by cases hy
 have hd : IRd (fun b => b ∉ s :: D) w (.slice none 0 0) [] := ⟨⟨none, ⟨rfl, none, 0, rfl, Nat.le_refl _, by unfold maxLen; omega, .inl ⟨rfl, rfl⟩⟩, fun b hb => by cases hb⟩, by simp, by simp⟩
 have hIn := h.inv.saveIn h.st (by omega) (by rw [h.gen]; omega) ha (by show 1 ≤ _; omega) hd (by show 0 ≤ _; omega) (fun y hy => (hI y hy).2) hr hsz1 (by show 1 ≤ _; omega) (by rw [hn]; show lm.length + 0 * 16 + 16 + 1 ≤ 1000000; omega)
 refine (st_save hIn).mono ?_
 intro e w' hP
 obtain ⟨c, rfl, hQ⟩ := h.inv.saved hI (by rw [h.gen]; omega) hP
 have hep : x.ns.ep = 1 := by rw [h.inv.ep, h.gen]; rfl
 rw [hn, hsz] at hQ
 rcases hQ with ⟨hc, hno, -, -⟩ | ⟨-, hrt, f0, tk, f, gm, f2, m, sp, pv, D', hf, hp, hc, -, hs2, hD, hk, hi2, -⟩
 ·exfalso
  cases hno with
  | broken hb => rw [h.bk] at hb; cases hb
  | arg hb => exact hb (live_right2 h.man)
  | many hb => omega
  | full f0 h1 h2 h3 => exact live_no2 h.area hps h.gen hep h.man hos hom hsrc h2 h3
 ·have hi := plan_is (n := 16) hf hp hrt
  rw [← hn, ← hsz] at hi
  have hfit := hi.fit h.inv.ok (by omega) (fun y hy => (hI y hy).1) (by rw [hsz]; exact hp.fit) (by rw [hp.sup]; show x.ns.gen + 1 < _; rw [h.gen]; decide)
  have hnd := hi.nodup (by rw [hsz]; decide) hrt.nodup
  have hc0 : (runW d (allW d.sz sp m [])).1 = 0 := runW_all _ h.inv.ok hfit h.off h.left
  obtain ⟨l1, l2, l3, l4, l5⟩ := save_left h.inv.ok hfit hnd hc0 h.off h.left
  rw [hsz] at hc0 l1 l2 l3 l4 l5
  rw [hc0] at hc
  subst hc
  obtain ⟨g1, g2, g3⟩ := live_ok2 h.area hps h.gen h.man hos hom hsrc hf hp
  have hw := hi2 rfl
  refine ⟨rfl, _, D', _, _, ⟨hs2, h.area, g2, g1, hw, l1.trans hn, l2, l3, l4, rfl, h.im1⟩, ?_, hD, hk⟩
  rw [List.length_append, l5, List.length_map, g3]
end
theorem rd_blockM {w : World} {b E n k : Nat} {fr : Nat × Nat} {xs : List Value} (hb : w.heap[b]? = some (.cells xs.toArray E fr)) (hl : xs.length = n * k) (hn : n ≤ maxLen) : Rd w k (.slice (some ⟨b, 0, none⟩) n n) n xs (some b) :=
 ⟨hl, _, _, rfl, Nat.le_refl _, hn, .inr ⟨b, 0, rfl, rfl, fun i hi => by simp [World.cell?, hb]⟩⟩
theorem lit_allocF {w : World} {b : Nat} {o : Obj} (h : w.heap[b]? = some o) (o' : Obj) : (w.alloc o').heap[b]? = some o := by
 have hlt := lt_of_some h
 show (w.heap.push o')[b]? = some o
 rw [Array.getElem?_push_lt hlt]
 rw [← h, Array.getElem?_eq_getElem hlt]
theorem conv_1 (w : World) : (convert 35 35 (.slice (some ⟨w.heap.size, 0, none⟩) 1 1)).run Tryz.prog (w.alloc (.cells #[.int .u8 114] 5)) = .ok (.slice (some ⟨w.heap.size, 0, none⟩) 1 1) (w.alloc (.cells #[.int .u8 114] 5 (1, 2))) :=
 Lib.run_convert_bytes_const (P := Tryz.prog) w 35 5 #[.int .u8 114] 1 1 Tryz.underlying35 Tryz.underlying5
theorem conv_2 (w : World) (g : Nat) (hg : g = w.heap.size) : (convert 35 35 (.slice (some ⟨g, 0, none⟩) 5 5)).run Tryz.prog (w.alloc (.cells #[.int .u8 105, .int .u8 109, .int .u8 97, .int .u8 103, .int .u8 101] 5)) = .ok (.slice (some ⟨g, 0, none⟩) 5 5) (w.alloc (.cells #[.int .u8 105, .int .u8 109, .int .u8 97, .int .u8 103, .int .u8 101] 5 (5, 6))) := by
 subst hg
 exact Lib.run_convert_bytes_const (P := Tryz.prog) w 35 5 #[.int .u8 105, .int .u8 109, .int .u8 97, .int .u8 103, .int .u8 101] 5 5 Tryz.underlying35 Tryz.underlying5
theorem fld_gen (w : World) (a b c d : Value) : (Instr.field 56 (.agg #[a, b, c, d]) 0).run Tryz.prog w = .ok a w := by kernel_rfl
theorem fld_len (w : World) (a b c d : Value) : (Instr.field 56 (.agg #[a, b, c, d]) 2).run Tryz.prog w = .ok c w := by kernel_rfl
theorem str_of {b : ByteArray} {l : List UInt8} (h : b.data.toList = l) : b = ⟨l.toArray⟩ := by
 subst h; rfl
theorem live_any {w : World} : Calls Tryz.prog 8 #[] w fun e w' => e = .returned (.bool true) ∧ Keep [] w w' := by
 have hnew := p_new (w := w) (n := 16) (sz := 64) (by omega) (by omega) (by omega) (by omega)
 go_enter Tryz.func8, Tryz.ntmps8
 go_wp2_with fail
 refine hnew.mono ?_
 rintro e w1 ⟨q, D, rfl, hd1, hD1, hk1⟩
 have HD := hyd hD1
 have HK1 := hyd hk1
 have hf := st_format (A := 4) hd1 rfl (by show (-1 : Int) < 0; omega) (by show 0 ≤ _; omega) (by omega) (by show 4 + 3 ≤ 16; omega)
 have HF := hyd hf
 clear hnew hd1 hD1 hk1 hf
 go_wp2_with fail
 refine HF.o.mono ?_
 rintro e w2 ⟨s, D2, rfl, hs, hst, hD2, hk2⟩
 obtain ⟨d2, hd2⟩ : ∃ z, z = (runW ⟨16, 64, List.replicate (16 * 64) 0, -1, false⟩ (zW 64 (4 + 2))).2.1 := ⟨_, rfl⟩
 obtain ⟨i1, i2, i3, i4, i5, i6⟩ := format_inv (n := 16) (A := 4) (by omega) (by omega) (by omega) (fun _ => []) hd2
 have hst2 : STD w2 s q ((runW ⟨16, 64, List.replicate (16 * 64) 0, -1, false⟩ (zW 64 (4 + 2))).2.2) D2 d2 (zSV 4) := by rw [hd2]; exact hst
 generalize (runW ⟨16, 64, List.replicate (16 * 64) 0, -1, false⟩ (zW 64 (4 + 2))).2.2 = lm2 at *
 have hk12 : Keep [] w w2 := HK1.o.trans hk2 (fun b hb => .inr (HD.o b hb))
 have HST := hyd hst2
 have HI := hyd (And.intro i1 (And.intro i2 (And.intro i3 (And.intro i4 (And.intro i5 i6)))))
 have HSZ := hyd (show w.heap.size ≤ s ∧ (∀ b ∈ D2, w.heap.size ≤ b) from ⟨by have := HK1.o.size; omega, fun b hb => by
   rcases hD2 b hb with h | h
   · exact HD.o b h
   · have := HK1.o.size; omega⟩)
 have HK2 := hyd hk12
 clear hst hst2 i1 i2 i3 i4 i5 i6 hd2 hs hD2 hk2 hk12 HF HD HK1
 go_upto_region 5 with (go_at_call 11; refine (pl_num _).mono ?_; rintro e w2 ⟨rfl, rfl⟩)
 have hcv := conv_1 w2
 have hcv2 := conv_2 ((w2.alloc (.cells #[.int .u8 114] 5 (1, 2))).alloc (.cells #[.int .i64 1] 2)) (w2.heap.size + 2) (by simp)
 have HK3 := hyd (show Keep [] w2 ((((w2.alloc (.cells #[.int .u8 114] 5 (1, 2))).alloc (.cells #[.int .i64 1] 2)).alloc (.cells #[.int .u8 105, .int .u8 109, .int .u8 97, .int .u8 103, .int .u8 101] 5 (5, 6))).alloc (.cells #[.int .i64 1, .slice (some ⟨w2.heap.size + 2, 0, none⟩) 5 5] 52)) from (((((Keep.refl [] w2).alloc _).alloc _).alloc _).alloc _))
 have HA := hyd (lit_allocF (lit_allocF (lit_allocF (heap_new w2 (.cells #[.int .u8 114] 5 (1, 2))) (.cells #[.int .i64 1] 2)) (.cells #[.int .u8 105, .int .u8 109, .int .u8 97, .int .u8 103, .int .u8 101] 5 (5, 6))) (.cells #[.int .i64 1, .slice (some ⟨w2.heap.size + 2, 0, none⟩) 5 5] 52))
 have hB := lit_allocF (lit_allocF (heap_new (w2.alloc (.cells #[.int .u8 114] 5 (1, 2))) (.cells #[.int .i64 1] 2)) (.cells #[.int .u8 105, .int .u8 109, .int .u8 97, .int .u8 103, .int .u8 101] 5 (5, 6))) (.cells #[.int .i64 1, .slice (some ⟨w2.heap.size + 2, 0, none⟩) 5 5] 52)
 rw [size_alloc] at hB
 have hC := lit_allocF (heap_new ((w2.alloc (.cells #[.int .u8 114] 5 (1, 2))).alloc (.cells #[.int .i64 1] 2)) (.cells #[.int .u8 105, .int .u8 109, .int .u8 97, .int .u8 103, .int .u8 101] 5 (5, 6))) (.cells #[.int .i64 1, .slice (some ⟨w2.heap.size + 2, 0, none⟩) 5 5] 52)
 rw [size_alloc, size_alloc] at hC
 have hD := heap_new (((w2.alloc (.cells #[.int .u8 114] 5 (1, 2))).alloc (.cells #[.int .i64 1] 2)).alloc (.cells #[.int .u8 105, .int .u8 109, .int .u8 97, .int .u8 103, .int .u8 101] 5 (5, 6))) (.cells #[.int .i64 1, .slice (some ⟨w2.heap.size + 2, 0, none⟩) 5 5] 52)
 rw [size_alloc, size_alloc, size_alloc] at hD
 have HB := hyd hB
 have HC := hyd hC
 have HE := hyd hD
 clear hB hC hD
 go_wp2_with fail
 generalize ((((w2.alloc (.cells #[.int .u8 114] 5 (1, 2))).alloc (.cells #[.int .i64 1] 2)).alloc (.cells #[.int .u8 105, .int .u8 109, .int .u8 97, .int .u8 103, .int .u8 101] 5 (5, 6))).alloc (.cells #[.int .i64 1, .slice (some ⟨w2.heap.size + 2, 0, none⟩) 5 5] 52)) = w3 at *
 clear hcv hcv2
 have hst3 := HST.o.keep0 HK3.o
 have hlts : s < w2.heap.size := lt_of_some HST.o.blk
 have hltD := HST.o.dk.lt
 have hno : ∀ b, w2.heap.size ≤ b → b ∉ s :: D2 := fun b hb hm => by
  rcases List.mem_cons.1 hm with h | h
  ·omega
  ·have := hltD b h; omega
 have hbr : BRd (fun b => b ∉ s :: D2) w3 (.slice (some ⟨w2.heap.size, 0, none⟩) 1 1) [114] := ⟨⟨_, rd_blockM (n := 1) (k := 1) (xs := Lib.byteCells [114]) HA.o rfl (by simp [maxLen]), fun b hb => by cases hb; exact ⟨lt_of_some HA.o, hno _ (Nat.le_refl _)⟩⟩, by simp⟩
 have hbn : NRd (fun b => b ∉ s :: D2) w3 (.slice (some ⟨w2.heap.size + 1, 0, none⟩) 1 1) [1] := ⟨⟨_, rd_blockM (n := 1) (k := 1) (xs := [.int .i64 1]) HB.o rfl (by simp [maxLen]), fun b hb => by cases hb; exact ⟨lt_of_some HB.o, hno _ (by omega)⟩⟩, by simp [I64], by simp⟩
 have hbi : IRd (fun b => b ∉ s :: D2) w3 (.slice (some ⟨w2.heap.size + 1 + 1 + 1, 0, none⟩) 1 1) [⟨1, .slice (some ⟨w2.heap.size + 2, 0, none⟩) 5 5, liveB⟩] := ⟨⟨_, rd_blockM (n := 1) (k := 2) (xs := [.int .i64 1, .slice (some ⟨w2.heap.size + 2, 0, none⟩) 5 5]) HE.o rfl (by simp [maxLen]), fun b hb => by cases hb; exact ⟨lt_of_some HE.o, hno _ (by omega)⟩⟩, fun x hx => by
   rw [List.mem_singleton.1 hx]
   exact ⟨by simp [I64], ⟨_, rd_blockM (n := 5) (k := 1) (xs := Lib.byteCells liveB) HC.o rfl (by simp [maxLen]), fun b hb => by cases hb; exact ⟨lt_of_some HC.o, hno _ (by omega)⟩⟩, by show liveB.length ≤ _; decide⟩, by simp⟩
 have hsv := live_save1 hst3 HI.o.1 HI.o.2.1 HI.o.2.2.1 HI.o.2.2.2.1 HI.o.2.2.2.2.1 (by rw [HI.o.2.2.2.2.2]; omega) hbn hbi hbr (src := ⟨#[115]⟩) rfl
 refine (hsv).mono ?_
 rintro e w4 ⟨rfl, lm4, D4, d4, x4, hl4, hx4, hx4o, hx4m, hlm4, hD4, hk4⟩
 have hk24 : Keep [] w w4 := (HK2.o.trans HK3.o (by simp)).trans hk4 (fun b hb => .inr (by
   rcases List.mem_cons.1 hb with h | h
   · rw [h]; exact HSZ.o.1
   · exact HSZ.o.2 b h))
 have HSZ4 := hyd (show w.heap.size ≤ s ∧ (∀ b ∈ D4, w.heap.size ≤ b) from ⟨HSZ.o.1, fun b hb => by
   rcases hD4 b hb with h | h
   · exact HSZ.o.2 b h
   · have := HK3.o.size; have := HK2.o.size; omega⟩)
 have HL4 := hyd hl4
 have HX4 := hyd (And.intro hx4 (And.intro hx4o (And.intro hx4m hlm4)))
 have HK4 := hyd hk24
 clear hst3 hlts hltD hno hbr hbn hbi hsv hl4 hx4 hx4o hx4m hlm4 hD4 hk4 hk24 HA HB HC HE HK3 HST HI HSZ HK2
 go_wp2_with fail
 refine (d_log HL4.o.st.dk (by have := HX4.o.2.2.2; omega)).mono ?_
 rintro e w5 ⟨v5, o5, rfl, hr5, -, hk5⟩
 obtain ⟨o6, ⟨-, a5, c5, hv5, -⟩, -⟩ := hr5.rd
 subst hv5
 have hl5 : LvS w5 s q lm4 D4 d4 x4 1 _ := ⟨HL4.o.st.keep0 hk5, HL4.o.area, HL4.o.gen, HL4.o.man, HL4.o.inv, HL4.o.n, HL4.o.sz, HL4.o.off, HL4.o.left, HL4.o.bk, HL4.o.im1⟩
 have HL5 := hyd hl5
 have HK5 := hyd (HK4.o.trans hk5 (by simp))
 clear hr5 hk5 hl5 HL4 HK4
 go_upto_region 7 with fail
 have hcv := conv_1 w5
 have HK6 := hyd (show Keep [] w5 ((w5.alloc (.cells #[.int .u8 114] 5 (1, 2))).alloc (.cells #[.int .i64 1] 2)) from ((Keep.refl [] w5).alloc _).alloc _)
 have HA := hyd (lit_allocF (heap_new w5 (.cells #[.int .u8 114] 5 (1, 2))) (.cells #[.int .i64 1] 2))
 have hB := heap_new (w5.alloc (.cells #[.int .u8 114] 5 (1, 2))) (.cells #[.int .i64 1] 2)
 rw [size_alloc] at hB
 have HB := hyd hB
 clear hB
 go_wp2_with fail
 generalize (w5.alloc (.cells #[.int .u8 114] 5 (1, 2))).alloc (.cells #[.int .i64 1] 2) = w6 at *
 clear hcv
 have hlts : s < w5.heap.size := lt_of_some HL5.o.st.blk
 have hltD := HL5.o.st.dk.lt
 have hno : ∀ b, w5.heap.size ≤ b → b ∉ s :: D4 := fun b hb hm => by
  rcases List.mem_cons.1 hm with h | h
  ·omega
  ·have := hltD b h; omega
 have hbr : BRd (fun b => b ∉ s :: D4) w6 (.slice (some ⟨w5.heap.size, 0, none⟩) 1 1) [114] := ⟨⟨_, rd_blockM (n := 1) (k := 1) (xs := Lib.byteCells [114]) HA.o rfl (by simp [maxLen]), fun b hb => by cases hb; exact ⟨lt_of_some HA.o, hno _ (Nat.le_refl _)⟩⟩, by simp⟩
 have hbn : NRd (fun b => b ∉ s :: D4) w6 (.slice (some ⟨w5.heap.size + 1, 0, none⟩) 1 1) [1] := ⟨⟨_, rd_blockM (n := 1) (k := 1) (xs := [.int .i64 1]) HB.o rfl (by simp [maxLen]), fun b hb => by cases hb; exact ⟨lt_of_some HB.o, hno _ (by omega)⟩⟩, by simp [I64], by simp⟩
 have hl6 : LvS w6 s q lm4 D4 d4 x4 1 _ := ⟨HL5.o.st.keep0 HK6.o, HL5.o.area, HL5.o.gen, HL5.o.man, HL5.o.inv, HL5.o.n, HL5.o.sz, HL5.o.off, HL5.o.left, HL5.o.bk, HL5.o.im1⟩
 refine (live_save2 hl6 HX4.o.1 HX4.o.2.1 HX4.o.2.2.1 HX4.o.2.2.2 hbn hbr (src := ⟨#[115]⟩) rfl).mono ?_
 rintro e w7 ⟨rfl, lm7, D7, d7, x7, hl7, hlm7, hD7, hk7⟩
 have hk27 : Keep [] w w7 := (HK5.o.trans HK6.o (by simp)).trans hk7 (fun b hb => .inr (by
   rcases List.mem_cons.1 hb with h | h
   · rw [h]; exact HSZ4.o.1
   · exact HSZ4.o.2 b h))
 have HLN := hyd (And.intro hlm7 HX4.o.2.2.2)
 have HL7 := hyd hl7
 have HK7 := hyd hk27
 clear hlts hltD hno hbr hbn hl6 hl7 hlm7 hD7 hk7 hk27 HA HB HK6 HL5 HK5 HX4 HSZ4
 have hop := st_open (HL7.o.inv.openIn HL7.o.st.dk HL7.o.off (by rw [HL7.o.gen]; omega) (by rw [HL7.o.gen]; omega) (by rw [HL7.o.n]; omega))
 rw [HL7.o.inv.best (by rw [HL7.o.gen]; omega)] at hop
 have HOP := hyd hop
 clear hop
 go_wp2_with fail
 refine HOP.o.mono ?_
 rintro e w8 ⟨s2, m, iv, imgs, x8, rfl, hs2, hst8, -, hx8, -, -, -, -, hmm, hmr, hir, hil, hk8⟩
 have hman : m.man = liveM := by rw [hmm]; exact HL7.o.man
 have hms : m.s = ⟨#[115]⟩ := str_of (l := [115]) (by have := congrArg Man.source hman; unfold MnV.man liveM at this; exact this)
 obtain ⟨⟨ra, rc, hrv⟩, va, vc, hpv⟩ := hmr.forms
 have hag : aggM m = .agg #[.string ⟨#[115]⟩, .int .i64 m.area.1, .int .i64 m.area.2, .slice ra m.rest.length rc, .slice va m.places.length vc] := by unfold aggM; rw [hrv, hpv, hms]
 rw [hag]
 have hil2 : imL imgs = [(1, liveB)] := by
  rw [hil, HL7.o.man]
  show [((1 : Int), _)] = _
  rw [HL7.o.im1]
 obtain ⟨y, rfl⟩ : ∃ y, imgs = [y] := List.length_eq_one_iff.1 (by have := congrArg List.length hil2; unfold imL at this; simpa using this)
 have hyb : y.b = liveB := by
  unfold imL at hil2
  simp only [List.map_cons, List.map_nil, List.cons.injEq, Prod.mk.injEq, and_true] at hil2
  exact hil2.2
 obtain ⟨⟨io, ⟨-, ia, ic, rfl, -, -, hcell⟩, -⟩, hbs, -⟩ := id hir
 obtain ⟨ib, ioff, rfl, hc⟩ : ∃ b off, ia = some ⟨b, off, none⟩ ∧ w8.cell? ⟨b, off + 1, none⟩ = some y.v := by
  rcases hcell with ⟨h, -⟩ | ⟨b, off, h1, -, h3⟩
  ·simp at h
  ·exact ⟨b, off, h1, (h3 1 (by simp)).trans rfl⟩
 obtain ⟨ya, yc, hyv, -, -⟩ := (hbs y (by simp)).2.form
 have hyl : y.b.length = 5 := by rw [hyb]; rfl
 rw [hyl] at hyv
 have HBY := hyd (fun W (hW : Keep [] w8 W) => by
   obtain ⟨⟨o, h1, -⟩, -⟩ := ((hbs y (by simp)).2).keep hW (by simp)
   have h2 := rd_text (P := Tryz.prog) (src := 35) (e := 5) (dst := 9) h1 Tryz.underlying35 Tryz.underlying5 Tryz.underlying9
   rw [hyv, hyb] at h2
   exact h2)
 rw [hyv] at hc
 have HC := hyd hc
 have HS8 := hyd hst8
 have HX8 := hyd hx8
 have HK8 := hyd hk8
 have HB9 := hyd (heap_new w8 (.cells #[.string ⟨#[115]⟩, .int .i64 m.area.1, .int .i64 m.area.2, .slice ra m.rest.length rc, .slice va m.places.length vc] 38))
 have HK9 := hyd (show Keep [] w8 (w8.alloc (.cells #[.string ⟨#[115]⟩, .int .i64 m.area.1, .int .i64 m.area.2, .slice ra m.rest.length rc, .slice va m.places.length vc] 38)) from (Keep.refl [] w8).alloc _)
 have hn1 : (List.length [y] : Nat) = 1 := rfl
 rw [hn1]
 clear hman hms hrv hpv hag hil hil2 hyb hbs hcell hyv hyl hc hst8 hx8 hk8 hmm hmr hir hs2 hn1 HOP
 go_upto_region 9 with fail
 generalize w8.alloc (.cells #[.string ⟨#[115]⟩, .int .i64 m.area.1, .int .i64 m.area.2, .slice ra m.rest.length rc, .slice va m.places.length vc] 38) = w9 at *
 go_wp2_with (go_at_call 11; refine (pl_num _).mono ?_; rintro e w2 ⟨rfl, rfl⟩)
 refine (d_log (HS8.o.dk.keep0 HK9.o) (by have := HLN.o; omega)).mono ?_
 rintro e w10 ⟨v10, o10, rfl, hr10, -, hk10⟩
 obtain ⟨o11, ⟨-, a10, c10, hv10, -⟩, -⟩ := hr10.rd
 subst hv10
 have HK10 := hyd (HK9.o.trans hk10 (by simp))
 have hbm := blkk HB9.o hk10 (by simp)
 obtain ⟨c0, c1, c2, c3, c4⟩ := cells5 hbm
 have hci := HK10.o.cellOf HC.o (by simp)
 have hcv := HBY.o w10 HK10.o
 unfold liveB at hcv
 have hll : lm7.length = lm4.length + 2 := HLN.o.1
 have hl4 := HLN.o.2
 have hwl : IntKind.i64.wrap ((lm4.length : Int) + 2) = (lm4.length : Int) + 2 := IntWalk.i64_in _ (by omega)
 rw [hll]
 have HSS := hyd (HS8.o.keep0 HK10.o)
 clear hr10 hbm
 go_wp2_with fail
 refine (st_super HSS.o (by rw [HX8.o]; have := (HL7.o.inv.places).1; have h2 := HL7.o.inv.lenN; have h3 := HL7.o.n; unfold ckX at h2; rw [List.length_append] at h2; omega)).mono ?_
 rintro e w11 ⟨v11, o12, rfl, hr11, -, hk11⟩
 obtain ⟨a11, c11, rfl⟩ := hr11.form
 have hg8 : x8.ns.gen = 2 := by rw [HX8.o]; exact HL7.o.gen
 unfold aggS
 rw [hg8]
 have hfd := fld_gen w11 (.int .u64 2) (.slice a11 x8.ns.ps.length c11) (.int .i64 x8.ns.len) (.int .i64 x8.ns.ep)
 have HKF := hyd (((HK7.o.trans HK8.o (by simp)).trans HK10.o (by simp)).trans hk11 (by simp))
 clear hr11 hk11 hk10 hci hcv c0 c1 c2 c3 c4
 go_wp2_with fail
 go_ret
 exact ⟨rfl, HKF.o⟩
open Go.ChangeShapes Go.WideShapes Go.Deep Go.RowKit Go.Emb Go.Emb.Ext
def RdN (B : Nat) (w : World) (v : Value) (l : List Int) : Prop := (∃ o, Rd w 1 v l.length (l.map (Value.int .i64)) o ∧ ∀ b, o = some b → b < B) ∧ (∀ x ∈ l, I64 x) ∧ l.length * 8 ≤ 140737488355328
def RdIm1 (B : Nat) (w : World) (x : ImV) : Prop := I64 x.pid ∧ RdB B w x.v x.b
def RdIm (B : Nat) (w : World) (v : Value) (l : List ImV) : Prop := (∃ o, Rd w 2 v l.length (l.flatMap encI) o ∧ ∀ b, o = some b → b < B) ∧ (∀ x ∈ l, RdIm1 B w x) ∧ l.length * 32 ≤ 140737488355328
structure AcV where
 kind : Int
 n : Int
 pv : Value
 p : List UInt8
 src : ByteArray
 av : Value
 alive : List Int
 dv : Value
 dirty : List ImV
def encA (a : AcV) : List Value := [.int .i64 a.kind, .int .i64 a.n, a.pv, .string a.src, a.av, a.dv]
def RdA (B : Nat) (w : World) (a : AcV) : Prop := I64 a.kind ∧ I64 a.n ∧ RdB B w a.pv a.p ∧ a.src.size ≤ 140737488355328 ∧ RdN B w a.av a.alive ∧ RdIm B w a.dv a.dirty
def RdAs (B : Nat) (w : World) (v : Value) (l : List AcV) : Prop := (∃ o, Rd w 6 v l.length (l.flatMap encA) o ∧ ∀ b, o = some b → b < B) ∧ (∀ x ∈ l, RdA B w x) ∧ l.length * 104 ≤ 140737488355328
theorem weights_mem_all {H : Type} {P : Program} {e : TypeId} : ∀ {l : List (DataW H)} {d : DataW H}, d ∈ l → ∀ n ∈ d.weights P e, n ∈ DataW.weightsAll P e l
 | [], _, h, _, _ => by cases h
 | x :: l, d, h, n, hn => by
  simp only [DataW.weightsAll, List.mem_append]
  rcases List.mem_cons.1 h with rfl | h
  ·exact .inl hn
  ·exact .inr (weights_mem_all h n hn)
theorem flatN_len {α : Type} {e : α → List Value} {m : Nat} (he : ∀ x, (e x).length = m) : ∀ l : List α, (l.flatMap e).length = l.length * m
 | [] => by simp
 | x :: l => by rw [List.flatMap_cons, List.length_append, he, flatN_len he l, List.length_cons, Nat.succ_mul]; omega
theorem flatMap_one (l : List UInt8) : l.flatMap (fun c => [Value.int .u8 (c.toNat : Int)]) = l.map (fun c => Value.int .u8 (c.toNat : Int)) := by
 induction l with
 | nil => rfl
 | cons c l ih => rw [List.flatMap_cons, List.map_cons, ih]; rfl
theorem flat_atO {α : Type} {e : α → List Value} {m : Nat} (he : ∀ x, (e x).length = m) : ∀ (l : List α) (k : Nat) (h : k < l.length) (j : Nat), j < m → (l.flatMap e)[k * m + j]? = (e l[k])[j]?
 | [], k, h, _, _ => by simp at h
 | x :: l, 0, h, j, hj => by
  rw [List.flatMap_cons, List.getElem?_append_left (by rw [he]; omega)]
  simp
 | x :: l, k + 1, h, j, hj => by
  rw [List.flatMap_cons, List.getElem?_append_right (by rw [he, Nat.succ_mul]; omega), he, show (k + 1) * m + j - m = k * m + j from by rw [Nat.succ_mul]; omega, flat_atO he l k (by simpa using h) j hj]
  simp
instance : Inhabited ImV := ⟨⟨0, .slice none 0 0, []⟩⟩
instance : Inhabited AcV := ⟨⟨0, 0, .slice none 0 0, [], ⟨#[]⟩, .slice none 0 0, [], .slice none 0 0, []⟩⟩
section
variable {H : Type} {enc : TypeId × Value → H} {W : World}
theorem open_list {α : Type} [Inhabited α] {T e : TypeId} {k : Nat} (ht : Tryz.prog.underlying T = some (.slice e)) (hk : Tryz.prog.cellsOf e = k) (hkp : 0 < k) {encA : α → List Value} (hl : ∀ x, (encA x).length = k) {Ok : α → Prop} {n : Nat}
  (IH : ∀ cs y, DataW.trod enc Tryz.prog W 0 (fun _ => true) true n e cs = some y → (∀ z ∈ y.1.weights Tryz.prog e, z ≤ reachBytes) → ∃ x, cs = encA x ∧ Ok x)
  {v : Value} {y : DataW H × List MemPlace} (h : DataW.trod enc Tryz.prog W 0 (fun _ => true) true (n + 1) T [v] = some y) (hw : ∀ z ∈ y.1.weights Tryz.prog T, z ≤ reachBytes) :
  ∃ l : List α, (∃ o, Rd W k v l.length (l.flatMap encA) o ∧ ∀ b, o = some b → b < W.heap.size) ∧ (∀ x ∈ l, Ok x) ∧ l.length * Tryz.prog.bytesOf e ≤ reachBytes := by
 rcases DataW.trod_slice ht h with ⟨hcs, _⟩ | ⟨a, len, cap, elems, rest, n', hn, hcs, rfl, hb, hle, hm, hlen, hel, -, -⟩
 ·simp at hcs; subst hcs; exact ⟨[], ⟨none, ⟨by simp, none, 0, rfl, by simp, by simp [maxLen], .inl ⟨rfl, rfl⟩⟩, by simp⟩, by simp, by simp⟩
 ·obtain rfl : n' = n := by omega
  simp at hcs; subst hcs
  rw [hk] at hel
  have key : ∀ i, i < len → ∃ t : α, W.cells? 0 (a.add (i * k)) k = some (encA t) ∧ Ok t := by
   intro i hi
   have h1 := hel i hi
   rw [List.getElem?_eq_getElem (by omega)] at h1
   obtain ⟨cs', h2, h3⟩ := Option.bind_eq_some_iff.1 h1
   obtain ⟨t, rfl, ht⟩ := IH cs' _ h3 (fun z hz => hw z (by
     simp only [DataW.weights, ht, List.mem_cons, List.mem_append]
     right; left
     exact weights_mem_all (List.mem_map.2 ⟨_, List.getElem_mem _, rfl⟩) z hz))
   exact ⟨t, h2, ht⟩
  obtain ⟨f, hf⟩ := choose_lt key
  have hbytes : len * Tryz.prog.bytesOf e ≤ reachBytes := by
   have := hw (((elems.map (·.1)).length + (rest.map (·.1)).length) * Tryz.prog.bytesOf e) (by simp [DataW.weights, ht])
   simp only [List.length_map] at this
   refine Nat.le_trans (Nat.mul_le_mul_right _ ?_) this
   omega
  have hll : ((List.range len).map f).length = len := by simp
  refine ⟨(List.range len).map f, ?_, ?_, by rw [hll]; exact hbytes⟩
  ·by_cases h0 : len = 0
   ·subst h0
    exact ⟨none, ⟨by simp, _, cap, rfl, by simp, hm, .inl ⟨by simp, rfl⟩⟩, by simp⟩
   ·obtain ⟨b, off, spot⟩ := a
    obtain ⟨_, hl0, hat0⟩ := World.cells?_some (hf 0 (by omega)).1
    have hc := hat0 0 hkp
    have hz : (encA (f 0))[0]? = some ((encA (f 0))[0]'(by rw [hl]; exact hkp)) := List.getElem?_eq_getElem _
    have hspot : spot = none := by simpa [Addr.add] using World.cell?_spot (hc.trans hz)
    subst hspot
    have hadd : ∀ i, (⟨b, off, none⟩ : Addr).add i = ⟨b, off + i, none⟩ := by intro i; unfold Addr.add; split <;> simp_all
    have hadd2 : ∀ i j, (⟨b, off + i, none⟩ : Addr).add j = ⟨b, off + i + j, none⟩ := by intro i j; unfold Addr.add; split <;> simp_all
    refine ⟨some b, ⟨flatN_len hl _, _, cap, by rw [hll], by rw [hll]; exact hle, hm, .inr ⟨b, off, rfl, rfl, fun i hi => ?_⟩⟩, ?_⟩
    ·rw [hll] at hi
     have hik : i / k < len := Nat.div_lt_of_lt_mul (by rw [Nat.mul_comm]; exact hi)
     obtain ⟨_, _, hat⟩ := World.cells?_some (hf (i / k) hik).1
     have hmod := Nat.mod_lt i hkp
     have h5 := hat (i % k) hmod
     rw [hadd, hadd2] at h5
     have h6 := flat_atO hl ((List.range len).map f) (i / k) (by rw [hll]; exact hik) (i % k) hmod
     have e : i / k * k + i % k = i := by rw [Nat.mul_comm]; exact Nat.div_add_mod i k
     rw [e] at h6
     rw [Nat.add_assoc, e] at h5
     rw [h5, h6]
     simp
    ·rintro b' ⟨⟩
     have := World.block_lt_of_cell? _ _ (hc.trans hz)
     simpa [Addr.add] using this
  ·intro x hx
   obtain ⟨i, hir, rfl⟩ := List.mem_map.1 hx
   exact (hf i (List.mem_range.1 hir)).2
theorem o_cellsI : Tryz.prog.cellsOf 3 = 1 := by kernel_rfl
theorem o_cellsI64 : Tryz.prog.cellsOf 2 = 1 := by kernel_rfl
theorem o_cellsS : Tryz.prog.cellsOf 9 = 1 := by kernel_rfl
theorem o_cellsBs : Tryz.prog.cellsOf 35 = 1 := by kernel_rfl
theorem o_cellsNs : Tryz.prog.cellsOf 41 = 1 := by kernel_rfl
theorem o_cellsIms : Tryz.prog.cellsOf 42 = 1 := by kernel_rfl
theorem o_cellsIm : Tryz.prog.cellsOf 52 = 2 := by kernel_rfl
theorem o_cellsA : Tryz.prog.cellsOf 44 = 6 := by kernel_rfl
theorem o_bytesIm : Tryz.prog.bytesOf 52 = 32 := by kernel_rfl
theorem o_bytesA : Tryz.prog.bytesOf 44 = 104 := by kernel_rfl
theorem o_bytesI : Tryz.prog.bytesOf 3 = 8 := by kernel_rfl
theorem o_bytesI64 : Tryz.prog.bytesOf 2 = 8 := by kernel_rfl
theorem open_i {n : Nat} {T : TypeId} {cs : List Value} {y : DataW H × List MemPlace} (hT : Tryz.prog.underlying T = some (.int .i64)) (h : DataW.trod enc Tryz.prog W 0 (fun _ => true) true n T cs = some y) : ∃ i : Int, cs = [.int .i64 i] ∧ I64 i := by
 obtain ⟨i, e, -, hw⟩ := DataW.trod_int hT h
 simp [Lit.wf, IntKind.min, IntKind.max, IntKind.signed, IntKind.bits] at hw
 exact ⟨i, e, by unfold I64; omega⟩
theorem flatMap_i (l : List Int) : l.flatMap (fun c => [Value.int .i64 c]) = l.map (Value.int .i64) := by
 induction l with
 | nil => rfl
 | cons c l ih => rw [List.flatMap_cons, List.map_cons, ih]; rfl
theorem open_is {n : Nat} {v : Value} {y : DataW H × List MemPlace} (h : DataW.trod enc Tryz.prog W 0 (fun _ => true) true n 63 [v] = some y) (hw : ∀ z ∈ y.1.weights Tryz.prog 63, z ≤ reachBytes) : ∃ l, RdN W.heap.size W v l := by
 cases n with
 | zero => simp [DataW.trod] at h
 | succ n =>
  obtain ⟨l, h1, h2, h3⟩ := open_list (encA := fun c => [Value.int .i64 c]) (Ok := I64) Tryz.underlying63 o_cellsI (by omega) (fun _ => rfl) (fun cs y h _ => open_i Tryz.underlying3 h) h hw
  rw [o_bytesI] at h3
  rw [flatMap_i] at h1
  exact ⟨l, h1, h2, by simp only [reachBytes] at h3; omega⟩
theorem open_ns {n : Nat} {v : Value} {y : DataW H × List MemPlace} (h : DataW.trod enc Tryz.prog W 0 (fun _ => true) true n 41 [v] = some y) (hw : ∀ z ∈ y.1.weights Tryz.prog 41, z ≤ reachBytes) : ∃ l, RdN W.heap.size W v l := by
 cases n with
 | zero => simp [DataW.trod] at h
 | succ n =>
  obtain ⟨l, h1, h2, h3⟩ := open_list (encA := fun c => [Value.int .i64 c]) (Ok := I64) Tryz.underlying41 o_cellsI64 (by omega) (fun _ => rfl) (fun cs y h _ => open_i Tryz.underlying2 h) h hw
  rw [o_bytesI64] at h3
  rw [flatMap_i] at h1
  exact ⟨l, h1, h2, by simp only [reachBytes] at h3; omega⟩
theorem o_cellsU8 : Tryz.prog.cellsOf 5 = 1 := by kernel_rfl
theorem o_bytesU8 : Tryz.prog.bytesOf 5 = 1 := by kernel_rfl
theorem open_bs {n : Nat} {v : Value} {y : DataW H × List MemPlace} (h : DataW.trod enc Tryz.prog W 0 (fun _ => true) true n 35 [v] = some y) (hw : ∀ z ∈ y.1.weights Tryz.prog 35, z ≤ reachBytes) : ∃ l, RdB W.heap.size W v l := by
 cases n with
 | zero => simp [DataW.trod] at h
 | succ n =>
  obtain ⟨l, ⟨o, h1, h1'⟩, -, h3⟩ := open_list (α := UInt8) (encA := fun c => [.int .u8 (c.toNat : Int)]) (Ok := fun _ => True) Tryz.underlying35 o_cellsU8 (by omega) (fun _ => rfl) (fun cs y h _ => by
    obtain ⟨i, e, -, hw⟩ := DataW.trod_int Tryz.underlying5 h
    simp [Lit.wf, IntKind.min, IntKind.max, IntKind.signed, IntKind.bits] at hw
    refine ⟨UInt8.ofNat i.toNat, ?_, trivial⟩
    rw [e, UInt8.toNat_ofNat']
    congr 2
    omega) h hw
  rw [o_bytesU8] at h3
  refine ⟨l, ⟨o, ?_, h1'⟩, by simp only [reachBytes] at h3; omega⟩
  have : l.flatMap (fun c => [Value.int .u8 (c.toNat : Int)]) = Lib.byteCells l := by
   unfold Lib.byteCells
   exact flatMap_one l
  rw [this] at h1
  exact h1
theorem open_im {n : Nat} {cs : List Value} {y : DataW H × List MemPlace} (h : DataW.trod enc Tryz.prog W 0 (fun _ => true) true n 52 cs = some y) (hw : ∀ z ∈ y.1.weights Tryz.prog 52, z ≤ reachBytes) : ∃ x : ImV, cs = encI x ∧ RdIm1 W.heap.size W x := by
 obtain ⟨xs, m, hm, hx, hcl, hxl, hf⟩ := DataW.trod_struct Tryz.underlying52 h
 rw [o_cellsIm] at hcl
 subst hx
 match cs, hcl with
 | [c0, c1], _ =>
  match xs, hxl with
  | [x0, x1], _ =>
   have f0 : DataW.trod enc Tryz.prog W 0 (fun _ => true) true m 2 (([c0, c1].drop 0).take (Tryz.prog.cellsOf 2)) = [x0, x1][0]? := hf 0 _ rfl
   have f1 : DataW.trod enc Tryz.prog W 0 (fun _ => true) true m 35 (([c0, c1].drop 1).take (Tryz.prog.cellsOf 35)) = [x0, x1][1]? := hf 1 _ rfl
   rw [o_cellsI64] at f0
   rw [o_cellsBs] at f1
   obtain ⟨g, e0, h0⟩ := open_i Tryz.underlying2 f0
   simp at e0
   subst e0
   obtain ⟨l, hl⟩ := open_bs f1 (fun z hz => hw z (by
     simp only [DataW.weights, Tryz.underlying52]
     exact DataW.weights_mem_each (j := 1) (t := 35) (d := x1.1) rfl rfl _ hz))
   exact ⟨⟨g, c1, l⟩, rfl, h0, hl⟩
theorem open_ims {n : Nat} {v : Value} {y : DataW H × List MemPlace} (h : DataW.trod enc Tryz.prog W 0 (fun _ => true) true n 42 [v] = some y) (hw : ∀ z ∈ y.1.weights Tryz.prog 42, z ≤ reachBytes) : ∃ l, RdIm W.heap.size W v l := by
 cases n with
 | zero => simp [DataW.trod] at h
 | succ n =>
  obtain ⟨l, h1, h2, h3⟩ := open_list (α := ImV) (Ok := RdIm1 W.heap.size W) Tryz.underlying42 o_cellsIm (by omega) (encA := encI) (fun _ => rfl) (fun cs y h hz => open_im h hz) h hw
  rw [o_bytesIm] at h3
  exact ⟨l, h1, h2, by simp only [reachBytes] at h3; omega⟩
theorem open_a {n : Nat} {cs : List Value} {y : DataW H × List MemPlace} (h : DataW.trod enc Tryz.prog W 0 (fun _ => true) true n 44 cs = some y) (hw : ∀ z ∈ y.1.weights Tryz.prog 44, z ≤ reachBytes) : ∃ x : AcV, cs = encA x ∧ RdA W.heap.size W x := by
 obtain ⟨xs, m, hm, hx, hcl, hxl, hf⟩ := DataW.trod_struct Tryz.underlying44 h
 rw [o_cellsA] at hcl
 subst hx
 match cs, hcl with
 | [c0, c1, c2, c3, c4, c5], _ =>
  match xs, hxl with
  | [x0, x1, x2, x3, x4, x5], _ =>
   have f0 : DataW.trod enc Tryz.prog W 0 (fun _ => true) true m 3 (([c0, c1, c2, c3, c4, c5].drop 0).take (Tryz.prog.cellsOf 3)) = [x0, x1, x2, x3, x4, x5][0]? := hf 0 _ rfl
   rw [o_cellsI] at f0
   have f1 : DataW.trod enc Tryz.prog W 0 (fun _ => true) true m 3 (([c0, c1, c2, c3, c4, c5].drop 1).take (Tryz.prog.cellsOf 3)) = [x0, x1, x2, x3, x4, x5][1]? := hf 1 _ rfl
   rw [o_cellsI] at f1
   have f2 : DataW.trod enc Tryz.prog W 0 (fun _ => true) true m 35 (([c0, c1, c2, c3, c4, c5].drop 2).take (Tryz.prog.cellsOf 35)) = [x0, x1, x2, x3, x4, x5][2]? := hf 2 _ rfl
   rw [o_cellsBs] at f2
   have f3 : DataW.trod enc Tryz.prog W 0 (fun _ => true) true m 9 (([c0, c1, c2, c3, c4, c5].drop 3).take (Tryz.prog.cellsOf 9)) = [x0, x1, x2, x3, x4, x5][3]? := hf 3 _ rfl
   rw [o_cellsS] at f3
   have f4 : DataW.trod enc Tryz.prog W 0 (fun _ => true) true m 41 (([c0, c1, c2, c3, c4, c5].drop 4).take (Tryz.prog.cellsOf 41)) = [x0, x1, x2, x3, x4, x5][4]? := hf 4 _ rfl
   rw [o_cellsNs] at f4
   have f5 : DataW.trod enc Tryz.prog W 0 (fun _ => true) true m 42 (([c0, c1, c2, c3, c4, c5].drop 5).take (Tryz.prog.cellsOf 42)) = [x0, x1, x2, x3, x4, x5][5]? := hf 5 _ rfl
   rw [o_cellsIms] at f5
   obtain ⟨a, e0, h0⟩ := open_i Tryz.underlying3 f0
   obtain ⟨b, e1, h1⟩ := open_i Tryz.underlying3 f1
   obtain ⟨s, e3, hx3, -⟩ := DataW.trod_string Tryz.underlying9 f3
   simp at e0 e1 e3
   subst e0 e1 e3
   have hws : s.size ≤ 140737488355328 := by
    have := hw s.data.toList.length (by
      simp only [DataW.weights, Tryz.underlying44]
      exact DataW.weights_mem_each (j := 3) (t := 9) (d := x3.1) rfl rfl _ (by rw [hx3]; simp [DataW.weights]))
    simp only [reachBytes] at this
    have e : s.size = s.data.toList.length := by simp
    omega
   obtain ⟨l2, hl2⟩ := open_bs f2 (fun z hz => hw z (by
     simp only [DataW.weights, Tryz.underlying44]
     exact DataW.weights_mem_each (j := 2) (t := 35) (d := x2.1) rfl rfl _ hz))
   obtain ⟨l4, hl4⟩ := open_ns f4 (fun z hz => hw z (by
     simp only [DataW.weights, Tryz.underlying44]
     exact DataW.weights_mem_each (j := 4) (t := 41) (d := x4.1) rfl rfl _ hz))
   obtain ⟨l5, hl5⟩ := open_ims f5 (fun z hz => hw z (by
     simp only [DataW.weights, Tryz.underlying44]
     exact DataW.weights_mem_each (j := 5) (t := 42) (d := x5.1) rfl rfl _ hz))
   exact ⟨⟨a, b, c2, l2, s, c4, l4, c5, l5⟩, rfl, h0, h1, hl2, hws, hl4, hl5⟩
theorem open_as {n : Nat} {v : Value} {y : DataW H × List MemPlace} (h : DataW.trod enc Tryz.prog W 0 (fun _ => true) true n 22 [v] = some y) (hw : ∀ z ∈ y.1.weights Tryz.prog 22, z ≤ reachBytes) : ∃ l, RdAs W.heap.size W v l := by
 cases n with
 | zero => simp [DataW.trod] at h
 | succ n =>
  obtain ⟨l, h1, h2, h3⟩ := open_list (Ok := RdA W.heap.size W) Tryz.underlying22 o_cellsA (by omega) (encA := encA) (fun _ => rfl) (fun cs y h hz => open_a h hz) h hw
  rw [o_bytesA] at h3
  exact ⟨l, h1, h2, by simp only [reachBytes] at h3; omega⟩
theorem open_acts {v : Value} {d : DataW H} {ps : List MemPlace} (h : DataW.Trod enc Tryz.prog W 0 (fun _ => true) true 22 v d ps) (hw : ∀ z ∈ d.weights Tryz.prog 22, z ≤ reachBytes) (hv : ∃ a n c, v = .slice a n c) : ∃ l, RdAs W.heap.size W v l := by
 obtain ⟨fuel, hf⟩ := h
 obtain ⟨a, n, c, rfl⟩ := hv
 exact open_as (by simpa [Value.cells] using hf) hw
theorem open_ints {v : Value} {d : DataW H} {ps : List MemPlace} (h : DataW.Trod enc Tryz.prog W 0 (fun _ => true) true 63 v d ps) (hw : ∀ z ∈ d.weights Tryz.prog 63, z ≤ reachBytes) (hv : ∃ a n c, v = .slice a n c) : ∃ l, RdN W.heap.size W v l := by
 obtain ⟨fuel, hf⟩ := h
 obtain ⟨a, n, c, rfl⟩ := hv
 exact open_is (by simpa [Value.cells] using hf) hw
end
end Go.Proofs.YtimpadpeibgmoaaGreat
