/- A part of the proof (St21, StOpen, StNil), joined by squeeze2.py. -/
import Derived.Test.YtimpadpeibgmoaaGreatYa43
import Derived.Lib.SlBytesConst
import Derived.Deep.Slices
import Derived.Deep.Fields
import Derived.ChangeSame
import Derived.SizedLaws
import Derived.KernelRfl
set_option maxRecDepth 100000
namespace Go.Proofs.YtimpadpeibgmoaaGreat
open Go.RowKit Go.Emb Go.Lib Go.Emb.Ext Go.Shelf
theorem pl_num {w : World} (x : Int) : Calls Tryz.prog 11 #[.int .i64 x] w fun e w' => e = .returned (.int .i64 x) ∧ w = w' := by
  go_enter Tryz.func11, Tryz.ntmps11
  go_wp2_with fail
  go_ret
  exact ⟨rfl, rfl⟩
structure LvS (w : World) (s q : Nat) (lm : List Int) (D : List Nat) (d : DS) (x : SV) (g : Nat) (im : Int → List UInt8) : Prop where
  st : STD w s q lm D d x
  area : x.area = (2, 4)
  gen : x.ns.gen = g
  man : x.nm.man = liveM
  inv : SInv d x.area x.ns x.nm.man x.os x.om.man im
  n : d.n = 16
  sz : d.sz = 64
  off : d.off = false
  left : d.left < 0
  bk : x.bk = false
  im1 : im 1 = liveB
section
variable {w : World} {s q : Nat} {lm : List Int} {D : List Nat} {d : DS} {x : SV} {rv av iv : Value} {src : ByteArray}
theorem save_left {d : DS} {W : List (Nat × List UInt8)} (hok : d.ok) (hf : ∀ x ∈ W, FitW d x) (hn : (W.map (·.1)).Nodup) (hc : (runW d W).1 = 0) (ho : d.off = false) (hl : d.left < 0) : (runW d W).2.1.n = d.n ∧ (runW d W).2.1.sz = d.sz ∧ (runW d W).2.1.off = false ∧ (runW d W).2.1.left < 0 ∧ (runW d W).2.2 = W.map (fun x => (x.1 : Int)) := by
  have h1 := runW_ok W hok hf
  have h2 := runW_at W hok hf hn hc
  exact ⟨h1.2.1, h1.2.2.1, by rw [h2.2.1]; exact ho, by rw [h2.2.2.2 hl]; exact hl, h2.2.2.1⟩
theorem live_save1 {v : Value} {im : Int → List UInt8} (hst : STD w s q lm D d (zSV 4)) (hinv : SInv d (2, 4) zSup zMn.man zSup zMn.man im) (hn : d.n = 16) (hsz : d.sz = 64) (hoff : d.off = false) (hleft : d.left < 0) (hlm : lm.length ≤ 100)
    (ha : NRd (fun b => b ∉ s :: D) w av [1]) (hd : IRd (fun b => b ∉ s :: D) w iv [⟨1, v, liveB⟩]) (hr : BRd (fun b => b ∉ s :: D) w rv [114]) (hsrc : src.data.toList = [115]) :
    Calls Tryz.prog 13 #[.pointer (some ⟨s, 0, none⟩), .string src, rv, av, iv] w fun e w' => e = .returned (.int .i64 0) ∧ ∃ lm' D' d' x', LvS w' s q lm' D' d' x' 1 (nextIm im [⟨1, v, liveB⟩]) ∧ x'.ns.ps = [(7, 1)] ∧ x'.os = zSup ∧ x'.om = zMn ∧ lm'.length ≤ 1000 ∧ (∀ b ∈ D', b ∈ D ∨ w.heap.size ≤ b) ∧ Keep (s :: D) w w' := by
  have hsz1 : src.size ≤ 1000000 := by
    have : src.data.toList.length = 1 := by rw [hsrc]; rfl
    have h2 : src.size = src.data.toList.length := rfl
    omega
  have hI : ∀ y ∈ [(⟨1, v, liveB⟩ : ImV)], I64 y.pid ∧ y.b.length ≤ 1000000 := fun y hy => by
    rw [List.mem_singleton.1 hy]
    exact ⟨⟨by show (-9223372036854775808 : Int) ≤ 1; omega, by show (1 : Int) ≤ 9223372036854775807; omega⟩, by show liveB.length ≤ _; decide⟩
  have hIn := SInv.saveIn (x := zSV 4) (im := im) hinv hst (by omega) (by decide) ha (by show 1 ≤ _; omega) hd (by show 1 ≤ _; omega) (fun y hy => (hI y hy).2) hr hsz1 (by show 1 ≤ _; omega) (by rw [hn]; show lm.length + 1 * 16 + 16 + 1 ≤ 1000000; omega)
  refine (st_save hIn).mono ?_
  intro e w' hP
  obtain ⟨c, rfl, hQ⟩ := SInv.saved (x := zSV 4) (im := im) hinv hI (by decide) hP
  rw [hn, hsz] at hQ
  rcases hQ with ⟨hc, hno, -, -⟩ | ⟨-, hrt, f0, tk, f, gm, f2, m, sp, pv, D', hf, hp, hc, -, hs2, hD, hk, hi2, -⟩
  · exfalso
    cases hno with
    | broken h => cases h
    | arg h => exact h live_right1
    | many h => exact absurd h (by decide)
    | full f0 h1 h2 h3 => exact live_no1 hsrc h2 h3
  · have hi := plan_is (n := 16) hf hp hrt
    rw [← hn, ← hsz] at hi
    have hfit := hi.fit hinv.ok (by omega) (fun y hy => (hI y hy).1) (by rw [hsz]; exact hp.fit) (by rw [hp.sup]; show 0 + 1 < _; omega)
    have hnd := hi.nodup (by rw [hsz]; decide) hrt.nodup
    have hc0 : (runW d (allW d.sz sp m [⟨1, v, liveB⟩])).1 = 0 := runW_all _ hinv.ok hfit hoff hleft
    obtain ⟨l1, l2, l3, l4, l5⟩ := save_left hinv.ok hfit hnd hc0 hoff hleft
    rw [hsz] at hc0 l1 l2 l3 l4 l5
    rw [hc0] at hc
    subst hc
    obtain ⟨g1, g2, g3⟩ := live_ok1 hsrc hf hp
    have hw := hi2 rfl
    have hal := allW_le (by rw [hsz]; decide) hi
    refine ⟨rfl, _, D', _, _, ⟨hs2, rfl, g2, g1, hw, l1.trans hn, l2, l3, l4, rfl, rfl⟩, g3, rfl, rfl, ?_, hD, hk⟩
    rw [List.length_append, l5, List.length_map]
    rw [hn, hsz] at hal
    simp only [List.length_singleton] at hal
    omega
theorem live_save2 {im : Int → List UInt8} (h : LvS w s q lm D d x 1 im) (hps : x.ns.ps = [(7, 1)]) (hos : x.os = zSup) (hom : x.om = zMn) (hlm : lm.length ≤ 1000)
    (ha : NRd (fun b => b ∉ s :: D) w av [1]) (hr : BRd (fun b => b ∉ s :: D) w rv [114]) (hsrc : src.data.toList = [115]) :
    Calls Tryz.prog 13 #[.pointer (some ⟨s, 0, none⟩), .string src, rv, av, .slice none 0 0] w fun e w' => e = .returned (.int .i64 0) ∧ ∃ lm' D' d' x', LvS w' s q lm' D' d' x' 2 im ∧ lm'.length = lm.length + 2 ∧ (∀ b ∈ D', b ∈ D ∨ w.heap.size ≤ b) ∧ Keep (s :: D) w w' := by
  have hsz1 : src.size ≤ 1000000 := by
    have : src.data.toList.length = 1 := by rw [hsrc]; rfl
    have h2 : src.size = src.data.toList.length := rfl
    omega
  have hn := h.n
  have hsz := h.sz
  have hI : ∀ y ∈ ([] : List ImV), I64 y.pid ∧ y.b.length ≤ 1000000 := fun y hy => by cases hy
  have hd : IRd (fun b => b ∉ s :: D) w (.slice none 0 0) [] := ⟨⟨none, ⟨rfl, none, 0, rfl, Nat.le_refl _, by unfold maxLen; omega, .inl ⟨rfl, rfl⟩⟩, fun b hb => by cases hb⟩, by simp, by simp⟩
  have hIn := h.inv.saveIn h.st (by omega) (by rw [h.gen]; omega) ha (by show 1 ≤ _; omega) hd (by show 0 ≤ _; omega) (fun y hy => (hI y hy).2) hr hsz1 (by show 1 ≤ _; omega) (by rw [hn]; show lm.length + 0 * 16 + 16 + 1 ≤ 1000000; omega)
  refine (st_save hIn).mono ?_
  intro e w' hP
  obtain ⟨c, rfl, hQ⟩ := h.inv.saved hI (by rw [h.gen]; omega) hP
  have hep : x.ns.ep = 1 := by rw [h.inv.ep, h.gen]; rfl
  rw [hn, hsz] at hQ
  rcases hQ with ⟨hc, hno, -, -⟩ | ⟨-, hrt, f0, tk, f, gm, f2, m, sp, pv, D', hf, hp, hc, -, hs2, hD, hk, hi2, -⟩
  · exfalso
    cases hno with
    | broken hb => rw [h.bk] at hb; cases hb
    | arg hb => exact hb (live_right2 h.man)
    | many hb => omega
    | full f0 h1 h2 h3 => exact live_no2 h.area hps h.gen hep h.man hos hom hsrc h2 h3
  · have hi := plan_is (n := 16) hf hp hrt
    rw [← hn, ← hsz] at hi
    have hfit := hi.fit h.inv.ok (by omega) (fun y hy => (hI y hy).1) (by rw [hsz]; exact hp.fit) (by rw [hp.sup]; show x.ns.gen + 1 < _; rw [h.gen]; decide)
    have hnd := hi.nodup (by rw [hsz]; decide) hrt.nodup
    have hc0 : (runW d (allW d.sz sp m [])).1 = 0 := runW_all _ h.inv.ok hfit h.off h.left
    obtain ⟨l1, l2, l3, l4, l5⟩ := save_left h.inv.ok hfit hnd hc0 h.off h.left
    rw [hsz] at hc0 l1 l2 l3 l4 l5
    rw [hc0] at hc
    subst hc
    obtain ⟨g1, g2, g3⟩ := live_ok2 h.area hps h.gen h.man hos hom hsrc hf hp
    have hw := hi2 rfl
    refine ⟨rfl, _, D', _, _, ⟨hs2, h.area, g2, g1, hw, l1.trans hn, l2, l3, l4, rfl, h.im1⟩, ?_, hD, hk⟩
    rw [List.length_append, l5, List.length_map, g3]
end
theorem rd_blockM {w : World} {b E n k : Nat} {fr : Nat × Nat} {xs : List Value} (hb : w.heap[b]? = some (.cells xs.toArray E fr)) (hl : xs.length = n * k) (hn : n ≤ maxLen) : Rd w k (.slice (some ⟨b, 0, none⟩) n n) n xs (some b) :=
  ⟨hl, _, _, rfl, Nat.le_refl _, hn, .inr ⟨b, 0, rfl, rfl, fun i hi => by simp [World.cell?, hb]⟩⟩
theorem lit_allocF {w : World} {b : Nat} {o : Obj} (h : w.heap[b]? = some o) (o' : Obj) : (w.alloc o').heap[b]? = some o := by
  have hlt := lt_of_some h
  show (w.heap.push o')[b]? = some o
  rw [Array.getElem?_push_lt hlt]
  rw [← h, Array.getElem?_eq_getElem hlt]
theorem conv_1 (w : World) : (convert 35 35 (.slice (some ⟨w.heap.size, 0, none⟩) 1 1)).run Tryz.prog (w.alloc (.cells #[.int .u8 114] 5)) = .ok (.slice (some ⟨w.heap.size, 0, none⟩) 1 1) (w.alloc (.cells #[.int .u8 114] 5 (1, 2))) :=
  Lib.run_convert_bytes_const (P := Tryz.prog) w 35 5 #[.int .u8 114] 1 1 Tryz.underlying35 Tryz.underlying5
theorem conv_2 (w : World) (g : Nat) (hg : g = w.heap.size) : (convert 35 35 (.slice (some ⟨g, 0, none⟩) 5 5)).run Tryz.prog (w.alloc (.cells #[.int .u8 105, .int .u8 109, .int .u8 97, .int .u8 103, .int .u8 101] 5)) = .ok (.slice (some ⟨g, 0, none⟩) 5 5) (w.alloc (.cells #[.int .u8 105, .int .u8 109, .int .u8 97, .int .u8 103, .int .u8 101] 5 (5, 6))) := by
  subst hg
  exact Lib.run_convert_bytes_const (P := Tryz.prog) w 35 5 #[.int .u8 105, .int .u8 109, .int .u8 97, .int .u8 103, .int .u8 101] 5 5 Tryz.underlying35 Tryz.underlying5
theorem fld_gen (w : World) (a b c d : Value) : (Instr.field 56 (.agg #[a, b, c, d]) 0).run Tryz.prog w = .ok a w := by kernel_rfl
theorem str_of {b : ByteArray} {l : List UInt8} (h : b.data.toList = l) : b = ⟨l.toArray⟩ := by
  subst h; rfl
set_option maxRecDepth 100000 in
set_option maxHeartbeats 4000000 in
theorem live_any {w : World} : Calls Tryz.prog 8 #[] w fun e w' => e = .returned (.bool true) ∧ Keep [] w w' := by
  have hnew := p_new (w := w) (n := 16) (sz := 64) (by omega) (by omega) (by omega) (by omega)
  go_enter Tryz.func8, Tryz.ntmps8
  go_wp2_with fail
  refine hnew.mono ?_
  rintro e w1 ⟨q, D, rfl, hd1, hD1, hk1⟩
  have HD := Lib.hid hD1
  have HK1 := Lib.hid hk1
  have hf := st_format (A := 4) hd1 rfl (by show (-1 : Int) < 0; omega) (by show 0 ≤ _; omega) (by omega) (by show 4 + 3 ≤ 16; omega)
  have HF := Lib.hid hf
  clear hnew hd1 hD1 hk1 hf
  go_wp2_with fail
  refine HF.out.mono ?_
  rintro e w2 ⟨s, D2, rfl, hs, hst, hD2, hk2⟩
  obtain ⟨d2, hd2⟩ : ∃ z, z = (runW ⟨16, 64, List.replicate (16 * 64) 0, -1, false⟩ (zW 64 (4 + 2))).2.1 := ⟨_, rfl⟩
  obtain ⟨i1, i2, i3, i4, i5, i6⟩ := format_inv (n := 16) (A := 4) (by omega) (by omega) (by omega) (fun _ => []) hd2
  have hst2 : STD w2 s q ((runW ⟨16, 64, List.replicate (16 * 64) 0, -1, false⟩ (zW 64 (4 + 2))).2.2) D2 d2 (zSV 4) := by rw [hd2]; exact hst
  generalize (runW ⟨16, 64, List.replicate (16 * 64) 0, -1, false⟩ (zW 64 (4 + 2))).2.2 = lm2 at *
  have hk12 : Keep [] w w2 := HK1.out.trans hk2 (fun b hb => .inr (HD.out b hb))
  have HST := Lib.hid hst2
  have HI := Lib.hid (And.intro i1 (And.intro i2 (And.intro i3 (And.intro i4 (And.intro i5 i6)))))
  have HSZ := Lib.hid (show w.heap.size ≤ s ∧ (∀ b ∈ D2, w.heap.size ≤ b) from ⟨by have := HK1.out.size; omega, fun b hb => by
    rcases hD2 b hb with h | h
    · exact HD.out b h
    · have := HK1.out.size; omega⟩)
  have HK2 := Lib.hid hk12
  clear hst hst2 i1 i2 i3 i4 i5 i6 hd2 hs hD2 hk2 hk12 HF HD HK1
  go_upto_region 5 with (go_at_call 11; refine (pl_num _).mono ?_; rintro e w2 ⟨rfl, rfl⟩)
  have hcv := conv_1 w2
  have hcv2 := conv_2 ((w2.alloc (.cells #[.int .u8 114] 5 (1, 2))).alloc (.cells #[.int .i64 1] 2)) (w2.heap.size + 2) (by simp)
  have HK3 := Lib.hid (show Keep [] w2 ((((w2.alloc (.cells #[.int .u8 114] 5 (1, 2))).alloc (.cells #[.int .i64 1] 2)).alloc (.cells #[.int .u8 105, .int .u8 109, .int .u8 97, .int .u8 103, .int .u8 101] 5 (5, 6))).alloc (.cells #[.int .i64 1, .slice (some ⟨w2.heap.size + 2, 0, none⟩) 5 5] 52)) from (((((Keep.refl [] w2).alloc _).alloc _).alloc _).alloc _))
  have HA := Lib.hid (lit_allocF (lit_allocF (lit_allocF (heap_new w2 (.cells #[.int .u8 114] 5 (1, 2))) (.cells #[.int .i64 1] 2)) (.cells #[.int .u8 105, .int .u8 109, .int .u8 97, .int .u8 103, .int .u8 101] 5 (5, 6))) (.cells #[.int .i64 1, .slice (some ⟨w2.heap.size + 2, 0, none⟩) 5 5] 52))
  have hB := lit_allocF (lit_allocF (heap_new (w2.alloc (.cells #[.int .u8 114] 5 (1, 2))) (.cells #[.int .i64 1] 2)) (.cells #[.int .u8 105, .int .u8 109, .int .u8 97, .int .u8 103, .int .u8 101] 5 (5, 6))) (.cells #[.int .i64 1, .slice (some ⟨w2.heap.size + 2, 0, none⟩) 5 5] 52)
  rw [size_alloc] at hB
  have hC := lit_allocF (heap_new ((w2.alloc (.cells #[.int .u8 114] 5 (1, 2))).alloc (.cells #[.int .i64 1] 2)) (.cells #[.int .u8 105, .int .u8 109, .int .u8 97, .int .u8 103, .int .u8 101] 5 (5, 6))) (.cells #[.int .i64 1, .slice (some ⟨w2.heap.size + 2, 0, none⟩) 5 5] 52)
  rw [size_alloc, size_alloc] at hC
  have hD := heap_new (((w2.alloc (.cells #[.int .u8 114] 5 (1, 2))).alloc (.cells #[.int .i64 1] 2)).alloc (.cells #[.int .u8 105, .int .u8 109, .int .u8 97, .int .u8 103, .int .u8 101] 5 (5, 6))) (.cells #[.int .i64 1, .slice (some ⟨w2.heap.size + 2, 0, none⟩) 5 5] 52)
  rw [size_alloc, size_alloc, size_alloc] at hD
  have HB := Lib.hid hB
  have HC := Lib.hid hC
  have HE := Lib.hid hD
  clear hB hC hD
  go_wp2_with fail
  generalize ((((w2.alloc (.cells #[.int .u8 114] 5 (1, 2))).alloc (.cells #[.int .i64 1] 2)).alloc (.cells #[.int .u8 105, .int .u8 109, .int .u8 97, .int .u8 103, .int .u8 101] 5 (5, 6))).alloc (.cells #[.int .i64 1, .slice (some ⟨w2.heap.size + 2, 0, none⟩) 5 5] 52)) = w3 at *
  clear hcv hcv2
  have hst3 := HST.out.keep0 HK3.out
  have hlts : s < w2.heap.size := lt_of_some HST.out.blk
  have hltD := HST.out.dk.lt
  have hno : ∀ b, w2.heap.size ≤ b → b ∉ s :: D2 := fun b hb hm => by
    rcases List.mem_cons.1 hm with h | h
    · omega
    · have := hltD b h; omega
  have hbr : BRd (fun b => b ∉ s :: D2) w3 (.slice (some ⟨w2.heap.size, 0, none⟩) 1 1) [114] := ⟨⟨_, rd_blockM (n := 1) (k := 1) (xs := Lib.byteCells [114]) HA.out rfl (by simp [maxLen]), fun b hb => by cases hb; exact ⟨lt_of_some HA.out, hno _ (Nat.le_refl _)⟩⟩, by simp⟩
  have hbn : NRd (fun b => b ∉ s :: D2) w3 (.slice (some ⟨w2.heap.size + 1, 0, none⟩) 1 1) [1] := ⟨⟨_, rd_blockM (n := 1) (k := 1) (xs := [.int .i64 1]) HB.out rfl (by simp [maxLen]), fun b hb => by cases hb; exact ⟨lt_of_some HB.out, hno _ (by omega)⟩⟩, by simp [I64], by simp⟩
  have hbi : IRd (fun b => b ∉ s :: D2) w3 (.slice (some ⟨w2.heap.size + 1 + 1 + 1, 0, none⟩) 1 1) [⟨1, .slice (some ⟨w2.heap.size + 2, 0, none⟩) 5 5, liveB⟩] := ⟨⟨_, rd_blockM (n := 1) (k := 2) (xs := [.int .i64 1, .slice (some ⟨w2.heap.size + 2, 0, none⟩) 5 5]) HE.out rfl (by simp [maxLen]), fun b hb => by cases hb; exact ⟨lt_of_some HE.out, hno _ (by omega)⟩⟩, fun x hx => by
    rw [List.mem_singleton.1 hx]
    exact ⟨by simp [I64], ⟨_, rd_blockM (n := 5) (k := 1) (xs := Lib.byteCells liveB) HC.out rfl (by simp [maxLen]), fun b hb => by cases hb; exact ⟨lt_of_some HC.out, hno _ (by omega)⟩⟩, by show liveB.length ≤ _; decide⟩, by simp⟩
  have hsv := live_save1 hst3 HI.out.1 HI.out.2.1 HI.out.2.2.1 HI.out.2.2.2.1 HI.out.2.2.2.2.1 (by rw [HI.out.2.2.2.2.2]; omega) hbn hbi hbr (src := ⟨#[115]⟩) rfl
  refine (hsv).mono ?_
  rintro e w4 ⟨rfl, lm4, D4, d4, x4, hl4, hx4, hx4o, hx4m, hlm4, hD4, hk4⟩
  have hk24 : Keep [] w w4 := (HK2.out.trans HK3.out (by simp)).trans hk4 (fun b hb => .inr (by
    rcases List.mem_cons.1 hb with h | h
    · rw [h]; exact HSZ.out.1
    · exact HSZ.out.2 b h))
  have HSZ4 := Lib.hid (show w.heap.size ≤ s ∧ (∀ b ∈ D4, w.heap.size ≤ b) from ⟨HSZ.out.1, fun b hb => by
    rcases hD4 b hb with h | h
    · exact HSZ.out.2 b h
    · have := HK3.out.size; have := HK2.out.size; omega⟩)
  have HL4 := Lib.hid hl4
  have HX4 := Lib.hid (And.intro hx4 (And.intro hx4o (And.intro hx4m hlm4)))
  have HK4 := Lib.hid hk24
  clear hst3 hlts hltD hno hbr hbn hbi hsv hl4 hx4 hx4o hx4m hlm4 hD4 hk4 hk24 HA HB HC HE HK3 HST HI HSZ HK2
  go_wp2_with fail
  refine (d_log HL4.out.st.dk (by have := HX4.out.2.2.2; omega)).mono ?_
  rintro e w5 ⟨v5, o5, rfl, hr5, -, hk5⟩
  obtain ⟨o6, ⟨-, a5, c5, hv5, -⟩, -⟩ := hr5.rd
  subst hv5
  have hl5 : LvS w5 s q lm4 D4 d4 x4 1 _ := ⟨HL4.out.st.keep0 hk5, HL4.out.area, HL4.out.gen, HL4.out.man, HL4.out.inv, HL4.out.n, HL4.out.sz, HL4.out.off, HL4.out.left, HL4.out.bk, HL4.out.im1⟩
  have HL5 := Lib.hid hl5
  have HK5 := Lib.hid (HK4.out.trans hk5 (by simp))
  clear hr5 hk5 hl5 HL4 HK4
  go_upto_region 7 with fail
  have hcv := conv_1 w5
  have HK6 := Lib.hid (show Keep [] w5 ((w5.alloc (.cells #[.int .u8 114] 5 (1, 2))).alloc (.cells #[.int .i64 1] 2)) from ((Keep.refl [] w5).alloc _).alloc _)
  have HA := Lib.hid (lit_allocF (heap_new w5 (.cells #[.int .u8 114] 5 (1, 2))) (.cells #[.int .i64 1] 2))
  have hB := heap_new (w5.alloc (.cells #[.int .u8 114] 5 (1, 2))) (.cells #[.int .i64 1] 2)
  rw [size_alloc] at hB
  have HB := Lib.hid hB
  clear hB
  go_wp2_with fail
  generalize (w5.alloc (.cells #[.int .u8 114] 5 (1, 2))).alloc (.cells #[.int .i64 1] 2) = w6 at *
  clear hcv
  have hlts : s < w5.heap.size := lt_of_some HL5.out.st.blk
  have hltD := HL5.out.st.dk.lt
  have hno : ∀ b, w5.heap.size ≤ b → b ∉ s :: D4 := fun b hb hm => by
    rcases List.mem_cons.1 hm with h | h
    · omega
    · have := hltD b h; omega
  have hbr : BRd (fun b => b ∉ s :: D4) w6 (.slice (some ⟨w5.heap.size, 0, none⟩) 1 1) [114] := ⟨⟨_, rd_blockM (n := 1) (k := 1) (xs := Lib.byteCells [114]) HA.out rfl (by simp [maxLen]), fun b hb => by cases hb; exact ⟨lt_of_some HA.out, hno _ (Nat.le_refl _)⟩⟩, by simp⟩
  have hbn : NRd (fun b => b ∉ s :: D4) w6 (.slice (some ⟨w5.heap.size + 1, 0, none⟩) 1 1) [1] := ⟨⟨_, rd_blockM (n := 1) (k := 1) (xs := [.int .i64 1]) HB.out rfl (by simp [maxLen]), fun b hb => by cases hb; exact ⟨lt_of_some HB.out, hno _ (by omega)⟩⟩, by simp [I64], by simp⟩
  have hl6 : LvS w6 s q lm4 D4 d4 x4 1 _ := ⟨HL5.out.st.keep0 HK6.out, HL5.out.area, HL5.out.gen, HL5.out.man, HL5.out.inv, HL5.out.n, HL5.out.sz, HL5.out.off, HL5.out.left, HL5.out.bk, HL5.out.im1⟩
  refine (live_save2 hl6 HX4.out.1 HX4.out.2.1 HX4.out.2.2.1 HX4.out.2.2.2 hbn hbr (src := ⟨#[115]⟩) rfl).mono ?_
  rintro e w7 ⟨rfl, lm7, D7, d7, x7, hl7, hlm7, hD7, hk7⟩
  have hk27 : Keep [] w w7 := (HK5.out.trans HK6.out (by simp)).trans hk7 (fun b hb => .inr (by
    rcases List.mem_cons.1 hb with h | h
    · rw [h]; exact HSZ4.out.1
    · exact HSZ4.out.2 b h))
  have HLN := Lib.hid (And.intro hlm7 HX4.out.2.2.2)
  have HL7 := Lib.hid hl7
  have HK7 := Lib.hid hk27
  clear hlts hltD hno hbr hbn hl6 hl7 hlm7 hD7 hk7 hk27 HA HB HK6 HL5 HK5 HX4 HSZ4
  have hop := st_open (HL7.out.inv.openIn HL7.out.st.dk HL7.out.off (by rw [HL7.out.gen]; omega) (by rw [HL7.out.gen]; omega) (by rw [HL7.out.n]; omega))
  rw [HL7.out.inv.best (by rw [HL7.out.gen]; omega)] at hop
  have HOP := Lib.hid hop
  clear hop
  go_wp2_with fail
  refine HOP.out.mono ?_
  rintro e w8 ⟨s2, m, iv, imgs, x8, rfl, hs2, hst8, -, hx8, -, -, -, -, hmm, hmr, hir, hil, hk8⟩
  have hman : m.man = liveM := by rw [hmm]; exact HL7.out.man
  have hms : m.s = ⟨#[115]⟩ := str_of (l := [115]) (by have := congrArg Man.source hman; unfold MnV.man liveM at this; exact this)
  obtain ⟨⟨ra, rc, hrv⟩, va, vc, hpv⟩ := hmr.forms
  have hag : aggM m = .agg #[.string ⟨#[115]⟩, .int .i64 m.area.1, .int .i64 m.area.2, .slice ra m.rest.length rc, .slice va m.places.length vc] := by unfold aggM; rw [hrv, hpv, hms]
  rw [hag]
  have hil2 : imL imgs = [(1, liveB)] := by
    rw [hil, HL7.out.man]
    show [((1 : Int), _)] = _
    rw [HL7.out.im1]
  obtain ⟨y, rfl⟩ : ∃ y, imgs = [y] := List.length_eq_one_iff.1 (by have := congrArg List.length hil2; unfold imL at this; simpa using this)
  have hyb : y.b = liveB := by
    unfold imL at hil2
    simp only [List.map_cons, List.map_nil, List.cons.injEq, Prod.mk.injEq, and_true] at hil2
    exact hil2.2
  obtain ⟨⟨io, ⟨-, ia, ic, rfl, -, -, hcell⟩, -⟩, hbs, -⟩ := id hir
  obtain ⟨ib, ioff, rfl, hc⟩ : ∃ b off, ia = some ⟨b, off, none⟩ ∧ w8.cell? ⟨b, off + 1, none⟩ = some y.v := by
    rcases hcell with ⟨h, -⟩ | ⟨b, off, h1, -, h3⟩
    · simp at h
    · exact ⟨b, off, h1, (h3 1 (by simp)).trans rfl⟩
  obtain ⟨ya, yc, hyv, -, -⟩ := (hbs y (by simp)).2.form
  have hyl : y.b.length = 5 := by rw [hyb]; rfl
  rw [hyl] at hyv
  have HBY := Lib.hid (fun W (hW : Keep [] w8 W) => by
    obtain ⟨⟨o, h1, -⟩, -⟩ := ((hbs y (by simp)).2).keep hW (by simp)
    have h2 := rd_text (P := Tryz.prog) (src := 35) (e := 5) (dst := 9) h1 Tryz.underlying35 Tryz.underlying5 Tryz.underlying9
    rw [hyv, hyb] at h2
    exact h2)
  rw [hyv] at hc
  have HC := Lib.hid hc
  have HS8 := Lib.hid hst8
  have HX8 := Lib.hid hx8
  have HK8 := Lib.hid hk8
  have HB9 := Lib.hid (heap_new w8 (.cells #[.string ⟨#[115]⟩, .int .i64 m.area.1, .int .i64 m.area.2, .slice ra m.rest.length rc, .slice va m.places.length vc] 38))
  have HK9 := Lib.hid (show Keep [] w8 (w8.alloc (.cells #[.string ⟨#[115]⟩, .int .i64 m.area.1, .int .i64 m.area.2, .slice ra m.rest.length rc, .slice va m.places.length vc] 38)) from (Keep.refl [] w8).alloc _)
  have hn1 : (List.length [y] : Nat) = 1 := rfl
  rw [hn1]
  clear hman hms hrv hpv hag hil hil2 hyb hbs hcell hyv hyl hc hst8 hx8 hk8 hmm hmr hir hs2 hn1 HOP
  go_upto_region 9 with fail
  generalize w8.alloc (.cells #[.string ⟨#[115]⟩, .int .i64 m.area.1, .int .i64 m.area.2, .slice ra m.rest.length rc, .slice va m.places.length vc] 38) = w9 at *
  go_wp2_with (go_at_call 11; refine (pl_num _).mono ?_; rintro e w2 ⟨rfl, rfl⟩)
  refine (d_log (HS8.out.dk.keep0 HK9.out) (by have := HLN.out; omega)).mono ?_
  rintro e w10 ⟨v10, o10, rfl, hr10, -, hk10⟩
  obtain ⟨o11, ⟨-, a10, c10, hv10, -⟩, -⟩ := hr10.rd
  subst hv10
  have HK10 := Lib.hid (HK9.out.trans hk10 (by simp))
  have hbm := blkk HB9.out hk10 (by simp)
  obtain ⟨c0, c1, c2, c3, c4⟩ := cells5 hbm
  have hci := HK10.out.cellOf HC.out (by simp)
  have hcv := HBY.out w10 HK10.out
  unfold liveB at hcv
  have hll : lm7.length = lm4.length + 2 := HLN.out.1
  have hl4 := HLN.out.2
  have hwl : IntKind.i64.wrap ((lm4.length : Int) + 2) = (lm4.length : Int) + 2 := IntWalk.i64_in _ (by omega)
  rw [hll]
  have HSS := Lib.hid (HS8.out.keep0 HK10.out)
  clear hr10 hbm
  go_wp2_with fail
  refine (st_super HSS.out (by rw [HX8.out]; have := (HL7.out.inv.places).1; have h2 := HL7.out.inv.lenN; have h3 := HL7.out.n; unfold ckX at h2; rw [List.length_append] at h2; omega)).mono ?_
  rintro e w11 ⟨v11, o12, rfl, hr11, -, hk11⟩
  obtain ⟨a11, c11, rfl⟩ := hr11.form
  have hg8 : x8.ns.gen = 2 := by rw [HX8.out]; exact HL7.out.gen
  unfold aggS
  rw [hg8]
  have hfd := fld_gen w11 (.int .u64 2) (.slice a11 x8.ns.ps.length c11) (.int .i64 x8.ns.len) (.int .i64 x8.ns.ep)
  have HKF := Lib.hid (((HK7.out.trans HK8.out (by simp)).trans HK10.out (by simp)).trans hk11 (by simp))
  clear hr11 hk11 hk10 hci hcv c0 c1 c2 c3 c4
  go_wp2_with fail
  go_ret
  exact ⟨rfl, HKF.out⟩
open Go.ChangeShapes Go.WideShapes Go.Deep Go.RowKit Go.Emb Go.Emb.Ext
def RdN (B : Nat) (w : World) (v : Value) (l : List Int) : Prop := (∃ o, Rd w 1 v l.length (l.map (Value.int .i64)) o ∧ ∀ b, o = some b → b < B) ∧ (∀ x ∈ l, I64 x) ∧ l.length * 8 ≤ 140737488355328
structure AcV where
  kind : Int
  n : Int
  pv : Value
  p : List UInt8
  src : ByteArray
  av : Value
  alive : List Int
  dv : Value
  dirty : List ImV
def encA (a : AcV) : List Value := [.int .i64 a.kind, .int .i64 a.n, a.pv, .string a.src, a.av, a.dv]
theorem weights_mem_all {H : Type} {P : Program} {e : TypeId} : ∀ {l : List (DataW H)} {d : DataW H}, d ∈ l → ∀ n ∈ d.weights P e, n ∈ DataW.weightsAll P e l
  | [], _, h, _, _ => by cases h
  | x :: l, d, h, n, hn => by
    simp only [DataW.weightsAll, List.mem_append]
    rcases List.mem_cons.1 h with rfl | h
    · exact .inl hn
    · exact .inr (weights_mem_all h n hn)
theorem flatN_len {α : Type} {e : α → List Value} {m : Nat} (he : ∀ x, (e x).length = m) : ∀ l : List α, (l.flatMap e).length = l.length * m
  | [] => by simp
  | x :: l => by rw [List.flatMap_cons, List.length_append, he, flatN_len he l, List.length_cons, Nat.succ_mul]; omega
theorem flatMap_one (l : List UInt8) : l.flatMap (fun c => [Value.int .u8 (c.toNat : Int)]) = l.map (fun c => Value.int .u8 (c.toNat : Int)) := by
  induction l with
  | nil => rfl
  | cons c l ih => rw [List.flatMap_cons, List.map_cons, ih]; rfl
theorem flat_atO {α : Type} {e : α → List Value} {m : Nat} (he : ∀ x, (e x).length = m) : ∀ (l : List α) (k : Nat) (h : k < l.length) (j : Nat), j < m → (l.flatMap e)[k * m + j]? = (e l[k])[j]?
  | [], k, h, _, _ => by simp at h
  | x :: l, 0, h, j, hj => by
    rw [List.flatMap_cons, List.getElem?_append_left (by rw [he]; omega)]
    simp
  | x :: l, k + 1, h, j, hj => by
    rw [List.flatMap_cons, List.getElem?_append_right (by rw [he, Nat.succ_mul]; omega), he, show (k + 1) * m + j - m = k * m + j from by rw [Nat.succ_mul]; omega, flat_atO he l k (by simpa using h) j hj]
    simp
section
variable {H : Type} {enc : TypeId × Value → H} {W : World}
theorem open_list {α : Type} [Inhabited α] {T e : TypeId} {k : Nat} (ht : Tryz.prog.underlying T = some (.slice e)) (hk : Tryz.prog.cellsOf e = k) (hkp : 0 < k) {encA : α → List Value} (hl : ∀ x, (encA x).length = k) {Ok : α → Prop} {n : Nat}
    (IH : ∀ cs y, DataW.trod enc Tryz.prog W 0 (fun _ => true) true n e cs = some y → (∀ z ∈ y.1.weights Tryz.prog e, z ≤ reachBytes) → ∃ x, cs = encA x ∧ Ok x)
    {v : Value} {y : DataW H × List MemPlace} (h : DataW.trod enc Tryz.prog W 0 (fun _ => true) true (n + 1) T [v] = some y) (hw : ∀ z ∈ y.1.weights Tryz.prog T, z ≤ reachBytes) :
    ∃ l : List α, (∃ o, Rd W k v l.length (l.flatMap encA) o ∧ ∀ b, o = some b → b < W.heap.size) ∧ (∀ x ∈ l, Ok x) ∧ l.length * Tryz.prog.bytesOf e ≤ reachBytes := by
  rcases DataW.trod_slice ht h with ⟨hcs, _⟩ | ⟨a, len, cap, elems, rest, n', hn, hcs, rfl, hb, hle, hm, hlen, hel, -, -⟩
  · simp at hcs; subst hcs; exact ⟨[], ⟨none, ⟨by simp, none, 0, rfl, by simp, by simp [maxLen], .inl ⟨rfl, rfl⟩⟩, by simp⟩, by simp, by simp⟩
  · obtain rfl : n' = n := by omega
    simp at hcs; subst hcs
    rw [hk] at hel
    have key : ∀ i, i < len → ∃ t : α, W.cells? 0 (a.add (i * k)) k = some (encA t) ∧ Ok t := by
      intro i hi
      have h1 := hel i hi
      rw [List.getElem?_eq_getElem (by omega)] at h1
      obtain ⟨cs', h2, h3⟩ := Option.bind_eq_some_iff.1 h1
      obtain ⟨t, rfl, ht⟩ := IH cs' _ h3 (fun z hz => hw z (by
        simp only [DataW.weights, ht, List.mem_cons, List.mem_append]
        right; left
        exact weights_mem_all (List.mem_map.2 ⟨_, List.getElem_mem _, rfl⟩) z hz))
      exact ⟨t, h2, ht⟩
    obtain ⟨f, hf⟩ := choose_lt key
    have hbytes : len * Tryz.prog.bytesOf e ≤ reachBytes := by
      have := hw (((elems.map (·.1)).length + (rest.map (·.1)).length) * Tryz.prog.bytesOf e) (by simp [DataW.weights, ht])
      simp only [List.length_map] at this
      refine Nat.le_trans (Nat.mul_le_mul_right _ ?_) this
      omega
    have hll : ((List.range len).map f).length = len := by simp
    refine ⟨(List.range len).map f, ?_, ?_, by rw [hll]; exact hbytes⟩
    · by_cases h0 : len = 0
      · subst h0
        exact ⟨none, ⟨by simp, _, cap, rfl, by simp, hm, .inl ⟨by simp, rfl⟩⟩, by simp⟩
      · obtain ⟨b, off, spot⟩ := a
        obtain ⟨_, hl0, hat0⟩ := World.cells?_some (hf 0 (by omega)).1
        have hc := hat0 0 hkp
        have hz : (encA (f 0))[0]? = some ((encA (f 0))[0]'(by rw [hl]; exact hkp)) := List.getElem?_eq_getElem _
        have hspot : spot = none := by simpa [Addr.add] using World.cell?_spot (hc.trans hz)
        subst hspot
        have hadd : ∀ i, (⟨b, off, none⟩ : Addr).add i = ⟨b, off + i, none⟩ := by intro i; unfold Addr.add; split <;> simp_all
        have hadd2 : ∀ i j, (⟨b, off + i, none⟩ : Addr).add j = ⟨b, off + i + j, none⟩ := by intro i j; unfold Addr.add; split <;> simp_all
        refine ⟨some b, ⟨flatN_len hl _, _, cap, by rw [hll], by rw [hll]; exact hle, hm, .inr ⟨b, off, rfl, rfl, fun i hi => ?_⟩⟩, ?_⟩
        · rw [hll] at hi
          have hik : i / k < len := Nat.div_lt_of_lt_mul (by rw [Nat.mul_comm]; exact hi)
          obtain ⟨_, _, hat⟩ := World.cells?_some (hf (i / k) hik).1
          have hmod := Nat.mod_lt i hkp
          have h5 := hat (i % k) hmod
          rw [hadd, hadd2] at h5
          have h6 := flat_atO hl ((List.range len).map f) (i / k) (by rw [hll]; exact hik) (i % k) hmod
          have e : i / k * k + i % k = i := by rw [Nat.mul_comm]; exact Nat.div_add_mod i k
          rw [e] at h6
          rw [Nat.add_assoc, e] at h5
          rw [h5, h6]
          simp
        · rintro b' ⟨⟩
          have := World.block_lt_of_cell? _ _ (hc.trans hz)
          simpa [Addr.add] using this
    · intro x hx
      obtain ⟨i, hir, rfl⟩ := List.mem_map.1 hx
      exact (hf i (List.mem_range.1 hir)).2
theorem o_cellsI : Tryz.prog.cellsOf 3 = 1 := by kernel_rfl
theorem o_bytesI : Tryz.prog.bytesOf 3 = 8 := by kernel_rfl
theorem open_i {n : Nat} {T : TypeId} {cs : List Value} {y : DataW H × List MemPlace} (hT : Tryz.prog.underlying T = some (.int .i64)) (h : DataW.trod enc Tryz.prog W 0 (fun _ => true) true n T cs = some y) : ∃ i : Int, cs = [.int .i64 i] ∧ I64 i := by
  obtain ⟨i, e, -, hw⟩ := DataW.trod_int hT h
  simp [Lit.wf, IntKind.min, IntKind.max, IntKind.signed, IntKind.bits] at hw
  exact ⟨i, e, by unfold I64; omega⟩
theorem flatMap_i (l : List Int) : l.flatMap (fun c => [Value.int .i64 c]) = l.map (Value.int .i64) := by
  induction l with
  | nil => rfl
  | cons c l ih => rw [List.flatMap_cons, List.map_cons, ih]; rfl
theorem open_is {n : Nat} {v : Value} {y : DataW H × List MemPlace} (h : DataW.trod enc Tryz.prog W 0 (fun _ => true) true n 63 [v] = some y) (hw : ∀ z ∈ y.1.weights Tryz.prog 63, z ≤ reachBytes) : ∃ l, RdN W.heap.size W v l := by
  cases n with
  | zero => simp [DataW.trod] at h
  | succ n =>
    obtain ⟨l, h1, h2, h3⟩ := open_list (encA := fun c => [Value.int .i64 c]) (Ok := I64) Tryz.underlying63 o_cellsI (by omega) (fun _ => rfl) (fun cs y h _ => open_i Tryz.underlying3 h) h hw
    rw [o_bytesI] at h3
    rw [flatMap_i] at h1
    exact ⟨l, h1, h2, by simp only [reachBytes] at h3; omega⟩
theorem o_cellsU8 : Tryz.prog.cellsOf 5 = 1 := by kernel_rfl
theorem o_bytesU8 : Tryz.prog.bytesOf 5 = 1 := by kernel_rfl
set_option maxRecDepth 100000 in
theorem open_bs {n : Nat} {v : Value} {y : DataW H × List MemPlace} (h : DataW.trod enc Tryz.prog W 0 (fun _ => true) true n 35 [v] = some y) (hw : ∀ z ∈ y.1.weights Tryz.prog 35, z ≤ reachBytes) : ∃ l, RdB W.heap.size W v l := by
  cases n with
  | zero => simp [DataW.trod] at h
  | succ n =>
    obtain ⟨l, ⟨o, h1, h1'⟩, -, h3⟩ := open_list (α := UInt8) (encA := fun c => [.int .u8 (c.toNat : Int)]) (Ok := fun _ => True) Tryz.underlying35 o_cellsU8 (by omega) (fun _ => rfl) (fun cs y h _ => by
      obtain ⟨i, e, -, hw⟩ := DataW.trod_int Tryz.underlying5 h
      simp [Lit.wf, IntKind.min, IntKind.max, IntKind.signed, IntKind.bits] at hw
      refine ⟨UInt8.ofNat i.toNat, ?_, trivial⟩
      rw [e, UInt8.toNat_ofNat']
      congr 2
      omega) h hw
    rw [o_bytesU8] at h3
    refine ⟨l, ⟨o, ?_, h1'⟩, by simp only [reachBytes] at h3; omega⟩
    have : l.flatMap (fun c => [Value.int .u8 (c.toNat : Int)]) = Lib.byteCells l := by
      unfold Lib.byteCells
      exact flatMap_one l
    rw [this] at h1
    exact h1
theorem open_bytes {v : Value} {d : DataW H} {ps : List MemPlace} (h : DataW.Trod enc Tryz.prog W 0 (fun _ => true) true 35 v d ps) (hw : ∀ z ∈ d.weights Tryz.prog 35, z ≤ reachBytes) (hv : ∃ a n c, v = .slice a n c) : ∃ l, RdB W.heap.size W v l := by
  obtain ⟨fuel, hf⟩ := h
  obtain ⟨a, n, c, rfl⟩ := hv
  exact open_bs (by simpa [Value.cells] using hf) hw
end
open Go.RowKit Go.Emb Go.Lib Go.Emb.Ext Go.Shelf
theorem zMn_small : SmallV zMn := fun x hx => by cases hx
theorem zMn_same (w : World) : Calls Tryz.prog 19 #[aggM zMn, aggM zMn] w fun e w' => e = .returned (.bool true) ∧ Keep [] w w' := by
  refine (r_same (zMn_rd (fun _ => True) w).rdm (zMn_rd (fun _ => True) w).rdm zMn_small zMn_small).mono ?_
  rintro e w' ⟨rfl, hk⟩
  exact ⟨by rw [(manB_iff _ _).2 rfl], hk⟩
theorem zSup_same (w : World) : Calls Tryz.prog 29 #[aggS zSup (.slice none 0 0), aggS zSup (.slice none 0 0)] w fun e w' => e = .returned (.bool true) ∧ Keep [] w w' := by
  refine (q_same (x := zSup) (y := zSup) (ox := none) (oy := none) ⟨rfl, none, 0, rfl, Nat.le_refl _, by unfold maxLen; omega, .inl ⟨rfl, rfl⟩⟩ ⟨rfl, none, 0, rfl, Nat.le_refl _, by unfold maxLen; omega, .inl ⟨rfl, rfl⟩⟩ (Nat.zero_le _) (Nat.zero_le _)).mono ?_
  rintro e w' ⟨⟨b, rfl, hb⟩, hk⟩
  exact ⟨by rw [hb.2 rfl], hk⟩
theorem ext_eq0 (w : World) : (binOp .eql 34 (.agg #[.int .i64 0, .int .i64 0]) (.agg #[.int .i64 0, .int .i64 0])).run Tryz.prog w = .ok (.bool true) w := by kernel_rfl
set_option maxRecDepth 100000 in
set_option maxHeartbeats 4000000 in
theorem nil_walk {w : World} {a : Int} {pv : Value} {bs : List UInt8} (ha : I64 a) (hp : RdB w.heap.size w pv bs) : Calls Tryz.prog 6 #[.int .i64 a, pv] w fun e w' => e = .returned (.bool true) ∧ Keep [] w w' := by
  obtain ⟨⟨o, ⟨-, pa, pc, rfl, -⟩, -⟩, hl48⟩ := hp
  by_cases hl : 8000 < bs.length
  · have hl' : (8000 : Int) < (bs.length : Int) := by omega
    go_enter Tryz.func6, Tryz.ntmps6
    go_wp2_with fail
    refine live_any.mono ?_
    rintro e w2 ⟨rfl, hk2⟩
    have HK2 := Lib.hid hk2
    clear hk2
    go_wp2_with fail
    go_ret
    exact ⟨rfl, HK2.out⟩
  · have hl' : ¬ (8000 : Int) < (bs.length : Int) := by omega
    clear hl
    go_enter Tryz.func6, Tryz.ntmps6
    go_wp2_with fail
    refine st_format_nil.mono ?_
    rintro e w2 ⟨rfl, hk2⟩
    have HK2 := Lib.hid hk2
    clear hk2
    go_wp2_with fail
    refine st_open_nil.mono ?_
    rintro e w3 ⟨rfl, hk3⟩
    have HK3 := Lib.hid ((HK2.out.trans hk3 (by simp)).alloc (.cells #[.string ⟨#[]⟩, .int .i64 0, .int .i64 0, .slice none 0 0, .slice none 0 0] 38))
    have hb := heap_new w3 (.cells #[.string ⟨#[]⟩, .int .i64 0, .int .i64 0, .slice none 0 0, .slice none 0 0] 38)
    obtain ⟨c0, c1, c2, c3, c4⟩ := cells5 hb
    clear hk3 hb
    have hag : aggM zMn = .agg #[.string ⟨#[]⟩, .int .i64 0, .int .i64 0, .slice none 0 0, .slice none 0 0] := rfl
    have HAG := Lib.hid hag
    rw [hag]
    clear hag
    go_upto_region 7 with fail
    generalize w3.alloc (.cells #[.string ⟨#[]⟩, .int .i64 0, .int .i64 0, .slice none 0 0, .slice none 0 0] 38) = w4 at *
    go_wp2_with (go_at_call 11; refine (pl_num _).mono ?_; rintro e w2 ⟨rfl, rfl⟩)
    refine (zMn_same _).mono ?_
    rintro e w5 ⟨rfl, hk5⟩
    have HK5 := Lib.hid (HK3.out.trans hk5 (by simp))
    clear hk5 c0 c1 c2 c3 c4
    go_wp2_with (go_at_call 11; refine (pl_num _).mono ?_; rintro e w2 ⟨rfl, rfl⟩)
    refine st_save_nil.mono ?_
    rintro e w6 ⟨rfl, hk6⟩
    have HK6 := Lib.hid (HK5.out.trans hk6 (by simp))
    clear hk6
    go_wp2_with (go_at_call 11; refine (pl_num _).mono ?_; rintro e w2 ⟨rfl, rfl⟩)
    refine st_super_nil.mono ?_
    rintro e w7 ⟨rfl, hk7⟩
    have HK7 := Lib.hid (HK6.out.trans hk7 (by simp))
    clear hk7
    go_wp2_with fail
    refine (zSup_same _).mono ?_
    rintro e w8 ⟨rfl, hk8⟩
    have HK8 := Lib.hid (HK7.out.trans hk8 (by simp))
    clear hk8
    go_wp2_with fail
    refine st_manifest_nil.mono ?_
    rintro e w9 ⟨rfl, hk9⟩
    have HK9 := Lib.hid (HK8.out.trans hk9 (by simp))
    clear hk9
    go_wp2_with fail
    refine (zMn_same _).mono ?_
    rintro e w10 ⟨rfl, hk10⟩
    have HK10 := Lib.hid (HK9.out.trans hk10 (by simp))
    clear hk10
    go_wp2_with fail
    refine st_area_nil.mono ?_
    rintro e w11 ⟨rfl, hk11⟩
    have HK11 := Lib.hid (HK10.out.trans hk11 (by simp))
    have hq := ext_eq0 w11
    unfold aggE
    clear hk11
    go_wp2_with fail
    refine st_free_nil.mono ?_
    rintro e w12 ⟨rfl, hk12⟩
    have HK12 := Lib.hid (HK11.out.trans hk12 (by simp))
    clear hk12 hq
    go_wp2_with fail
    refine live_any.mono ?_
    rintro e w13 ⟨rfl, hk13⟩
    have HK13 := Lib.hid (HK12.out.trans hk13 (by simp))
    clear hk13
    go_wp2_with fail
    go_ret
    exact ⟨rfl, HK13.out⟩
end Go.Proofs.YtimpadpeibgmoaaGreat
