/- A part of the proof (Mn20), joined by squeeze2.py. -/
import Derived.Test.YtimpadpeibgmoaaGreatYd08
set_option maxHeartbeats 8000000
set_option maxRecDepth 100000
namespace Go.Proofs.YtimpadpeibgmoaaGreat
open Go.RowKit Go.Emb
theorem wpAnyB_cut {P : Program} {md : Region.Mode} {ops : Array Oper} {Q : Exit → Act → World → Prop} {S : World → Prop} {Bs : List Nat} {fuel : Nat} {listed : Array Bool} {n : Nat} {R : (Nat → Value) → World → Prop} {G : Prop} (first : (∀ act W, CutF n R act W → wpAnyB P md ops Q Bs S fuel listed act W) → G) (rest : ∀ act W, CutF n R act W → wpAnyB P md ops Q Bs S fuel listed act W) : G := first rest
theorem encP_one (x : PlV) (h : x.v.oneCell' = true) : ∀ u ∈ encP x, u.oneCell' = true := by intro u hu; simp [encP] at hu; rcases hu with rfl | rfl | rfl <;> first | rfl | exact h
def PieceI (w0 : World) (av : List Nat) (q rb eb tb : Nat) (bs : List UInt8) (v : Value) (bo : Option Nat) (pb mb : Nat) (ro po : Option Nat) (x : MnV) (a b : Int) (st : Option (List UInt8)) (es : List (Int × Int)) (w : World) : Prop :=
 GI w0 av w q rb eb tb bs v bo st ∧ ∃ xo xv, PSep av w0.heap.size w pb xo ⟨a, b, es⟩ xv ∧ MSep (pb :: (xo.toList ++ av)) w0.heap.size w mb ro po x
theorem PieceI.turn {w0 w w' : World} {av : List Nat} {q rb eb tb : Nat} {bs : List UInt8} {v : Value} {bo : Option Nat} {pb mb : Nat} {ro po : Option Nat} {x : MnV} {a b : Int} {st st' : Option (List UInt8)} {es : List (Int × Int)} (h : PieceI w0 av q rb eb tb bs v bo pb mb ro po x a b st es w) (hk : Keep [q] w w') (ht : TSt 187 w' q bs v bo st') : PieceI w0 av q rb eb tb bs v bo pb mb ro po x a b st' es w' := by
 obtain ⟨h1, xo, xv, h2, h3⟩ := h
 refine ⟨h1.turn hk ht, xo, xv, h2.keep hk (fun b hb => .inl (by simp at hb; subst hb; exact h1.qav)), h3.keep hk (fun b hb => .inl (by simp at hb; subst hb; simp [h1.qav]))⟩
theorem p_pieces {w0 w : World} {av : List Nat} {q rb eb tb : Nat} {bs : List UInt8} {v : Value} {bo : Option Nat} {pb mb : Nat} {ro po : Option Nat} {x : MnV} {a b : Int} {st : Option (List UInt8)} (h : PieceI w0 av q rb eb tb bs v bo pb mb ro po x a b st [] w) (hsz : bs.length ≤ 1000000000) :
  Calls Tryz.prog 96 #[.func (.func 103) #[] #[.pointer (some ⟨pb, 0, none⟩), .pointer (some ⟨eb, 0, none⟩)], .pointer (some ⟨rb, 0, none⟩)] w fun e w' => e = .returned (.tuple #[]) ∧ PieceI w0 av q rb eb tb bs v bo pb mb ro po x a b (oMany gExt (oNum false st).1 (oNum false st).2.2).2 (oMany gExt (oNum false st).1 (oNum false st).2.2).1 w' := by
 have eg : ∀ args w, (callFunc 103 args).run Tryz.prog w = .ok (.enter 103 args) w := enters_of Tryz.func103 (by kernel_rfl) rfl
 exact p_times gExt_less _ _ eg (I := fun st es w => PieceI w0 av q rb eb tb bs v bo pb mb ro po x a b st es w) (fun st xs w h => ⟨h.1.tape, h.1.hrb⟩) (fun st st' xs w w' h hk ht => h.turn hk ht)
  (fun l xs w hl h => by
    obtain ⟨h1, xo, xv, h2, h3⟩ := h
    refine (p_piece h1 h2 h3 (by simp only; omega)).mono ?_
    rintro e w' ⟨rfl, h4, h5⟩
    exact ⟨rfl, h4, h5⟩) h
theorem p_place {w0 w : World} {av : List Nat} {q rb eb tb mb : Nat} {bs : List UInt8} {v : Value} {bo : Option Nat} {l : List UInt8} {ro po : Option Nat} {x : MnV}
  (hG : GI w0 av w q rb eb tb bs v bo (some l)) (hM : MSep av w0.heap.size w mb ro po x) (hpl : x.places.length ≤ 1000000000) (hsz : bs.length ≤ 1000000000) :
  Calls Tryz.prog 102 #[.pointer (some ⟨rb, 0, none⟩), .pointer (some ⟨tb, 0, none⟩), .pointer (some ⟨eb, 0, none⟩), .pointer (some ⟨mb, 0, none⟩)] w fun e w' => e = .returned (.tuple #[]) ∧ GI w0 av w' q rb eb tb bs v bo (gPlc l).2 ∧ ∃ po' pv' y, y.p = (gPlc l).1 ∧ MSep av w0.heap.size w' mb ro po' { x with pv := pv', places := x.places ++ [y] } := by
 obtain ⟨i0, hi, hz0, hz1, hz2⟩ := info_parts plc_info
 have hint : ∀ W (s : Option (List UInt8)), TSt 187 W q bs v bo s → Calls Tryz.prog 100 #[.pointer (some ⟨q, 0, none⟩)] W fun e w' => e = .returned (.int .i64 (oInt s).1) ∧ TSt 187 w' q bs v bo (oInt s).2 ∧ Keep [q] W w' := fun W s hs => p_tint hs
 have HI := hyd hi
 have HIN := hyd hint
 have G0 : Hid (GI w0 av w.drew q rb eb tb bs v bo (some l)) := hyd (hG.next ((Keep.refl [] w).drew) (fun b hb => by cases hb))
 have M0 : Hid (MSep av w0.heap.size w.drew mb ro po x) := hyd (hM.keep ((Keep.refl [] w).drew) (fun b hb => by cases hb))
 have hqa := hG.qav
 obtain ⟨a, ha⟩ : ∃ a, a = (oInt (some l)).1 := ⟨_, rfl⟩
 obtain ⟨s1, hs1⟩ : ∃ s, s = (oInt (some l)).2 := ⟨_, rfl⟩
 obtain ⟨b, hb⟩ : ∃ b, b = (oInt s1).1 := ⟨_, rfl⟩
 obtain ⟨s2, hs2⟩ : ∃ s, s = (oInt s1).2 := ⟨_, rfl⟩
 obtain ⟨R, hR⟩ : ∃ R, R = oMany gExt (oNum false s2).1 (oNum false s2).2.2 := ⟨_, rfl⟩
 have hres : gPlc l = (⟨a, b, R.1⟩, R.2) := by
  rw [hR, hs2, hb, hs1, ha]; rfl
 rw [hres]
 have HA := hyd (And.intro ha (And.intro hs1 (And.intro hb (And.intro hs2 hR))))
 clear hi hint hG hM ha hs1 hb hs2 hR hres
 go_enter Tryz.func102, Tryz.ntmps102
 go_wp2_with fail
 refine wp_regionB [0, 1, 2, 5] (fun w' => w'.heap[rb]? = some (.cells #[.pointer (some ⟨q, 0, none⟩)] 159)) (by kernel_rfl) ?_
 refine tkB [2, 5] 0 ?vA0 rfl ?runA0 (G0.o.hrb) ?_
 case runA0 => (intro w9 hS9; obtain c0 := (show w9.cell? ⟨rb, 0, none⟩ = some (.pointer (some ⟨q, 0, none⟩)) from by simp [World.cell?, hS9]); go_simp; try exact rfl)
 try simp only [Act.put, lA, lZ, lS]
 refine tkB [1, 5] 2 ?vA2 rfl ?runA2 (G0.o.hrb) ?_
 case runA2 => (intro w9 hS9; obtain c0 := (show w9.cell? ⟨rb, 0, none⟩ = some (.pointer (some ⟨q, 0, none⟩)) from by simp [World.cell?, hS9]); go_simp; try exact rfl)
 try simp only [Act.put, lA, lZ, lS]
 generalize w.drew = wa at *
 refine wpAnyB_cut (P := Tryz.prog) (md := ?mdP) (ops := ?opsP) (Q := ?QP) (S := ?SP) (Bs := ?BsP) (fuel := ?fuelP) (listed := ?listedP) (n := 19) (R := fun f W => f 1 = .pointer (some ⟨tb, 0, none⟩) ∧ f 2 = .pointer (some ⟨eb, 0, none⟩) ∧ f 3 = .pointer (some ⟨mb, 0, none⟩) ∧ f 9 = .agg #[.int .i64 a, .int .i64 b, .slice none 0 0] ∧ ∃ pb, f 4 = .pointer (some ⟨pb, 0, none⟩) ∧ GI w0 av W q rb eb tb bs v bo s2 ∧ MSep (pb :: av) w0.heap.size W mb ro po x ∧ pb ∉ av ∧ w0.heap.size ≤ pb ∧ W.heap[pb]? = some (.cells #[.int .i64 0, .int .i64 0, .slice none 0 0] 48)) (fun hcut => ?firstP) ?restP
 case firstP =>
  refine wpAnyB_ready (rs := [1, 5]) (by kernel_rfl) (by simp) ?_
  refine AllReadyB.cons rfl (fun K hK => ?_) (AllReadyB.cons rfl (fun K hK => ?_) (AllReadyB.nil))
  ·skip
   go_simp
   refine (HIN.o _ _ G0.o.tape).mono ?_
   rintro e w1x ⟨rfl, ht, hk⟩
   rw [← HA.o.2.1] at ht
   rw [← HA.o.1]
   have G2x := hyd (G0.o.turn hk ht)
   have M3x := hyd (M0.o.keep hk (fun b hb => .inl (by simp at hb; subst hb; simp [hqa])))
   clear ht hk
   go_wp2_with fail
   refine hK.out _ _ (fun h => G2x.o.hrb) ?_
   clear hK K
   try simp only [Act.put, lA, lZ, lS]
   refine wpAnyB_ready (rs := [3, 5]) (by kernel_rfl) (by simp) ?_
   refine AllReadyB.cons rfl (fun K hK => ?_) (AllReadyB.cons rfl (fun K hK => ?_) (AllReadyB.nil))
   ·skip
    go_simp
    refine (HIN.o _ _ G2x.o.tape).mono ?_
    rintro e w4x ⟨rfl, ht, hk⟩
    rw [← HA.o.2.2.2.1] at ht
    rw [← HA.o.2.2.1]
    have G5x := hyd (G2x.o.turn hk ht)
    have M6x := hyd (M3x.o.keep hk (fun b hb => .inl (by simp at hb; subst hb; simp [hqa])))
    clear ht hk
    go_wp2_with fail
    refine hK.out _ _ (fun h => G5x.o.hrb) ?_
    clear hK K
    try simp only [Act.put, lA, lZ, lS]
    refine tkY 4 ?vT7x4 rfl ?runT7x4 ?_
    case runT7x4 => (intro w9 _; go_simp; try exact rfl)
    try simp only [Act.put, lA, lZ, lS]
    refine wpAnyB_ready (rs := [5]) (by kernel_rfl) (by simp) ?_
    refine AllReadyB.cons rfl (fun K hK => ?_) (AllReadyB.nil)
    go_simp
    have G9x := hyd (G5x.o.next ((Keep.refl [] w4x).alloc (.cells #[.int .i64 0, .int .i64 0, .slice none 0 0] 48)) (fun b hb => by cases hb))
    have M10x := hyd ((M6x.o.turn (bv := w4x.heap.size :: av) (fun b hb => by rcases List.mem_cons.1 hb with rfl | hb; exact .inr (Nat.le_refl _); exact .inl hb)).keep ((Keep.refl [] w4x).alloc (.cells #[.int .i64 0, .int .i64 0, .slice none 0 0] 48)) (fun b hb => by cases hb))
    have N11x : Hid (w4x.heap.size ∉ av) := hyd (fun hm => by have := G5x.o.lt _ hm; omega)
    have B12x : Hid (w0.heap.size ≤ w4x.heap.size) := hyd G5x.o.keep.size
    have P13x := hyd (heap_new w4x (.cells #[.int .i64 0, .int .i64 0, .slice none 0 0] 48))
    refine hK.out _ _ (fun h => G9x.o.hrb) ?_
    clear hK K
    try simp only [Act.put, lA, lZ, lS]
    generalize w4x.alloc (.cells #[.int .i64 0, .int .i64 0, .slice none 0 0] 48) = w8x at *
    refine hcut _ _ ?_
    exact CutF.mk rfl ⟨rfl, rfl, rfl, rfl, _, rfl, G9x.o, M10x.o, N11x.o, B12x.o, P13x.o⟩
   ·skip
    go_simp
    have G15x := hyd (G2x.o.next ((Keep.refl [] w1x).alloc (.cells #[.int .i64 0, .int .i64 0, .slice none 0 0] 48)) (fun b hb => by cases hb))
    have M16x := hyd ((M3x.o.turn (bv := w1x.heap.size :: av) (fun b hb => by rcases List.mem_cons.1 hb with rfl | hb; exact .inr (Nat.le_refl _); exact .inl hb)).keep ((Keep.refl [] w1x).alloc (.cells #[.int .i64 0, .int .i64 0, .slice none 0 0] 48)) (fun b hb => by cases hb))
    have N17x : Hid (w1x.heap.size ∉ av) := hyd (fun hm => by have := G2x.o.lt _ hm; omega)
    have B18x : Hid (w0.heap.size ≤ w1x.heap.size) := hyd G2x.o.keep.size
    have P19x := hyd (heap_new w1x (.cells #[.int .i64 0, .int .i64 0, .slice none 0 0] 48))
    refine hK.out _ _ (fun h => G15x.o.hrb) ?_
    clear hK K
    try simp only [Act.put, lA, lZ, lS]
    generalize w1x.alloc (.cells #[.int .i64 0, .int .i64 0, .slice none 0 0] 48) = w14x at *
    refine wpAnyB_ready (rs := [3]) (by kernel_rfl) (by simp) ?_
    refine AllReadyB.cons rfl (fun K hK => ?_) (AllReadyB.nil)
    go_simp
    refine (HIN.o _ _ G15x.o.tape).mono ?_
    rintro e w20x ⟨rfl, ht, hk⟩
    rw [← HA.o.2.2.2.1] at ht
    rw [← HA.o.2.2.1]
    have G21x := hyd (G15x.o.turn hk ht)
    have M22x := hyd (M16x.o.keep hk (fun b hb => .inl (by simp at hb; subst hb; simp [hqa])))
    have P23x := hyd (blk_keep P19x.o hk (fun hm => N17x.o (by simp at hm; rw [hm]; exact hqa)))
    clear ht hk
    go_wp2_with fail
    refine hK.out _ _ (fun h => G21x.o.hrb) ?_
    clear hK K
    try simp only [Act.put, lA, lZ, lS]
    refine tkY 4 ?vT24x4 rfl ?runT24x4 ?_
    case runT24x4 => (intro w9 _; go_simp; try exact rfl)
    try simp only [Act.put, lA, lZ, lS]
    refine hcut _ _ ?_
    exact CutF.mk rfl ⟨rfl, rfl, rfl, rfl, _, rfl, G21x.o, M22x.o, N17x.o, B18x.o, P23x.o⟩
  ·skip
   go_simp
   have G26x := hyd (G0.o.next ((Keep.refl [] wa).alloc (.cells #[.int .i64 0, .int .i64 0, .slice none 0 0] 48)) (fun b hb => by cases hb))
   have M27x := hyd ((M0.o.turn (bv := wa.heap.size :: av) (fun b hb => by rcases List.mem_cons.1 hb with rfl | hb; exact .inr (Nat.le_refl _); exact .inl hb)).keep ((Keep.refl [] wa).alloc (.cells #[.int .i64 0, .int .i64 0, .slice none 0 0] 48)) (fun b hb => by cases hb))
   have N28x : Hid (wa.heap.size ∉ av) := hyd (fun hm => by have := G0.o.lt _ hm; omega)
   have B29x : Hid (w0.heap.size ≤ wa.heap.size) := hyd G0.o.keep.size
   have P30x := hyd (heap_new wa (.cells #[.int .i64 0, .int .i64 0, .slice none 0 0] 48))
   refine hK.out _ _ (fun h => G26x.o.hrb) ?_
   clear hK K
   try simp only [Act.put, lA, lZ, lS]
   generalize wa.alloc (.cells #[.int .i64 0, .int .i64 0, .slice none 0 0] 48) = w25x at *
   refine wpAnyB_ready (rs := [1]) (by kernel_rfl) (by simp) ?_
   refine AllReadyB.cons rfl (fun K hK => ?_) (AllReadyB.nil)
   go_simp
   refine (HIN.o _ _ G26x.o.tape).mono ?_
   rintro e w31x ⟨rfl, ht, hk⟩
   rw [← HA.o.2.1] at ht
   rw [← HA.o.1]
   have G32x := hyd (G26x.o.turn hk ht)
   have M33x := hyd (M27x.o.keep hk (fun b hb => .inl (by simp at hb; subst hb; simp [hqa])))
   have P34x := hyd (blk_keep P30x.o hk (fun hm => N28x.o (by simp at hm; rw [hm]; exact hqa)))
   clear ht hk
   go_wp2_with fail
   refine hK.out _ _ (fun h => G32x.o.hrb) ?_
   clear hK K
   try simp only [Act.put, lA, lZ, lS]
   refine wpAnyB_ready (rs := [3]) (by kernel_rfl) (by simp) ?_
   refine AllReadyB.cons rfl (fun K hK => ?_) (AllReadyB.nil)
   go_simp
   refine (HIN.o _ _ G32x.o.tape).mono ?_
   rintro e w35x ⟨rfl, ht, hk⟩
   rw [← HA.o.2.2.2.1] at ht
   rw [← HA.o.2.2.1]
   have G36x := hyd (G32x.o.turn hk ht)
   have M37x := hyd (M33x.o.keep hk (fun b hb => .inl (by simp at hb; subst hb; simp [hqa])))
   have P38x := hyd (blk_keep P34x.o hk (fun hm => N28x.o (by simp at hm; rw [hm]; exact hqa)))
   clear ht hk
   go_wp2_with fail
   refine hK.out _ _ (fun h => G36x.o.hrb) ?_
   clear hK K
   try simp only [Act.put, lA, lZ, lS]
   refine tkY 4 ?vT39x4 rfl ?runT39x4 ?_
   case runT39x4 => (intro w9 _; go_simp; try exact rfl)
   try simp only [Act.put, lA, lZ, lS]
   refine hcut _ _ ?_
   exact CutF.mk rfl ⟨rfl, rfl, rfl, rfl, _, rfl, G36x.o, M37x.o, N28x.o, B29x.o, P38x.o⟩
 case restP =>
  intro a' W hc
  obtain ⟨f, rfl, h1, h2, h3, h9, pb, h4, hG, hM, hN, hB, hP⟩ := hc.lit
  rw [show ((List.range 19).map f).toArray = #[f 0, f 1, f 2, f 3, f 4, f 5, f 6, f 7, f 8, f 9, f 10, f 11, f 12, f 13, f 14, f 15, f 16, f 17, f 18] from rfl]
  rw [h1, h2, h3, h4, h9]
  have HG := hyd hG
  have HM := hyd hM
  have HN := hyd hN
  have HB := hyd hB
  have HP := hyd hP
  clear hc h1 h2 h3 h4 h9 G0 M0 hG hM hN hB hP
  refine rdB 6 rfl (fun K hK => ?_)
  obtain ⟨c0, c1, c2, f0⟩ := cells3 HP.o
  have f1 : W.frozen? ⟨pb, 1, none⟩ = false := by simp [World.frozen?, HP.o]
  have f2 : W.frozen? ⟨pb, 2, none⟩ = false := by simp [World.frozen?, HP.o]
  go_simp
  have hk6 : Keep [pb] W (((W.setCell ⟨pb, 0, none⟩ (.int .i64 a)).setCell ⟨pb, 1, none⟩ (.int .i64 b)).setCell ⟨pb, 2, none⟩ (.slice none 0 0)) := (((Keep.refl _ W).setCell (.inl (by simp)) _).setCell (.inl (by simp)) _).setCell (.inl (by simp)) _
  have hb6 : (((W.setCell ⟨pb, 0, none⟩ (.int .i64 a)).setCell ⟨pb, 1, none⟩ (.int .i64 b)).setCell ⟨pb, 2, none⟩ (.slice none 0 0)).heap[pb]? = some (.cells #[.int .i64 a, .int .i64 b, .slice none 0 0] 48) := by simpa using heap_setCell_at (i := 2) (heap_setCell_at (i := 1) (heap_setCell_at (i := 0) HP.o (.int .i64 a)) (.int .i64 b)) (.slice none 0 0)
  generalize ((W.setCell ⟨pb, 0, none⟩ (.int .i64 a)).setCell ⟨pb, 1, none⟩ (.int .i64 b)).setCell ⟨pb, 2, none⟩ (.slice none 0 0) = w6 at *
  refine hK.out _ _ (fun h => (nomatch h)) ?_
  clear hK K
  try simp only [Act.put, lA, lZ, lS]
  refine wpAnyB_done (by kernel_rfl) ?_ _
  have hpi : PieceI w0 av q rb eb tb bs v bo pb mb ro po x a b s2 [] w6 := ⟨HG.o.next hk6 (fun y hy => by simp at hy; subst hy; exact ⟨HN.o, HB.o⟩), none, .slice none 0 0, ⟨hb6, Row.nil _ _ _, HN.o, HB.o, fun b hb => by cases hb⟩, HM.o.keep hk6 (fun y hy => .inl (by simp at hy; subst hy; simp))⟩
  have hcall := p_pieces hpi hsz
  have eg : ∀ args w, (callFunc 96 args).run Tryz.prog w = .ok (.enter 96 args) w := enters_of Tryz.func96 (by kernel_rfl) rfl
  have ct : w6.cell? ⟨tb, 0, none⟩ = some (.func (.func 96) #[] #[.pointer (some ⟨rb, 0, none⟩)]) := by simp [World.cell?, hpi.1.htb]
  rw [← HA.o.2.2.2.2] at hcall
  have HC := hyd hcall
  clear hcall hpi hk6 hb6 c0 c1 c2 f0 f1 f2 HG HM HN HB HP
  go_wp2_with fail
  refine HC.o.mono ?_
  rintro e w7 ⟨rfl, hG7, xo, xv, hP7, hM7⟩
  obtain ⟨m0, m1, m2, m3, m4⟩ : w7.cell? ⟨mb, 0, none⟩ = some (.string x.s) ∧ w7.cell? ⟨mb, 1, none⟩ = some (.int .i64 x.area.1) ∧ w7.cell? ⟨mb, 2, none⟩ = some (.int .i64 x.area.2) ∧ w7.cell? ⟨mb, 3, none⟩ = some x.rv ∧ w7.cell? ⟨mb, 4, none⟩ = some x.pv := by
   refine ⟨?_, ?_, ?_, ?_, ?_⟩ <;> simp [World.cell?, hM7.box]
  obtain ⟨c0, c1, c2, -⟩ := cells3 hP7.box
  simp only at c0 c1 c2
  obtain ⟨y, hy⟩ : ∃ y : PlV, y = ⟨⟨a, b, R.1⟩, xv⟩ := ⟨_, rfl⟩
  have hxs : xv.oneCell' = true := by
   obtain ⟨-, ⟨-, h, -⟩ | ⟨_, _, _, _, -, h, -⟩⟩ := hP7.row <;> rw [h] <;> rfl
  obtain ⟨xa, xn, xc, hxv⟩ : ∃ xa xn xc, xv = .slice xa xn xc := by
   obtain ⟨-, ⟨-, h, -⟩ | ⟨_, _, _, _, -, h, -⟩⟩ := hP7.row <;> exact ⟨_, _, _, h⟩
  obtain ⟨pa, pn, pc, hpv⟩ : ∃ xa xn xc, x.pv = .slice xa xn xc := by
   obtain ⟨-, ⟨-, h, -⟩ | ⟨_, _, _, _, -, h, -⟩⟩ := hM7.row <;> exact ⟨_, _, _, h⟩
  have HG7 := hyd hG7
  have HP7 := hyd hP7
  have HM7 := hyd hM7
  rw [hxv] at hxs
  have hrow7 := hM7.row
  rw [hpv] at hrow7
  have HXS := hyd hxs
  have HR7 := hyd hrow7
  have HY := hyd hy
  clear hG7 hP7 hM7 hxs hy HC ct hrow7
  have t1 := src_blk (P := Tryz.prog) (k := 3) Tryz.underlying36 (heap_new w7 (.cells #[.int .i64 a, .int .i64 b, .slice xa xn xc] 48)) rfl (encP_one ⟨⟨a, b, []⟩, .slice xa xn xc⟩ HXS.o)
  have t2 := HR7.o.keep ((Keep.refl [] w7).alloc (.cells #[.int .i64 a, .int .i64 b, .slice xa xn xc] 48)) (by simp)
  have T1 := hyd t1
  have T2 := hyd t2
  clear t1 t2
  go_wp2_with (at_builtin; refine wpList_append_row _ rfl _ _ 36 36 rfl 48 i0 (.agg #[.int .i64 0, .int .i64 0, .slice none 0 0]) 3 40 Tryz.underlying36 HI.o hz0 hz1 hz2 rfl _ x.places.length _ po rfl T2.o _ rfl 1 _ T1.o (by omega) (by first | (unfold maxLen; omega) | (simp [maxLen] <;> omega)) (by omega) ?_)
  intro g off cap w9 hr9 hk9 hg9
  have hr9' : Row w9 48 3 (.slice (some ⟨g, off, none⟩) (x.places.length + 1) cap) (x.places ++ [y]).length ((x.places ++ [y]).flatMap encP) (some g) := by
   rw [List.flatMap_append, List.length_append, HY.o, hxv]; exact hr9
  have hbx : w9.heap[mb]? = some (.cells #[.string x.s, .int .i64 x.area.1, .int .i64 x.area.2, x.rv, x.pv] 38) := blk_keep (lit_alloc HM7.o.box _) hk9 (fun hm => by
    cases hpo : po with
    | none => rw [hpo] at hm; cases hm
    | some z => rw [hpo] at hm; simp at hm; exact (HM7.o.pon z hpo).2.2 hm.symm)
  have n3 : w9.cell? ⟨mb, 3, none⟩ = some x.rv := by simp [World.cell?, hbx]
  have n4 : w9.cell? ⟨mb, 4, none⟩ = some x.pv := by simp [World.cell?, hbx]
  have nf : w9.frozen? ⟨mb, 4, none⟩ = false := by simp [World.frozen?, hbx]
  have HR9 := hyd hr9'
  have HK9 := hyd (((Keep.refl po.toList w7).alloc (.cells #[.int .i64 a, .int .i64 b, .slice xa xn xc] 48)).trans hk9 (fun b hb => .inl hb))
  have HG9 := hyd (show some g = po ∨ ∀ b, some g = some b → w7.heap.size ≤ b from by
    rcases hg9 with h | h
    · exact .inl h.symm
    · exact .inr (fun b hb => by cases hb; first | omega | (simp at h; omega)))
  have HBX := hyd hbx
  clear hr9 hk9 hg9 hr9' hbx T1 T2 m0 m1 m2 m3 m4
  go_wp2_with fail
  refine bodyPost_end (results_none rfl _ _ _) rfl ?_
  have hk10 : Keep [mb] w9 (w9.setCell ⟨mb, 4, none⟩ (.slice (some ⟨g, off, none⟩) (x.places.length + 1) cap)) := (Keep.refl _ w9).setCell (.inl (by simp)) _
  have hb10 := heap_setCell_at (i := 4) HBX.o (.slice (some ⟨g, off, none⟩) (x.places.length + 1) cap)
  have hsub : ∀ b ∈ av, b ∈ pb :: (xo.toList ++ av) := fun b hb => by simp [hb]
  have hM7' : MSep av w0.heap.size w7 mb ro po x := HM7.o.turn (fun b hb => .inl (hsub b hb))
  obtain ⟨o, hrd, ho⟩ := HP7.o.row.rd
  have hox : ∀ b, o = some b → xo = some b := fun b hb => by
   rcases ho with h | h
   ·rw [h] at hb; cases hb
   ·rw [← h]; exact hb
  have hm := hM7'.more (w2 := w9) (y := y) HG7.o.keep.size ⟨o, by rw [HY.o]; exact hrd, fun b hb => by
    have h0 := HP7.o.xon b (hox b hb)
    have hin : b ∈ pb :: (xo.toList ++ av) := by simp [hox b hb]
    exact ⟨h0.1, HP7.o.row.lt b (hox b hb), h0.2.1, fun e => HM7.o.mbn (e ▸ hin), fun e => (HM7.o.pon b e).2.1 hin⟩⟩ HR9.o HK9.o HG9.o HG7.o.lt hk10 (by simpa using hb10)
  refine ⟨rfl, (HG7.o.next HK9.o (fun b hb => ?_)).next hk10 (fun b hb => ?_), some g, _, y, by rw [HY.o], hm⟩
  ·cases hpo : po with
   | none => rw [hpo] at hb; cases hb
   | some z =>
    rw [hpo] at hb; simp at hb; subst hb
    have h0 := HM7.o.pon b hpo
    exact ⟨fun hm => h0.2.1 (hsub b hm), h0.1⟩
  ·simp at hb; subst hb
   exact ⟨fun hm => HM7.o.mbn (hsub b hm), HM7.o.mbB⟩
end Go.Proofs.YtimpadpeibgmoaaGreat
