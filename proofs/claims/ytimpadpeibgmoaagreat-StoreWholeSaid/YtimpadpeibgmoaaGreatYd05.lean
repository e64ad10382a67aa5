/- A part of the proof (Mn7), joined by squeeze2.py. -/
import Derived.Test.YtimpadpeibgmoaaGreatYd03
import Derived.Test.YtimpadpeibgmoaaGreatYd04
set_option maxHeartbeats 8000000
set_option maxRecDepth 100000
namespace Go.Proofs.YtimpadpeibgmoaaGreat
open Go.RowKit Go.Emb
theorem grew_lit {W W' : World} {o o' : Option Nat} {b : Nat} {C : Obj} (hb : W.heap[b]? = some C) (hne : some b ≠ o) (hk : Keep o.toList W W') (ho : o' = o ∨ ∀ x, o' = some x → W.heap.size ≤ x) : W'.heap[b]? = some C ∧ some b ≠ o' := by
 have hlt := (Array.getElem?_eq_some_iff.1 hb).1
 refine ⟨(hk.block b hlt (fun hm => ?_)).trans hb, fun e => ?_⟩
 ·cases o with
  | none => cases hm
  | some z => simp at hm; exact hne (by rw [hm])
 ·rcases ho with h | h
  ·exact hne (e.trans h)
  ·have := h b e.symm; omega
theorem grew_base {w1 W W' : World} {o o' : Option Nat} (hB : Keep [] w1 W) (h1 : ∀ x, o = some x → w1.heap.size ≤ x) (hk : Keep o.toList W W') (ho : o' = o ∨ ∀ x, o' = some x → W.heap.size ≤ x) : Keep [] w1 W' ∧ ∀ x, o' = some x → w1.heap.size ≤ x := by
 refine ⟨hB.trans hk (fun x hx => ?_), fun x hx => ?_⟩
 ·right
  cases o with
  | none => cases hx
  | some z => simp at hx; subst hx; exact h1 _ rfl
 ·rcases ho with h | h
  ·exact h1 x (h ▸ hx)
  ·exact Nat.le_trans hB.size (h x hx)
theorem lit_alloc {W : World} {b : Nat} {C : Obj} (hb : W.heap[b]? = some C) (ob : Obj) : (W.alloc ob).heap[b]? = some C :=
 (((Keep.refl [] W).alloc ob).block b (Array.getElem?_eq_some_iff.1 hb).1 (by simp)).trans hb
theorem lit_new_ne {W : World} {o : Option Nat} {v : Value} {bs : List UInt8} (h : RB W v bs o) : some W.heap.size ≠ o := fun e => by have := h.lt _ e.symm; omega
theorem wpAnyH_cut {P : Program} {md : Region.Mode} {ops : Array Oper} {Q : Exit → Act → World → Prop} {S : World → Prop} {fuel : Nat} {listed : Array Bool} {n : Nat} {R : (Nat → Value) → World → Prop} {G : Prop} (first : (∀ act W, CutF n R act W → wpAnyH P md ops Q S fuel listed act W) → G) (rest : ∀ act W, CutF n R act W → wpAnyH P md ops Q S fuel listed act W) : G := first rest
def PutC (w1 : World) (bs R : List UInt8) (v14 v18 : Value) (W : World) : Prop :=
 ∃ o b, RB W v14 bs o ∧ (∀ x, o = some x → w1.heap.size ≤ x) ∧ v18 = .slice (some ⟨b, 0, none⟩) 1 1 ∧ W.heap[b]? = some (.cells #[.string ⟨R.toArray⟩] 9) ∧ some b ≠ o ∧ Keep [] w1 W
structure Put6 (w1 : World) (bx : Nat) (C A B : Obj) (v0 : Value) (l0 l1 l2 : List UInt8) (d : Nat → Bool) (f : Nat → Value) (W : World) (o : Option Nat) : Prop where
 keep : Keep [] w1 W
 own : ∀ x, o = some x → w1.heap.size ≤ x
 lt : ∀ x, o = some x → x < W.heap.size
 box0 : W.heap[bx]? = some (C) ∧ some bx ≠ o
 lit5 : d 5 = true → d 6 = false → ∃ b, f 39 = .slice (some ⟨b, 0, none⟩) 2 2 ∧ W.heap[b]? = some (A) ∧ some b ≠ o
 lit11 : d 11 = true → d 12 = false → ∃ b, f 45 = .slice (some ⟨b, 0, none⟩) 1 1 ∧ W.heap[b]? = some (B) ∧ some b ≠ o
 row0 : d 6 = false → RB W (v0) (l0) o
 row1 : d 6 = true → d 12 = false → RB W (f 40) (l1) o
 row2 : d 12 = true → RB W (f 46) (l2) o
 ord1 : d 6 = false → d 12 = false
 asg13 : d 13 = true → f 3 = f 46
 aord13 : d 12 = false → d 13 = false
theorem rd_text {P : Program} {w : World} {v : Value} {bs : List UInt8} {o : Option Nat} {src e dst : TypeId} (h : Rd w 1 v bs.length (Lib.byteCells bs) o) (hs : P.underlying src = some (.slice e)) (he : P.underlying e = some (.int .u8)) (hd : P.underlying dst = some .string) : (convert src dst v).run P w = .ok (.string ⟨bs.toArray⟩) w := by
 obtain ⟨hl, a, c, rfl, h1, h2, h3⟩ := h
 cases a with
 | none =>
  have : bs = [] := by
   rcases h3 with ⟨h, -⟩ | ⟨b, off, h, -⟩
   ·exact List.eq_nil_of_length_eq_zero h
   ·cases h
  subst this
  exact run_convert_bytes_nil w src e hs he _ _ dst hd
 | some p =>
  refine run_convert_bytes_back w src dst e p c bs hs he hd (fun j hj => ?_)
  rcases h3 with ⟨h, -⟩ | ⟨b, off, hp, -, hc⟩
  ·omega
  ·cases hp
   have := hc j (by omega)
   rw [show (⟨b, off, none⟩ : Addr).add j = ⟨b, off + j, none⟩ from by simp [Addr.add], this]
   simp [Lib.byteCells, List.getElem?_eq_getElem hj]
theorem strL_size (s : ByteArray) : s.size ≤ (strL s.data.toList).length := by
 unfold strL
 rw [List.length_append, show s.data.toList.length = s.size from by simp]; omega
theorem p_put {w : World} {m : MnV} (h : RdM w.heap.size w m) (hsz : (manL m.man).length ≤ 1000000000) : Calls Tryz.prog 62 #[aggM m] w fun e w' => ∃ v o, e = .returned v ∧ RB w' v (manL m.man) o ∧ (∀ b, o = some b → w.heap.size ≤ b) ∧ Keep [] w w' := by
 obtain ⟨hs, harea, ⟨⟨ro, hrd, hro⟩, hrlen⟩, hpl⟩ := h
 obtain ⟨-, ra, rc, hrv, hrc1, hrc2, -⟩ := id hrd
 obtain ⟨⟨po, hpd, hpo⟩, hpok, hplen⟩ := id hpl
 obtain ⟨-, pa, pc, hpv, hpc1, hpc2, -⟩ := id hpd
 have hL : manL m.man = strL m.s.data.toList ++ extL m.area ++ strL m.rest ++ numL m.places.length 0 ++ (m.places.map (·.p)).flatMap plcL := by
  unfold manL MnV.man; simp
 have HW1 := hyd ((Keep.refl [] w).alloc (.cells #[.string m.s, .int .i64 m.area.1, .int .i64 m.area.2, m.rv, m.pv] 38))
 have HRD := hyd (hrd.keep HW1.o (by simp))
 have hcv := fun wx (hx : Keep [] (w.alloc (.cells #[.string m.s, .int .i64 m.area.1, .int .i64 m.area.2, m.rv, m.pv] 38)) wx) => rd_text (P := Tryz.prog) (dst := 9) (HRD.o.keep hx (by simp)) Tryz.underlying35 Tryz.underlying5 Tryz.underlying9
 have hbox : (w.alloc (.cells #[.string m.s, .int .i64 m.area.1, .int .i64 m.area.2, m.rv, m.pv] 38)).heap[w.heap.size]? = some (.cells #[.string m.s, .int .i64 m.area.1, .int .i64 m.area.2, m.rv, m.pv] 38) := heap_new _ _
 have hss : ∀ wx, Keep [] (w.alloc (.cells #[.string m.s, .int .i64 m.area.1, .int .i64 m.area.2, m.rv, m.pv] 38)) wx → (wx.cell? ⟨w.heap.size, 0, none⟩ = some (.string m.s) ∧ wx.cell? ⟨w.heap.size, 1, none⟩ = some (.int .i64 m.area.1) ∧ wx.cell? ⟨w.heap.size, 2, none⟩ = some (.int .i64 m.area.2) ∧ wx.cell? ⟨w.heap.size, 3, none⟩ = some m.rv ∧ wx.cell? ⟨w.heap.size, 4, none⟩ = some m.pv) := fun wx hx => by
  have hb := (hx.block w.heap.size (by simp) (by simp)).trans hbox
  refine ⟨?_, ?_, ?_, ?_, ?_⟩ <;> simp [World.cell?, hb]
 rw [hrv] at hss hcv HW1 hbox
 rw [hpv] at hss hcv HW1 hbox
 unfold aggM
 rw [hrv, hpv]
 have hlen1 : (strL m.s.data.toList).length ≤ 1000000000 := by rw [hL] at hsz; simp only [List.length_append] at hsz; omega
 have hlen0 := strL_size m.s
 have hlen2 : (strL m.s.data.toList ++ extL m.area).length ≤ 1000000000 := by rw [hL] at hsz; simp only [List.length_append] at hsz ⊢; omega
 have hst1 : ∀ W b, W.heap[b]? = some (.cells #[.string m.s] 9) → Calls Tryz.prog 88 #[.slice none 0 0, .slice (some ⟨b, 0, none⟩) 1 1] W (GrewP none W (strL m.s.data.toList)) := fun W b hb => by
  have := p_str (ns := [m.s]) (ol := some b) (RB.nil W) (rd_block (n := 1) (k := 1) (xs := [.string m.s]) hb rfl (by simp [maxLen])) (fun x hx => by cases hx; exact ⟨(Array.getElem?_eq_some_iff.1 hb).1, by simp⟩) (by intro x hx; simp at hx; rw [hx]; exact Nat.le_trans hlen0 hlen1) (by simpa using hlen1)
  simpa using this
 have hex : ∀ W v o, RB W v (strL m.s.data.toList) o → Calls Tryz.prog 89 #[v, .agg #[.int .i64 m.area.1, .int .i64 m.area.2]] W (GrewP o W (strL m.s.data.toList ++ extL m.area)) := fun W v o hr => p_putExtent hr harea.1 harea.2 hlen2
 have HST1 := hyd hst1
 have HEX := hyd hex
 have HCV := hyd hcv
 have HSS := hyd hss
 have HPL := hyd hpl
 have HLL := hyd hL
 have HSZ := hyd hsz
 have HAR := hyd harea
 unfold maxLen at hpc2 hrc2
 clear hst1 hex hL hcv hss hlen0 hlen1 hlen2 hbox hpl hrd hro hpd hpo hpok HRD hsz harea
 go_enter Tryz.func62, Tryz.ntmps62
 go_wp2_with fail
 generalize w.alloc (.cells #[.string m.s, .int .i64 m.area.1, .int .i64 m.area.2, .slice ra m.rest.length rc, .slice pa m.places.length pc] 38) = w1 at *
 refine wp_region_held_drew (S := fun w' => Keep [] w1 w') (by kernel_rfl) ((Keep.refl [] w1).drew) (fun hHeld => ?_)
 refine tkL 0 ?vA0 rfl ?runA0 hHeld ?_
 case runA0 => (intro w9 hS9; obtain ⟨c0, c1, c2, c3, c4⟩ := HSS.o w9 hS9; go_simp; try exact rfl)
 try simp only [Act.put, lA, lZ, lS]
 refine tkL 1 ?vA1 rfl ?runA1 hHeld ?_
 case runA1 => (intro w9 hS9; obtain ⟨c0, c1, c2, c3, c4⟩ := HSS.o w9 hS9; go_simp; try exact rfl)
 try simp only [Act.put, lA, lZ, lS]
 refine tkL 4 ?vA4 rfl ?runA4 hHeld ?_
 case runA4 => (intro w9 hS9; obtain ⟨c0, c1, c2, c3, c4⟩ := HSS.o w9 hS9; go_simp; try exact rfl)
 try simp only [Act.put, lA, lZ, lS]
 refine tkL 5 ?vA5 rfl ?runA5 hHeld ?_
 case runA5 => (intro w9 hS9; obtain ⟨c0, c1, c2, c3, c4⟩ := HSS.o w9 hS9; go_simp; try exact rfl)
 try simp only [Act.put, lA, lZ, lS]
 refine tkL 7 ?vA7 rfl ?runA7 hHeld ?_
 case runA7 => (intro w9 hS9; obtain ⟨c0, c1, c2, c3, c4⟩ := HSS.o w9 hS9; go_simp; try exact rfl)
 try simp only [Act.put, lA, lZ, lS]
 refine tkL 8 ?vA8 rfl ?runA8 hHeld ?_
 case runA8 => (intro w9 hS9; obtain ⟨c0, c1, c2, c3, c4⟩ := HSS.o w9 hS9; go_simp; try exact rfl)
 try simp only [Act.put, lA, lZ, lS]
 refine tkL 9 (.string ⟨m.rest.toArray⟩) rfl ?runA9 hHeld ?_
 case runA9 => (intro w9 hS9; obtain ⟨c0, c1, c2, c3, c4⟩ := HSS.o w9 hS9; go_simp; first | done | (rw [HCV.o w9 hS9]; rfl) | (simp [HCV.o w9 hS9]; done))
 try simp only [Act.put, lA, lZ, lS]
 have HB0 : Hid (Keep [] w1 w1.drew) := hyd ((Keep.refl [] w1).drew)
 generalize w1.drew = wa at *
 refine wpAnyH_cut (P := Tryz.prog) (md := ?mdP) (ops := ?opsP) (Q := ?QP) (S := ?SP) (fuel := ?fuelP) (listed := ?listedP) (n := 60) (R := fun f W => f 1 = .pointer (some ⟨w.heap.size, 0, none⟩) ∧ f 2 = .slice none 0 0 ∧ PutC w1 (strL m.s.data.toList ++ extL m.area) m.rest (f 14) (f 18) W) (fun hcut => ?firstP) ?restP
 case firstP =>
  refine wpAnyH_ready (rs := [2, 10]) (by kernel_rfl) (by simp) ?_
  refine AllReadyH.consL rfl (fun K hK => ?_) (AllReadyH.consL rfl (fun K hK => ?_) (AllReadyH.nil))
  ·skip
   go_simp
   have HB2 := hyd (HB0.o.alloc (.cells #[.string m.s] 9))
   have HL3 := hyd (heap_new wa (.cells #[.string m.s] 9))
   refine hK.out _ _ HB2.o (fun hHeld => ?_)
   clear hK K
   try simp only [Act.put, lA, lZ, lS]
   generalize wa.alloc (.cells #[.string m.s] 9) = wz1 at *
   refine wpAnyH_ready (rs := [3, 10]) (by kernel_rfl) (by simp) ?_
   refine AllReadyH.consL rfl (fun K hK => ?_) (AllReadyH.consL rfl (fun K hK => ?_) (AllReadyH.nil))
   ·skip
    go_simp
    refine (HST1.o _ _ HL3.o).mono ?_
    rintro e wz4 ⟨v5, o6, rfl, hr7, hk8, ho9⟩
    obtain ⟨g101, g102⟩ := grew_base HB2.o (fun x hx => by cases hx) hk8 ho9
    have HB11 := hyd g101
    have HO12 := hyd g102
    have HR13 := hyd hr7
    clear g101 g102 hr7 hk8 ho9
    go_wp2_with fail
    refine hK.out _ _ HB11.o (fun hHeld => ?_)
    clear hK K
    try simp only [Act.put, lA, lZ, lS]
    refine wpAnyH_ready (rs := [6, 10]) (by kernel_rfl) (by simp) ?_
    refine AllReadyH.consL rfl (fun K hK => ?_) (AllReadyH.consL rfl (fun K hK => ?_) (AllReadyH.nil))
    ·skip
     go_simp
     refine (HEX.o _ _ _ HR13.o).mono ?_
     rintro e wz14 ⟨v15, o16, rfl, hr17, hk18, ho19⟩
     obtain ⟨g201, g202⟩ := grew_base HB11.o HO12.o hk18 ho19
     have HB21 := hyd g201
     have HO22 := hyd g202
     have HR23 := hyd hr17
     clear g201 g202 hr17 hk18 ho19
     go_wp2_with fail
     refine hK.out _ _ HB21.o (fun hHeld => ?_)
     clear hK K
     try simp only [Act.put, lA, lZ, lS]
     refine wpAnyH_ready (rs := [10]) (by kernel_rfl) (by simp) ?_
     refine AllReadyH.consL rfl (fun K hK => ?_) (AllReadyH.nil)
     go_simp
     have HB25 := hyd (HB21.o.alloc (.cells #[.string ⟨m.rest.toArray⟩] 9))
     have HL26 := hyd (heap_new wz14 (.cells #[.string ⟨m.rest.toArray⟩] 9))
     have HR27 := hyd (HR23.o.keep ((Keep.refl [] wz14).alloc (.cells #[.string ⟨m.rest.toArray⟩] 9)) (by simp))
     have HN28 := hyd (lit_new_ne HR23.o)
     refine hK.out _ _ HB25.o (fun hHeld => ?_)
     clear hK K
     try simp only [Act.put, lA, lZ, lS]
     generalize wz14.alloc (.cells #[.string ⟨m.rest.toArray⟩] 9) = wz24 at *
     refine hcut _ _ ?_
     exact CutF.mk rfl ⟨rfl, rfl, _, wz14.heap.size, HR27.o, HO22.o, rfl, HL26.o, HN28.o, HB25.o⟩
    ·skip
     go_simp
     have HB30 := hyd (HB11.o.alloc (.cells #[.string ⟨m.rest.toArray⟩] 9))
     have HL31 := hyd (heap_new wz4 (.cells #[.string ⟨m.rest.toArray⟩] 9))
     have HR32 := hyd (HR13.o.keep ((Keep.refl [] wz4).alloc (.cells #[.string ⟨m.rest.toArray⟩] 9)) (by simp))
     have HN33 := hyd (lit_new_ne HR13.o)
     refine hK.out _ _ HB30.o (fun hHeld => ?_)
     clear hK K
     try simp only [Act.put, lA, lZ, lS]
     generalize wz4.alloc (.cells #[.string ⟨m.rest.toArray⟩] 9) = wz29 at *
     refine wpAnyH_ready (rs := [6]) (by kernel_rfl) (by simp) ?_
     refine AllReadyH.consL rfl (fun K hK => ?_) (AllReadyH.nil)
     go_simp
     refine (HEX.o _ _ _ HR32.o).mono ?_
     rintro e wz34 ⟨v35, o36, rfl, hr37, hk38, ho39⟩
     obtain ⟨g401, g402⟩ := grew_base HB30.o HO12.o hk38 ho39
     have HB41 := hyd g401
     have HO42 := hyd g402
     have HR43 := hyd hr37
     obtain ⟨l441, l442⟩ := grew_lit HL31.o HN33.o hk38 ho39
     have HL45 := hyd l441
     have HN46 := hyd l442
     clear l441 l442
     clear g401 g402 hr37 hk38 ho39
     go_wp2_with fail
     refine hK.out _ _ HB41.o (fun hHeld => ?_)
     clear hK K
     try simp only [Act.put, lA, lZ, lS]
     refine hcut _ _ ?_
     exact CutF.mk rfl ⟨rfl, rfl, _, wz4.heap.size, HR43.o, HO42.o, rfl, HL45.o, HN46.o, HB41.o⟩
   ·skip
    go_simp
    have HB48 := hyd (HB2.o.alloc (.cells #[.string ⟨m.rest.toArray⟩] 9))
    have HL49 := hyd (heap_new wz1 (.cells #[.string ⟨m.rest.toArray⟩] 9))
    have HL50 := hyd (lit_alloc HL3.o (.cells #[.string ⟨m.rest.toArray⟩] 9))
    refine hK.out _ _ HB48.o (fun hHeld => ?_)
    clear hK K
    try simp only [Act.put, lA, lZ, lS]
    generalize wz1.alloc (.cells #[.string ⟨m.rest.toArray⟩] 9) = wz47 at *
    refine wpAnyH_ready (rs := [3]) (by kernel_rfl) (by simp) ?_
    refine AllReadyH.consL rfl (fun K hK => ?_) (AllReadyH.nil)
    go_simp
    refine (HST1.o _ _ HL50.o).mono ?_
    rintro e wz51 ⟨v52, o53, rfl, hr54, hk55, ho56⟩
    obtain ⟨g571, g572⟩ := grew_base HB48.o (fun x hx => by cases hx) hk55 ho56
    have HB58 := hyd g571
    have HO59 := hyd g572
    have HR60 := hyd hr54
    obtain ⟨l611, l612⟩ := grew_lit HL49.o (by simp) hk55 ho56
    have HL62 := hyd l611
    have HN63 := hyd l612
    clear l611 l612
    clear g571 g572 hr54 hk55 ho56
    go_wp2_with fail
    refine hK.out _ _ HB58.o (fun hHeld => ?_)
    clear hK K
    try simp only [Act.put, lA, lZ, lS]
    refine wpAnyH_ready (rs := [6]) (by kernel_rfl) (by simp) ?_
    refine AllReadyH.consL rfl (fun K hK => ?_) (AllReadyH.nil)
    go_simp
    refine (HEX.o _ _ _ HR60.o).mono ?_
    rintro e wz64 ⟨v65, o66, rfl, hr67, hk68, ho69⟩
    obtain ⟨g701, g702⟩ := grew_base HB58.o HO59.o hk68 ho69
    have HB71 := hyd g701
    have HO72 := hyd g702
    have HR73 := hyd hr67
    obtain ⟨l741, l742⟩ := grew_lit HL62.o HN63.o hk68 ho69
    have HL75 := hyd l741
    have HN76 := hyd l742
    clear l741 l742
    clear g701 g702 hr67 hk68 ho69
    go_wp2_with fail
    refine hK.out _ _ HB71.o (fun hHeld => ?_)
    clear hK K
    try simp only [Act.put, lA, lZ, lS]
    refine hcut _ _ ?_
    exact CutF.mk rfl ⟨rfl, rfl, _, wz1.heap.size, HR73.o, HO72.o, rfl, HL75.o, HN76.o, HB71.o⟩
  ·skip
   go_simp
   have HB78 := hyd (HB0.o.alloc (.cells #[.string ⟨m.rest.toArray⟩] 9))
   have HL79 := hyd (heap_new wa (.cells #[.string ⟨m.rest.toArray⟩] 9))
   refine hK.out _ _ HB78.o (fun hHeld => ?_)
   clear hK K
   try simp only [Act.put, lA, lZ, lS]
   generalize wa.alloc (.cells #[.string ⟨m.rest.toArray⟩] 9) = wz77 at *
   refine wpAnyH_ready (rs := [2]) (by kernel_rfl) (by simp) ?_
   refine AllReadyH.consL rfl (fun K hK => ?_) (AllReadyH.nil)
   go_simp
   have HB81 := hyd (HB78.o.alloc (.cells #[.string m.s] 9))
   have HL82 := hyd (heap_new wz77 (.cells #[.string m.s] 9))
   have HL83 := hyd (lit_alloc HL79.o (.cells #[.string m.s] 9))
   refine hK.out _ _ HB81.o (fun hHeld => ?_)
   clear hK K
   try simp only [Act.put, lA, lZ, lS]
   generalize wz77.alloc (.cells #[.string m.s] 9) = wz80 at *
   refine wpAnyH_ready (rs := [3]) (by kernel_rfl) (by simp) ?_
   refine AllReadyH.consL rfl (fun K hK => ?_) (AllReadyH.nil)
   go_simp
   refine (HST1.o _ _ HL82.o).mono ?_
   rintro e wz84 ⟨v85, o86, rfl, hr87, hk88, ho89⟩
   obtain ⟨g901, g902⟩ := grew_base HB81.o (fun x hx => by cases hx) hk88 ho89
   have HB91 := hyd g901
   have HO92 := hyd g902
   have HR93 := hyd hr87
   obtain ⟨l941, l942⟩ := grew_lit HL83.o (by simp) hk88 ho89
   have HL95 := hyd l941
   have HN96 := hyd l942
   clear l941 l942
   clear g901 g902 hr87 hk88 ho89
   go_wp2_with fail
   refine hK.out _ _ HB91.o (fun hHeld => ?_)
   clear hK K
   try simp only [Act.put, lA, lZ, lS]
   refine wpAnyH_ready (rs := [6]) (by kernel_rfl) (by simp) ?_
   refine AllReadyH.consL rfl (fun K hK => ?_) (AllReadyH.nil)
   go_simp
   refine (HEX.o _ _ _ HR93.o).mono ?_
   rintro e wz97 ⟨v98, o99, rfl, hr100, hk101, ho102⟩
   obtain ⟨g1031, g1032⟩ := grew_base HB91.o HO92.o hk101 ho102
   have HB104 := hyd g1031
   have HO105 := hyd g1032
   have HR106 := hyd hr100
   obtain ⟨l1071, l1072⟩ := grew_lit HL95.o HN96.o hk101 ho102
   have HL108 := hyd l1071
   have HN109 := hyd l1072
   clear l1071 l1072
   clear g1031 g1032 hr100 hk101 ho102
   go_wp2_with fail
   refine hK.out _ _ HB104.o (fun hHeld => ?_)
   clear hK K
   try simp only [Act.put, lA, lZ, lS]
   refine hcut _ _ ?_
   exact CutF.mk rfl ⟨rfl, rfl, _, wa.heap.size, HR106.o, HO105.o, rfl, HL108.o, HN109.o, HB104.o⟩
 case restP =>
  intro a' W hc
  obtain ⟨f, rfl, h1, h2, o, b, hrow, ho, h18, hb, hne, hk⟩ := hc.lit
  rw [show ((List.range 60).map f).toArray = #[f 0, f 1, f 2, f 3, f 4, f 5, f 6, f 7, f 8, f 9, f 10, f 11, f 12, f 13, f 14, f 15, f 16, f 17, f 18, f 19, f 20, f 21, f 22, f 23, f 24, f 25, f 26, f 27, f 28, f 29, f 30, f 31, f 32, f 33, f 34, f 35, f 36, f 37, f 38, f 39, f 40, f 41, f 42, f 43, f 44, f 45, f 46, f 47, f 48, f 49, f 50, f 51, f 52, f 53, f 54, f 55, f 56, f 57, f 58, f 59] from rfl]
  rw [h1, h2, h18]
  clear hc h1 h2 h18
  generalize f 14 = v14 at *
  have hst2 := p_str (ns := [⟨m.rest.toArray⟩]) (ol := some b) hrow (rd_block (n := 1) (k := 1) (xs := [.string ⟨m.rest.toArray⟩]) hb rfl (by simp [maxLen])) (fun x hx => by cases hx; exact ⟨(Array.getElem?_eq_some_iff.1 hb).1, hne⟩) (by intro x hx; simp at hx; rw [hx]; have := HSZ.o; rw [HLL.o] at this; simp only [List.length_append] at this; have h2 := strL_size ⟨m.rest.toArray⟩; simp only [List.toList_toArray] at h2; omega) (by have := HSZ.o; rw [HLL.o] at this; simp only [List.length_append] at this ⊢; simp; omega)
  have hst3 : (strL m.s.data.toList ++ extL m.area ++ [(⟨m.rest.toArray⟩ : ByteArray)].flatMap fun x => strL x.data.toList) = strL m.s.data.toList ++ extL m.area ++ strL m.rest := by simp
  rw [hst3] at hst2
  have HC2 := hyd hst2
  have HO := hyd ho
  have HB := hyd hk
  have hHeld : Keep [] w1 W := hk
  clear hst2 hst3 hrow ho hb hne hk
  refine rdH 11 rfl (fun K hK => ?_)
  go_simp
  refine HC2.o.mono ?_
  rintro e w3 ⟨v3, o3, rfl, hr3, hk3, ho3⟩
  obtain ⟨g1, g2⟩ := grew_base HB.o HO.o hk3 ho3
  have HB3 := hyd g1
  have HO3 := hyd g2
  have HR3 := hyd hr3
  clear hr3 hk3 ho3 g1 g2 HC2 hHeld HB HO
  go_wp2_with fail
  refine hK.out _ _ HB3.o (fun hHeld => ?_)
  clear hK K
  try simp only [Act.put, lA, lZ, lS]
  refine rdH 12 rfl (fun K hK => ?_)
  go_simp
  refine hK.out _ _ HB3.o (fun hHeld => ?_)
  clear hK K
  try simp only [Act.put, lA, lZ, lS]
  refine wpAnyH_done (by kernel_rfl) ?_ _
  clear hHeld
  obtain ⟨c0, c1, c2, c3, c4⟩ := HSS.o w3 HB3.o
  have hkA : Keep [] w3 (w3.alloc (.cells #[.int .u64 (m.places.length : Int)] 54)) := (Keep.refl [] w3).alloc _
  have hnum := p_num (ns := [m.places.length]) (ol := some w3.heap.size) (HR3.o.keep hkA (by simp)) (rd_block (n := 1) (k := 1) (xs := [.int .u64 (m.places.length : Int)]) (heap_new w3 (.cells #[.int .u64 (m.places.length : Int)] 54)) rfl (by simp [maxLen])) (fun x hx => by cases hx; exact ⟨by simp, lit_new_ne HR3.o⟩) (by intro x hx; simp at hx; omega) (by have := HSZ.o; rw [HLL.o] at this; simp only [List.length_append] at this ⊢; simp; omega)
  have hst4 : (strL m.s.data.toList ++ extL m.area ++ strL m.rest ++ [m.places.length].flatMap fun x => numL x 0) = strL m.s.data.toList ++ extL m.area ++ strL m.rest ++ numL m.places.length 0 := by simp
  rw [hst4] at hnum
  have HNUM := hyd hnum
  have HBA := hyd (HB3.o.trans hkA (by simp))
  clear hnum hst4 hkA
  go_wp2_with fail
  refine HNUM.o.mono ?_
  rintro e w4 ⟨v4, o4, rfl, hr4, hk4, ho4⟩
  obtain ⟨g1, g2⟩ := grew_base HBA.o HO3.o hk4 ho4
  have HB4 := hyd g1
  have HO4 := hyd g2
  have HR4 := hyd hr4
  clear hr4 hk4 ho4 g1 g2 HNUM c0 c1 c2 c3 c4 HR3 HO3 HBA
  obtain ⟨c0, c1, c2, c3, c4⟩ := HSS.o w4 HB4.o
  obtain ⟨L0, hL0⟩ : ∃ q, q = strL m.s.data.toList ++ extL m.area ++ strL m.rest ++ numL m.places.length 0 := ⟨_, rfl⟩
  rw [← hL0] at HR4 HLL
  clear hL0
  go_wp2_with fail
  clear c0 c1 c2 c3 c4
  go_loopw [3, 30] (fun v i wr => ∃ (k : Nat) (o' : Option Nat), k ≤ m.places.length ∧ i = .int .i64 k ∧ RB wr v (L0 ++ ((m.places.take k).map (·.p)).flatMap plcL) o' ∧ (∀ x, o' = some x → w1.heap.size ≤ x) ∧ Keep [] w1 wr) (fun _ i _ => m.places.length - (intOf i).toNat)
  case atStart => exact ⟨0, o4, Nat.zero_le _, rfl, by simpa using HR4.o, HO4.o, HB4.o⟩
  case round =>
   obtain ⟨k, o', hk, rfl, hrow, ho, hkw⟩ := hrel
   have HR := hyd hrow
   have HO := hyd ho
   have HK := hyd hkw
   clear hrow ho hkw HR4 HO4 HB4
   by_cases hlt : k < m.places.length
   ·obtain ⟨x, hx⟩ : ∃ x, x = m.places[k] := ⟨_, rfl⟩
    have hpl2 := HPL.o.keep (HW1.o.trans HK.o (by simp)) (by simp)
    rw [hpv] at hpl2
    obtain ⟨pb, poff, rfl, hpb, g0, g1, g2⟩ := hpl2.at hlt
    clear hpl2
    have hpx := HPL.o.2.1 _ (List.getElem_mem hlt)
    rw [← hx] at g0 g1 g2 hpx
    obtain ⟨hx1, hx2, hx3⟩ := hpx
    obtain ⟨xa, xc, hxv, hxc1, hxc2⟩ := hx3.slice
    rw [hxv] at g2 hx3
    have HX3 := hyd hx3
    have hst : L0 ++ ((m.places.take (k + 1)).map (·.p)).flatMap plcL = (L0 ++ ((m.places.take k).map (·.p)).flatMap plcL) ++ plcL x.p := by
     rw [List.take_succ_eq_append_getElem hlt, List.map_append, List.flatMap_append, List.append_assoc, ← hx]; simp
    have hlen : (L0 ++ ((m.places.take k).map (·.p)).flatMap plcL).length + (plcL x.p).length ≤ 1000000000 := by
     have h1 := HSZ.o
     have h2 : (m.places.map (·.p)).flatMap plcL = ((m.places.take (k + 1)).map (·.p)).flatMap plcL ++ ((m.places.drop (k + 1)).map (·.p)).flatMap plcL := by rw [← List.flatMap_append, ← List.map_append, List.take_append_drop]
     rw [HLL.o, h2, ← List.append_assoc, hst] at h1
     simp only [List.length_append] at h1 ⊢
     omega
    obtain ⟨lk, hlk⟩ : ∃ q, q = L0 ++ ((m.places.take k).map (·.p)).flatMap plcL := ⟨_, rfl⟩
    rw [← hlk] at hst hlen HR
    obtain ⟨l1, hl1⟩ : ∃ q, q = lk ++ (intL x.p.pid ++ intL x.p.len) := ⟨_, rfl⟩
    obtain ⟨l2, hl2⟩ : ∃ q, q = l1 ++ numL x.p.pieces.length 0 := ⟨_, rfl⟩
    have hpl : plcL x.p = (intL x.p.pid ++ intL x.p.len) ++ numL x.p.pieces.length 0 ++ x.p.pieces.flatMap extL := by unfold plcL; simp
    have hst2 : lk ++ plcL x.p = l2 ++ x.p.pieces.flatMap extL := by rw [hl2, hl1, hpl]; simp
    have hlen2 : l2.length + (x.p.pieces.flatMap extL).length ≤ 1000000000 := by
     have := congrArg List.length hst2
     simp only [List.length_append] at this hlen; omega
    have hlen1 : l1.length ≤ 1000000000 := by rw [hl2] at hlen2; simp only [List.length_append] at hlen2; omega
    have hpn : x.p.pieces.length < 18446744073709551616 := by have := hx3.2.2; omega
    have hc1 : ∀ W v o b, RB W v lk o → W.heap[b]? = some (.cells #[.int .i64 x.p.pid, .int .i64 x.p.len] 2) → some b ≠ o → Calls Tryz.prog 91 #[v, .slice (some ⟨b, 0, none⟩) 2 2] W (GrewP o W l1) := fun W v o b hr hb hne => by
     have := p_int (ns := [x.p.pid, x.p.len]) (ol := some b) hr (rd_block (n := 2) (k := 1) (xs := [.int .i64 x.p.pid, .int .i64 x.p.len]) hb rfl (by simp [maxLen])) (fun y hy => by cases hy; exact ⟨(Array.getElem?_eq_some_iff.1 hb).1, hne⟩) (by intro y hy; simp at hy; rcases hy with rfl | rfl; exact hx1; exact hx2) (by rw [hl1] at hlen1; simpa using hlen1)
     rw [hl1]
     simpa using this
    have hc2 : ∀ W v o b, RB W v l1 o → W.heap[b]? = some (.cells #[.int .u64 (x.p.pieces.length : Int)] 54) → some b ≠ o → Calls Tryz.prog 90 #[v, .slice (some ⟨b, 0, none⟩) 1 1] W (GrewP o W l2) := fun W v o b hr hb hne => by
     have := p_num (ns := [x.p.pieces.length]) (ol := some b) hr (rd_block (n := 1) (k := 1) (xs := [.int .u64 (x.p.pieces.length : Int)]) hb rfl (by simp [maxLen])) (fun y hy => by cases hy; exact ⟨(Array.getElem?_eq_some_iff.1 hb).1, hne⟩) (by intro y hy; simp at hy; rw [hy]; exact hpn) (by rw [hl2] at hlen2; simp only [List.length_append] at hlen2; simp; omega)
     rw [hl2]
     simpa using this
    have HC1 := hyd hc1
    have HC2 := hyd hc2
    have HST := hyd (hst.trans hst2)
    have HLEN := hyd hlen2
    unfold maxLen at hxc2
    clear hc1 hc2 hst hst2 hlen hlen1 hlen2 hl1 hl2 hlk hpl hx3 hxv hx
    have hu5 : IntKind.u64.wrap (x.p.pieces.length : Int) = (x.p.pieces.length : Int) := IntWalk.u64_in _ (by omega)
    have i0' : (0 : Int) ≤ (k : Int) := by omega
    have i1' : (k : Int) < (m.places.length : Int) := by omega
    have k0 := g0
    go_wp2_with fail
    have HB5 := hyd (heap_new wr (.cells #[.int .i64 x.p.pid, .int .i64 x.p.len, .slice xa x.p.pieces.length xc] 48))
    have HK5 := hyd ((HK.o.alloc (.cells #[.int .i64 x.p.pid, .int .i64 x.p.len, .slice xa x.p.pieces.length xc] 48)).drew)
    have HR5 := hyd (HR.o.keep (((Keep.refl [] wr).alloc (.cells #[.int .i64 x.p.pid, .int .i64 x.p.len, .slice xa x.p.pieces.length xc] 48)).drew) (by simp))
    have HN5 := hyd (lit_new_ne HR.o)
    generalize wr.alloc (.cells #[.int .i64 x.p.pid, .int .i64 x.p.len, .slice xa x.p.pieces.length xc] 48) = wb at *
    clear g0 g1 g2 k0
    refine wp_region_held_drew (S := fun w' => Keep [] w1 w' ∧ w'.heap[wr.heap.size]? = some (.cells #[.int .i64 x.p.pid, .int .i64 x.p.len, .slice xa x.p.pieces.length xc] 48)) (by kernel_rfl) ⟨HK5.o, HB5.o⟩ (fun hHeld => ?_)
    refine tkL 0 ?vC0 rfl ?runC0 hHeld ?_
    case runC0 => (intro w9 hS9; obtain ⟨c0, c1, c2, -⟩ := cells3 hS9.2; go_simp; try exact rfl)
    try simp only [Act.put, lA, lZ, lS]
    refine tkL 1 ?vC1 rfl ?runC1 hHeld ?_
    case runC1 => (intro w9 hS9; obtain ⟨c0, c1, c2, -⟩ := cells3 hS9.2; go_simp; try exact rfl)
    try simp only [Act.put, lA, lZ, lS]
    refine tkL 2 ?vC2 rfl ?runC2 hHeld ?_
    case runC2 => (intro w9 hS9; obtain ⟨c0, c1, c2, -⟩ := cells3 hS9.2; go_simp; try exact rfl)
    try simp only [Act.put, lA, lZ, lS]
    refine tkL 3 ?vC3 rfl ?runC3 hHeld ?_
    case runC3 => (intro w9 hS9; obtain ⟨c0, c1, c2, -⟩ := cells3 hS9.2; go_simp; try exact rfl)
    try simp only [Act.put, lA, lZ, lS]
    refine tkL 4 ?vC4 rfl ?runC4 hHeld ?_
    case runC4 => (intro w9 hS9; obtain ⟨c0, c1, c2, -⟩ := cells3 hS9.2; go_simp; try exact rfl)
    try simp only [Act.put, lA, lZ, lS]
    refine tkL 7 ?vC7 rfl ?runC7 hHeld ?_
    case runC7 => (intro w9 hS9; obtain ⟨c0, c1, c2, -⟩ := cells3 hS9.2; go_simp; try exact rfl)
    try simp only [Act.put, lA, lZ, lS]
    refine tkL 8 ?vC8 rfl ?runC8 hHeld ?_
    case runC8 => (intro w9 hS9; obtain ⟨c0, c1, c2, -⟩ := cells3 hS9.2; go_simp; try exact rfl)
    try simp only [Act.put, lA, lZ, lS]
    refine tkL 9 ?vC9 rfl ?runC9 hHeld ?_
    case runC9 => (intro w9 hS9; obtain ⟨c0, c1, c2, -⟩ := cells3 hS9.2; go_simp; try exact rfl)
    try simp only [Act.put, lA, lZ, lS]
    refine tkL 10 (.int .u64 (x.p.pieces.length : Int)) rfl ?runC10 hHeld ?_
    case runC10 => (intro w9 hS9; obtain ⟨c0, c1, c2, -⟩ := cells3 hS9.2; go_simp; first | done | (rw [hu5]; rfl) | (simp [hu5]; done))
    try simp only [Act.put, lA, lZ, lS]
    have HBd : Hid (wb.drew.heap[wr.heap.size]? = some (.cells #[.int .i64 x.p.pid, .int .i64 x.p.len, .slice xa x.p.pieces.length xc] 48)) := hyd HB5.o
    clear HB5
    generalize wb.drew = wc at *
    refine wpAnyH_inv (fun d f W => ∃ o, Put6 w1 wr.heap.size (.cells #[.int .i64 x.p.pid, .int .i64 x.p.len, .slice xa x.p.pieces.length xc] 48) (.cells #[.int .i64 x.p.pid, .int .i64 x.p.len] 2) (.cells #[.int .u64 (x.p.pieces.length : Int)] 54) u3 lk l1 l2 d f W o) [3, 39, 40, 45, 46] [5, 6, 11, 12, 13] (by kernel_rfl) (by kernel_rfl) (by kernel_rfl) (fun _ _ _ h => h.elim fun _ h => ⟨h.keep, h.box0.1⟩) ⟨_, { keep := HK5.o, own := HO.o, lt := HR5.o.lt, box0 := ⟨HBd.o, HN5.o⟩, lit5 := fun h _ => (nomatch (show false = true from h)), lit11 := fun h _ => (nomatch (show false = true from h)), row0 := fun _ => HR5.o, row1 := fun h _ => (nomatch (show false = true from h)), row2 := fun h => (nomatch (show false = true from h)), ord1 := fun _ => rfl, asg13 := fun h => (nomatch (show false = true from h)), aord13 := fun _ => rfl }⟩ (AllInv.cons rfl rfl (fun d f W hi hdep hJ K hK => ?_) (AllInv.cons rfl rfl (fun d f W hi hdep hJ K hK => ?_) (AllInv.cons rfl rfl (fun d f W hi hdep hJ K hK => ?_) (AllInv.cons rfl rfl (fun d f W hi hdep hJ K hK => ?_) (AllInv.cons rfl rfl (fun d f W hi hdep hJ K hK => ?_) (AllInv.nil)))))) (fun f W hJ => ?_)
    ·obtain ⟨o, h⟩ := hJ
     simp only [mixA, List.foldl, List.setIfInBounds_toArray, List.set_cons_zero, List.set_cons_succ]
     go_simp
     have hz := hK.out (fun i => if i = 39 then .slice (some ⟨W.heap.size, 0, none⟩) 2 2 else f i) _ ⟨o, { keep := h.keep.alloc _, own := h.own, lt := fun x hx => by have := h.lt x hx; simp; omega, box0 := ⟨lit_alloc h.box0.1 _, h.box0.2⟩, lit5 := fun _ _ => ⟨W.heap.size, rfl, heap_new W _, fun e => by have := h.lt _ e.symm; omega⟩, lit11 := fun h1 h2 => (h.lit11 (by simpa [upd] using h1) (by simpa [upd] using h2)).elim fun b hb => ⟨b, hb.1, lit_alloc hb.2.1 _, hb.2.2⟩, row0 := fun h1 => (h.row0 (by simpa [upd] using h1)).keep ((Keep.refl [] W).alloc _) (by simp), row1 := fun h1 h2 => (h.row1 (by simpa [upd] using h1) (by simpa [upd] using h2)).keep ((Keep.refl [] W).alloc _) (by simp), row2 := fun h1 => (h.row2 (by simpa [upd] using h1)).keep ((Keep.refl [] W).alloc _) (by simp), ord1 := fun h1 => by have := h.ord1 (by simpa [upd] using h1); simpa [upd] using this, asg13 := fun h1 => by have := h.asg13 (by simpa [upd] using h1); simpa [upd] using this, aord13 := fun h1 => by have := h.aord13 (by simpa [upd] using h1); simpa [upd] using this }⟩
     clear hK
     simp only [mixA, List.foldl, List.setIfInBounds_toArray, List.set_cons_zero, List.set_cons_succ] at hz
     exact hz
    ·obtain ⟨o, h⟩ := hJ
     obtain ⟨b0, e0, hb0, ne0⟩ := h.lit5 (hdep 5 (of_decide_eq_true (by kernel_rfl))) hi
     have hrow := h.row0 hi
     have hct := HC1.o _ _ _ _ hrow hb0 ne0
     have HCT := hyd hct
     clear hct
     simp only [mixA, List.foldl, List.setIfInBounds_toArray, List.set_cons_zero, List.set_cons_succ]
     rw [e0]
     go_simp
     refine HCT.o.mono ?_
     rintro e W' ⟨v', o', rfl, hr, hk, ho⟩
     have hg := grew_base h.keep h.own hk ho
     go_wp2_with fail
     have hz := hK.out (fun i => if i = 40 then v' else f i) _ ⟨o', { keep := hg.1, own := hg.2, lt := hr.lt, box0 := grew_lit h.box0.1 h.box0.2 hk ho, lit5 := fun _ h2 => by simp [upd] at h2, lit11 := fun h1 h2 => (h.lit11 (by simpa [upd] using h1) (by simpa [upd] using h2)).elim fun b hb => ⟨b, hb.1, grew_lit hb.2.1 hb.2.2 hk ho⟩, row0 := fun h1 => by simp [upd] at h1, row1 := fun _ _ => hr, row2 := fun h1 => by have := h.ord1 hi; simp [upd, this] at h1, ord1 := fun h1 => by first | (simp [upd] at h1; done) | (have := h.ord1 (by simpa [upd] using h1); simpa [upd] using this), asg13 := fun h1 => by have := h.asg13 (by simpa [upd] using h1); exact this, aord13 := fun h1 => by have := h.aord13 (by simpa [upd] using h1); simpa [upd] using this }⟩
     clear hK
     simp only [mixA, List.foldl, List.setIfInBounds_toArray, List.set_cons_zero, List.set_cons_succ] at hz
     rw [e0] at hz
     exact hz
    ·obtain ⟨o, h⟩ := hJ
     simp only [mixA, List.foldl, List.setIfInBounds_toArray, List.set_cons_zero, List.set_cons_succ]
     go_simp
     have hz := hK.out (fun i => if i = 45 then .slice (some ⟨W.heap.size, 0, none⟩) 1 1 else f i) _ ⟨o, { keep := h.keep.alloc _, own := h.own, lt := fun x hx => by have := h.lt x hx; simp; omega, box0 := ⟨lit_alloc h.box0.1 _, h.box0.2⟩, lit5 := fun h1 h2 => (h.lit5 (by simpa [upd] using h1) (by simpa [upd] using h2)).elim fun b hb => ⟨b, hb.1, lit_alloc hb.2.1 _, hb.2.2⟩, lit11 := fun _ _ => ⟨W.heap.size, rfl, heap_new W _, fun e => by have := h.lt _ e.symm; omega⟩, row0 := fun h1 => (h.row0 (by simpa [upd] using h1)).keep ((Keep.refl [] W).alloc _) (by simp), row1 := fun h1 h2 => (h.row1 (by simpa [upd] using h1) (by simpa [upd] using h2)).keep ((Keep.refl [] W).alloc _) (by simp), row2 := fun h1 => (h.row2 (by simpa [upd] using h1)).keep ((Keep.refl [] W).alloc _) (by simp), ord1 := fun h1 => by have := h.ord1 (by simpa [upd] using h1); simpa [upd] using this, asg13 := fun h1 => by have := h.asg13 (by simpa [upd] using h1); simpa [upd] using this, aord13 := fun h1 => by have := h.aord13 (by simpa [upd] using h1); simpa [upd] using this }⟩
     clear hK
     simp only [mixA, List.foldl, List.setIfInBounds_toArray, List.set_cons_zero, List.set_cons_succ] at hz
     exact hz
    ·obtain ⟨o, h⟩ := hJ
     obtain ⟨b0, e0, hb0, ne0⟩ := h.lit11 (hdep 11 (of_decide_eq_true (by kernel_rfl))) hi
     have hrow := h.row1 (hdep 6 (of_decide_eq_true (by kernel_rfl))) hi
     have hct := HC2.o _ _ _ _ hrow hb0 ne0
     have HCT := hyd hct
     clear hct
     simp only [mixA, List.foldl, List.setIfInBounds_toArray, List.set_cons_zero, List.set_cons_succ]
     rw [e0]
     go_simp
     refine HCT.o.mono ?_
     rintro e W' ⟨v', o', rfl, hr, hk, ho⟩
     have hg := grew_base h.keep h.own hk ho
     go_wp2_with fail
     have hz := hK.out (fun i => if i = 46 then v' else f i) _ ⟨o', { keep := hg.1, own := hg.2, lt := hr.lt, box0 := grew_lit h.box0.1 h.box0.2 hk ho, lit5 := fun h1 h2 => (h.lit5 (by simpa [upd] using h1) (by simpa [upd] using h2)).elim fun b hb => ⟨b, hb.1, grew_lit hb.2.1 hb.2.2 hk ho⟩, lit11 := fun _ h2 => by simp [upd] at h2, row0 := fun h1 => by have h8 := (show d 6 = false from by simpa [upd] using h1); have h9 := hdep 6 (of_decide_eq_true (by kernel_rfl)); simp [h8] at h9, row1 := fun h1 h2 => by simp [upd] at h2, row2 := fun _ => hr, ord1 := fun h1 => by have := hdep 6 (of_decide_eq_true (by kernel_rfl)); simp [upd, this] at h1, asg13 := fun h1 => by have := h.aord13 hi; simp [upd, this] at h1, aord13 := fun h1 => by simp [upd] at h1 }⟩
     clear hK
     simp only [mixA, List.foldl, List.setIfInBounds_toArray, List.set_cons_zero, List.set_cons_succ] at hz
     rw [e0] at hz
     exact hz
    ·obtain ⟨o, h⟩ := hJ
     simp only [mixA, List.foldl, List.setIfInBounds_toArray, List.set_cons_zero, List.set_cons_succ]
     go_simp
     have hz := hK.out (fun i => if i = 3 then f 46 else f i) _ ⟨o, { keep := h.keep, own := h.own, lt := h.lt, box0 := h.box0, lit5 := fun h1 h2 => h.lit5 (by simpa [upd] using h1) (by simpa [upd] using h2), lit11 := fun h1 h2 => h.lit11 (by simpa [upd] using h1) (by simpa [upd] using h2), row0 := fun h1 => h.row0 (by simpa [upd] using h1), row1 := fun h1 h2 => h.row1 (by simpa [upd] using h1) (by simpa [upd] using h2), row2 := fun h1 => h.row2 (by simpa [upd] using h1), ord1 := fun h1 => by have := h.ord1 (by simpa [upd] using h1); simpa [upd] using this, asg13 := fun _ => rfl, aord13 := fun h1 => by have := hdep 12 (of_decide_eq_true (by kernel_rfl)); simp [upd, this] at h1 }⟩
     clear hK
     simp only [mixA, List.foldl, List.setIfInBounds_toArray, List.set_cons_zero, List.set_cons_succ] at hz
     exact hz
    ·obtain ⟨o, h⟩ := hJ
     simp only [mixA, List.foldl, List.setIfInBounds_toArray, List.set_cons_zero, List.set_cons_succ]
     rw [h.asg13 rfl]
     have HR6 := hyd (h.row2 rfl)
     have HO6 := hyd h.own
     have HK6 := hyd h.keep
     obtain ⟨c0, c1, c2, -⟩ := cells3 h.box0.1
     clear h
     go_wp2_with fail
     clear c0 c1 c2
     go_loopw [3, 50] (fun v i wq => ∃ (j : Nat) (oq : Option Nat), j ≤ x.p.pieces.length ∧ i = .int .i64 j ∧ RB wq v (l2 ++ (x.p.pieces.take j).flatMap extL) oq ∧ (∀ y, oq = some y → w1.heap.size ≤ y) ∧ Keep [] w1 wq) (fun _ i _ => x.p.pieces.length - (intOf i).toNat)
     case atStart => exact ⟨0, o, Nat.zero_le _, rfl, by simpa using HR6.o, HO6.o, HK6.o⟩
     case round =>
      clear HR6 HO6 HK6
      obtain ⟨j, oq, hj, rfl, hrq, hoq, hkq⟩ := hrel
      by_cases hjl : j < x.p.pieces.length
      ·have hxq := HX3.o.keep (HW1.o.trans hkq (by simp)) (by simp)
       obtain ⟨b9, off9, rfl, hb9, d0, d1⟩ := hxq.at hjl
       have hok := hxq.2.1 _ (List.getElem_mem hjl)
       clear hxq
       obtain ⟨y, hy⟩ : ∃ q, q = x.p.pieces[j] := ⟨_, rfl⟩
       rw [← hy] at d0 d1 hok
       have hst : l2 ++ (x.p.pieces.take (j + 1)).flatMap extL = (l2 ++ (x.p.pieces.take j).flatMap extL) ++ extL y := by
        rw [List.take_succ_eq_append_getElem hjl, List.flatMap_append, List.append_assoc, ← hy]; simp
       have hlen : (l2 ++ (x.p.pieces.take j).flatMap extL ++ extL y).length ≤ 1000000000 := by
        have h1 := HLEN.o
        have h2 : x.p.pieces.flatMap extL = (x.p.pieces.take (j + 1)).flatMap extL ++ (x.p.pieces.drop (j + 1)).flatMap extL := by rw [← List.flatMap_append, List.take_append_drop]
        rw [← hst]
        rw [h2] at h1
        simp only [List.length_append] at h1 ⊢
        omega
       obtain ⟨lq, hlq⟩ : ∃ q, q = l2 ++ (x.p.pieces.take j).flatMap extL := ⟨_, rfl⟩
       rw [← hlq] at hst hlen hrq
       have HQR := hyd hrq
       have HQO := hyd hoq
       have HQK := hyd hkq
       have HST9 := hyd hst
       obtain ⟨yf, yn⟩ := y
       have hpe := p_putExtent (w := wr.alloc (.cells #[.int .i64 yf, .int .i64 yn] 34)) (hrq.keep ((Keep.refl [] wr).alloc (.cells #[.int .i64 yf, .int .i64 yn] 34)) (by simp)) hok.1 hok.2 hlen
       have HPE := hyd hpe
       have j0' : (0 : Int) ≤ (j : Int) := by omega
       have j1' : (j : Int) < (x.p.pieces.length : Int) := by omega
       clear hrq hoq hkq hst hlen hok hlq hy hpe
       go_wp2_with fail
       refine HPE.o.mono ?_
       rintro e wn ⟨vn, on, rfl, hrn, hkn, hon⟩
       obtain ⟨g1, g2⟩ := grew_base (HQK.o.alloc (.cells #[.int .i64 yf, .int .i64 yn] 34)) HQO.o hkn hon
       rw [← HST9.o] at hrn
       have HNR := hyd hrn
       have HNO := hyd g2
       have HNK := hyd g1
       clear hrn hkn hon g1 g2 HPE HST9
       go_wp2_with fail
       go_roundw
       case rel => exact ⟨j + 1, on, by omega, by go_num, HNR.o, HNO.o, HNK.o⟩
       case measure => simp [intOf]; omega
      ·obtain rfl : j = x.p.pieces.length := by omega
       rw [List.take_length, ← HST.o] at hrq
       have HQR := hyd hrq
       have HQO := hyd hoq
       have HQK := hyd hkq
       clear hrq hoq hkq
       go_wp2_with fail
       go_roundw
       case rel => exact ⟨k + 1, oq, by omega, by go_num, HQR.o, HQO.o, HQK.o⟩
       case measure => simp [intOf]; omega
   ·obtain rfl : k = m.places.length := by omega
    rw [List.take_length, ← HLL.o] at HR
    go_wp2_with fail
    go_ret
    exact ⟨_, o', rfl, HR.o, fun b hb => by have := HO.o b hb; have := HW1.o.size; omega, HW1.o.trans HK.o (by simp)⟩
end Go.Proofs.YtimpadpeibgmoaaGreat
