/- A part of the proof (St13), joined by squeeze2.py. -/
import Derived.Test.YtimpadpeibgmoaaGreatYd37
set_option maxHeartbeats 8000000
set_option maxRecDepth 100000
namespace Go.Proofs.YtimpadpeibgmoaaGreat
open Go.RowKit Go.Emb Go.Lib Go.Emb.Ext Go.Shelf
attribute [local go_sem] Oper.semAt_some
def OkMan (n sz : Int) (m : Man) : Prop :=
 roomI sz ≠ 0 ∧ 1 ≤ n ∧ n ≤ 16384 ∧ (∀ x ∈ m.area :: plcX m.places, badX n x = false) ∧ (∀ x ∈ m.area :: plcX m.places, right x = true) ∧ Disj (m.area :: plcX m.places) ∧ okPl (roomI sz) 0 m.places
theorem OkMan.okM {n sz : Int} {m : MnV} (h : OkMan n sz m.man) : OkM n sz m.area m.places := by
 have e : allL m.area m.places = m.man.area :: plcX m.man.places := by
  unfold allL MnV.man plcX
  rw [List.flatMap_map]
 unfold OkM
 rw [e]
 exact h
theorem man_back {m : Man} (h : ManOk m) : (oMan (manL m)).2 = some [] ∧ (oMan (manL m)).1 = m := by
 have h1 := pMan_man m h
 rw [pMan_oMan] at h1
 split at h1
 ·rename_i h2
  exact ⟨h2, Option.some.inj h1⟩
 ·cases h1
structure CkOk (d : DS) (x : Sup) (mm : Man) : Prop where
 inb : ∀ e ∈ x.ps, 0 ≤ e.1 ∧ 1 ≤ e.2 ∧ e.1 + e.2 ≤ d.n
 holds : Holds d (blkL x.ps) 77 x.gen (manL mm)
 len : x.len = ((manL mm).length : Int)
 ml : (manL mm).length ≤ 1048576
 gen : x.gen < 18446744073709551616
 back : ManOk mm
 chk : OkMan d.n d.sz mm
 bl : (blkL x.ps).length ≤ 1000000
 al : (mm.area :: plcX mm.places).length ≤ 1000000
def LoadP (w : World) (x : Sup) (pv : Value) (mm : Man) (e : Ending) (w' : World) : Prop :=
 ∃ m : MnV, e = .returned (.tuple #[aggPt x pv m, .bool true]) ∧ m.man = mm ∧ MRd (fun b => w.heap.size ≤ b) w' m ∧ Keep [] w w'
theorem st_load {w : World} {q : Nat} {lm : List Int} {D : List Nat} {d : DS} {S : Nat → Prop} {pv : Value} {x : Sup} {mm : Man} (h : DK w q lm D d) (hoff : d.off = false) (hx : XRd S w pv x.ps) (hc : CkOk d x mm) :
  Calls Tryz.prog 41 #[.pointer (some ⟨q, 0, none⟩), aggS x pv] w (LoadP w x pv mm) := by
 obtain ⟨ga, gc, rfl, -, -⟩ := hx.form
 have hok := h.isok
 have hbl := hc.bl
 have HAL := hyd hc.al
 obtain ⟨hb1, hb2⟩ := man_back hc.back
 obtain ⟨N, hN⟩ : ∃ n, n = (manL mm).length := ⟨_, rfl⟩
 have hlen := hc.len
 rw [← hN] at hlen
 have hNl : N ≤ 1048576 := by have := hc.ml; omega
 have HRD := hyd (fun (W : World) (hk : Keep [] w W) => st_read (h.keep0 hk) hoff (hx.keep hk (by simp)) hc.inb hc.holds (by decide) hc.gen hbl)
 rw [show (((77 : UInt8).toNat : Nat) : Int) = 77 from rfl] at HRD
 have HSZ := hyd (fun (W : World) (hk : Keep [] w W) => by
   obtain ⟨gb, c, logv, logs, lo, s', r, -, h1, -, -, -, -, ok⟩ := h.keep0 hk
   exact p_size h1)
 have HBS := hyd (fun (W : World) (hk : Keep [] w W) => by
   obtain ⟨gb, c, logv, logs, lo, s', r, -, h1, -, -, -, -, ok⟩ := h.keep0 hk
   exact p_blocks (n := d.n) h1 rfl (by have := ok.2.2.1; omega) ok.2.1)
 have hsz4 := hok.2.2.2.1
 have HCK := hyd hc.chk
 have HX := hyd hx
 have HB := hyd (And.intro hb1 hb2)
 have HNE := hyd hN
 obtain ⟨gen, ps, len, ep⟩ := x
 simp only at hlen HRD HX hx
 subst hlen
 unfold aggS
 simp only
 have hk1 : Keep [] w ((w.alloc (.cells #[.int .u64 (gen : Nat), .slice ga ps.length gc, .int .i64 (N : Nat), .int .i64 ep] 56)).alloc (.cells #[.int .u64 0, .slice none 0 0, .int .i64 0, .int .i64 0, .string ⟨#[]⟩, .int .i64 0, .int .i64 0, .slice none 0 0, .slice none 0 0] 82)) := ((Keep.refl [] w).alloc _).alloc _
 have hb3 := lit_alloc (heap_new w (.cells #[.int .u64 (gen : Nat), .slice ga ps.length gc, .int .i64 (N : Nat), .int .i64 ep] 56)) (.cells #[.int .u64 0, .slice none 0 0, .int .i64 0, .int .i64 0, .string ⟨#[]⟩, .int .i64 0, .int .i64 0, .slice none 0 0, .slice none 0 0] 82)
 have hb4 := heap_new (w.alloc (.cells #[.int .u64 (gen : Nat), .slice ga ps.length gc, .int .i64 (N : Nat), .int .i64 ep] 56)) (.cells #[.int .u64 0, .slice none 0 0, .int .i64 0, .int .i64 0, .string ⟨#[]⟩, .int .i64 0, .int .i64 0, .slice none 0 0, .slice none 0 0] 82)
 rw [size_alloc] at hb4
 have HK1 := hyd hk1
 have HB3 := hyd hb3
 have HB4 := hyd hb4
 have hs1 : ((w.alloc (.cells #[.int .u64 (gen : Nat), .slice ga ps.length gc, .int .i64 (N : Nat), .int .i64 ep] 56)).alloc (.cells #[.int .u64 0, .slice none 0 0, .int .i64 0, .int .i64 0, .string ⟨#[]⟩, .int .i64 0, .int .i64 0, .slice none 0 0, .slice none 0 0] 82)).heap.size = w.heap.size + 2 := by simp
 have HS1 := hyd hs1
 clear hk1 hb3 hb4 hs1 h hx hc hN hb1 hb2 hbl
 go_enter Tryz.func41, Tryz.ntmps41
 go_upto_region 1 with fail
 generalize (w.alloc (.cells #[.int .u64 (gen : Nat), .slice ga ps.length gc, .int .i64 (N : Nat), .int .i64 ep] 56)).alloc (.cells #[.int .u64 0, .slice none 0 0, .int .i64 0, .int .i64 0, .string ⟨#[]⟩, .int .i64 0, .int .i64 0, .slice none 0 0, .slice none 0 0] 82) = w1 at *
 obtain ⟨c0, c1, c2, c3⟩ := cells4s HB3.o
 go_wp2_with fail
 refine (HRD.o _ HK1.o).mono ?_
 rintro e w2 ⟨v2, o2, rfl, hr2, ho2, hk2⟩
 obtain ⟨a2, c2', M2, hM2, rfl⟩ : ∃ a c n, n = (manL mm).length ∧ v2 = .slice a n c := by
  obtain ⟨a, c, h, -⟩ := hr2.form
  exact ⟨a, c, _, rfl, h⟩
 obtain rfl : M2 = N := hM2.trans HNE.o.symm
 have HR2 := hyd hr2
 have HK2 := hyd (HK1.o.trans hk2 (by simp))
 have HB32 := hyd (blkk HB3.o hk2 (by simp))
 have HB42 := hyd (blkk HB4.o hk2 (by simp))
 have HO2 := hyd ho2
 have HS2 := hyd (show w.heap.size + 2 ≤ w2.heap.size from by have h1 := hk2.size; have h2 := HS1.o; omega)
 clear hr2 hk2 ho2 hM2 c0 c1 c2 c3 HRD
 obtain ⟨c0, c1, c2, c3⟩ := cells4s HB32.o
 go_upto_region 4 with fail
 clear c0 c1 c2 c3
 obtain ⟨o2', hrd2, hoo2⟩ := Row.rd HR2.o
 have hg := p_get (w := w2) hrd2 (fun b hb => by
   rcases hoo2 with h | h
   · rw [h] at hb; cases hb
   · exact RB.lt HR2.o b (h ▸ hb)) (by rw [← HNE.o]; omega)
 unfold GetP at hg
 simp only [if_pos HB.o.1] at hg
 have HG := hyd hg
 clear hg hrd2 hoo2
 go_wp2_with fail
 refine HG.o.mono ?_
 rintro e w3 ⟨hk3, m, rfl, hman, hmr⟩
 have hman2 := hman.trans HB.o.2
 obtain ⟨⟨ra, rc, hrv⟩, va, vc, hpv⟩ := hmr.forms
 have hag : aggM m = .agg #[.string m.s, .int .i64 m.area.1, .int .i64 m.area.2, .slice ra m.rest.length rc, .slice va m.places.length vc] := by unfold aggM; rw [hrv, hpv]
 rw [hag]
 have hka : Keep [] w3 (w3.alloc (.cells #[.string m.s, .int .i64 m.area.1, .int .i64 m.area.2, .slice ra m.rest.length rc, .slice va m.places.length vc] 38)) := (Keep.refl [] w3).alloc _
 have HB7 := hyd (heap_new w3 (.cells #[.string m.s, .int .i64 m.area.1, .int .i64 m.area.2, .slice ra m.rest.length rc, .slice va m.places.length vc] 38))
 have HK4 := hyd ((HK2.o.trans hk3 (by simp)).trans hka (by simp))
 have HB34 := hyd (blkk (blkk HB32.o hk3 (by simp)) hka (by simp))
 have HB44 := hyd (blkk (blkk HB42.o hk3 (by simp)) hka (by simp))
 have HMR := hyd (hmr.keep hka (by simp))
 have HMAN := hyd hman2
 have HAG := hyd (And.intro hag (And.intro hrv hpv))
 have HS3 := hyd (show w.heap.size + 2 ≤ w3.heap.size from by have h1 := HK2.o.size; have h2 := hk3.size; have h4 := HS1.o; have h5 := (Array.getElem?_eq_some_iff.1 HB42.o).1; omega)
 clear hk3 hman hman2 hmr hrv hpv hka HG HB32 HB42
 go_upto_region 5 with fail
 generalize w3.alloc (.cells #[.string m.s, .int .i64 m.area.1, .int .i64 m.area.2, .slice ra m.rest.length rc, .slice va m.places.length vc] 38) = w4 at *
 generalize w3.heap.size = B7 at *
 have hp0 : (w.heap.size + 1) ≠ w.heap.size := by omega
 have hp7 : (w.heap.size + 1) ≠ B7 := by have := HS3.o; omega
 have HCS := hyd (fun (W : World) (hk : Keep [w.heap.size + 1] w4 W) => And.intro (cells4s (blkk HB34.o hk (by simp))) (cells5 (blkk HB7.o hk (by simp; omega))))
 have HCKM := hyd (fun (W : World) (hk : Keep [] w4 W) => p_check (w := W) (m := m) (blocks := (d.n : Int)) (size := (d.sz : Int)) ((HMR.o.keep hk (by simp)).rdm) (by
   have h1 := HAL.o
   have h2 : allL m.area m.places = m.man.area :: plcX m.man.places := by
     unfold allL MnV.man plcX
     rw [List.flatMap_map]
   rw [h2, HMAN.o]
   exact h1) (by omega) (by omega))
 rw [HAG.o.1] at HCKM
 refine wp_region_held_drew (S := fun w' => Keep [w.heap.size + 1] w4 w') (by kernel_rfl) ((Keep.refl [w.heap.size + 1] w4).drew) (fun hHeld => ?_)
 refine tkL 0 ?vR0 rfl ?runR0 hHeld ?_
 case runR0 => (intro w9 hS9; obtain ⟨⟨c0, c1, c2, c3⟩, m0, m1, m2, m3, m4⟩ := HCS.o w9 hS9; go_simp; try exact rfl)
 try simp only [Act.put, lA, lZ, lS]
 refine tkL 1 ?vR1 rfl ?runR1 hHeld ?_
 case runR1 => (intro w9 hS9; obtain ⟨⟨c0, c1, c2, c3⟩, m0, m1, m2, m3, m4⟩ := HCS.o w9 hS9; go_simp; try exact rfl)
 try simp only [Act.put, lA, lZ, lS]
 refine tkL 2 ?vR2 rfl ?runR2 hHeld ?_
 case runR2 => (intro w9 hS9; obtain ⟨⟨c0, c1, c2, c3⟩, m0, m1, m2, m3, m4⟩ := HCS.o w9 hS9; go_simp; try exact rfl)
 try simp only [Act.put, lA, lZ, lS]
 refine tkL 3 ?vR3 rfl ?runR3 hHeld ?_
 case runR3 => (intro w9 hS9; obtain ⟨⟨c0, c1, c2, c3⟩, m0, m1, m2, m3, m4⟩ := HCS.o w9 hS9; go_simp; try exact rfl)
 try simp only [Act.put, lA, lZ, lS]
 refine tkL 4 ?vR4 rfl ?runR4 hHeld ?_
 case runR4 => (intro w9 hS9; obtain ⟨⟨c0, c1, c2, c3⟩, m0, m1, m2, m3, m4⟩ := HCS.o w9 hS9; go_simp; try exact rfl)
 try simp only [Act.put, lA, lZ, lS]
 refine tkL 5 ?vR5 rfl ?runR5 hHeld ?_
 case runR5 => (intro w9 hS9; obtain ⟨⟨c0, c1, c2, c3⟩, m0, m1, m2, m3, m4⟩ := HCS.o w9 hS9; go_simp; try exact rfl)
 try simp only [Act.put, lA, lZ, lS]
 refine tkL 6 ?vR6 rfl ?runR6 hHeld ?_
 case runR6 => (intro w9 hS9; obtain ⟨⟨c0, c1, c2, c3⟩, m0, m1, m2, m3, m4⟩ := HCS.o w9 hS9; go_simp; try exact rfl)
 try simp only [Act.put, lA, lZ, lS]
 refine tkL 8 ?vR8 rfl ?runR8 hHeld ?_
 case runR8 => (intro w9 hS9; obtain ⟨⟨c0, c1, c2, c3⟩, m0, m1, m2, m3, m4⟩ := HCS.o w9 hS9; go_simp; try exact rfl)
 try simp only [Act.put, lA, lZ, lS]
 refine tkL 10 ?vR10 rfl ?runR10 hHeld ?_
 case runR10 => (intro w9 hS9; obtain ⟨⟨c0, c1, c2, c3⟩, m0, m1, m2, m3, m4⟩ := HCS.o w9 hS9; go_simp; try exact rfl)
 try simp only [Act.put, lA, lZ, lS]
 have HC0 := hyd (Keep.refl [] w4).drew
 refine wpAnyH_ready (rs := [7]) (by kernel_rfl) (by simp) ?_
 refine AllReadyH.consL rfl (fun K hK => ?_) (AllReadyH.nil)
 go_simp
 refine (HBS.o _ (HK4.o.trans HC0.o (by simp))).mono ?_
 rintro e w5 ⟨rfl, hkw5⟩
 have HC1 := hyd (HC0.o.trans hkw5 (by simp))
 go_wp2_with fail
 refine hK.out _ _ (HC1.o.mono (by simp)) (fun hHeld2 => ?_)
 clear hK K hHeld; have hHeld := hHeld2; clear hHeld2
 try simp only [Act.put, lA, lZ, lS]
 refine wpAnyH_ready (rs := [9]) (by kernel_rfl) (by simp) ?_
 refine AllReadyH.consL rfl (fun K hK => ?_) (AllReadyH.nil)
 go_simp
 refine (HSZ.o _ (HK4.o.trans HC1.o (by simp))).mono ?_
 rintro e w6 ⟨rfl, hkw6⟩
 have HC2 := hyd (HC1.o.trans hkw6 (by simp))
 go_wp2_with fail
 refine hK.out _ _ (HC2.o.mono (by simp)) (fun hHeld2 => ?_)
 clear hK K hHeld; have hHeld := hHeld2; clear hHeld2
 try simp only [Act.put, lA, lZ, lS]
 refine wpAnyH_ready (rs := [11]) (by kernel_rfl) (by simp) ?_
 refine AllReadyH.consL rfl (fun K hK => ?_) (AllReadyH.nil)
 go_simp
 refine (HCKM.o _ HC2.o).mono ?_
 rintro e w7 ⟨r7, rfl, hr7, hk7⟩
 obtain rfl : r7 = 0 := by
  rcases hr7 with ⟨h, -⟩ | ⟨-, h⟩
  ·exact h
  ·exact absurd (OkMan.okM (HMAN.o ▸ HCK.o)) h
 have HC3 := hyd (HC2.o.trans hk7 (by simp))
 go_wp2_with fail
 refine hK.out _ _ (HC3.o.mono (by simp)) (fun hHeld2 => ?_)
 clear hK K hHeld; have hHeld := hHeld2; clear hHeld2
 try simp only [Act.put, lA, lZ, lS]
 refine tkL 12 ?vZ12 rfl ?runZ12 hHeld ?_
 case runZ12 => (intro w9 hS9; obtain ⟨⟨c0, c1, c2, c3⟩, m0, m1, m2, m3, m4⟩ := HCS.o w9 hS9; go_simp; try exact rfl)
 try simp only [Act.put, lA, lZ, lS]
 refine tkL 13 ?vZ13 rfl ?runZ13 hHeld ?_
 case runZ13 => (intro w9 hS9; obtain ⟨⟨c0, c1, c2, c3⟩, m0, m1, m2, m3, m4⟩ := HCS.o w9 hS9; go_simp; try exact rfl)
 try simp only [Act.put, lA, lZ, lS]
 have hb47 := blkk HB44.o HC3.o (by simp)
 have fb := frozen4 hb47
 obtain ⟨p0, p1, p2, p3, p4, p5, p6, p7, p8⟩ := cells9 hb47
 have HS9 := hyd (set9 hb47 (.int .u64 (gen : Nat)) (.slice ga ps.length gc) (.int .i64 (M2 : Nat)) (.int .i64 ep) (.string m.s) (.int .i64 m.area.1) (.int .i64 m.area.2) (.slice ra m.rest.length rc) (.slice va m.places.length vc))
 have HKE := hyd ((HC3.o.mono (G := [w.heap.size + 1]) (by simp)).trans HS9.o.2 (fun b hb => .inl hb))
 refine wpAnyH_ready (rs := [14]) (by kernel_rfl) (by simp) ?_
 refine AllReadyH.consL rfl (fun K hK => ?_) (AllReadyH.nil)
 go_simp
 clear fb p0 p1 p2 p3 p4 p5 p6 p7 p8
 generalize (((((((((w7.setCell ⟨w.heap.size + 1, 0, none⟩ (.int .u64 (gen : Nat))).setCell ⟨w.heap.size + 1, 1, none⟩ (.slice ga ps.length gc)).setCell ⟨w.heap.size + 1, 2, none⟩ (.int .i64 (M2 : Nat))).setCell ⟨w.heap.size + 1, 3, none⟩ (.int .i64 ep)).setCell ⟨w.heap.size + 1, 4, none⟩ (.string m.s)).setCell ⟨w.heap.size + 1, 5, none⟩ (.int .i64 m.area.1)).setCell ⟨w.heap.size + 1, 6, none⟩ (.int .i64 m.area.2)).setCell ⟨w.heap.size + 1, 7, none⟩ (.slice ra m.rest.length rc)).setCell ⟨w.heap.size + 1, 8, none⟩ (.slice va m.places.length vc)) = w8 at *
 refine hK.out _ _ HKE.o (fun hHeld2 => ?_)
 clear hK K hHeld; have hHeld := hHeld2; clear hHeld2
 try simp only [Act.put, lA, lZ, lS]
 refine tkL 15 ?vY15 rfl ?runY15 hHeld ?_
 case runY15 => (intro w9 hS9; go_simp; try exact rfl)
 try simp only [Act.put, lA, lZ, lS]
 refine wpAnyH_done (by kernel_rfl) ?_ _
 go_wp2_with fail
 refine bodyPost_ret (results_cell_tmp (ty := 82) rfl _ _ (w.heap.size + 1) _ _ _ _ rfl HS9.o.1 Tryz.underlying82 rfl pt_size) rfl ?_
 refine ⟨m, by unfold aggPt; rw [HAG.o.2.1, HAG.o.2.2]; rfl, HMAN.o, (HMR.o.keep HKE.o (fun b hb _ h => ?_)).mono (fun b _ h => ?_), HK4.o.trans HKE.o (fun b hb => ?_)⟩
 ·have := HS2.o
  simp at hb
  omega
 ·have := HS2.o
  omega
 ·simp at hb
  exact .inr (by omega)
end Go.Proofs.YtimpadpeibgmoaaGreat
