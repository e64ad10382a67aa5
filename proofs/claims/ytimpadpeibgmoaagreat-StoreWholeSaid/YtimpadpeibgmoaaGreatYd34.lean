/- A part of the proof (St10), joined by squeeze2.py. -/
import Derived.Test.YtimpadpeibgmoaaGreatYd33
set_option maxHeartbeats 8000000
set_option maxRecDepth 100000
namespace Go.Proofs.YtimpadpeibgmoaaGreat
open Go.RowKit Go.Emb Go.Lib Go.Emb.Ext Go.Shelf
attribute [local go_sem] Oper.semAt_some
section
variable {s : Nat} {D D' : List Nat} {w w' : World}
theorem turn_no (hD : ∀ b ∈ D', b ∈ D ∨ w.heap.size ≤ b) : ∀ b, b < w.heap.size → b ∉ s :: D → b ∉ s :: D ∧ b ∉ s :: D' := fun b hlt hb => ⟨hb, fun hm => by
  rcases List.mem_cons.1 hm with rfl | hm
  · exact hb (by simp)
  · rcases hD b hm with h1 | h1
    · exact hb (by simp [h1])
    · omega⟩
theorem XRd.turn {v : Value} {xs : List (Int × Int)} (h : XRd (fun b => b ∉ s :: D) w v xs) (hk : Keep D w w') (hD : ∀ b ∈ D', b ∈ D ∨ w.heap.size ≤ b) : XRd (fun b => b ∉ s :: D') w' v xs :=
 ((h.mono (turn_no hD)).keep hk (fun _ hb _ hS => hS.1 (List.mem_cons_of_mem _ hb))).mono (fun _ _ h => h.2)
theorem MRd.turn {m : MnV} (h : MRd (fun b => b ∉ s :: D) w m) (hk : Keep D w w') (hD : ∀ b ∈ D', b ∈ D ∨ w.heap.size ≤ b) : MRd (fun b => b ∉ s :: D') w' m :=
 ((h.mono (turn_no hD)).keep hk (fun _ hb _ hS => hS.1 (List.mem_cons_of_mem _ hb))).mono (fun _ _ h => h.2)
theorem IRd.turn {v : Value} {xs : List ImV} (h : IRd (fun b => b ∉ s :: D) w v xs) (hk : Keep D w w') (hD : ∀ b ∈ D', b ∈ D ∨ w.heap.size ≤ b) : IRd (fun b => b ∉ s :: D') w' v xs :=
 ((h.mono (turn_no hD)).keep hk (fun _ hb _ hS => hS.1 (List.mem_cons_of_mem _ hb))).mono (fun _ _ h => h.2)
end
def imgW (sz : Nat) (m : MnV) (y : ImV) : List (Nat × List UInt8) := layW sz (blkL ((findL m y.pid).map (·.p.pieces) |>.getD [])) 73 y.pid.toNat y.b
def allW (sz : Nat) (sp : Sup) (m : MnV) (dirty : List ImV) : List (Nat × List UInt8) :=
 dirty.flatMap (imgW sz m) ++ layW sz (blkL sp.ps) 77 sp.gen (manL m.man) ++ [(sp.gen % 2, sealL sz ⟨83, sp.gen, loadL sp⟩)]
structure WriteIn (w : World) (s q : Nat) (lm : List Int) (D : List Nat) (d : DS) (x : SV) (sp : Sup) (pv : Value) (m : MnV) (iv : Value) (dirty : List ImV) : Prop where
 st : STD w s q lm D d x
 px : XRd (fun b => b ∉ s :: D) w pv sp.ps
 mx : MRd (fun b => b ∉ s :: D) w m
 ix : IRd (fun b => b ∉ s :: D) w iv dirty
 mpl : m.places.length ≤ 1000000
 fd : ∀ y ∈ dirty, 1 ≤ y.pid ∧ y.b ≠ [] ∧ ∃ z, findL m y.pid = some z ∧ (∀ e ∈ z.p.pieces, 0 ≤ e.1 ∧ 1 ≤ e.2 ∧ e.1 + e.2 ≤ d.n) ∧ (blkL z.p.pieces).length = cnt (roomN d.sz) y.b
 fm : (∀ e ∈ sp.ps, 0 ≤ e.1 ∧ 1 ≤ e.2 ∧ e.1 + e.2 ≤ d.n) ∧ (blkL sp.ps).length = cnt (roomN d.sz) (manL m.man)
 ml : (manL m.man).length ≤ 1048576
 ok : okS d.n sp
 fit : (loadL sp).length ≤ roomN d.sz
 gen : sp.gen < 18446744073709551616
 lg : lm.length + (allW d.sz sp m dirty).length ≤ 1000000
 n2 : 2 ≤ d.n
theorem imgW_len {sz : Nat} {m : MnV} {y : ImV} {z : PlV} (h : findL m y.pid = some z) (hc : (blkL z.p.pieces).length = cnt (roomN sz) y.b) : imgW sz m y = layW sz (blkL z.p.pieces) 73 y.pid.toNat y.b ∧ (imgW sz m y).length = (blkL z.p.pieces).length := by
 have e : imgW sz m y = layW sz (blkL z.p.pieces) 73 y.pid.toNat y.b := by unfold imgW; rw [h]; rfl
 refine ⟨e, ?_⟩
 rw [e]
 unfold layW
 rw [List.length_zip, secs_len]
 omega
theorem take_flat {α β : Type} (f : α → List β) (l : List α) (k : Nat) : ((l.take k).flatMap f).length ≤ (l.flatMap f).length := by
 conv => rhs; rw [← List.take_append_drop k l]
 rw [List.flatMap_append, List.length_append]
 omega
theorem man_pos (m : Man) : manL m ≠ [] := fun h => by
 have := congrArg List.length h
 have h1 := (numL_length m.source.length 0).2
 unfold manL strL at this
 simp only [List.length_append, List.length_nil] at this
 omega
theorem st_write {w : World} {s q : Nat} {lm : List Int} {D : List Nat} {d : DS} {x : SV} {sp : Sup} {pv : Value} {m : MnV} {iv : Value} {dirty : List ImV} (h : WriteIn w s q lm D d x sp pv m iv dirty) :
  Calls Tryz.prog 37 #[.pointer (some ⟨s, 0, none⟩), aggPt sp pv m, iv] w (LayP w s q lm D d x (allW d.sz sp m dirty)) := by
 obtain ⟨⟨ra, rc, hrv⟩, pa, pc, hpv⟩ := h.mx.forms
 obtain ⟨ga, gc, hgv, -, -⟩ := h.px.form
 obtain ⟨ia, ic, rfl⟩ := h.ix.form
 have hok := h.st.dk.isok
 have hag : aggPt sp pv m = .agg #[.int .u64 (sp.gen : Nat), .slice ga sp.ps.length gc, .int .i64 sp.len, .int .i64 sp.ep, .string m.s, .int .i64 m.area.1, .int .i64 m.area.2, .slice ra m.rest.length rc, .slice pa m.places.length pc] := by unfold aggPt; rw [hrv, hpv, hgv]
 rw [hag]
 have H := hyd h
 have HRV := hyd (And.intro hrv (And.intro hpv hgv))
 have hil := h.ix.2.2
 have hk1 : Keep [] w (w.alloc (ptBox (.int .u64 (sp.gen : Nat)) (.slice ga sp.ps.length gc) (.int .i64 sp.len) (.int .i64 sp.ep) (.string m.s) (.int .i64 m.area.1) (.int .i64 m.area.2) (.slice ra m.rest.length rc) (.slice pa m.places.length pc))) := (Keep.refl [] w).alloc _
 have hb4 := heap_new w (ptBox (.int .u64 (sp.gen : Nat)) (.slice ga sp.ps.length gc) (.int .i64 sp.len) (.int .i64 sp.ep) (.string m.s) (.int .i64 m.area.1) (.int .i64 m.area.2) (.slice ra m.rest.length rc) (.slice pa m.places.length pc))
 have HK1 := hyd hk1
 have HB4 := hyd hb4
 have hDl : ∀ b ∈ D, b < w.heap.size := h.st.dk.lt
 have HDL := hyd hDl
 have HFW := hyd (show ∀ p ∈ dirty.flatMap (imgW d.sz m), FitW d p from fun p hp => by
   obtain ⟨y, hy, hp⟩ := List.mem_flatMap.1 hp
   obtain ⟨h1, h2, z, hz, h3, h4⟩ := h.fd y hy
   rw [(imgW_len hz h4).1] at hp
   have h5 := (h.ix.2.1 y hy).1
   unfold I64 at h5
   exact layW_fit hok (by decide) (by omega) (blk_lt h3) p hp)
 clear h hrv hpv hgv hag hk1 hb4 hDl
 unfold ptBox at HK1 HB4
 go_enter Tryz.func37, Tryz.ntmps37
 go_wp2_with fail
 generalize w.alloc (.cells #[.int .u64 (sp.gen : Nat), .slice ga sp.ps.length gc, .int .i64 sp.len, .int .i64 sp.ep, .string m.s, .int .i64 m.area.1, .int .i64 m.area.2, .slice ra m.rest.length rc, .slice pa m.places.length pc] 82) = w1 at *
 go_loopw [15] (fun i wr => ∃ (k : Nat) (D' : List Nat), k ≤ dirty.length ∧ i = .int .i64 k ∧ (runW d ((dirty.take k).flatMap (imgW d.sz m))).1 = 0 ∧ STD wr s q (lm ++ (runW d ((dirty.take k).flatMap (imgW d.sz m))).2.2) D' (runW d ((dirty.take k).flatMap (imgW d.sz m))).2.1 x ∧ (∀ b ∈ D', b ∈ D ∨ w1.heap.size ≤ b) ∧ Keep D w1 wr) (fun i _ => dirty.length - (intOf i).toNat)
 case atStart => exact ⟨0, D, Nat.zero_le _, rfl, by simp [runW], by simpa [runW] using H.o.st.keep0 HK1.o, fun b hb => .inl hb, Keep.refl _ _⟩
 case round =>
  obtain ⟨k, D', hk, rfl, hrun, hst, hD', hkw⟩ := hrel
  have hno : w.heap.size ∉ D := fun hm => by have := HDL.o _ hm; omega
  have hbw := blkk HB4.o hkw hno
  have hix := IRd.turn (D' := D') (H.o.ix.keep HK1.o (by simp)) hkw hD'
  have hmx := MRd.turn (D' := D') (H.o.mx.keep HK1.o (by simp)) hkw hD'
  have HRUN := hyd hrun
  have HST := hyd hst
  have HD' := hyd hD'
  have HKW := hyd hkw
  have HBW := hyd hbw
  have HIX := hyd hix
  have HMX := hyd hmx
  obtain ⟨b0, b1, b2, b3, b4, b5, b6, b7, b8⟩ := cells9 hbw
  clear hrun hst hD' hkw hbw hix hmx hno
  by_cases hlt : k < dirty.length
  ·obtain ⟨ib, ioff, rfl, -, -, g0, g1⟩ := HIX.o.at hlt
   have hfd := H.o.fd _ (List.getElem_mem hlt)
   have hIb := HIX.o.2.1 _ (List.getElem_mem hlt)
   have hts : (dirty.take (k + 1)).flatMap (imgW d.sz m) = (dirty.take k).flatMap (imgW d.sz m) ++ imgW d.sz m dirty[k] := by rw [List.take_succ_eq_append_getElem hlt, List.flatMap_append]; simp
   have htl := take_flat (imgW d.sz m) dirty (k + 1)
   obtain ⟨y, hy⟩ : ∃ y, y = dirty[k] := ⟨_, rfl⟩
   rw [← hy] at g0 g1 hfd hIb hts
   obtain ⟨ya, yc, hyv, -, -⟩ := hIb.2.form
   rw [hyv] at g1 hIb
   obtain ⟨hpid, hyne, z, hz, hzin, hzc⟩ := hfd
   obtain ⟨za, zc, hzv, -, -⟩ := (HMX.o.2.2.2.2.1 z (List.mem_of_find?_eq_some hz)).2.2.form
   have hka : Keep [] wr (wr.alloc (.cells #[.int .i64 y.pid, .slice ya y.b.length yc] 52)) := (Keep.refl [] wr).alloc _
   have HIM := hyd (heap_new wr (.cells #[.int .i64 y.pid, .slice ya y.b.length yc] 52))
   have hfi := p_find (w := wr.alloc (.cells #[.int .i64 y.pid, .slice ya y.b.length yc] 52)) (m := m) ((HMX.o.keep hka (by simp)).rdm) H.o.mpl hIb.1
   unfold FindP aggM at hfi
   rw [hz, HRV.o.1, HRV.o.2.1] at hfi
   have hap : aggP z = .agg #[.int .i64 z.p.pid, .int .i64 z.p.len, .slice za z.p.pieces.length zc] := by unfold aggP; rw [hzv]
   simp only [Option.map_some, Option.getD_some, Option.isSome_some, hap] at hfi
   have HFI := hyd hfi
   have HKA := hyd hka
   have HZV := hyd hzv
   have HTS := hyd hts
   have HZ := hyd hz
   have HIB := hyd hIb
   have HZIN := hyd hzin
   clear hfi hap hy hka hzv hts hz hIb hzin
   clear b0 b1 b2 b3 b4 b5 b6 b7 b8
   have i0' : (0 : Int) ≤ (k : Int) := by omega
   have i1' : (k : Int) < (dirty.length : Int) := by omega
   go_upto_region 4 with fail
   generalize wr.alloc (.cells #[.int .i64 y.pid, .slice ya y.b.length yc] 52) = wa at *
   have hbi : wr.heap.size < wa.heap.size := (Array.getElem?_eq_some_iff.1 HIM.o).1
   generalize wr.heap.size = Bi at *
   clear g0 g1
   obtain ⟨b0, b1, b2, b3, b4, b5, b6, b7, b8⟩ := cells9 (blkk HBW.o HKA.o (by simp))
   obtain ⟨g0, g1⟩ := cells2 HIM.o
   go_wp2_with fail
   refine HFI.o.mono ?_
   rintro e wf ⟨hkf, rfl⟩
   have hkaf := HKA.o.trans hkf (by simp)
   have HKF := hyd (hkaf.trans ((Keep.refl [] wf).alloc (.cells #[.int .i64 z.p.pid, .int .i64 z.p.len, .slice za z.p.pieces.length zc] 48)) (by simp))
   have hplf := heap_new wf (.cells #[.int .i64 z.p.pid, .int .i64 z.p.len, .slice za z.p.pieces.length zc] 48)
   have HIM2 := hyd (lit_alloc (blkk HIM.o hkf (by simp)) (.cells #[.int .i64 z.p.pid, .int .i64 z.p.len, .slice za z.p.pieces.length zc] 48))
   have HPLF := hyd hplf
   clear b0 b1 b2 b3 b4 b5 b6 b7 b8 g0 g1 hkf hkaf hplf HFI
   go_upto_region 5 with fail
   generalize wf.alloc (.cells #[.int .i64 z.p.pid, .int .i64 z.p.len, .slice za z.p.pieces.length zc] 48) = wg at *
   generalize wf.heap.size = Bp at *
   obtain ⟨g0, g1⟩ := cells2 HIM2.o
   obtain ⟨p0, p1, p2⟩ := cells3b HPLF.o
   have hI64 := HIB.o.1
   unfold I64 at hI64
   obtain ⟨pn, hpn⟩ : ∃ n : Nat, n = y.pid.toNat := ⟨_, rfl⟩
   have hwp : IntKind.u64.wrap y.pid = (pn : Int) := (IntWalk.u64_in _ (by omega)).trans (by omega)
   have hro := runW_ok ((dirty.take k).flatMap (imgW d.sz m)) hok (fun p hp => HFW.o p (by
     rw [← List.take_append_drop k dirty, List.flatMap_append]
     exact List.mem_append_left _ hp))
   have hly := st_lay (w := wg) (kind := 73) (num := y.pid.toNat) (HST.o.keep0 HKF.o) (v := .slice za z.p.pieces.length zc) (pl := z.p.pieces) (by
       have h1 := ((HMX.o.2.2.2.2.1 z (List.mem_of_find?_eq_some HZ.o)).2.2).keep HKF.o (by simp)
       rw [HZV.o] at h1
       exact h1) (by rw [hro.2.1]; exact HZIN.o) (HIB.o.2.keep HKF.o (by simp)) hyne (by rw [hro.2.2.1]; exact hzc) (by decide) (by omega) (by
       have h1 := runW_len ((dirty.take k).flatMap (imgW d.sz m)) d
       have h2 := H.o.lg
       unfold allW at h2
       have h3 := (imgW_len HZ.o hzc).2
       rw [HTS.o] at htl
       simp only [List.length_append] at h2 htl ⊢
       omega)
   rw [hro.2.2.1, ← (imgW_len HZ.o hzc).1, show (((73 : UInt8).toNat : Nat) : Int) = 73 from rfl, ← hpn] at hly
   have HLY := hyd hly
   have HRO := hyd hro
   clear hly hro hpn
   obtain ⟨dk, hdk⟩ : ∃ z, z = (runW d ((dirty.take k).flatMap (imgW d.sz m))).2.1 := ⟨_, rfl⟩
   have hRN : runW d ((dirty.take (k + 1)).flatMap (imgW d.sz m)) = ((runW dk (imgW d.sz m y)).1, (runW dk (imgW d.sz m y)).2.1, (runW d ((dirty.take k).flatMap (imgW d.sz m))).2.2 ++ (runW dk (imgW d.sz m y)).2.2) := by
    rw [HTS.o, runW_append, if_pos HRUN.o, hdk]
   have HRN := hyd hRN
   rw [← hdk] at HLY
   clear hRN hdk
   go_wp2_with fail
   refine HLY.o.mono ?_
   rintro e wl ⟨D2, rfl, hst2, hD2, hk2⟩
   obtain ⟨cc, hcc⟩ : ∃ c, c = (runW dk (imgW d.sz m y)).1 := ⟨_, rfl⟩
   rw [← hcc]
   have hkall : Keep D w1 wl := (HKW.o.trans (HKF.o) (by simp)).trans hk2 (fun b hb => by
     rcases HD'.o b hb with h | h
     · exact .inl h
     · exact .inr h)
   have hD2a : ∀ b ∈ D2, b ∈ D ∨ w1.heap.size ≤ b := fun b hb => by
    rcases hD2 b hb with h | h
    ·exact HD'.o b h
    ·have h1 := (HKW.o.trans (HKF.o) (by simp)).size
     exact .inr (by omega)
   rw [List.append_assoc] at hst2
   have HST2 := hyd hst2
   have HD2 := hyd hD2a
   have HKL := hyd hkall
   have HCC := hyd hcc
   clear hst2 hD2 hk2 hkall hD2a hcc HLY g0 g1 p0 p1 p2
   by_cases hc : cc = 0
   ·subst hc
    go_wp2_with fail
    go_roundw
    case rel => exact ⟨k + 1, D2, by omega, by go_num, by rw [HRN.o]; exact HCC.o.symm, by rw [HRN.o]; exact HST2.o, HD2.o, HKL.o⟩
    case measure => show dirty.length - (k + 1) < dirty.length - k; omega
   ·have hc' : (cc != 0) = true := by rw [bne_iff_ne]; exact hc
    have hne : (runW d ((dirty.take (k + 1)).flatMap (imgW d.sz m))).1 ≠ 0 := by rw [HRN.o]; simp only; rw [← HCC.o]; exact hc
    have hall : runW d (allW d.sz sp m dirty) = runW d ((dirty.take (k + 1)).flatMap (imgW d.sz m)) := by
     unfold allW
     rw [← List.take_append_drop (k + 1) dirty, List.flatMap_append, List.append_assoc, List.append_assoc, runW_append, List.take_append_drop, if_neg hne]
    have HALL := hyd hall
    clear hall hne hc
    go_wp2_with fail
    go_ret
    have hkw : Keep D w wl := (HK1.o.mono (by simp)).trans HKL.o (fun b hb => .inl hb)
    have hDw : ∀ b ∈ D2, b ∈ D ∨ w.heap.size ≤ b := fun b hb => (HD2.o b hb).imp id (fun h => Nat.le_trans HK1.o.size h)
    exact ⟨D2, by rw [HALL.o, HRN.o]; simp only; rw [← HCC.o]; rfl, by rw [HALL.o, HRN.o]; exact HST2.o, hDw, hkw⟩
  ·obtain rfl : k = dirty.length := by omega
   rw [List.take_length] at HRUN HST
   clear b0 b1 b2 b3 b4 b5 b6 b7 b8 HIX
   have hro := runW_ok (dirty.flatMap (imgW d.sz m)) hok HFW.o
   have hlen0 := runW_len (dirty.flatMap (imgW d.sz m)) d
   have hsw : s < w.heap.size := (Array.getElem?_eq_some_iff.1 H.o.st.blk).1
   have hBD : w.heap.size ∉ D' := fun hm => by
    rcases HD'.o _ hm with h | h
    ·have := HDL.o _ h; omega
    ·have := (Array.getElem?_eq_some_iff.1 HB4.o).1; omega
   have hDl' : ∀ b ∈ D', b < wr.heap.size := HST.o.dk.lt
   have hsz1 : w.heap.size < wr.heap.size := (Array.getElem?_eq_some_iff.1 HBW.o).1
   have HCS := hyd (fun (W : World) (hk : Keep D' wr W) => cells9 (blkk HBW.o hk hBD))
   have HPUT := hyd (fun (W : World) (hk : Keep [] wr W) => p_put (w := W) (m := m) ((HMX.o.keep hk (by simp)).rdm) (by have := H.o.ml; omega))
   unfold aggM at HPUT
   rw [HRV.o.1, HRV.o.2.1] at HPUT
   obtain ⟨dk, hdk⟩ : ∃ z, z = (runW d (dirty.flatMap (imgW d.sz m))).2.1 := ⟨_, rfl⟩
   have hpx := XRd.turn (D' := D') (H.o.px.keep HK1.o (by simp)) HKW.o HD'.o
   rw [HRV.o.2.2] at hpx
   have HPX := hyd hpx
   have HLY := hyd (fun (W : World) (hk : Keep [] wr W) (v : Value) (hv : BRd (fun b => b ∉ s :: D') W v (manL m.man)) => st_lay (w := W) (kind := 77) (num := sp.gen) (HST.o.keep0 hk) (hpx.keep hk (by simp)) (by rw [hro.2.1]; exact H.o.fm.1) hv (man_pos _) (by rw [hro.2.2.1]; exact H.o.fm.2) (by decide) H.o.gen (by
     have h2 := H.o.lg
     have h3 := H.o.fm.2
     unfold allW at h2
     have h4 : (layW d.sz (blkL sp.ps) 77 sp.gen (manL m.man)).length = (blkL sp.ps).length := by unfold layW; rw [List.length_zip, secs_len]; omega
     simp only [List.length_append] at h2 ⊢
     omega))
   rw [hro.2.2.1, show (((77 : UInt8).toNat : Nat) : Int) = 77 from rfl, ← hdk] at HLY
   have HRO := hyd hro
   have HLN0 := hyd hlen0
   rw [← hdk] at HRO
   have HDK := hyd hdk
   clear hro hlen0 hpx hdk
   go_upto_region 9 with fail
   refine wp_region_held_drew (S := fun w' => Keep D' wr w') (by kernel_rfl) ((Keep.refl D' wr).drew) (fun hHeld => ?_)
   refine tkL 0 ?vR0 rfl ?runR0 hHeld ?_
   case runR0 => (intro w9 hS9; obtain ⟨b0, b1, b2, b3, b4, b5, b6, b7, b8⟩ := HCS.o w9 hS9; go_simp; try exact rfl)
   try simp only [Act.put, lA, lZ, lS]
   refine tkL 1 ?vR1 rfl ?runR1 hHeld ?_
   case runR1 => (intro w9 hS9; obtain ⟨b0, b1, b2, b3, b4, b5, b6, b7, b8⟩ := HCS.o w9 hS9; go_simp; try exact rfl)
   try simp only [Act.put, lA, lZ, lS]
   refine tkL 2 ?vR2 rfl ?runR2 hHeld ?_
   case runR2 => (intro w9 hS9; obtain ⟨b0, b1, b2, b3, b4, b5, b6, b7, b8⟩ := HCS.o w9 hS9; go_simp; try exact rfl)
   try simp only [Act.put, lA, lZ, lS]
   refine tkL 3 ?vR3 rfl ?runR3 hHeld ?_
   case runR3 => (intro w9 hS9; obtain ⟨b0, b1, b2, b3, b4, b5, b6, b7, b8⟩ := HCS.o w9 hS9; go_simp; try exact rfl)
   try simp only [Act.put, lA, lZ, lS]
   refine tkL 4 ?vR4 rfl ?runR4 hHeld ?_
   case runR4 => (intro w9 hS9; obtain ⟨b0, b1, b2, b3, b4, b5, b6, b7, b8⟩ := HCS.o w9 hS9; go_simp; try exact rfl)
   try simp only [Act.put, lA, lZ, lS]
   refine tkL 5 ?vR5 rfl ?runR5 hHeld ?_
   case runR5 => (intro w9 hS9; obtain ⟨b0, b1, b2, b3, b4, b5, b6, b7, b8⟩ := HCS.o w9 hS9; go_simp; try exact rfl)
   try simp only [Act.put, lA, lZ, lS]
   refine tkL 6 ?vR6 rfl ?runR6 hHeld ?_
   case runR6 => (intro w9 hS9; obtain ⟨b0, b1, b2, b3, b4, b5, b6, b7, b8⟩ := HCS.o w9 hS9; go_simp; try exact rfl)
   try simp only [Act.put, lA, lZ, lS]
   refine tkL 7 ?vR7 rfl ?runR7 hHeld ?_
   case runR7 => (intro w9 hS9; obtain ⟨b0, b1, b2, b3, b4, b5, b6, b7, b8⟩ := HCS.o w9 hS9; go_simp; try exact rfl)
   try simp only [Act.put, lA, lZ, lS]
   refine tkL 8 ?vR8 rfl ?runR8 hHeld ?_
   case runR8 => (intro w9 hS9; obtain ⟨b0, b1, b2, b3, b4, b5, b6, b7, b8⟩ := HCS.o w9 hS9; go_simp; try exact rfl)
   try simp only [Act.put, lA, lZ, lS]
   refine wpAnyH_ready (rs := [9]) (by kernel_rfl) (by simp) ?_
   refine AllReadyH.consL rfl (fun K hK => ?_) (AllReadyH.nil)
   go_simp
   refine (HPUT.o _ (Keep.refl [] wr).drew).mono ?_
   rintro e w5 ⟨v5, o5, rfl, hr5, ho5, hk5⟩
   obtain ⟨qa, qc, rfl, -⟩ := hr5.form
   have hk5' := (Keep.refl [] wr).drew.trans hk5 (by simp)
   have hbr : BRd (fun b => b ∉ s :: D') w5 (.slice qa (manL m.man).length qc) (manL m.man) := by
    obtain ⟨o6, h1, h2⟩ := Row.rd hr5
    refine ⟨⟨o6, h1, fun b hb => ?_⟩, by have := H.o.ml; omega⟩
    rcases h2 with h2 | h2
    ·rw [h2] at hb; cases hb
    ·have h3 := ho5 b (h2 ▸ hb)
     simp only [World.drew] at h3
     refine ⟨RB.lt hr5 b (h2 ▸ hb), fun hm => ?_⟩
     rcases List.mem_cons.1 hm with rfl | hm
     ·omega
     ·have := hDl' b hm; omega
   have HLY5 := hyd (HLY.o w5 hk5' _ hbr)
   have HK5 := hyd hk5'
   have hS5 := hk5'.mono (G := D') (by simp)
   clear hr5 ho5 hk5 hk5' hbr HLY HPUT
   obtain ⟨mq, hmq⟩ : ∃ n, n = (manL m.man).length := ⟨_, rfl⟩
   rw [← hmq] at HLY5 ⊢
   clear hmq
   go_wp2_with fail
   refine hK.out _ _ hS5 (fun hHeld2 => ?_)
   clear hK K hHeld; have hHeld := hHeld2; clear hHeld2
   try simp only [Act.put, lA, lZ, lS]
   refine wpAnyH_ready (rs := [10]) (by kernel_rfl) (by simp) ?_
   refine AllReadyH.consL rfl (fun K hK => ?_) (AllReadyH.nil)
   go_simp
   refine HLY5.o.mono ?_
   rintro e w6 ⟨D2, rfl, hst2, hD2, hk6⟩
   have hS6 := hS5.trans hk6 (fun b hb => .inl hb)
   have hD2a : ∀ b ∈ D2, b ∈ D' ∨ wr.heap.size ≤ b := fun b hb => (hD2 b hb).imp id (fun h => Nat.le_trans HK5.o.size h)
   have HST2 := hyd hst2
   have HD2 := hyd hD2a
   have HK6 := hyd hS6
   clear hst2 hD2 hk6 hD2a HLY5
   obtain ⟨cc, hcc⟩ : ∃ c, c = (runW dk (layW d.sz (blkL sp.ps) 77 sp.gen (manL m.man))).1 := ⟨_, rfl⟩
   rw [← hcc]
   have HCC := hyd hcc
   clear hcc
   go_wp2_with fail
   refine hK.out _ _ hS6 (fun hHeld2 => ?_)
   clear hK K hHeld; have hHeld := hHeld2; clear hHeld2
   try simp only [Act.put, lA, lZ, lS]
   refine tkL 11 ?vZ11 rfl ?runZ11 hHeld ?_
   case runZ11 => (intro w9 hS9; go_simp; try exact rfl)
   try simp only [Act.put, lA, lZ, lS]
   refine wpAnyH_done (by kernel_rfl) ?_ _
   clear hHeld hS5 hS6
   have hAB : runW d (dirty.flatMap (imgW d.sz m) ++ layW d.sz (blkL sp.ps) 77 sp.gen (manL m.man)) = ((runW dk (layW d.sz (blkL sp.ps) 77 sp.gen (manL m.man))).1, (runW dk (layW d.sz (blkL sp.ps) 77 sp.gen (manL m.man))).2.1, (runW d (dirty.flatMap (imgW d.sz m))).2.2 ++ (runW dk (layW d.sz (blkL sp.ps) 77 sp.gen (manL m.man))).2.2) := by
    rw [runW_append, if_pos HRUN.o, HDK.o]
   have hst2 := HST2.o
   rw [List.append_assoc] at hst2
   have HST3 := hyd hst2
   have HAB := hyd hAB
   have hDa2 : ∀ b ∈ D2, b ∈ D ∨ w.heap.size ≤ b := fun b hb => by
    have h1 := HK1.o.size
    have h2 := HKW.o.size
    rcases HD2.o b hb with h | h
    ·rcases HD'.o b h with h | h
     ·exact .inl h
     ·exact .inr (by omega)
    ·exact .inr (by omega)
   have hka6 : Keep D w w6 := ((HK1.o.mono (by simp)).trans HKW.o (fun b hb => .inl hb)).trans HK6.o (fun b hb => by
     rcases HD'.o b hb with h | h
     · exact .inl h
     · have h1 := HK1.o.size
       exact .inr (by omega))
   have HDA2 := hyd hDa2
   have HKA6 := hyd hka6
   have hm2 : ((lm ++ ((runW d (dirty.flatMap (imgW d.sz m))).2.2 ++ (runW dk (layW d.sz (blkL sp.ps) 77 sp.gen (manL m.man))).2.2))).length ≤ 1000000 := by
    have h1 := runW_len (layW d.sz (blkL sp.ps) 77 sp.gen (manL m.man)) dk
    have h2 := H.o.lg
    have h3 := HLN0.o
    unfold allW at h2
    simp only [List.length_append, List.length_singleton] at h2 ⊢
    omega
   have hro2 := runW_ok (layW d.sz (blkL sp.ps) 77 sp.gen (manL m.man)) HRO.o.1 (by
     have h1 := layW_fit (d := dk) HRO.o.1 (bl := blkL sp.ps) (kind := 77) (num := sp.gen) (bs := manL m.man) (by decide) H.o.gen (by rw [HRO.o.2.1]; exact blk_lt H.o.fm.1)
     rw [HRO.o.2.2.1] at h1
     exact h1)
   rw [HRO.o.2.1, HRO.o.2.2.1] at hro2
   obtain ⟨dm, hdm⟩ : ∃ z, z = (runW dk (layW d.sz (blkL sp.ps) 77 sp.gen (manL m.man))).2.1 := ⟨_, rfl⟩
   rw [← hdm] at hro2
   have HRO2 := hyd hro2
   have HDM := hyd hdm
   obtain ⟨wsB, hwsB⟩ : ∃ z, z = (runW d (dirty.flatMap (imgW d.sz m))).2.2 ++ (runW dk (layW d.sz (blkL sp.ps) 77 sp.gen (manL m.man))).2.2 := ⟨_, rfl⟩
   rw [← hwsB, ← hdm] at HST3 HAB
   rw [← hwsB] at hm2
   have HM2 := hyd hm2
   clear hAB hst2 hDa2 hka6 hm2 hro2 hdm hwsB HST2 HST HRO
   by_cases hc : cc = 0
   ·subst hc
    have hz : (runW d (dirty.flatMap (imgW d.sz m) ++ layW d.sz (blkL sp.ps) 77 sp.gen (manL m.man))).1 = 0 := by rw [HAB.o]; exact HCC.o.symm
    have hall : runW d (allW d.sz sp m dirty) = ((writeD dm ((sp.gen % 2 : Nat) : Int) (sealL d.sz ⟨83, sp.gen, loadL sp⟩)).1, (writeD dm ((sp.gen % 2 : Nat) : Int) (sealL d.sz ⟨83, sp.gen, loadL sp⟩)).2, if (writeD dm ((sp.gen % 2 : Nat) : Int) (sealL d.sz ⟨83, sp.gen, loadL sp⟩)).1 = 0 then wsB ++ [((sp.gen % 2 : Nat) : Int)] else wsB) := by
     unfold allW
     rw [runW_snoc hz, HAB.o]
    have hsw2 : swrite dm sp = writeD dm ((sp.gen % 2 : Nat) : Int) (sealL d.sz ⟨83, sp.gen, loadL sp⟩) := by
     have hokm : okS dm.n sp := by rw [HRO2.o.2.1]; exact H.o.ok
     unfold swrite
     rw [if_neg (not_not_intro hokm), HRO2.o.2.2.1, if_neg (by have := H.o.fit; omega)]
    have HALL := hyd hall
    have hs6 := HST3.o.blk
    have hb46 := blkk HBW.o HK6.o hBD
    have hB2 : w.heap.size ∉ D2 := fun hm => by
     rcases HD2.o _ hm with h | h
     ·exact hBD h
     ·omega
    have HCS2 := hyd (fun (W : World) (hk : Keep D2 w6 W) => And.intro ((cell_of (blkk hs6 hk HST3.o.sD) 0).trans (show _ = some (.pointer (some ⟨q, 0, none⟩)) from rfl)) (cells9 (blkk hb46 hk hB2)))
    have hpx6 := (XRd.turn (s := s) (D' := D2) HPX.o HK6.o HD2.o)
    obtain ⟨pxo, hpxr, hpxo⟩ := hpx6.rde
    have hswr := s_write (w := w6.drew) (x := sp) (pv := .slice ga sp.ps.length gc) (HST3.o.dk.keep0 (Keep.refl [] w6).drew) HM2.o (hpxr.keep (Keep.refl [] w6).drew (by simp)) (fun b hb => (hpxo b hb).1) (by have := H.o.ok.1.2.2.2.2.2; omega) H.o.gen
    unfold aggS SWP at hswr
    rw [hsw2] at hswr
    have HSW := hyd hswr
    clear hz hall hsw2 hs6 hb46 hpx6 hpxr hpxo hswr
    go_upto_region 12 with fail
    refine wp_region_held_drew (S := fun w' => Keep D2 w6 w') (by kernel_rfl) ((Keep.refl D2 w6).drew) (fun hHeld => ?_)
    refine tkL 0 ?vY0 rfl ?runY0 hHeld ?_
    case runY0 => (intro w9 hS9; obtain ⟨a0, b0, b1, b2, b3, b4, b5, b6, b7, b8⟩ := HCS2.o w9 hS9; go_simp; try exact rfl)
    try simp only [Act.put, lA, lZ, lS]
    refine tkL 1 ?vY1 rfl ?runY1 hHeld ?_
    case runY1 => (intro w9 hS9; obtain ⟨a0, b0, b1, b2, b3, b4, b5, b6, b7, b8⟩ := HCS2.o w9 hS9; go_simp; try exact rfl)
    try simp only [Act.put, lA, lZ, lS]
    refine tkL 2 ?vY2 rfl ?runY2 hHeld ?_
    case runY2 => (intro w9 hS9; obtain ⟨a0, b0, b1, b2, b3, b4, b5, b6, b7, b8⟩ := HCS2.o w9 hS9; go_simp; try exact rfl)
    try simp only [Act.put, lA, lZ, lS]
    refine tkL 3 ?vY3 rfl ?runY3 hHeld ?_
    case runY3 => (intro w9 hS9; obtain ⟨a0, b0, b1, b2, b3, b4, b5, b6, b7, b8⟩ := HCS2.o w9 hS9; go_simp; try exact rfl)
    try simp only [Act.put, lA, lZ, lS]
    refine tkL 4 ?vY4 rfl ?runY4 hHeld ?_
    case runY4 => (intro w9 hS9; obtain ⟨a0, b0, b1, b2, b3, b4, b5, b6, b7, b8⟩ := HCS2.o w9 hS9; go_simp; try exact rfl)
    try simp only [Act.put, lA, lZ, lS]
    refine tkL 5 ?vY5 rfl ?runY5 hHeld ?_
    case runY5 => (intro w9 hS9; obtain ⟨a0, b0, b1, b2, b3, b4, b5, b6, b7, b8⟩ := HCS2.o w9 hS9; go_simp; try exact rfl)
    try simp only [Act.put, lA, lZ, lS]
    refine wpAnyH_ready (rs := [6]) (by kernel_rfl) (by simp) ?_
    refine AllReadyH.consL rfl (fun K hK => ?_) (AllReadyH.nil)
    go_simp
    refine HSW.o.mono ?_
    rintro e w8 ⟨D8, rfl, hdk8, hD8, hk8⟩
    obtain ⟨cw, hcw⟩ : ∃ c, c = (writeD dm ((sp.gen % 2 : Nat) : Int) (sealL d.sz ⟨83, sp.gen, loadL sp⟩)).1 := ⟨_, rfl⟩
    rw [← hcw] at hdk8 ⊢
    have HCW := hyd hcw.symm
    have HDK8 := hyd hdk8
    have HD8 := hyd (show ∀ b ∈ D8, b ∈ D2 ∨ w6.heap.size ≤ b from hD8)
    have HK8 := hyd (((Keep.refl [] w6).drew.mono (G := D2) (by simp)).trans hk8 (fun b hb => .inl hb))
    clear hcw hdk8 hD8 hk8 HSW
    go_wp2_with fail
    refine hK.out _ _ HK8.o (fun hHeld2 => ?_)
    clear hK K hHeld; have hHeld := hHeld2; clear hHeld2
    try simp only [Act.put, lA, lZ, lS]
    refine tkL 7 ?vX7 rfl ?runX7 hHeld ?_
    case runX7 => (intro w9 hS9; go_simp; try exact rfl)
    try simp only [Act.put, lA, lZ, lS]
    refine wpAnyH_done (by kernel_rfl) ?_ _
    go_wp2_with fail
    go_ret
    have hkf : Keep D w w8 := (HKA6.o).trans HK8.o (fun b hb => HDA2.o b hb)
    have hDf : ∀ b ∈ D8, b ∈ D ∨ w.heap.size ≤ b := fun b hb => by
     rcases HD8.o b hb with h | h
     ·exact HDA2.o b h
     ·have := HKA6.o.size
      exact .inr (by omega)
    refine ⟨D8, by rw [HALL.o, HCW.o]; rfl, ?_, hDf, hkf⟩
    rw [HALL.o]
    refine H.o.st.turn ?_ hkf hDf
    have h := HDK8.o
    unfold logW at h
    simp only
    rw [HCW.o]
    by_cases hcw : cw = 0
    ·rw [if_pos hcw, List.append_assoc] at h; rw [if_pos hcw]; exact h
    ·rw [if_neg hcw] at h; rw [if_neg hcw]; exact h
   ·have hc' : (cc != 0) = true := by rw [bne_iff_ne]; exact hc
    have hall : runW d (allW d.sz sp m dirty) = runW d (dirty.flatMap (imgW d.sz m) ++ layW d.sz (blkL sp.ps) 77 sp.gen (manL m.man)) := by
     unfold allW
     rw [runW_append, if_neg (by rw [HAB.o]; simp only; rw [← HCC.o]; exact hc)]
    have HALL := hyd hall
    clear hall hc
    go_wp2_with fail
    go_ret
    exact ⟨D2, by rw [HALL.o, HAB.o]; simp only; rw [← HCC.o]; rfl, by rw [HALL.o, HAB.o]; exact HST3.o, HDA2.o, HKA6.o⟩
end Go.Proofs.YtimpadpeibgmoaaGreat
