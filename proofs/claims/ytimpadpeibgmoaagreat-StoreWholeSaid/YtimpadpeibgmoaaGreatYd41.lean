/- A part of the proof (St17), joined by squeeze2.py. -/
import Derived.Test.YtimpadpeibgmoaaGreatYd40
set_option maxHeartbeats 8000000
set_option maxRecDepth 100000
namespace Go.Proofs.YtimpadpeibgmoaaGreat
open Go.RowKit Go.Emb Go.Lib Go.Emb.Ext Go.Shelf
attribute [local go_sem] Oper.semAt_some
theorem results_tctt {P : Program} {fn : Func} {a p b c : Tmp} {ty : TypeId} (h : fn.results = #[.tmp a, .cell p ty, .tmp b, .tmp c]) (tmps : Array Value) (w : World) (g : Nat) (tt : TypeId) (cs : Array Value) (fr : Nat × Nat) (d : TypeDesc)
  (hp : tmps.getD p undef = .pointer (some ⟨g, 0, none⟩)) (hg : w.heap[g]? = some (.cells cs tt fr))
  (hu : P.underlying ty = some d) (hd : (match d with | .struct _ | .array _ _ => true | _ => false) = true) (hi : (P.info? ty).map (·.size) = some cs.size) :
  (results fn tmps).run P w = .ok (.tuple #[tmps.getD a undef, .agg cs, tmps.getD b undef, tmps.getD c undef]) w := by
 have hp' : tmps[p]?.getD undef = .pointer (some ⟨g, 0, none⟩) := by simpa using hp
 simp [results, h, hp', asAddr, run_loadVar_row w g tt ty cs fr d hg hu hd hi]
theorem im_info : (Tryz.prog.info? 52).map (fun i => (i.zero, i.size, i.bytes)) = some (some (.agg #[.int .i64 0, .slice none 0 0]), 2, 32) := by kernel_rfl
structure OpenIn (w : World) (q : Nat) (lm : List Int) (D : List Nat) (d : DS) (ox : Nat → Option Sup) (mm : Man) (im : Int → List UInt8) (os : Sup) (om : Man) : Prop where
 dk : DK w q lm D d
 off : d.off = false
 n2 : 2 ≤ d.n
 slot : ∀ k, k < 2 → SlotIs d k (ox k)
 gen : (bkN ox 2).gen ≠ 0
 gen2 : (bkN ox 2).gen < 1000000000
 now : CkOk d (bkN ox 2) mm
 img : ImOk d mm im
 was : WasOk d (ox (((bkN ox 2).gen + 1) % 2)) (bkN ox 2) os om
 ok1 : ∀ e ∈ (bkN ox 2).ps, ExtOk e
 bl : (bkN ox 2).ps.length ≤ 1000000
 pl : mm.places.length ≤ 3000
 pp : ∀ p ∈ mm.places, p.pieces.length ≤ 1000000
def OpenP (w : World) (q : Nat) (lm : List Int) (D : List Nat) (d : DS) (b : Sup) (mm : Man) (im : Int → List UInt8) (os : Sup) (om : Man) (e : Ending) (w' : World) : Prop :=
 ∃ (s : Nat) (m : MnV) (iv : Value) (imgs : List ImV) (x : SV), e = .returned (.tuple #[.pointer (some ⟨s, 0, none⟩), aggM m, iv, .int .i64 0]) ∧ w.heap.size ≤ s ∧ STD w' s q lm D d x ∧ x.area = mm.area ∧ x.ns = b ∧ x.nm.man = mm ∧ x.os = os ∧ x.om.man = om ∧ x.bk = false ∧
  m.man = mm ∧ MRd (fun c => w.heap.size ≤ c) w' m ∧ IRd (fun c => w.heap.size ≤ c) w' iv imgs ∧ imL imgs = mm.places.map (fun p => (p.pid, im p.pid)) ∧ Keep [] w w'
theorem lt_of_some {w : World} {b : Nat} {o : Obj} (h : w.heap[b]? = some o) : b < w.heap.size := (Array.getElem?_eq_some_iff.1 h).1
theorem bkN_ge {ox : Nat → Option Sup} {k : Nat} (hk : k < 2) {x : Sup} (h : ox k = some x) : x.gen ≤ (bkN ox 2).gen := by
 unfold bkN bkN bkN
 have hs : ∀ (b : Sup) (o : Option Sup), b.gen ≤ (stepB b o).gen ∧ ∀ y, o = some y → y.gen ≤ (stepB b o).gen := fun b o => by
  unfold stepB
  cases o with
  | none => exact ⟨Nat.le_refl _, fun y hy => by cases hy⟩
  | some y =>
   simp only
   split
   ·exact ⟨by omega, fun z hz => by injection hz with hz; subst hz; omega⟩
   ·exact ⟨by omega, fun z hz => by injection hz with hz; subst hz; omega⟩
 have hk2 : k = 0 ∨ k = 1 := by omega
 rcases hk2 with rfl | rfl
 ·exact Nat.le_trans ((hs zSup (ox 0)).2 x h) ((hs _ (ox 1)).1)
 ·exact (hs _ (ox 1)).2 x h
theorem imgs_rd {w6 W : World} {v : Value} {imgs : List ImV} {io : Option Nat} (hr : Row W 52 2 v imgs.length (imgs.flatMap encI) io) (hio : ∀ c, io = some c → w6.heap.size ≤ c) (hbs : ∀ y ∈ imgs, I64 y.pid ∧ y.b.length ≤ 1000000000 ∧ ∃ o, RB W y.v y.b o ∧ ∀ c, o = some c → w6.heap.size ≤ c) (hn : imgs.length ≤ 1000000000) : IRd (fun c => w6.heap.size ≤ c) W v imgs := by
 obtain ⟨o, h1, h2⟩ := hr.rd
 refine ⟨⟨o, h1, fun c hc => ?_⟩, fun y hy => ?_, hn⟩
 ·rcases h2 with h2 | h2
  ·rw [h2] at hc; cases hc
  ·rw [h2] at hc
   exact ⟨Row.lt hr c hc, hio c hc⟩
 ·obtain ⟨g1, g2, o, g3, g4⟩ := hbs y hy
  exact ⟨g1, g3.brd g2 g4⟩
theorem open_fin {w wz wf : World} {q s : Nat} {lm : List Int} {D : List Nat} {d : DS} {ox : Nat → Option Sup} {mm : Man} {im : Int → List UInt8} {os : Sup} {om : Man} {x : SV} {m : MnV} {iv : Value} {imgs : List ImV} (h : OpenIn w q lm D d ox mm im os om)
  (hx : x.area = mm.area ∧ x.ns = bkN ox 2 ∧ x.nm.man = mm ∧ x.os = os ∧ x.om.man = om ∧ x.bk = false) (hst : wz.heap[s]? = some (.cells (stCells q x) 84 (0, 0))) (hsr : SRd (fun c => w.heap.size + 2 ≤ c ∧ c ≠ s) wz x) (hm : MRd (fun c => w.heap.size + 2 ≤ c) wz m) (hmm : m.man = mm)
  (hi : IRd (fun c => w.heap.size + 2 ≤ c) wz iv imgs) (hil : imL imgs = mm.places.map (fun p => (p.pid, im p.pid))) (hk : Keep [] w wz) (hs : w.heap.size + 2 ≤ s) (hf : Keep [w.heap.size] wz wf) :
  OpenP w q lm D d (bkN ox 2) mm im os om (.returned (.tuple #[.pointer (some ⟨s, 0, none⟩), aggM m, iv, .int .i64 0])) wf := by
 have hkf : Keep [] w wf := hk.trans hf (fun b hb => .inr (by simp at hb; omega))
 have hlt := h.dk.lt
 have hn : ∀ {b : Nat}, b ∈ [w.heap.size] → ¬ (w.heap.size + 2 ≤ b) := fun hb => by simp at hb; omega
 refine ⟨s, m, iv, imgs, x, rfl, by omega, ⟨h.dk.keep0 hkf, blkk hst hf (by simp; omega), ?_⟩, hx.1, hx.2.1, hx.2.2.1, hx.2.2.2.1, hx.2.2.2.2.1, hx.2.2.2.2.2, hmm, (hm.keep hf (fun b hb _ => hn hb)).mono (fun b _ hb => by omega), (hi.keep hf (fun b hb _ => hn hb)).mono (fun b _ hb => by omega), hil, hkf⟩
 refine (hsr.keep hf (fun b hb _ hc => hn hb hc.1)).mono (fun b _ hb hm => ?_)
 rcases List.mem_cons.1 hm with e | hm
 ·exact hb.2 e
 ·have := hlt b hm; omega
theorem st_open {w : World} {q : Nat} {lm : List Int} {D : List Nat} {d : DS} {ox : Nat → Option Sup} {mm : Man} {im : Int → List UInt8} {os : Sup} {om : Man} (h : OpenIn w q lm D d ox mm im os om) :
  Calls Tryz.prog 18 #[.pointer (some ⟨q, 0, none⟩)] w (OpenP w q lm D d (bkN ox 2) mm im os om) := by
 have hok := h.dk.isok
 have hk1 : Keep [] w ((w.alloc (.cells #[.string ⟨#[]⟩, .int .i64 0, .int .i64 0, .slice none 0 0, .slice none 0 0] 38)).alloc (.cells #[.string ⟨#[]⟩, .int .i64 0, .int .i64 0, .slice none 0 0, .slice none 0 0] 38)) := ((Keep.refl [] w).alloc _).alloc _
 have HB3 := hyd (lit_alloc (heap_new w (.cells #[.string ⟨#[]⟩, .int .i64 0, .int .i64 0, .slice none 0 0, .slice none 0 0] 38)) (.cells #[.string ⟨#[]⟩, .int .i64 0, .int .i64 0, .slice none 0 0, .slice none 0 0] 38))
 have hb6 := heap_new (w.alloc (.cells #[.string ⟨#[]⟩, .int .i64 0, .int .i64 0, .slice none 0 0, .slice none 0 0] 38)) (.cells #[.string ⟨#[]⟩, .int .i64 0, .int .i64 0, .slice none 0 0, .slice none 0 0] 38)
 rw [size_alloc] at hb6
 have HB6 := hyd hb6
 have HS1 := hyd (show ((w.alloc (.cells #[.string ⟨#[]⟩, .int .i64 0, .int .i64 0, .slice none 0 0, .slice none 0 0] 38)).alloc (.cells #[.string ⟨#[]⟩, .int .i64 0, .int .i64 0, .slice none 0 0, .slice none 0 0] 38)).heap.size = w.heap.size + 2 by simp)
 have HK1 := hyd hk1
 have HDD := hyd (fun (W : World) (hk : Keep [] w W) => by
   obtain ⟨gb, c, logv, logs, lo, s', r, -, h1, h2, h3, -, -, ok⟩ := h.dk.keep0 hk
   exact p_dead h1 h3)
 rw [h.off] at HDD
 have HBE := hyd (fun (W : World) (hk : Keep [] w W) => s_best (h.dk.keep0 hk) h.n2 h.off h.slot)
 have H := hyd h
 obtain ⟨b, hb⟩ : ∃ b, b = bkN ox 2 := ⟨_, rfl⟩
 have hgen := h.gen
 rw [← hb] at HBE hgen ⊢
 unfold BestP at HBE
 rw [if_neg hgen] at HBE
 have HBQ := hyd hb
 clear h hk1 hb6 hb
 go_enter Tryz.func18, Tryz.ntmps18
 go_upto_region 2 with fail
 generalize (w.alloc (.cells #[.string ⟨#[]⟩, .int .i64 0, .int .i64 0, .slice none 0 0, .slice none 0 0] 38)).alloc (.cells #[.string ⟨#[]⟩, .int .i64 0, .int .i64 0, .slice none 0 0, .slice none 0 0] 38) = w1 at *
 go_wp2_with fail
 refine (HDD.o _ HK1.o).mono ?_
 rintro e w2 ⟨rfl, rfl⟩
 go_wp2_with fail
 refine (HBE.o _ HK1.o).mono ?_
 rintro e w3 ⟨pv, po, rfl, hrow, hpo, hk3⟩
 obtain ⟨ga, gc, rfl⟩ := hrow.form
 unfold aggS
 have hk34 : Keep [] w3 (w3.alloc (.cells #[.int .u64 (b.gen : Nat), .slice ga b.ps.length gc, .int .i64 b.len, .int .i64 b.ep] 56)) := (Keep.refl [] w3).alloc _
 have HB7 := hyd (heap_new w3 (.cells #[.int .u64 (b.gen : Nat), .slice ga b.ps.length gc, .int .i64 b.len, .int .i64 b.ep] 56))
 have HK4 := hyd ((HK1.o.trans hk3 (by simp)).trans hk34 (by simp))
 have HB34 := hyd (blkk (blkk HB3.o hk3 (by simp)) hk34 (by simp))
 have hsz := hk3.size
 have HS3 := hyd (show w.heap.size + 2 ≤ w3.heap.size from by have := HS1.o; omega)
 have hnow := H.o.now
 have hok1 := H.o.ok1
 have him := H.o.img
 rw [← HBQ.o] at hnow hok1
 have hpx : XRd (fun c => w.heap.size + 2 ≤ c ∧ c < w3.heap.size) w3 (.slice ga b.ps.length gc) b.ps := hrow.xrd hok1 (by have := H.o.bl; rw [← HBQ.o] at this; omega) (fun c hc => ⟨by have := hpo c hc; have := HS1.o; omega, Row.lt hrow c hc⟩)
 have HPX := hyd (hpx.keep hk34 (by simp))
 have HNOW := hyd hnow
 have HIM := hyd him
 clear hrow hpo hk3 hk34 hsz hnow hok1 him hpx HBE HDD
 go_upto_region 7 with fail
 generalize w3.alloc (.cells #[.int .u64 (b.gen : Nat), .slice ga b.ps.length gc, .int .i64 b.len, .int .i64 b.ep] 56) = w4 at *
 generalize hB7 : w3.heap.size = B7 at *
 clear hB7
 obtain ⟨c0, c1, c2, c3⟩ := cells4s HB7.o
 have hld := st_load (H.o.dk.keep0 HK4.o) H.o.off HPX.o HNOW.o
 unfold aggS at hld
 have HLD := hyd hld
 clear hld
 go_wp2_with fail
 refine HLD.o.mono ?_
 rintro e w5 ⟨m, rfl, hman, hmr, hk5⟩
 obtain ⟨⟨ra, rc, hrv⟩, va, vc, hpv⟩ := hmr.forms
 obtain ⟨n, hn⟩ : ∃ n, n = m.places.length := ⟨_, rfl⟩
 rw [← hn] at hpv
 have hag : aggPt b (.slice ga b.ps.length gc) m = .agg #[.int .u64 (b.gen : Nat), .slice ga b.ps.length gc, .int .i64 b.len, .int .i64 b.ep, .string m.s, .int .i64 m.area.1, .int .i64 m.area.2, .slice ra m.rest.length rc, .slice va n vc] := by unfold aggPt; rw [hrv, hpv]
 rw [hag]
 have hk56 : Keep [] w5 (w5.alloc (.cells #[.int .u64 (b.gen : Nat), .slice ga b.ps.length gc, .int .i64 b.len, .int .i64 b.ep, .string m.s, .int .i64 m.area.1, .int .i64 m.area.2, .slice ra m.rest.length rc, .slice va n vc] 82)) := (Keep.refl [] w5).alloc _
 have HB9 := hyd (heap_new w5 (.cells #[.int .u64 (b.gen : Nat), .slice ga b.ps.length gc, .int .i64 b.len, .int .i64 b.ep, .string m.s, .int .i64 m.area.1, .int .i64 m.area.2, .slice ra m.rest.length rc, .slice va n vc] 82))
 have HK6 := hyd ((HK4.o.trans hk5 (by simp)).trans hk56 (by simp))
 have HB36 := hyd (blkk (blkk HB34.o hk5 (by simp)) hk56 (by simp))
 have HB76 := hyd (blkk (blkk HB7.o hk5 (by simp)) hk56 (by simp))
 have HPX6 := hyd ((HPX.o.keep hk5 (by simp)).keep hk56 (by simp))
 have HMR := hyd (hmr.keep hk56 (by simp))
 have HMAN := hyd hman
 have HV := hyd (And.intro hrv (And.intro hpv hag))
 have HN := hyd hn
 have HS5 := hyd (show w4.heap.size ≤ w5.heap.size from hk5.size)
 clear hman hmr hk5 hrv hpv hag hn hk56 HLD c0 c1 c2 c3
 go_upto_region 10 with fail
 generalize w5.alloc (.cells #[.int .u64 (b.gen : Nat), .slice ga b.ps.length gc, .int .i64 b.len, .int .i64 b.ep, .string m.s, .int .i64 m.area.1, .int .i64 m.area.2, .slice ra m.rest.length rc, .slice va n vc] 82) = w6 at *
 generalize hB9 : w5.heap.size = B9 at *
 clear hB9
 obtain ⟨p0, p1, p2, p3, p4, p5, p6, p7, p8⟩ := cells9 HB9.o
 go_wp2_with fail
 have hn3 : n ≤ 3000 := by
  have h1 := H.o.pl
  have h2 := congrArg (fun z : Man => z.places.length) HMAN.o
  unfold MnV.man at h2
  simp only [List.length_map] at h2
  have h3 := HN.o
  omega
 go_loopw [11, 50] (fun v i wr => ∃ (k : Nat) (io : Option Nat) (imgs : List ImV), k ≤ n ∧ i = .int .i64 k ∧ Row wr 52 2 v imgs.length (imgs.flatMap encI) io ∧ imL imgs = (m.places.take k).map (fun y => (y.p.pid, im y.p.pid)) ∧ (∀ y ∈ imgs, I64 y.pid ∧ ∃ o, RB wr y.v y.b o ∧ ∀ c, o = some c → w6.heap.size ≤ c) ∧ (∀ c, io = some c → w6.heap.size ≤ c) ∧ Keep [] w6 wr) (fun _ i _ => n - (intOf i).toNat)
 case atStart => exact ⟨0, none, [], Nat.zero_le _, rfl, Row.nil _ _ _, by simp [imL], by simp, by simp, Keep.refl _ _⟩
 case round =>
  obtain ⟨k, io, imgs, hk, rfl, hrow, hil, hbs, hio, hkw⟩ := hrel
  obtain ⟨NI, hNI⟩ : ∃ z, z = imgs.length := ⟨_, rfl⟩
  rw [← hNI] at hrow
  obtain ⟨o5, ⟨-, xa, xc, hu, -⟩, -⟩ := hrow.rd
  subst hu
  have HROW := hyd hrow
  have hNl : NI = k := by
   have h1 := congrArg List.length hil
   unfold imL at h1
   simp only [List.length_map, List.length_take] at h1
   have := HN.o
   omega
  have HNI := hyd (And.intro hNI hNl)
  clear hNI hNl
  have HIL := hyd hil
  have HBS := hyd hbs
  have HIO := hyd hio
  have HKW := hyd hkw
  clear hrow hil hbs hio hkw p0 p1 p2 p3 p4 p5 p6 p7 p8
  by_cases hlt : k < n
  ·have hltm : k < m.places.length := by have := HN.o; omega
   have hps := (HMR.o.keep HKW.o (by simp)).2.2.2.rdp
   rw [HV.o.2.1] at hps
   obtain ⟨pb, off, hva, -, g0, g1, g2⟩ := hps.at hltm
   subst hva
   have hyx := (HMR.o.2.2.2.2.1 _ (List.getElem_mem hltm))
   have hym : (m.places[k]).p ∈ mm.places := by
    rw [← HMAN.o]
    exact List.mem_map.2 ⟨_, List.getElem_mem hltm, rfl⟩
   have htk : (m.places.take (k + 1)).map (fun y => (y.p.pid, im y.p.pid)) = (m.places.take k).map (fun y => (y.p.pid, im y.p.pid)) ++ [((m.places[k]).p.pid, im (m.places[k]).p.pid)] := by rw [List.take_succ_eq_append_getElem hltm, List.map_append]; rfl
   obtain ⟨y, hy⟩ : ∃ y, y = m.places[k] := ⟨_, rfl⟩
   rw [← hy] at g0 g1 g2 hyx hym htk
   clear hy
   obtain ⟨i1, i2, i3, i4, i5, i6, i7⟩ := HIM.o.each _ hym
   obtain ⟨ya, yc, hyv, -⟩ := hyx.2.2.form
   obtain ⟨yn, hyn⟩ : ∃ z, z = y.p.pieces.length := ⟨_, rfl⟩
   rw [← hyn] at hyv
   rw [hyv] at g2
   obtain ⟨pid, hpid⟩ : ∃ z, z = y.p.pid := ⟨_, rfl⟩
   obtain ⟨bn, hbn⟩ : ∃ z, z = (im y.p.pid).length := ⟨_, rfl⟩
   rw [← hpid] at g0
   rw [i5, ← hbn] at g1
   obtain ⟨pn, hpn⟩ : ∃ z, z = y.p.pid.toNat := ⟨_, rfl⟩
   have hwp : IntKind.u64.wrap pid = (pn : Int) := by
    have h1 := i2
    unfold I64 at h1
    exact (IntWalk.u64_in _ (by omega)).trans (by omega)
   have HRD := hyd (fun (W : World) (hkW : Keep [] wr W) => st_read (w := W) (H.o.dk.keep0 ((HK6.o.trans HKW.o (by simp)).trans hkW (by simp))) H.o.off ((hyx.2.2.keep HKW.o (by simp)).keep hkW (by simp)) i3 i4 (by decide) (by have h1 := i2; unfold I64 at h1; omega) i6)
   rw [hyv, show (((73 : UInt8).toNat : Nat) : Int) = 73 from rfl, ← hpn] at HRD
   have HYD := hyd (And.intro hpid (And.intro hbn (And.intro htk (And.intro i2 i7))))
   have hka : Keep [] wr (wr.alloc (.cells #[.int .i64 pid, .int .i64 (bn : Nat), .slice ya yn yc] 48)) := (Keep.refl [] wr).alloc _
   have HKA := hyd hka
   have HPLB := hyd (heap_new wr (.cells #[.int .i64 pid, .int .i64 (bn : Nat), .slice ya yn yc] 48))
   have j0 : (0 : Int) ≤ (k : Int) := by omega
   have j1 : (k : Int) < (n : Int) := by omega
   clear hpid hbn htk i1 i2 i3 i4 i5 i6 i7 hyx hym hyv hyn hpn hps hltm hka
   go_upto_region 16 with fail
   generalize wr.alloc (.cells #[.int .i64 pid, .int .i64 (bn : Nat), .slice ya yn yc] 48) = wa at *
   generalize wr.heap.size = Bp at *
   clear g0 g1 g2
   obtain ⟨g0, g1, g2⟩ := cells3b HPLB.o
   go_wp2_with fail
   refine (HRD.o _ HKA.o).mono ?_
   rintro e wb ⟨bv, bo, rfl, hrb, hbo, hkb⟩
   obtain ⟨ba, bc, hbv, -⟩ := hrb.form
   rw [← HYD.o.2.1] at hbv
   subst hbv
   have HRB := hyd hrb
   have HBO := hyd hbo
   have HKB := hyd (HKA.o.trans hkb (by simp))
   have HPLB2 := hyd (blkk HPLB.o hkb (by simp))
   clear hrb hbo hkb g0 g1 g2 HRD
   obtain ⟨g0, g1, g2⟩ := cells3b HPLB2.o
   go_upto_region 19 with fail
   have hkc : Keep [] wb (wb.alloc (.cells #[.int .i64 pid, .slice ba bn bc] 52)) := (Keep.refl [] wb).alloc _
   have HNS := hyd (rd_block (n := 1) (k := 2) (heap_new wb (.cells #[.int .i64 pid, .slice ba bn bc] 52)) (xs := [.int .i64 pid, .slice ba bn bc]) (by simp) (by simp [maxLen]))
   have HN1 := hyd (show ∀ u ∈ [Value.int .i64 pid, Value.slice ba bn bc], u.oneCell' = true from by intro u hu; simp at hu; rcases hu with rfl | rfl <;> rfl)
   have hnr := (HROW.o.keep HKB.o (by simp)).keep hkc (by simp)
   have HNR := hyd hnr
   have HPL3 := hyd (lit_alloc HPLB2.o (.cells #[.int .i64 pid, .slice ba bn bc] 52))
   have HKC := hyd hkc
   have hNb : NI ≤ 3000 := by have := HNI.o.2; omega
   obtain ⟨i0, hi, hz0, hz1, hz2⟩ := info_parts im_info
   have HI := hyd hi
   clear hkc hnr hi
   go_wp2_with (at_builtin; refine wpList_append_any _ rfl _ _ 42 42 rfl 52 52 i0 (.agg #[.int .i64 0, .slice none 0 0]) 2 32 Tryz.underlying42 Tryz.underlying42 HI.o hz0 hz1 hz2 rfl _ NI (imgs.flatMap encI) io rfl HNR.o _ rfl 1 [.int .i64 pid, .slice ba bn bc] (some _) HNS.o HN1.o (by first | (unfold maxLen; omega) | (simp [maxLen] <;> omega)) (by omega) ?_)
   intro v' o' w' hr' hk' hg'
   have hrow2 : Row w' 52 2 v' (imgs ++ [(⟨pid, .slice ba bn bc, im y.p.pid⟩ : ImV)]).length ((imgs ++ [(⟨pid, .slice ba bn bc, im y.p.pid⟩ : ImV)]).flatMap encI) o' := by
    rw [List.flatMap_append, List.length_append, ← HNI.o.1]
    exact hr'
   have HR2 := hyd hrow2
   have HK2 := hyd hk'
   have HG2 := hyd hg'
   clear hr' hk' hg' hrow2 g0 g1 g2
   go_wp2_with fail
   have hty : ∀ (W : World) (v : Value) (xs : List UInt8) (o : Option Nat), Keep [] wr W → RB W v xs o → ∀ c, o = some c → c ∉ io.toList := fun W v xs o hkW hrb c hc hm => by
    obtain ⟨cs, h1⟩ := row_blk (show Row W 5 _ _ _ _ (some c) from hc ▸ hrb)
    obtain ⟨cs', h2⟩ := row_blk (show Row wr 52 _ _ _ _ (some c) from (show io = some c by simpa using hm) ▸ HROW.o)
    have h3 := blkk h2 hkW (by simp)
    rw [h1] at h3
    injection h3 with h3
    injection h3 with _ h3
    exact absurd h3 (by decide)
   have hkwc := HKB.o.trans HKC.o (by simp)
   have hsw : w6.heap.size ≤ wa.heap.size := Nat.le_trans HKW.o.size HKA.o.size
   go_roundw
   case rel =>
    refine ⟨k + 1, o', imgs ++ [⟨pid, .slice ba bn bc, im y.p.pid⟩], by omega, by go_num, HR2.o, ?_, fun z hz => ?_, fun c hc => ?_, (HKW.o.trans hkwc (by simp)).trans HK2.o (fun c hc => .inr (HIO.o c (by simpa using hc)))⟩
    ·rw [HYD.o.2.2.1, ← HIL.o]
     unfold imL
     rw [List.map_append, HYD.o.1]
     rfl
    ·rcases List.mem_append.1 hz with hz | hz
     ·obtain ⟨h1, o, h2, h3⟩ := HBS.o z hz
      exact ⟨h1, o, (RB.keep h2 hkwc (by simp)).keep HK2.o (hty _ _ _ _ hkwc (RB.keep h2 hkwc (by simp))), h3⟩
     ·obtain rfl := List.mem_singleton.1 hz
      have h4 := RB.keep HRB.o HKC.o (by simp)
      exact ⟨by rw [HYD.o.1]; exact HYD.o.2.2.2.1, bo, h4.keep HK2.o (hty _ _ _ _ hkwc h4), fun c hc => Nat.le_trans hsw (HBO.o c hc)⟩
    ·rcases HG2.o c hc with h | h
     ·exact HIO.o c h
     ·have h1 := HKB.o.size
      have h2 := HKW.o.size
      omega
   case measure => show n - (k + 1) < n - k; omega
  ·obtain rfl : k = n := by omega
   have hB9 := blkk HB9.o HKW.o (by simp)
   have hB7 := blkk HB76.o HKW.o (by simp)
   obtain ⟨p0, p1, p2, p3, p4, p5, p6, p7, p8⟩ := cells9 hB9
   have HB9R := hyd hB9
   have HB7R := hyd hB7
   clear hB9 hB7
   go_upto_region 22 with fail
   have hkd : Keep [] wr (wr.alloc (.cells #[.pointer (some ⟨q, 0, none⟩), .int .i64 m.area.1, .int .i64 m.area.2, .int .u64 (b.gen : Nat), .slice ga b.ps.length gc, .int .i64 b.len, .int .i64 b.ep, .string m.s, .int .i64 m.area.1, .int .i64 m.area.2, .slice ra m.rest.length rc, .slice va k vc, .int .u64 0, .slice none 0 0, .int .i64 0, .int .i64 0, .string ⟨#[]⟩, .int .i64 0, .int .i64 0, .slice none 0 0, .slice none 0 0, .bool false] 84)) := (Keep.refl [] wr).alloc _
   have HSTB := hyd (heap_new wr (.cells #[.pointer (some ⟨q, 0, none⟩), .int .i64 m.area.1, .int .i64 m.area.2, .int .u64 (b.gen : Nat), .slice ga b.ps.length gc, .int .i64 b.len, .int .i64 b.ep, .string m.s, .int .i64 m.area.1, .int .i64 m.area.2, .slice ra m.rest.length rc, .slice va k vc, .int .u64 0, .slice none 0 0, .int .i64 0, .int .i64 0, .string ⟨#[]⟩, .int .i64 0, .int .i64 0, .slice none 0 0, .slice none 0 0, .bool false] 84))
   have HK9 := hyd (HK6.o.trans HKW.o (by simp))
   have HKD := hyd hkd
   have HB7S := hyd (blkk HB7R.o hkd (by simp))
   clear hkd p0 p1 p2 p3 p4 p5 p6 p7 p8
   generalize wr.alloc (.cells #[.pointer (some ⟨q, 0, none⟩), .int .i64 m.area.1, .int .i64 m.area.2, .int .u64 (b.gen : Nat), .slice ga b.ps.length gc, .int .i64 b.len, .int .i64 b.ep, .string m.s, .int .i64 m.area.1, .int .i64 m.area.2, .slice ra m.rest.length rc, .slice va k vc, .int .u64 0, .slice none 0 0, .int .i64 0, .int .i64 0, .string ⟨#[]⟩, .int .i64 0, .int .i64 0, .slice none 0 0, .slice none 0 0, .bool false] 84) = ws at *
   obtain ⟨s0, hs0⟩ : ∃ z, z = wr.heap.size := ⟨_, rfl⟩
   have HS0 := hyd hs0
   rw [← hs0] at HSTB ⊢
   clear hs0
   obtain ⟨c0, c1, c2, c3⟩ := cells4s HB7S.o
   have hg2 := H.o.gen2
   rw [← HBQ.o] at hg2
   have hw1 : IntKind.u64.wrap ((b.gen : Int) + 1) = (b.gen : Int) + 1 := IntWalk.u64_in _ (by omega)
   go_wp2_with fail
   have hsl := s_slot (w := ws) (k := (b.gen + 1) % 2) (H.o.dk.keep0 (HK9.o.trans HKD.o (by simp))) (by omega) H.o.n2 H.o.off (H.o.slot _ (by omega))
   rw [show (((b.gen + 1) % 2 : Nat) : Int) = ((b.gen : Int) + 1) % 2 from by push_cast; rfl] at hsl
   have hwas := H.o.was
   rw [← HBQ.o] at hwas
   refine hsl.mono ?_
   rintro e wt ⟨hsp, hkt⟩
   have HKT := hyd hkt
   have HWAS := hyd hwas
   have HB7T := hyd (blkk HB7S.o hkt (by simp))
   have HSTT := hyd (blkk HSTB.o hkt (by simp))
   clear hsl hkt hwas c0 c1 c2 c3
   rcases hsp with ⟨hox, rfl⟩ | ⟨xs, xv, xo, hox, rfl, hxr, hxn⟩
   ·unfold zS
    go_upto_region 27 with fail
    have hku : Keep [] wt (wt.alloc (.cells #[.int .u64 0, .slice none 0 0, .int .i64 0, .int .i64 0] 56)) := (Keep.refl [] wt).alloc _
    have hox2 := hox
    have HWZ := hyd (show os = zSup ∧ om = zMn.man from by
      rcases HWAS.o with ⟨h1, h2, -⟩ | ⟨h1, -, -⟩
      · exact ⟨h1, h2⟩
      · rw [hox] at h1; cases h1)
    clear hox hox2
    generalize wt.alloc (.cells #[.int .u64 0, .slice none 0 0, .int .i64 0, .int .i64 0] 56) = wu at *
    have HKU := hyd hku
    clear hku
    have HKR := hyd ((HKD.o.trans HKT.o (by simp)).trans HKU.o (by simp))
    have HSTX := hyd (blkk HSTT.o HKU.o (by simp))
    have hb9 := blkk HB9R.o HKR.o (by simp)
    obtain ⟨p0, p1, p2, p3, p4, p5, p6, p7, p8⟩ := cells9 hb9
    have HKX := hyd (HKW.o.trans HKR.o (by simp))
    have HBW := hyd (blkk HB36.o HKX.o (by simp))
    have hcp := st_copied (w := wu) (HMR.o.keep HKX.o (by simp)) (by rw [← HN.o]; omega) (fun y hy => H.o.pp _ (by rw [← HMAN.o]; exact List.mem_map.2 ⟨y, hy, rfl⟩))
    unfold aggM at hcp
    rw [HV.o.1, HV.o.2.1] at hcp
    have HCP := hyd hcp
    clear hcp hb9
    go_wp2_with fail
    refine HCP.o.mono ?_
    rintro e wz ⟨m2, rfl, hm2, hs2, hr2, hkz⟩
    obtain ⟨⟨ra2, rc2, hrv2⟩, va2, vc2, hpv2⟩ := hr2.forms
    have hag2 : aggM m2 = .agg #[.string m2.s, .int .i64 m2.area.1, .int .i64 m2.area.2, .slice ra2 m2.rest.length rc2, .slice va2 m2.places.length vc2] := by unfold aggM; rw [hrv2, hpv2]
    rw [hag2]
    have HBZ := hyd (blkk HBW.o hkz (by simp))
    have HM2 := hyd hm2
    have HR2 := hyd hr2
    have HKZ := hyd hkz
    have HAG := hyd hag2
    clear hm2 hs2 hr2 hkz hrv2 hpv2 hag2 HCP p0 p1 p2 p3 p4 p5 p6 p7 p8
    have HSM := hyd (set5c HBZ.o (.string m2.s) (.int .i64 m2.area.1) (.int .i64 m2.area.2) (.slice ra2 m2.rest.length rc2) (.slice va2 m2.places.length vc2))
    have fb := frozen4 HBZ.o
    have d5 := cells5 HBZ.o
    obtain ⟨d0, d1, d2, d3, d4⟩ := d5
    go_wp2_with fail
    refine bodyPost_ret (results_tctt (ty := 38) rfl _ _ w.heap.size _ _ _ _ rfl HSM.o.1 Tryz.underlying38 rfl man_size) rfl ?_
    have hfin := open_fin (s := s0) (x := ⟨m.area, b, .slice ga b.ps.length gc, m, zSup, .slice none 0 0, zMn, false⟩) (m := m2) (wz := wz) H.o ?_ ?_ ?_ ?_ ?_ (iv := .slice xa NI xc) (imgs := imgs) ?_ ?_ ?_ ?_ HSM.o.2
    ·rw [HAG.o, ← HBQ.o] at hfin; exact hfin
    ·exact ⟨by rw [← HMAN.o]; rfl, HBQ.o, HMAN.o, HWZ.o.1.symm, HWZ.o.2.symm, rfl⟩
    ·have h := blkk HSTX.o HKZ.o (by simp)
     unfold stCells
     rw [HV.o.1, HV.o.2.1]
     exact h
    ·have h1 := HS3.o
     have h2 := lt_of_some HB7.o
     have h3 := HS5.o
     have h4 := lt_of_some HB9R.o
     have h5 := HS0.o
     have h6 := HKW.o.size
     have hkz := HKX.o.trans HKZ.o (by simp)
     exact ⟨(HPX6.o.keep hkz (by simp)).mono (fun c _ hc => by omega), (HMR.o.mono (T := fun c => w.heap.size + 2 ≤ c ∧ c ≠ s0) (fun c hl hc => by omega)).keep hkz (by simp), XRd.nil _ _, zMn_rd _ _⟩
    ·refine HR2.o.mono (fun c _ hc => ?_)
     have h1 := HS3.o
     have h2 := lt_of_some HB7.o
     have h3 := HS5.o
     have h4 := lt_of_some HB9R.o
     have h5 := HKR.o.size
     omega
    ·rw [HM2.o, HMAN.o]
    ·have hkz := HKR.o.trans HKZ.o (by simp)
     have hrz := HROW.o.keep hkz (by simp)
     rw [HNI.o.1] at hrz ⊢
     refine (imgs_rd hrz HIO.o (fun y hy => ?_) (by have := HNI.o; omega)).mono (fun c _ hc => ?_)
     ·obtain ⟨h1, o, h2, h3⟩ := HBS.o y hy
      refine ⟨h1, ?_, o, RB.keep h2 hkz (by simp), h3⟩
      have h4 : (y.pid, y.b) ∈ imL imgs := List.mem_map.2 ⟨y, hy, rfl⟩
      rw [HIL.o] at h4
      obtain ⟨z, hz, e⟩ := List.mem_map.1 h4
      injection e with e1 e2
      have h5 := (HIM.o.each z.p (by rw [← HMAN.o]; exact List.mem_map.2 ⟨z, List.mem_of_mem_take hz, rfl⟩)).2.2.2.2.2.2
      rw [e2] at h5
      exact h5
     ·have h1 := HS3.o
      have h2 := lt_of_some HB7.o
      have h3 := HS5.o
      have h4 := HK6.o.size
      have h5 := lt_of_some HB9.o
      omega
    ·rw [HIL.o, ← HMAN.o, List.take_of_length_le (by rw [← HN.o]; omega)]
     unfold MnV.man
     simp only
     rw [List.map_map]
     rfl
    ·exact (HK6.o.trans HKX.o (by simp)).trans HKZ.o (by simp)
    ·have h1 := HS3.o
     have h2 := lt_of_some HB7.o
     have h3 := HS5.o
     have h4 := lt_of_some HB9R.o
     have h5 := HS0.o
     omega
   ·unfold aggS
    obtain ⟨ya', yc', rfl⟩ := hxr.form
    have hbx := heap_new wt (.cells #[.int .u64 (xs.gen : Nat), .slice ya' xs.ps.length yc', .int .i64 xs.len, .int .i64 xs.ep] 56)
    have hbs := lit_alloc HB7T.o (.cells #[.int .u64 (xs.gen : Nat), .slice ya' xs.ps.length yc', .int .i64 xs.len, .int .i64 xs.ep] 56)
    have hku : Keep [] wt (wt.alloc (.cells #[.int .u64 (xs.gen : Nat), .slice ya' xs.ps.length yc', .int .i64 xs.len, .int .i64 xs.ep] 56)) := (Keep.refl [] wt).alloc _
    have hge := bkN_ge (by omega) hox
    rw [← HBQ.o] at hge
    obtain ⟨x0, x1, x2, x3⟩ := cells4s hbx
    obtain ⟨c0, c1, c2, c3⟩ := cells4s hbs
    have hw2 : IntKind.u64.wrap ((xs.gen : Int) + 1) = (xs.gen : Int) + 1 := IntWalk.u64_in _ (by omega)
    have HKU := hyd hku
    have HBX := hyd hbx
    have HOX := hyd hox
    have HXR := hyd hxr
    have HXN := hyd hxn
    clear hku hbx hbs hox hxr hxn
    by_cases hgg : xs.gen + 1 = b.gen
    ·have hdg : decide ((xs.gen : Int) + 1 = (b.gen : Int)) = true := decide_eq_true (by omega)
     have hgi : (xs.gen : Int) + 1 = (b.gen : Int) := by omega
     have hwz : xs = os ∧ CkOk d os om := by
      rcases HWAS.o with ⟨-, -, h3⟩ | ⟨h1, -, h3⟩
      ·exact absurd hgg (h3 _ HOX.o)
      ·rw [HOX.o] at h1; injection h1 with h1; exact ⟨h1, h3⟩
     obtain ⟨hxo, hck⟩ := hwz
     subst hxo
     have hpl8 := ((H.o.slot ((b.gen + 1) % 2) (by omega)).2 xs HOX.o).1.1.2.2.2.2.2
     have hd16 := H.o.dk.isok.2.1
     have hxx : XRd (fun c => ws.heap.size ≤ c) (wt.alloc (.cells #[.int .u64 (xs.gen : Nat), .slice ya' xs.ps.length yc', .int .i64 xs.len, .int .i64 xs.ep] 56)) (.slice ya' xs.ps.length yc') xs.ps := (HXR.o.xrd (fun e he => by have := hck.inb e he; unfold ExtOk I64; omega) (by omega) HXN.o).keep HKU.o (by simp)
     have hld := st_load (w := wt.alloc (.cells #[.int .u64 (xs.gen : Nat), .slice ya' xs.ps.length yc', .int .i64 xs.len, .int .i64 xs.ep] 56)) (H.o.dk.keep0 (HK9.o.trans ((HKD.o.trans HKT.o (by simp)).trans HKU.o (by simp)) (by simp))) H.o.off hxx hck
     unfold aggS at hld
     have HLD := hyd hld
     have HXX := hyd hxx
     have HSTU := hyd (blkk HSTT.o HKU.o (by simp))
     have HGG := hyd hgg
     clear hld hxx hck hpl8 hd16 hgg
     go_upto_region 24 with fail
     generalize wt.alloc (.cells #[.int .u64 (xs.gen : Nat), .slice ya' xs.ps.length yc', .int .i64 xs.len, .int .i64 xs.ep] 56) = wu at *
     generalize wt.heap.size = SX at *
     clear hdg hgi hw2 c0 c1 c2 c3
     go_wp2_with fail
     refine HLD.o.mono ?_
     rintro e wv ⟨m3, rfl, hman3, hmr3, hkv⟩
     obtain ⟨⟨ra3, rc3, hrv3⟩, va3, vc3, hpv3⟩ := hmr3.forms
     have hag3 : aggPt xs (.slice ya' xs.ps.length yc') m3 = .agg #[.int .u64 (xs.gen : Nat), .slice ya' xs.ps.length yc', .int .i64 xs.len, .int .i64 xs.ep, .string m3.s, .int .i64 m3.area.1, .int .i64 m3.area.2, .slice ra3 m3.rest.length rc3, .slice va3 m3.places.length vc3] := by unfold aggPt; rw [hrv3, hpv3]
     rw [hag3]
     have hkp : Keep [] wv (wv.alloc (.cells #[.int .u64 (xs.gen : Nat), .slice ya' xs.ps.length yc', .int .i64 xs.len, .int .i64 xs.ep, .string m3.s, .int .i64 m3.area.1, .int .i64 m3.area.2, .slice ra3 m3.rest.length rc3, .slice va3 m3.places.length vc3] 82)) := (Keep.refl [] wv).alloc _
     have hb3 := heap_new wv (.cells #[.int .u64 (xs.gen : Nat), .slice ya' xs.ps.length yc', .int .i64 xs.len, .int .i64 xs.ep, .string m3.s, .int .i64 m3.area.1, .int .i64 m3.area.2, .slice ra3 m3.rest.length rc3, .slice va3 m3.places.length vc3] 82)
     have HKV := hyd (hkv.trans hkp (by simp))
     have HSTP := hyd (blkk HSTU.o HKV.o (by simp))
     have HP3 := hyd hb3
     have HM3 := hyd (And.intro hman3 (And.intro hrv3 hpv3))
     have HMR3 := hyd (hmr3.keep hkp (by simp))
     have HXV := hyd (HXX.o.keep HKV.o (by simp))
     clear hkv hkp hb3 hman3 hmr3 hrv3 hpv3 hag3 HLD x0 x1 x2 x3
     go_upto_region 26 with fail
     generalize wv.alloc (.cells #[.int .u64 (xs.gen : Nat), .slice ya' xs.ps.length yc', .int .i64 xs.len, .int .i64 xs.ep, .string m3.s, .int .i64 m3.area.1, .int .i64 m3.area.2, .slice ra3 m3.rest.length rc3, .slice va3 m3.places.length vc3] 82) = wp at *
     generalize wv.heap.size = SP at *
     obtain ⟨p0, p1, p2, p3, p4, p5, p6, p7, p8⟩ := cells9 HP3.o
     obtain ⟨b0, b1, b2, b3, b4, b5, b6, b7, b8, b9, b10, b11, b12, b13, b14, b15, b16, b17, b18, b19, b20, b21⟩ := cells22 HSTP.o
     have fb := frozen4 HSTP.o
     have HSX := hyd (set18 HSTP.o (.int .u64 (xs.gen : Nat)) (.slice ya' xs.ps.length yc') (.int .i64 xs.len) (.int .i64 xs.ep) (.string m3.s) (.int .i64 m3.area.1) (.int .i64 m3.area.2) (.slice ra3 m3.rest.length rc3) (.slice va3 m3.places.length vc3))
     go_upto_region 27 with fail
     clear fb b0 b1 b2 b3 b4 b5 b6 b7 b8 b9 b10 b11 b12 b13 b14 b15 b16 b17 b18 b19 b20 b21 p0 p1 p2 p3 p4 p5 p6 p7 p8
     generalize (((((((((wp.setCell ⟨s0, 12, none⟩ (.int .u64 (xs.gen : Nat))).setCell ⟨s0, 13, none⟩ (.slice ya' xs.ps.length yc')).setCell ⟨s0, 14, none⟩ (.int .i64 xs.len)).setCell ⟨s0, 15, none⟩ (.int .i64 xs.ep)).setCell ⟨s0, 16, none⟩ (.string m3.s)).setCell ⟨s0, 17, none⟩ (.int .i64 m3.area.1)).setCell ⟨s0, 18, none⟩ (.int .i64 m3.area.2)).setCell ⟨s0, 19, none⟩ (.slice ra3 m3.rest.length rc3)).setCell ⟨s0, 20, none⟩ (.slice va3 m3.places.length vc3)) = wx at *
     have HKR := hyd (((((HKD.o.trans HKT.o (by simp)).trans HKU.o (by simp)).trans HKV.o (by simp)).trans HSX.o.2 (fun c hc => .inr (by rw [List.mem_singleton.1 hc, HS0.o]; exact Nat.le_refl _))) : Keep [] wr wx)
     have HSTX := hyd HSX.o.1
     have hb9 := blkk HB9R.o HKR.o (by simp)
     obtain ⟨p0, p1, p2, p3, p4, p5, p6, p7, p8⟩ := cells9 hb9
     have HKX := hyd (HKW.o.trans HKR.o (by simp))
     have HBW := hyd (blkk HB36.o HKX.o (by simp))
     have hcp := st_copied (w := wx) (HMR.o.keep HKX.o (by simp)) (by rw [← HN.o]; omega) (fun y hy => H.o.pp _ (by rw [← HMAN.o]; exact List.mem_map.2 ⟨y, hy, rfl⟩))
     unfold aggM at hcp
     rw [HV.o.1, HV.o.2.1] at hcp
     have HCP := hyd hcp
     clear hcp hb9
     go_wp2_with fail
     refine HCP.o.mono ?_
     rintro e wz ⟨m2, rfl, hm2, hs2, hr2, hkz⟩
     obtain ⟨⟨ra2, rc2, hrv2⟩, va2, vc2, hpv2⟩ := hr2.forms
     have hag2 : aggM m2 = .agg #[.string m2.s, .int .i64 m2.area.1, .int .i64 m2.area.2, .slice ra2 m2.rest.length rc2, .slice va2 m2.places.length vc2] := by unfold aggM; rw [hrv2, hpv2]
     rw [hag2]
     have HBZ := hyd (blkk HBW.o hkz (by simp))
     have HM2 := hyd hm2
     have HR2 := hyd hr2
     have HKZ := hyd hkz
     have HAG := hyd hag2
     clear hm2 hs2 hr2 hkz hrv2 hpv2 hag2 HCP p0 p1 p2 p3 p4 p5 p6 p7 p8
     have HSM := hyd (set5c HBZ.o (.string m2.s) (.int .i64 m2.area.1) (.int .i64 m2.area.2) (.slice ra2 m2.rest.length rc2) (.slice va2 m2.places.length vc2))
     have fb := frozen4 HBZ.o
     have d5 := cells5 HBZ.o
     obtain ⟨d0, d1, d2, d3, d4⟩ := d5
     go_wp2_with fail
     refine bodyPost_ret (results_tctt (ty := 38) rfl _ _ w.heap.size _ _ _ _ rfl HSM.o.1 Tryz.underlying38 rfl man_size) rfl ?_
     have hfin := open_fin (s := s0) (x := ⟨m.area, b, .slice ga b.ps.length gc, m, xs, .slice ya' xs.ps.length yc', m3, false⟩) (m := m2) (wz := wz) H.o ?_ ?_ ?_ ?_ ?_ (iv := .slice xa NI xc) (imgs := imgs) ?_ ?_ ?_ ?_ HSM.o.2
     ·rw [HAG.o, ← HBQ.o] at hfin; exact hfin
     ·exact ⟨by rw [← HMAN.o]; rfl, HBQ.o, HMAN.o, rfl, HM3.o.1, rfl⟩
     ·have h := blkk HSTX.o HKZ.o (by simp)
      unfold stCells
      rw [HV.o.1, HV.o.2.1]
      simp only
      rw [HM3.o.2.1, HM3.o.2.2]
      exact h
     ·have h1 := HS3.o
      have h2 := lt_of_some HB7.o
      have h3 := HS5.o
      have h4 := lt_of_some HB9R.o
      have h5 := HS0.o
      have h6 := HKW.o.size
      have h7 := lt_of_some HSTB.o
      have h8 := HKT.o.size
      have h9 := HKU.o.size
      have hkz := HKX.o.trans HKZ.o (by simp)
      have hnx : ∀ {c : Nat}, c ∈ [s0] → s0 + 1 ≤ c → False := fun hc hd => by rw [List.mem_singleton.1 hc] at hd; omega
      exact ⟨(HPX6.o.keep hkz (by simp)).mono (fun c _ hc => by omega), (HMR.o.mono (T := fun c => w.heap.size + 2 ≤ c ∧ c ≠ s0) (fun c hl hc => by omega)).keep hkz (by simp),
        (((HXV.o.mono (T := fun c => s0 + 1 ≤ c) (fun c _ hc => by omega)).keep HSX.o.2 (fun c hc _ hd => hnx hc hd)).keep HKZ.o (by simp)).mono (fun c _ hc => by omega),
        (((HMR3.o.mono (T := fun c => s0 + 1 ≤ c) (fun c _ hc => by omega)).keep HSX.o.2 (fun c hc _ hd => hnx hc hd)).keep HKZ.o (by simp)).mono (fun c _ hc => by omega)⟩
     ·refine HR2.o.mono (fun c _ hc => ?_)
      have h1 := HS3.o
      have h2 := lt_of_some HB7.o
      have h3 := HS5.o
      have h4 := lt_of_some HB9R.o
      have h5 := HKR.o.size
      omega
     ·rw [HM2.o, HMAN.o]
     ·have hkz := HKR.o.trans HKZ.o (by simp)
      have hrz := HROW.o.keep hkz (by simp)
      rw [HNI.o.1] at hrz ⊢
      refine (imgs_rd hrz HIO.o (fun y hy => ?_) (by have := HNI.o; omega)).mono (fun c _ hc => ?_)
      ·obtain ⟨h1, o, h2, h3⟩ := HBS.o y hy
       refine ⟨h1, ?_, o, RB.keep h2 hkz (by simp), h3⟩
       have h4 : (y.pid, y.b) ∈ imL imgs := List.mem_map.2 ⟨y, hy, rfl⟩
       rw [HIL.o] at h4
       obtain ⟨z, hz, e⟩ := List.mem_map.1 h4
       injection e with e1 e2
       have h5 := (HIM.o.each z.p (by rw [← HMAN.o]; exact List.mem_map.2 ⟨z, List.mem_of_mem_take hz, rfl⟩)).2.2.2.2.2.2
       rw [e2] at h5
       exact h5
      ·have h1 := HS3.o
       have h2 := lt_of_some HB7.o
       have h3 := HS5.o
       have h4 := HK6.o.size
       have h5 := lt_of_some HB9.o
       omega
     ·rw [HIL.o, ← HMAN.o, List.take_of_length_le (by rw [← HN.o]; omega)]
      unfold MnV.man
      simp only
      rw [List.map_map]
      rfl
     ·exact (HK6.o.trans HKX.o (by simp)).trans HKZ.o (by simp)
     ·have h1 := HS3.o
      have h2 := lt_of_some HB7.o
      have h3 := HS5.o
      have h4 := lt_of_some HB9R.o
      have h5 := HS0.o
      omega
    ·have hdg : decide ((xs.gen : Int) + 1 = (b.gen : Int)) = false := decide_eq_false (by omega)
     have HWZ := hyd (show os = zSup ∧ om = zMn.man from by
       rcases HWAS.o with ⟨h1, h2, -⟩ | ⟨h1, h2, -⟩
       · exact ⟨h1, h2⟩
       · rw [HOX.o] at h1; injection h1 with h1; rw [← h1] at h2; exact absurd h2 hgg)
     have hgi : ¬ ((xs.gen : Int) + 1 = (b.gen : Int)) := by omega
     go_upto_region 27 with fail
     clear x0 x1 x2 x3 c0 c1 c2 c3 hw2 hdg hgi hgg
     generalize wt.alloc (.cells #[.int .u64 (xs.gen : Nat), .slice ya' xs.ps.length yc', .int .i64 xs.len, .int .i64 xs.ep] 56) = wu at *
     have HKR := hyd ((HKD.o.trans HKT.o (by simp)).trans HKU.o (by simp))
     have HSTX := hyd (blkk HSTT.o HKU.o (by simp))
     have hb9 := blkk HB9R.o HKR.o (by simp)
     obtain ⟨p0, p1, p2, p3, p4, p5, p6, p7, p8⟩ := cells9 hb9
     have HKX := hyd (HKW.o.trans HKR.o (by simp))
     have HBW := hyd (blkk HB36.o HKX.o (by simp))
     have hcp := st_copied (w := wu) (HMR.o.keep HKX.o (by simp)) (by rw [← HN.o]; omega) (fun y hy => H.o.pp _ (by rw [← HMAN.o]; exact List.mem_map.2 ⟨y, hy, rfl⟩))
     unfold aggM at hcp
     rw [HV.o.1, HV.o.2.1] at hcp
     have HCP := hyd hcp
     clear hcp hb9
     go_wp2_with fail
     refine HCP.o.mono ?_
     rintro e wz ⟨m2, rfl, hm2, hs2, hr2, hkz⟩
     obtain ⟨⟨ra2, rc2, hrv2⟩, va2, vc2, hpv2⟩ := hr2.forms
     have hag2 : aggM m2 = .agg #[.string m2.s, .int .i64 m2.area.1, .int .i64 m2.area.2, .slice ra2 m2.rest.length rc2, .slice va2 m2.places.length vc2] := by unfold aggM; rw [hrv2, hpv2]
     rw [hag2]
     have HBZ := hyd (blkk HBW.o hkz (by simp))
     have HM2 := hyd hm2
     have HR2 := hyd hr2
     have HKZ := hyd hkz
     have HAG := hyd hag2
     clear hm2 hs2 hr2 hkz hrv2 hpv2 hag2 HCP p0 p1 p2 p3 p4 p5 p6 p7 p8
     have HSM := hyd (set5c HBZ.o (.string m2.s) (.int .i64 m2.area.1) (.int .i64 m2.area.2) (.slice ra2 m2.rest.length rc2) (.slice va2 m2.places.length vc2))
     have fb := frozen4 HBZ.o
     have d5 := cells5 HBZ.o
     obtain ⟨d0, d1, d2, d3, d4⟩ := d5
     go_wp2_with fail
     refine bodyPost_ret (results_tctt (ty := 38) rfl _ _ w.heap.size _ _ _ _ rfl HSM.o.1 Tryz.underlying38 rfl man_size) rfl ?_
     have hfin := open_fin (s := s0) (x := ⟨m.area, b, .slice ga b.ps.length gc, m, zSup, .slice none 0 0, zMn, false⟩) (m := m2) (wz := wz) H.o ?_ ?_ ?_ ?_ ?_ (iv := .slice xa NI xc) (imgs := imgs) ?_ ?_ ?_ ?_ HSM.o.2
     ·rw [HAG.o, ← HBQ.o] at hfin; exact hfin
     ·exact ⟨by rw [← HMAN.o]; rfl, HBQ.o, HMAN.o, HWZ.o.1.symm, HWZ.o.2.symm, rfl⟩
     ·have h := blkk HSTX.o HKZ.o (by simp)
      unfold stCells
      rw [HV.o.1, HV.o.2.1]
      exact h
     ·have h1 := HS3.o
      have h2 := lt_of_some HB7.o
      have h3 := HS5.o
      have h4 := lt_of_some HB9R.o
      have h5 := HS0.o
      have h6 := HKW.o.size
      have hkz := HKX.o.trans HKZ.o (by simp)
      exact ⟨(HPX6.o.keep hkz (by simp)).mono (fun c _ hc => by omega), (HMR.o.mono (T := fun c => w.heap.size + 2 ≤ c ∧ c ≠ s0) (fun c hl hc => by omega)).keep hkz (by simp), XRd.nil _ _, zMn_rd _ _⟩
     ·refine HR2.o.mono (fun c _ hc => ?_)
      have h1 := HS3.o
      have h2 := lt_of_some HB7.o
      have h3 := HS5.o
      have h4 := lt_of_some HB9R.o
      have h5 := HKR.o.size
      omega
     ·rw [HM2.o, HMAN.o]
     ·have hkz := HKR.o.trans HKZ.o (by simp)
      have hrz := HROW.o.keep hkz (by simp)
      rw [HNI.o.1] at hrz ⊢
      refine (imgs_rd hrz HIO.o (fun y hy => ?_) (by have := HNI.o; omega)).mono (fun c _ hc => ?_)
      ·obtain ⟨h1, o, h2, h3⟩ := HBS.o y hy
       refine ⟨h1, ?_, o, RB.keep h2 hkz (by simp), h3⟩
       have h4 : (y.pid, y.b) ∈ imL imgs := List.mem_map.2 ⟨y, hy, rfl⟩
       rw [HIL.o] at h4
       obtain ⟨z, hz, e⟩ := List.mem_map.1 h4
       injection e with e1 e2
       have h5 := (HIM.o.each z.p (by rw [← HMAN.o]; exact List.mem_map.2 ⟨z, List.mem_of_mem_take hz, rfl⟩)).2.2.2.2.2.2
       rw [e2] at h5
       exact h5
      ·have h1 := HS3.o
       have h2 := lt_of_some HB7.o
       have h3 := HS5.o
       have h4 := HK6.o.size
       have h5 := lt_of_some HB9.o
       omega
     ·rw [HIL.o, ← HMAN.o, List.take_of_length_le (by rw [← HN.o]; omega)]
      unfold MnV.man
      simp only
      rw [List.map_map]
      rfl
     ·exact (HK6.o.trans HKX.o (by simp)).trans HKZ.o (by simp)
     ·have h1 := HS3.o
      have h2 := lt_of_some HB7.o
      have h3 := HS5.o
      have h4 := lt_of_some HB9R.o
      have h5 := HS0.o
      omega
end Go.Proofs.YtimpadpeibgmoaaGreat
