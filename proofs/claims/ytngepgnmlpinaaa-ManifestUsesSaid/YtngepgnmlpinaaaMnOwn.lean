/- own: a copy of a manifest. -/
import Derived.Test.YtngepgnmlpinaaaMnBack
namespace Go.Proofs.Ytngepgnmlpinaaa
open Go.RowKit Go.Emb Go.Emb.Ext

/-- what 'own' answers: the same manifest, to be read -/
def OwnP (w : World) (m : Man) (e : Ending) (w' : World) : Prop := ∃ x : MnV, e = .returned (aggM x) ∧ x.man = m ∧ RdM w'.heap.size w' x ∧ Keep [] w w'
/-- the places that have been copied -/
def OwnI (w : World) (b1 b2 b3 : Nat) (C : Obj) (m : MnV) (k : Nat) (wr : World) : Prop :=
  ∃ ro po x, MSep [b1, b2] w.heap.size wr b3 ro po x ∧ x.s = m.s ∧ x.area = m.area ∧ x.rest = m.rest ∧ x.places.map (·.p) = (m.places.take k).map (·.p) ∧ wr.heap[b1]? = some C ∧ wr.heap[b2]? = some (.cells #[.string ⟨#[]⟩, .int .i64 0, .int .i64 0, .slice none 0 0, .slice none 0 0] 27) ∧ Keep [] w wr
theorem encXs_one (l : List (Int × Int)) : ∀ u ∈ l.flatMap encX, u.oneCell' = true := by
  intro u hu
  obtain ⟨x, -, hx⟩ := List.mem_flatMap.1 hu
  simp [encX] at hx
  rcases hx with rfl | rfl <;> rfl
set_option maxRecDepth 100000 in
set_option maxHeartbeats 2000000 in
theorem q_own {w : World} {m : MnV} (hm : RdM w.heap.size w m) (hsp : SmallP m) : Calls Try.prog 13 #[aggM m] w (OwnP w m.man) := by
  obtain ⟨i0, hi, hz0, hz1, hz2⟩ := info_parts byte_info
  obtain ⟨i1, hi1, hx0, hx1, hx2⟩ := info_parts exti_info
  obtain ⟨i2, hi2, hp0, hp1, hp2⟩ := info_parts plc_info
  have HI := Lib.hid hi
  have HI1 := Lib.hid hi1
  have HI2 := Lib.hid hi2
  have HOK := Lib.hid hm.ok
  have HBL := Lib.hid hsp.bytes
  have hrl : m.rest.length ≤ 20000 := by have := hsp.2; omega
  have hpl : m.places.length ≤ 100 := hsp.1
  have HSV := Lib.hid hsp.v
  clear hi hi1 hi2 hsp
  obtain ⟨⟨ra, rc, hrv, hrc1, hrc2⟩, pa, pc, hpv, hpc1, hpc2⟩ := hm.forms
  obtain ⟨C, hC⟩ : ∃ C : Obj, C = .cells #[.string m.s, .int .i64 m.area.1, .int .i64 m.area.2, m.rv, m.pv] 27 := ⟨_, rfl⟩
  have HC := Lib.hid hC
  rw [hrv, hpv] at hC
  subst hC
  have hrd := hm.2.2.1.1
  have hk0 : Keep [] w (((w.alloc (.cells #[.string m.s, .int .i64 m.area.1, .int .i64 m.area.2, .slice ra m.rest.length rc, .slice pa m.places.length pc] 27)).alloc (.cells #[.string ⟨#[]⟩, .int .i64 0, .int .i64 0, .slice none 0 0, .slice none 0 0] 27)).alloc (.cells #[.string m.s, .int .i64 m.area.1, .int .i64 m.area.2, .slice ra m.rest.length rc, .slice pa m.places.length pc] 27)) := (((Keep.refl [] w).alloc _).alloc _).alloc _
  have hb1 := lit_alloc (heap_new w (.cells #[.string m.s, .int .i64 m.area.1, .int .i64 m.area.2, .slice ra m.rest.length rc, .slice pa m.places.length pc] 27)) (.cells #[.string ⟨#[]⟩, .int .i64 0, .int .i64 0, .slice none 0 0, .slice none 0 0] 27)
  have hb2 := lit_alloc (heap_new (w.alloc (.cells #[.string m.s, .int .i64 m.area.1, .int .i64 m.area.2, .slice ra m.rest.length rc, .slice pa m.places.length pc] 27)) (.cells #[.string ⟨#[]⟩, .int .i64 0, .int .i64 0, .slice none 0 0, .slice none 0 0] 27)) (.cells #[.string m.s, .int .i64 m.area.1, .int .i64 m.area.2, .slice ra m.rest.length rc, .slice pa m.places.length pc] 27)
  have hb3 := heap_new ((w.alloc (.cells #[.string m.s, .int .i64 m.area.1, .int .i64 m.area.2, .slice ra m.rest.length rc, .slice pa m.places.length pc] 27)).alloc (.cells #[.string ⟨#[]⟩, .int .i64 0, .int .i64 0, .slice none 0 0, .slice none 0 0] 27)) (.cells #[.string m.s, .int .i64 m.area.1, .int .i64 m.area.2, .slice ra m.rest.length rc, .slice pa m.places.length pc] 27)
  have hb1' := lit_alloc hb1 (.cells #[.string m.s, .int .i64 m.area.1, .int .i64 m.area.2, .slice ra m.rest.length rc, .slice pa m.places.length pc] 27)
  obtain ⟨m0, m1, m2, m3, m4⟩ := cells5 hb1
  simp only [size_alloc] at hb1 hb1' hb2 hb3 m0 m1 m2 m3 m4
  have HB1 := Lib.hid hb1'
  have HB2 := Lib.hid hb2
  have HB3 := Lib.hid hb3
  have HK0 := Lib.hid hk0
  have HM := Lib.hid hm
  clear hk0 hb1 hb1' hb2 hb3 hm hrd
  unfold aggM
  rw [hrv, hpv]
  go_enter Try.func13, Try.ntmps13
  go_upto_region 2 with fail
  have hs3 : (((w.alloc (.cells #[.string m.s, .int .i64 m.area.1, .int .i64 m.area.2, .slice ra m.rest.length rc, .slice pa m.places.length pc] 27)).alloc (.cells #[.string ⟨#[]⟩, .int .i64 0, .int .i64 0, .slice none 0 0, .slice none 0 0] 27)).alloc (.cells #[.string m.s, .int .i64 m.area.1, .int .i64 m.area.2, .slice ra m.rest.length rc, .slice pa m.places.length pc] 27)).heap.size = w.heap.size + 1 + 1 + 1 := by simp only [size_alloc]
  clear m0 m1 m2 m3 m4
  generalize ((w.alloc (.cells #[.string m.s, .int .i64 m.area.1, .int .i64 m.area.2, .slice ra m.rest.length rc, .slice pa m.places.length pc] 27)).alloc (.cells #[.string ⟨#[]⟩, .int .i64 0, .int .i64 0, .slice none 0 0, .slice none 0 0] 27)).alloc (.cells #[.string m.s, .int .i64 m.area.1, .int .i64 m.area.2, .slice ra m.rest.length rc, .slice pa m.places.length pc] 27) = w3 at *
  generalize hB3 : w.heap.size + 1 + 1 = b3 at *
  generalize hB2 : w.heap.size + 1 = b2 at *
  have HS3 := Lib.hid (show w3.heap.size = w.heap.size + 3 by omega)
  have HE3 := Lib.hid (show b3 = w.heap.size + 2 by omega)
  have HE2 := Lib.hid (show b2 = w.heap.size + 1 by omega)
  clear hs3 hB3 hB2
  have HM3 := Lib.hid (HM.out.keep HK0.out (by simp))
  obtain ⟨⟨ro, hrd, hro⟩, -⟩ := HM3.out.2.2.1
  rw [hrv] at hrd
  have HRD := Lib.hid hrd
  obtain ⟨m0, m1, m2, m3, m4⟩ := cells5 (lit_alloc HB1.out (.cells #[] 5))
  clear hrd
  go_wp2_with (at_builtin; refine wpList_append_rd _ rfl _ _ 24 24 rfl 5 5 i0 (.int .u8 0) 1 1 Try.underlying24 Try.underlying24 HI.out hz0 hz1 hz2 rfl w3.heap.size 0 0 0 [] rfl (Row.made0 w3 _ _) _ rfl m.rest.length (Lib.byteCells m.rest) ro (HRD.out.keep ((Keep.refl [] w3).alloc _) (by simp)) (byteCells_one _) (by unfold maxLen; omega) (by omega) ?_)
  intro g off cap w4 hr4 hk4 hg4
  try simp only [Nat.zero_add, List.nil_append] at hr4
  try simp only [Nat.zero_add, List.nil_append]
  have hk4' : Keep [] w3 w4 := ((Keep.refl [] w3).alloc _).trans hk4 (by simp)
  have HR4 := Lib.hid hr4
  have HK4 := Lib.hid (HK0.out.trans hk4' (by simp))
  have HG4 := Lib.hid (show w3.heap.size ≤ g by rcases hg4 with h | h <;> (try simp at h) <;> omega)
  have HB14 := Lib.hid (blk_keep HB1.out hk4' (by simp))
  have HB24 := Lib.hid (blk_keep HB2.out hk4' (by simp))
  have hb34 := blk_keep HB3.out hk4' (by simp)
  have n3 : w4.cell? ⟨b3, 3, none⟩ = some (.slice ra m.rest.length rc) := by simp [World.cell?, hb34]
  have nf3 : w4.frozen? ⟨b3, 3, none⟩ = false := by simp [World.frozen?, hb34]
  have HB34 := Lib.hid hb34
  clear hk4 hk4' hg4 hr4 hb34 m0 m1 m2 m3 m4
  go_upto_region 3 with fail
  have hb35 := heap_setCell_at (i := 3) HB34.out (.slice (some ⟨g, off, none⟩) m.rest.length cap)
  have hk5 : Keep [b3] w4 (w4.setCell ⟨b3, 3, none⟩ (.slice (some ⟨g, off, none⟩) m.rest.length cap)) := (Keep.refl _ w4).setCell (.inl (by simp)) _
  generalize w4.setCell ⟨b3, 3, none⟩ (.slice (some ⟨g, off, none⟩) m.rest.length cap) = w5 at *
  simp only [List.setIfInBounds_toArray, List.set_cons_zero, List.set_cons_succ] at hb35
  have HB35 := Lib.hid hb35
  have hk04 : Keep [] w w5 := HK4.out.trans hk5 (fun b hb => .inr (by simp at hb; subst hb; have := HE3.out; omega))
  have HB15 := Lib.hid (blk_keep HB14.out hk5 (by have := HE3.out; simp; omega))
  have HB25 := Lib.hid (blk_keep HB24.out hk5 (by have := HE3.out; have := HE2.out; simp; omega))
  have HR5 := Lib.hid (HR4.out.keep hk5 (fun b hb => by cases hb; have := HE3.out; have := HG4.out; have := HS3.out; simp; omega))
  have HK5 := Lib.hid hk04
  have n4 : w5.cell? ⟨b3, 4, none⟩ = some (.slice pa m.places.length pc) := by simp [World.cell?, hb35]
  have nf4 : w5.frozen? ⟨b3, 4, none⟩ = false := by simp [World.frozen?, hb35]
  clear hb35 hk5 hk04 n3 nf3 HB14 HB24 HB34 HR4 HK4 HK0 HRD HM3 HB1 HB2 HB3
  go_upto_region 4 with fail
  have hb36 := heap_setCell_at (i := 4) HB35.out (.slice none 0 0)
  have hk6 : Keep [b3] w5 (w5.setCell ⟨b3, 4, none⟩ (.slice none 0 0)) := (Keep.refl _ w5).setCell (.inl (by simp)) _
  generalize w5.setCell ⟨b3, 4, none⟩ (.slice none 0 0) = w6 at *
  simp only [List.setIfInBounds_toArray, List.set_cons_zero, List.set_cons_succ] at hb36
  have hr6 := HR5.out.keep hk6 (fun b hb => by cases hb; have := HE3.out; have := HG4.out; have := HS3.out; simp; omega)
  have hi6 : OwnI w w.heap.size b2 b3 (.cells #[.string m.s, .int .i64 m.area.1, .int .i64 m.area.2, .slice ra m.rest.length rc, .slice pa m.places.length pc] 27) m 0 w6 := by
    obtain ⟨o6, hr, ho⟩ := hr6.rd
    have := HE3.out; have := HE2.out; have hgg := HG4.out; have := HS3.out
    have hgl := hr6.lt g rfl
    refine ⟨o6, none, ⟨m.s, m.area, .slice (some ⟨g, off, none⟩) m.rest.length cap, m.rest, .slice none 0 0, []⟩, ⟨hb36, hr, Row.nil _ _ _, (fun y hy => by cases hy), (by simp; omega), (by omega), (fun b hb => ?_), (fun b hb => by cases hb)⟩, rfl, rfl, rfl, by simp, blk_keep HB15.out hk6 (by simp; omega), blk_keep HB25.out hk6 (by simp; omega), HK5.out.trans hk6 (fun b hb => .inr (by simp at hb; omega))⟩
    rcases ho with h | h
    · rw [h] at hb; cases hb
    · rw [h] at hb; cases hb
      exact ⟨by omega, hgl, by simp; omega, by omega, by simp⟩
  have HI6 := Lib.hid hi6
  clear hi6 hk6 hb36 hr6 HB15 HB25 HB35 HR5 HK5 HG4 n4 nf4
  go_wp2_with fail
  go_loopw [4] (fun i wr => ∃ k : Nat, k ≤ m.places.length ∧ i = .int .i64 (k : Int) ∧ OwnI w w.heap.size b2 b3 (.cells #[.string m.s, .int .i64 m.area.1, .int .i64 m.area.2, .slice ra m.rest.length rc, .slice pa m.places.length pc] 27) m k wr) (fun i _ => m.places.length - (intOf i).toNat)
  case atStart => exact ⟨0, Nat.zero_le _, rfl, HI6.out⟩
  case round =>
    obtain ⟨k, hk, rfl, hown⟩ := hrel
    clear HI6
    obtain ⟨ro, po, x, hms, ex1, ex2, ex3, ex4, hbx1, hbx2, hkw⟩ := hown
    have HEX := Lib.hid (And.intro ex1 (And.intro ex2 (And.intro ex3 ex4)))
    have hxl : x.places.length = k := by have := congrArg List.length ex4; simp at this; omega
    have HXL := Lib.hid hxl
    clear ex1 ex2 ex3 ex4 hxl
    obtain ⟨m0, m1, m2, m3, m4⟩ := cells5 hbx1
    have HMS := Lib.hid hms
    have HX1 := Lib.hid hbx1
    have HX2 := Lib.hid hbx2
    have HKW := Lib.hid hkw
    clear hms hbx1 hbx2 hkw
    by_cases hlt : k < m.places.length
    · have hpl2 := HM.out.2.2.2.keep HKW.out (by simp)
      rw [hpv] at hpl2
      obtain ⟨pb, poff, rfl, hpb, g0, g1, g2⟩ := hpl2.at hlt
      obtain ⟨y0, hy0⟩ : ∃ y, y = m.places[k] := ⟨_, rfl⟩
      have hpx := hpl2.2.1 _ (List.getElem_mem hlt)
      have hpn := HSV.out _ (List.getElem_mem hlt)
      clear hpl2
      rw [← hy0] at g0 g1 g2 hpx hpn
      have HY0 := Lib.hid hy0
      obtain ⟨hx1', hx2', hx3⟩ := hpx
      obtain ⟨xa, xc, hxv, hxc1, hxc2⟩ := hx3.slice
      rw [hxv] at g2 hx3
      unfold maxLen at hxc2
      have HX3 := Lib.hid hx3
      clear hx1' hx2' hx3 hy0 hxv
      have i0' : (0 : Int) ≤ (k : Int) := by omega
      have i1' : (k : Int) < (m.places.length : Int) := by omega
      go_upto_region 8 with fail
      have hk8 : Keep [] wr (wr.alloc (.cells #[.int .i64 y0.p.pid, .int .i64 y0.p.len, .slice xa y0.p.pieces.length xc] 43)) := (Keep.refl [] wr).alloc _
      have HMS8 := Lib.hid ((HMS.out.turn (bv := [wr.heap.size, w.heap.size, b2]) (fun b hb => by rcases List.mem_cons.1 hb with h | h; exact .inr (by omega); exact .inl h)).keep hk8 (by simp))
      have HB8 := Lib.hid (heap_new wr (.cells #[.int .i64 y0.p.pid, .int .i64 y0.p.len, .slice xa y0.p.pieces.length xc] 43))
      have HX8 := Lib.hid (HX3.out.keep hk8 (by simp))
      have HX18 := Lib.hid (blk_keep HX1.out hk8 (by simp))
      have HX28 := Lib.hid (blk_keep HX2.out hk8 (by simp))
      have HK8 := Lib.hid (HKW.out.trans hk8 (by simp))
      have HQ := Lib.hid (show w.heap.size ≤ wr.heap.size from HKW.out.size)
      have HQ1 := Lib.hid (show w.heap.size < wr.heap.size from (Array.getElem?_eq_some_iff.1 HX1.out).1)
      have HQ2 := Lib.hid (show b2 < wr.heap.size from (Array.getElem?_eq_some_iff.1 HX2.out).1)
      clear hk8 m0 m1 m2 m3 m4 g0 g1 g2 HMS HX1 HX2 HKW HX3
      generalize wr.alloc (.cells #[.int .i64 y0.p.pid, .int .i64 y0.p.len, .slice xa y0.p.pieces.length xc] 43) = w8 at *
      generalize wr.heap.size = pq at *
      obtain ⟨⟨xo, hxd, hxo⟩, -⟩ := HX8.out
      have HXD := Lib.hid hxd
      clear hxd
      have HQ3 := Lib.hid HMS8.out.lt
      have HPO := Lib.hid HMS8.out.row.lt
      have HQ8 := Lib.hid (show pq < w8.heap.size from (Array.getElem?_eq_some_iff.1 HB8.out).1)
      obtain ⟨c0, c1, c2, f0⟩ := cells3 (lit_alloc HB8.out (.cells #[] 23))
      go_wp2_with (at_builtin; refine wpList_append_rd _ rfl _ _ 41 41 rfl 23 23 i1 (.agg #[.int .i64 0, .int .i64 0]) 2 16 Try.underlying41 Try.underlying41 HI1.out hx0 hx1 hx2 rfl w8.heap.size 0 0 0 [] rfl (Row.made0 w8 _ _) _ rfl y0.p.pieces.length (y0.p.pieces.flatMap encX) xo (HXD.out.keep ((Keep.refl [] w8).alloc _) (by simp)) (encXs_one _) (by unfold maxLen; omega) (by omega) ?_)
      intro g off cap w9 hr9 hk9 hg9
      try simp only [Nat.zero_add, List.nil_append] at hr9
      try simp only [Nat.zero_add, List.nil_append]
      have hk9' : Keep [] w8 w9 := ((Keep.refl [] w8).alloc _).trans hk9 (by simp)
      have HR9 := Lib.hid hr9
      have HG9 := Lib.hid (show w8.heap.size ≤ g by rcases hg9 with h | h <;> (try simp at h) <;> omega)
      have HMS9 := Lib.hid (HMS8.out.keep hk9' (by simp))
      have HX19 := Lib.hid (blk_keep HX18.out hk9' (by simp))
      have HX29 := Lib.hid (blk_keep HX28.out hk9' (by simp))
      have HK9 := Lib.hid (HK8.out.trans hk9' (by simp))
      have hb9 := blk_keep HB8.out hk9' (by simp)
      have HB9 := Lib.hid hb9
      have n2 : w9.cell? ⟨pq, 2, none⟩ = some (.slice xa y0.p.pieces.length xc) := by simp [World.cell?, hb9]
      have nf2 : w9.frozen? ⟨pq, 2, none⟩ = false := by simp [World.frozen?, hb9]
      clear hr9 hk9 hg9 hk9' hb9 HMS8 HX18 HX28 HK8 HB8 HX8 HXD c0 c1 c2 f0
      go_upto_region 9 with fail
      have hb10 := heap_setCell_at (i := 2) HB9.out (.slice (some ⟨g, off, none⟩) y0.p.pieces.length cap)
      have hk10 : Keep [pq] w9 (w9.setCell ⟨pq, 2, none⟩ (.slice (some ⟨g, off, none⟩) y0.p.pieces.length cap)) := (Keep.refl _ w9).setCell (.inl (by simp)) _
      generalize w9.setCell ⟨pq, 2, none⟩ (.slice (some ⟨g, off, none⟩) y0.p.pieces.length cap) = w10 at *
      simp only [List.setIfInBounds_toArray, List.set_cons_zero, List.set_cons_succ] at hb10
      have HMS10 := Lib.hid (HMS9.out.keep hk10 (fun b hb => .inl (by simp at hb; subst hb; simp)))
      have HX110 := Lib.hid (blk_keep HX19.out hk10 (by have := HQ1.out; simp; omega))
      have HX210 := Lib.hid (blk_keep HX29.out hk10 (by have := HQ2.out; simp; omega))
      have HK10 := Lib.hid (HK9.out.trans hk10 (fun b hb => .inr (by simp at hb; subst hb; exact HQ.out)))
      have HR10 := Lib.hid (HR9.out.keep hk10 (fun b hb => by cases hb; have := HQ8.out; have := HG9.out; simp; omega))
      have HB10 := Lib.hid hb10
      clear hk10 n2 nf2 HMS9 HX19 HX29 HK9 HR9 HB9
      obtain ⟨m0, m1, m2, m3, m4⟩ := cells5 HMS10.out.box
      obtain ⟨c0, c1, c2, -⟩ := cells3 hb10
      obtain ⟨va, vn, vc, hxpv⟩ : ∃ xa xn xc, x.pv = .slice xa xn xc := by
        obtain ⟨-, ⟨-, h, -⟩ | ⟨_, _, _, _, -, h, -⟩⟩ := HMS10.out.row <;> exact ⟨_, _, _, h⟩
      have hrow := HMS10.out.row
      rw [hxpv] at hrow
      have HRW := Lib.hid hrow
      clear hrow hb10
      have t1 := src_blk (P := Try.prog) (k := 3) Try.underlying25 (heap_new w10 (.cells #[.int .i64 y0.p.pid, .int .i64 y0.p.len, .slice (some ⟨g, off, none⟩) y0.p.pieces.length cap] 43)) rfl (encP_one ⟨⟨y0.p.pid, y0.p.len, []⟩, .slice (some ⟨g, off, none⟩) y0.p.pieces.length cap⟩ rfl)
      have t2 := HRW.out.keep ((Keep.refl [] w10).alloc (.cells #[.int .i64 y0.p.pid, .int .i64 y0.p.len, .slice (some ⟨g, off, none⟩) y0.p.pieces.length cap] 43)) (by simp)
      have T1 := Lib.hid t1
      have T2 := Lib.hid t2
      clear t1 t2
      have hxl : x.places.length ≤ 100 := by have := HXL.out; omega
      go_wp2_with (at_builtin; refine wpList_append_row _ rfl _ _ 25 25 rfl 43 i2 (.agg #[.int .i64 0, .int .i64 0, .slice none 0 0]) 3 40 Try.underlying25 HI2.out hp0 hp1 hp2 rfl _ x.places.length _ po rfl T2.out _ rfl 1 _ T1.out (by omega) (by first | (unfold maxLen; omega) | (simp [maxLen] <;> omega)) (by omega) ?_)
      intro g9 off9 cap9 w12 hr12 hk12 hg12
      obtain ⟨y, hy⟩ : ∃ y : PlV, y = ⟨y0.p, .slice (some ⟨g, off, none⟩) y0.p.pieces.length cap⟩ := ⟨_, rfl⟩
      have hr12' : Row w12 43 3 (.slice (some ⟨g9, off9, none⟩) (x.places.length + 1) cap9) (x.places ++ [y]).length ((x.places ++ [y]).flatMap encP) (some g9) := by
        rw [List.flatMap_append, List.length_append, hy]; exact hr12
      have hnp : ∀ b, po = some b → b ≠ b3 ∧ b ∉ [pq, w.heap.size, b2] := fun b hb => ⟨(HMS10.out.pon b hb).2.2, (HMS10.out.pon b hb).2.1⟩
      have hpol : ∀ b, b ∉ po.toList ↔ po ≠ some b := fun b => by cases po with
        | none => simp
        | some z => simp; exact ⟨fun h e => h e.symm, fun h e => h e.symm⟩
      have hbx := blk_keep (lit_alloc HMS10.out.box (.cells #[.int .i64 y0.p.pid, .int .i64 y0.p.len, .slice (some ⟨g, off, none⟩) y0.p.pieces.length cap] 43)) hk12 ((hpol _).2 (fun e => (hnp _ e).1 rfl))
      have HX112 := Lib.hid (blk_keep (lit_alloc HX110.out (.cells #[.int .i64 y0.p.pid, .int .i64 y0.p.len, .slice (some ⟨g, off, none⟩) y0.p.pieces.length cap] 43)) hk12 ((hpol _).2 (fun e => (hnp _ e).2 (by simp))))
      have HX212 := Lib.hid (blk_keep (lit_alloc HX210.out (.cells #[.int .i64 y0.p.pid, .int .i64 y0.p.len, .slice (some ⟨g, off, none⟩) y0.p.pieces.length cap] 43)) hk12 ((hpol _).2 (fun e => (hnp _ e).2 (by simp))))
      have HK12 := Lib.hid (((Keep.refl po.toList w10).alloc (.cells #[.int .i64 y0.p.pid, .int .i64 y0.p.len, .slice (some ⟨g, off, none⟩) y0.p.pieces.length cap] 43)).trans hk12 (fun b hb => .inl hb))
      have HG12 := Lib.hid (show some g9 = po ∨ ∀ b, some g9 = some b → w10.heap.size ≤ b from by
        rcases hg12 with h | h
        · exact .inl h.symm
        · exact .inr (fun b hb => by cases hb; first | omega | (simp at h; omega)))
      have HR12 := Lib.hid hr12'
      have HY := Lib.hid hy
      have HBX := Lib.hid hbx
      have HPOL := Lib.hid hpol
      have n4 : w12.cell? ⟨b3, 4, none⟩ = some x.pv := by simp [World.cell?, hbx]
      have nf : w12.frozen? ⟨b3, 4, none⟩ = false := by simp [World.frozen?, hbx]
      clear hr12 hk12 hg12 hr12' hy hnp hpol hbx T1 T2 m0 m1 m2 m3 m4 c0 c1 c2 hxl HX110 HX210
      go_wp2_with fail
      go_roundw
      case rel =>
        have hkz : Keep [b3] w12 (w12.setCell ⟨b3, 4, none⟩ (.slice (some ⟨g9, off9, none⟩) (x.places.length + 1) cap9)) := (Keep.refl _ w12).setCell (.inl (by simp)) _
        have hbz := heap_setCell_at (i := 4) HBX.out (.slice (some ⟨g9, off9, none⟩) (x.places.length + 1) cap9)
        have e2 := HE2.out
        have e3 := HE3.out
        obtain ⟨o, hrd, ho⟩ := HR10.out.rd
        have hms' : MSep [w.heap.size, b2] w.heap.size w10 b3 ro po x := HMS10.out.turn (fun b hb => .inl (List.mem_cons_of_mem _ hb))
        have hav : ∀ b ∈ [w.heap.size, b2], b < w10.heap.size := fun b hb => by
          have h1 := (HK10.out.size)
          have h2 := HMS10.out.lt
          simp at hb
          rcases hb with h | h <;> omega
        have hgg := HG9.out
        have hq8 := HQ8.out
        have h1 := HQ1.out
        have hlt3 := HQ3.out
        have hgl := HR10.out.lt g rfl
        have hgp : po ≠ some g := fun e => by have := HPO.out g e; omega
        have hm := hms'.more (w2 := w12) (y := y) HK10.out.size ⟨o, by rw [HY.out]; exact hrd, fun b hb => by
          have hbg : b = g := by
            rcases ho with h | h
            · rw [h] at hb; cases hb
            · rw [h] at hb; exact (Option.some.inj hb).symm
          subst hbg
          exact ⟨by omega, hgl, by simp; omega, by omega, hgp⟩⟩ HR12.out HK12.out HG12.out hav hkz (by simpa using hbz)
        obtain ⟨f1, f2, f3, f4⟩ := HEX.out
        refine ⟨k + 1, by omega, by go_num, ro, some g9, _, hm, f1, f2, f3, ?_, blk_keep HX112.out hkz (by simp; omega), blk_keep HX212.out hkz (by simp; omega), (HK10.out.trans HK12.out (fun b hb => .inr ?_)).trans hkz (fun b hb => .inr (by simp at hb; omega))⟩
        · rw [List.take_succ_eq_append_getElem hlt, List.map_append, List.map_append, f4, HY.out, HY0.out]; rfl
        · cases hpo : po with
          | none => rw [hpo] at hb; cases hb
          | some z => rw [hpo] at hb; simp at hb; subst hb; exact (HMS10.out.pon b hpo).1
      case measure => simp [intOf]; omega
    · obtain rfl : k = m.places.length := by omega
      obtain ⟨q0, q1, q2, q3, q4⟩ := cells5 HMS.out.box
      obtain ⟨d0, d1, d2, d3, d4⟩ := cells5 HX2.out
      have f0 : wr.frozen? ⟨b2, 0, none⟩ = false := by simp [World.frozen?, HX2.out]
      have f1 : wr.frozen? ⟨b2, 1, none⟩ = false := by simp [World.frozen?, HX2.out]
      have f2 : wr.frozen? ⟨b2, 2, none⟩ = false := by simp [World.frozen?, HX2.out]
      have f3 : wr.frozen? ⟨b2, 3, none⟩ = false := by simp [World.frozen?, HX2.out]
      have f4 : wr.frozen? ⟨b2, 4, none⟩ = false := by simp [World.frozen?, HX2.out]
      have i1' : ¬ (m.places.length : Int) < (m.places.length : Int) := by omega
      obtain ⟨va, vn, vc, hxpv⟩ : ∃ xa xn xc, x.pv = .slice xa xn xc := by
        obtain ⟨-, ⟨-, h, -⟩ | ⟨_, _, _, _, -, h, -⟩⟩ := HMS.out.row <;> exact ⟨_, _, _, h⟩
      obtain ⟨ua, un, uc, hxrv⟩ : ∃ xa xn xc, x.rv = .slice xa xn xc := by
        obtain ⟨-, a, c, h, -⟩ := HMS.out.rest
        exact ⟨_, _, _, h⟩
      rw [hxrv] at q3
      rw [hxpv] at q4
      have HRV := Lib.hid hxrv
      have HPV := Lib.hid hxpv
      clear hxrv hxpv
      go_wp2_with fail
      have hkz : Keep [b2] wr (((((wr.setCell ⟨b2, 0, none⟩ (.string x.s)).setCell ⟨b2, 1, none⟩ (.int .i64 x.area.1)).setCell ⟨b2, 2, none⟩ (.int .i64 x.area.2)).setCell ⟨b2, 3, none⟩ (.slice ua un uc)).setCell ⟨b2, 4, none⟩ (.slice va vn vc)) := (((((Keep.refl _ wr).setCell (.inl (by simp)) _).setCell (.inl (by simp)) _).setCell (.inl (by simp)) _).setCell (.inl (by simp)) _).setCell (.inl (by simp)) _
      have hbz : ((((((wr.setCell ⟨b2, 0, none⟩ (.string x.s)).setCell ⟨b2, 1, none⟩ (.int .i64 x.area.1)).setCell ⟨b2, 2, none⟩ (.int .i64 x.area.2)).setCell ⟨b2, 3, none⟩ (.slice ua un uc)).setCell ⟨b2, 4, none⟩ (.slice va vn vc))).heap[b2]? = some (.cells #[.string x.s, .int .i64 x.area.1, .int .i64 x.area.2, .slice ua un uc, .slice va vn vc] 27) := by simpa using heap_setCell_at (i := 4) (heap_setCell_at (i := 3) (heap_setCell_at (i := 2) (heap_setCell_at (i := 1) (heap_setCell_at (i := 0) HX2.out (.string x.s)) (.int .i64 x.area.1)) (.int .i64 x.area.2)) (.slice ua un uc)) (.slice va vn vc)
      generalize (((((wr.setCell ⟨b2, 0, none⟩ (.string x.s)).setCell ⟨b2, 1, none⟩ (.int .i64 x.area.1)).setCell ⟨b2, 2, none⟩ (.int .i64 x.area.2)).setCell ⟨b2, 3, none⟩ (.slice ua un uc)).setCell ⟨b2, 4, none⟩ (.slice va vn vc)) = wz at *
      refine bodyPost_ret (results_cell_row (ty := 27) rfl _ wz b2 _ _ _ _ rfl hbz Try.underlying27 rfl man_size) rfl ?_
      have hmz := HMS.out.keep hkz (fun b hb => .inl (by simp at hb; subst hb; simp))
      obtain ⟨g1, g2, g3, g4⟩ := HEX.out
      have hman : x.man = m.man := by
        unfold MnV.man
        rw [g1, g2, g3, g4, List.take_length]
      refine ⟨x, by unfold aggM; rw [HRV.out, HPV.out], hman, hmz.rdm (by rw [hman]; exact HOK.out) (by rw [hman]; have := HBL.out; omega), HKW.out.trans hkz (fun b hb => .inr (by simp at hb; have := HE2.out; omega))⟩
end Go.Proofs.Ytngepgnmlpinaaa
