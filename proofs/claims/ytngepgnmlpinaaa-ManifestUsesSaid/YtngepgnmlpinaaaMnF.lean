import Derived.Test.YtngepgnmlpinaaaMnOwn
/- The document's Find. -/
namespace Go.Proofs.Ytngepgnmlpinaaa
open Go.RowKit Go.Emb Go.Emb.Ext

theorem plc_size3 : (Try.prog.info? 43).map (·.size) = some 3 := by kernel_rfl
/-- the first place of a pid -/
def findL (m : MnV) (pid : Int) : Option PlV := m.places.find? (fun y => decide (y.p.pid = pid))
/-- what both Finds answer -/
def FindP (w : World) (m : MnV) (pid : Int) (e : Ending) (w' : World) : Prop := Keep [] w w' ∧ e = .returned (.tuple #[((findL m pid).map aggP).getD (.agg #[.int .i64 0, .int .i64 0, .slice none 0 0]), .bool (findL m pid).isSome])
theorem findL_at {m : MnV} {pid : Int} {k : Nat} (hk : k < m.places.length) (h0 : ∀ y ∈ m.places.take k, y.p.pid ≠ pid) (h1 : m.places[k].p.pid = pid) : findL m pid = some m.places[k] := by
  unfold findL
  have : m.places = m.places.take k ++ m.places[k] :: m.places.drop (k + 1) := by
    rw [← List.drop_eq_getElem_cons hk, List.take_append_drop]
  conv => lhs; rw [this]
  rw [List.find?_append, List.find?_eq_none.2 (fun y hy => by simpa using h0 y hy), List.find?_cons_of_pos (by simpa using h1)]
  rfl
theorem findL_none {m : MnV} {pid : Int} (h0 : ∀ y ∈ m.places, y.p.pid ≠ pid) : findL m pid = none := by
  unfold findL
  exact List.find?_eq_none.2 (fun y hy => by simpa using h0 y hy)
set_option maxRecDepth 100000 in
set_option maxHeartbeats 2000000 in
theorem r_find {w : World} {m : MnV} (hm : RdM w.heap.size w m) (hpl : m.places.length ≤ 100) {pid : Int} (hpid : I64 pid) : Calls Try.prog 18 #[aggM m, .int .i64 pid] w (FindP w m pid) := by
  obtain ⟨⟨ra, rc, hrv, hrc1, hrc2⟩, pa, pc, hpv, hpc1, hpc2⟩ := hm.forms
  have hk0 : Keep [] w ((w.alloc (.cells #[.string m.s, .int .i64 m.area.1, .int .i64 m.area.2, .slice ra m.rest.length rc, .slice pa m.places.length pc] 27)).alloc (.cells #[.int .i64 0, .int .i64 0, .slice none 0 0] 43)) := ((Keep.refl [] w).alloc _).alloc _
  have hb1 := lit_alloc (heap_new w (.cells #[.string m.s, .int .i64 m.area.1, .int .i64 m.area.2, .slice ra m.rest.length rc, .slice pa m.places.length pc] 27)) (.cells #[.int .i64 0, .int .i64 0, .slice none 0 0] 43)
  have hb2 := heap_new (w.alloc (.cells #[.string m.s, .int .i64 m.area.1, .int .i64 m.area.2, .slice ra m.rest.length rc, .slice pa m.places.length pc] 27)) (.cells #[.int .i64 0, .int .i64 0, .slice none 0 0] 43)
  simp only [size_alloc] at hb2
  have hps := hm.2.2.2.keep hk0 (by simp)
  rw [hpv] at hps
  have HB1 := Lib.hid hb1
  have HB2 := Lib.hid hb2
  have HK0 := Lib.hid hk0
  have HPS := Lib.hid hps
  clear hk0 hb1 hb2 hm hps
  unfold aggM
  rw [hrv, hpv]
  go_enter Try.func18, Try.ntmps18
  go_wp2_with fail
  generalize (w.alloc (.cells #[.string m.s, .int .i64 m.area.1, .int .i64 m.area.2, .slice ra m.rest.length rc, .slice pa m.places.length pc] 27)).alloc (.cells #[.int .i64 0, .int .i64 0, .slice none 0 0] 43) = w2 at *
  generalize hB2 : w.heap.size + 1 = b2 at *
  have HE2 := Lib.hid hB2
  clear hB2
  go_loopw [6] (fun i wr => ∃ k : Nat, k ≤ m.places.length ∧ i = .int .i64 (k : Int) ∧ (∀ y ∈ m.places.take k, y.p.pid ≠ pid) ∧ wr = w2) (fun i _ => m.places.length - (intOf i).toNat)
  case atStart => exact ⟨0, Nat.zero_le _, rfl, (fun y hy => by simp at hy), rfl⟩
  case round =>
    obtain ⟨k, hk, rfl, h0, rfl⟩ := hrel
    have H0 := Lib.hid h0
    clear h0
    obtain ⟨m0, m1, m2, m3, m4⟩ := cells5 HB1.out
    obtain ⟨d0, d1, d2, f0⟩ := cells3 HB2.out
    have f1 : wr.frozen? ⟨b2, 1, none⟩ = false := by simp [World.frozen?, HB2.out]
    have f2 : wr.frozen? ⟨b2, 2, none⟩ = false := by simp [World.frozen?, HB2.out]
    by_cases hlt : k < m.places.length
    · obtain ⟨pb, poff, rfl, hpb, g0, g1, g2⟩ := HPS.out.at hlt
      obtain ⟨y0, hy0⟩ : ∃ y, y = m.places[k] := ⟨_, rfl⟩
      have hpx := HPS.out.2.1 _ (List.getElem_mem hlt)
      rw [← hy0] at g0 g1 g2 hpx
      have HY0 := Lib.hid hy0
      obtain ⟨hx1', hx2', hx3⟩ := hpx
      obtain ⟨xa, xc, hxv, hxc1, hxc2⟩ := hx3.slice
      rw [hxv] at g2
      have HXV := Lib.hid hxv
      clear hx1' hx2' hx3 hy0 hxv
      have i0' : (0 : Int) ≤ (k : Int) := by omega
      have i1' : (k : Int) < (m.places.length : Int) := by omega
      have k0 := g0
      by_cases hq : y0.p.pid = pid
      · go_wp2_with fail
        have hkz : Keep [b2] wr (((wr.setCell ⟨b2, 0, none⟩ (.int .i64 pid)).setCell ⟨b2, 1, none⟩ (.int .i64 y0.p.len)).setCell ⟨b2, 2, none⟩ (.slice xa y0.p.pieces.length xc)) := (((Keep.refl _ wr).setCell (.inl (by simp)) _).setCell (.inl (by simp)) _).setCell (.inl (by simp)) _
        have hbz : ((((wr.setCell ⟨b2, 0, none⟩ (.int .i64 pid)).setCell ⟨b2, 1, none⟩ (.int .i64 y0.p.len)).setCell ⟨b2, 2, none⟩ (.slice xa y0.p.pieces.length xc))).heap[b2]? = some (.cells #[(.int .i64 pid), (.int .i64 y0.p.len), (.slice xa y0.p.pieces.length xc)] 43) := by simpa using heap_setCell_at (i := 2) (heap_setCell_at (i := 1) (heap_setCell_at (i := 0) HB2.out (.int .i64 pid)) (.int .i64 y0.p.len)) (.slice xa y0.p.pieces.length xc)
        generalize (((wr.setCell ⟨b2, 0, none⟩ (.int .i64 pid)).setCell ⟨b2, 1, none⟩ (.int .i64 y0.p.len)).setCell ⟨b2, 2, none⟩ (.slice xa y0.p.pieces.length xc)) = wz at *
        refine bodyPost_ret (results_cell_tmp (ty := 43) rfl _ wz b2 _ _ _ _ rfl hbz Try.underlying43 rfl plc_size3) rfl ?_
        refine ⟨HK0.out.trans hkz (fun b hb => .inr (by simp at hb; have := HE2.out; omega)), ?_⟩
        rw [findL_at hlt H0.out (by rw [← HY0.out]; exact hq), ← HY0.out]
        simp [aggP, HXV.out, hq]
      · go_wp2_with fail
        go_roundw
        case rel => exact ⟨k + 1, by omega, by go_num, (fun y hy => by
          rw [List.take_succ_eq_append_getElem hlt, List.mem_append] at hy
          rcases hy with hy | hy
          · exact H0.out y hy
          · simp at hy; rw [hy, ← HY0.out]; exact hq), trivial⟩
        case measure => simp [intOf]; omega
    · obtain rfl : k = m.places.length := by omega
      have i1' : ¬ (m.places.length : Int) < (m.places.length : Int) := by omega
      go_wp2_with fail
      have hkz : Keep [b2] wr (((wr.setCell ⟨b2, 0, none⟩ (.int .i64 0)).setCell ⟨b2, 1, none⟩ (.int .i64 0)).setCell ⟨b2, 2, none⟩ (.slice none 0 0)) := (((Keep.refl _ wr).setCell (.inl (by simp)) _).setCell (.inl (by simp)) _).setCell (.inl (by simp)) _
      have hbz : ((((wr.setCell ⟨b2, 0, none⟩ (.int .i64 0)).setCell ⟨b2, 1, none⟩ (.int .i64 0)).setCell ⟨b2, 2, none⟩ (.slice none 0 0))).heap[b2]? = some (.cells #[(.int .i64 0), (.int .i64 0), (.slice none 0 0)] 43) := by simpa using heap_setCell_at (i := 2) (heap_setCell_at (i := 1) (heap_setCell_at (i := 0) HB2.out (.int .i64 0)) (.int .i64 0)) (.slice none 0 0)
      generalize (((wr.setCell ⟨b2, 0, none⟩ (.int .i64 0)).setCell ⟨b2, 1, none⟩ (.int .i64 0)).setCell ⟨b2, 2, none⟩ (.slice none 0 0)) = wz at *
      refine bodyPost_ret (results_cell_tmp (ty := 43) rfl _ wz b2 _ _ _ _ rfl hbz Try.underlying43 rfl plc_size3) rfl ?_
      refine ⟨HK0.out.trans hkz (fun b hb => .inr (by simp at hb; have := HE2.out; omega)), ?_⟩
      rw [findL_none (by have := H0.out; rwa [List.take_length] at this)]
      rfl
end Go.Proofs.Ytngepgnmlpinaaa

/- The program's Find. -/
namespace Go.Proofs.Ytngepgnmlpinaaa
open Go.RowKit Go.Emb Go.Emb.Ext

set_option maxRecDepth 100000 in
theorem p_find1 {W : World} {q : Nat} {pid : Int} (hq : W.heap[q]? = some (.cells #[.int .i64 pid] 2)) (a b : Int) (va : Option Addr) (vn vc : Nat) : Calls Try.prog 48 #[.agg #[.int .i64 a, .int .i64 b, .slice va vn vc], .pointer (some ⟨q, 0, none⟩)] W fun e w' => e = .returned (.bool (decide (a = pid))) ∧ Keep [] W w' := by
  have hk : Keep [] W (W.alloc (.cells #[.int .i64 a, .int .i64 b, .slice va vn vc] 43)) := (Keep.refl [] W).alloc _
  have hb := heap_new W (.cells #[.int .i64 a, .int .i64 b, .slice va vn vc] 43)
  have hq2 := lit_alloc hq (.cells #[.int .i64 a, .int .i64 b, .slice va vn vc] 43)
  obtain ⟨c0, c1, c2, -⟩ := cells3 hb
  have d0 : (W.alloc (.cells #[.int .i64 a, .int .i64 b, .slice va vn vc] 43)).cell? ⟨q, 0, none⟩ = some (.int .i64 pid) := by simp [World.cell?, hq2]
  have HK := Lib.hid hk
  clear hk hb hq2 hq
  by_cases h : a = pid
  · rw [decide_eq_true h]
    subst h
    go_enter Try.func48, Try.ntmps48
    go_wp2_with fail
    go_ret
    exact ⟨by simp, HK.out⟩
  · rw [decide_eq_false h]
    go_enter Try.func48, Try.ntmps48
    go_wp2_with fail
    go_ret
    exact ⟨by simp [h], HK.out⟩
/-- where the first place of a pid lies -/
def IdxP (ps : List PlV) (pid : Int) (i : Int) : Prop := (i = -1 ∧ ∀ y ∈ ps, y.p.pid ≠ pid) ∨ ∃ (k : Nat) (h : k < ps.length), i = (k : Int) ∧ ps[k].p.pid = pid ∧ ∀ y ∈ ps.take k, y.p.pid ≠ pid
set_option maxRecDepth 100000 in
set_option maxHeartbeats 1000000 in
theorem p_index {B q : Nat} {w : World} {v : Value} {ps : List PlV} {pid : Int} (hps : RdPs B w v ps) (hl : ps.length ≤ 100) (hq : w.heap[q]? = some (.cells #[.int .i64 pid] 2)) :
    Calls Try.prog 47 #[v, .func (.func 48) #[] #[.pointer (some ⟨q, 0, none⟩)]] w fun e w' => ∃ i : Int, e = .returned (.int .i64 i) ∧ IdxP ps pid i ∧ Keep [] w w' := by
  have eg : ∀ args w, (callFunc 48 args).run Try.prog w = .ok (.enter 48 args) w := enters_of Try.func48 (by kernel_rfl) rfl
  obtain ⟨a, c, rfl⟩ : ∃ a c, v = .slice a ps.length c := by obtain ⟨⟨_, ⟨_, a, c, h, _⟩, _⟩, _⟩ := hps; exact ⟨a, c, h⟩
  have HPS := Lib.hid hps
  have HQ := Lib.hid hq
  clear hps hq
  go_enter Try.func47, Try.ntmps47
  go_wp2_with fail
  go_loopw [5, 8] (fun _ i wr => ∃ k : Nat, k ≤ ps.length ∧ i = .int .i64 (k : Int) ∧ Keep [] w wr ∧ ∀ y ∈ ps.take k, y.p.pid ≠ pid) (fun _ i _ => ps.length - (intOf i).toNat)
  case atStart => exact ⟨0, Nat.zero_le _, rfl, Keep.refl _ _, fun y hy => by simp at hy⟩
  case round =>
    obtain ⟨k, hk, rfl, hK, hno⟩ := hrel
    have HK := Lib.hid hK
    have HNO := Lib.hid hno
    clear hK hno
    by_cases hlt : k < ps.length
    · obtain ⟨pb, poff, rfl, hpb, g0, g1, g2⟩ := (HPS.out.keep HK.out (by simp)).at hlt
      obtain ⟨y0, hy0⟩ : ∃ y, y = ps[k] := ⟨_, rfl⟩
      have hpx := HPS.out.2.1 _ (List.getElem_mem hlt)
      rw [← hy0] at g0 g1 g2 hpx
      have HY0 := Lib.hid hy0
      obtain ⟨hx1', hx2', hx3⟩ := hpx
      obtain ⟨xa, xc, hxv, hxc1, hxc2⟩ := hx3.slice
      rw [hxv] at g2
      have hcall := p_find1 (blk_keep HQ.out HK.out (by simp)) y0.p.pid y0.p.len xa y0.p.pieces.length xc
      clear hx1' hx2' hx3 hy0 hxv
      have i0' : (0 : Int) ≤ (k : Int) := by omega
      have i1' : (k : Int) < (ps.length : Int) := by omega
      have k0 := g0
      by_cases hq : y0.p.pid = pid
      · rw [decide_eq_true hq] at hcall
        have HQQ := Lib.hid hq
        clear hq
        go_wp2_with (go_at_fn 48; refine hcall.mono ?_; rintro e w' ⟨rfl, hk'⟩)
        go_ret
        exact ⟨(k : Int), rfl, .inr ⟨k, hlt, rfl, by rw [← HY0.out]; exact HQQ.out, HNO.out⟩, HK.out.trans hk' (by simp)⟩
      · rw [decide_eq_false hq] at hcall
        have HQQ := Lib.hid hq
        clear hq
        go_wp2_with (go_at_fn 48; refine hcall.mono ?_; rintro e w' ⟨rfl, hk'⟩)
        go_roundw
        case rel => exact ⟨k + 1, by omega, by go_num, HK.out.trans hk' (by simp), fun y hy => by
          rw [List.take_succ_eq_append_getElem hlt, List.mem_append] at hy
          rcases hy with hy | hy
          · exact HNO.out y hy
          · simp at hy; rw [hy, ← HY0.out]; exact HQQ.out⟩
        case measure => simp [intOf]; omega
    · obtain rfl : k = ps.length := by omega
      have i1' : ¬ (ps.length : Int) < (ps.length : Int) := by omega
      go_wp2_with fail
      go_ret
      exact ⟨-1, rfl, .inl ⟨rfl, by have := HNO.out; rwa [List.take_length] at this⟩, HK.out⟩
set_option maxRecDepth 100000 in
set_option maxHeartbeats 2000000 in
theorem p_find {w : World} {m : MnV} (hm : RdM w.heap.size w m) (hpl : m.places.length ≤ 100) {pid : Int} (hpid : I64 pid) : Calls Try.prog 17 #[aggM m, .int .i64 pid] w (FindP w m pid) := by
  obtain ⟨⟨ra, rc, hrv, hrc1, hrc2⟩, pa, pc, hpv, hpc1, hpc2⟩ := hm.forms
  have hk0 : Keep [] w (((w.alloc (.cells #[.string m.s, .int .i64 m.area.1, .int .i64 m.area.2, .slice ra m.rest.length rc, .slice pa m.places.length pc] 27)).alloc (.cells #[.int .i64 pid] 2)).alloc (.cells #[.int .i64 0, .int .i64 0, .slice none 0 0] 43)) := (((Keep.refl [] w).alloc _).alloc _).alloc _
  have hb1 := lit_alloc (lit_alloc (heap_new w (.cells #[.string m.s, .int .i64 m.area.1, .int .i64 m.area.2, .slice ra m.rest.length rc, .slice pa m.places.length pc] 27)) (.cells #[.int .i64 pid] 2)) (.cells #[.int .i64 0, .int .i64 0, .slice none 0 0] 43)
  have hb2 := lit_alloc (heap_new (w.alloc (.cells #[.string m.s, .int .i64 m.area.1, .int .i64 m.area.2, .slice ra m.rest.length rc, .slice pa m.places.length pc] 27)) (.cells #[.int .i64 pid] 2)) (.cells #[.int .i64 0, .int .i64 0, .slice none 0 0] 43)
  have hb3 := heap_new ((w.alloc (.cells #[.string m.s, .int .i64 m.area.1, .int .i64 m.area.2, .slice ra m.rest.length rc, .slice pa m.places.length pc] 27)).alloc (.cells #[.int .i64 pid] 2)) (.cells #[.int .i64 0, .int .i64 0, .slice none 0 0] 43)
  simp only [size_alloc] at hb2 hb3
  have hps := hm.2.2.2.keep hk0 (by simp)
  rw [hpv] at hps
  obtain ⟨m0, m1, m2, m3, m4⟩ := cells5 hb1
  have hix := p_index hps hpl hb2
  have HIX := Lib.hid hix
  have HB1 := Lib.hid hb1
  have HB3 := Lib.hid hb3
  have HK0 := Lib.hid hk0
  have HPS := Lib.hid hps
  have eg : ∀ args w, (callFunc 47 args).run Try.prog w = .ok (.enter 47 args) w := enters_of Try.func47 (by kernel_rfl) rfl
  clear hk0 hb1 hb2 hb3 hm hps hix
  unfold aggM
  rw [hrv, hpv]
  go_enter Try.func17, Try.ntmps17
  go_wp2_with fail
  generalize (((w.alloc (.cells #[.string m.s, .int .i64 m.area.1, .int .i64 m.area.2, .slice ra m.rest.length rc, .slice pa m.places.length pc] 27)).alloc (.cells #[.int .i64 pid] 2)).alloc (.cells #[.int .i64 0, .int .i64 0, .slice none 0 0] 43)) = w3 at *
  generalize hB3 : w.heap.size + 1 + 1 = b3 at *
  have HE3 := Lib.hid hB3
  clear hB3 m0 m1 m2 m3 m4
  refine HIX.out.mono ?_
  rintro e w4 ⟨i, rfl, hi, hk4⟩
  have HB14 := Lib.hid (blk_keep HB1.out hk4 (by simp))
  have hb34 := blk_keep HB3.out hk4 (by simp)
  have HPS4 := Lib.hid (HPS.out.keep hk4 (by simp))
  have HK4 := Lib.hid (HK0.out.trans hk4 (by simp))
  clear hk4 HB1 HB3 HPS HK0 HIX
  have HB3 := Lib.hid hb34
  obtain ⟨m0, m1, m2, m3, m4⟩ := cells5 HB14.out
  obtain ⟨d0, d1, d2, f0⟩ := cells3 hb34
  have f1 : w4.frozen? ⟨b3, 1, none⟩ = false := by simp [World.frozen?, hb34]
  have f2 : w4.frozen? ⟨b3, 2, none⟩ = false := by simp [World.frozen?, hb34]
  clear hb34
  rcases hi with ⟨rfl, hno⟩ | ⟨k, hlt, rfl, hq, hno⟩
  · have HNO := Lib.hid hno
    clear hno
    go_wp2_with fail
    have hkz : Keep [b3] w4 (((w4.setCell ⟨b3, 0, none⟩ (.int .i64 0)).setCell ⟨b3, 1, none⟩ (.int .i64 0)).setCell ⟨b3, 2, none⟩ (.slice none 0 0)) := (((Keep.refl _ w4).setCell (.inl (by simp)) _).setCell (.inl (by simp)) _).setCell (.inl (by simp)) _
    have hbz : ((((w4.setCell ⟨b3, 0, none⟩ (.int .i64 0)).setCell ⟨b3, 1, none⟩ (.int .i64 0)).setCell ⟨b3, 2, none⟩ (.slice none 0 0))).heap[b3]? = some (.cells #[(.int .i64 0), (.int .i64 0), (.slice none 0 0)] 43) := by simpa using heap_setCell_at (i := 2) (heap_setCell_at (i := 1) (heap_setCell_at (i := 0) HB3.out (.int .i64 0)) (.int .i64 0)) (.slice none 0 0)
    generalize (((w4.setCell ⟨b3, 0, none⟩ (.int .i64 0)).setCell ⟨b3, 1, none⟩ (.int .i64 0)).setCell ⟨b3, 2, none⟩ (.slice none 0 0)) = wz at *
    refine bodyPost_ret (results_cell_tmp (ty := 43) rfl _ wz b3 _ _ _ _ rfl hbz Try.underlying43 rfl plc_size3) rfl ?_
    refine ⟨HK4.out.trans hkz (fun b hb => .inr (by simp at hb; have := HE3.out; omega)), ?_⟩
    rw [findL_none HNO.out]
    rfl
  · obtain ⟨pb, poff, rfl, hpb, g0, g1, g2⟩ := HPS4.out.at hlt
    obtain ⟨y0, hy0⟩ : ∃ y, y = m.places[k] := ⟨_, rfl⟩
    have hpx := HPS4.out.2.1 _ (List.getElem_mem hlt)
    rw [← hy0] at g0 g1 g2 hpx
    have HY0 := Lib.hid hy0
    have HQ := Lib.hid hq
    have HNO := Lib.hid hno
    obtain ⟨hx1', hx2', hx3⟩ := hpx
    obtain ⟨xa, xc, hxv, hxc1, hxc2⟩ := hx3.slice
    rw [hxv] at g2
    have HXV := Lib.hid hxv
    clear hx1' hx2' hx3 hy0 hxv hq hno
    have i0' : (0 : Int) ≤ (k : Int) := by omega
    have i2' : ¬ (k : Int) < (0 : Int) := by omega
    have i1' : (k : Int) < (m.places.length : Int) := by omega
    have k0 := g0
    go_wp2_with fail
    have hkz : Keep [b3] w4 (((w4.setCell ⟨b3, 0, none⟩ (.int .i64 y0.p.pid)).setCell ⟨b3, 1, none⟩ (.int .i64 y0.p.len)).setCell ⟨b3, 2, none⟩ (.slice xa y0.p.pieces.length xc)) := (((Keep.refl _ w4).setCell (.inl (by simp)) _).setCell (.inl (by simp)) _).setCell (.inl (by simp)) _
    have hbz : ((((w4.setCell ⟨b3, 0, none⟩ (.int .i64 y0.p.pid)).setCell ⟨b3, 1, none⟩ (.int .i64 y0.p.len)).setCell ⟨b3, 2, none⟩ (.slice xa y0.p.pieces.length xc))).heap[b3]? = some (.cells #[(.int .i64 y0.p.pid), (.int .i64 y0.p.len), (.slice xa y0.p.pieces.length xc)] 43) := by simpa using heap_setCell_at (i := 2) (heap_setCell_at (i := 1) (heap_setCell_at (i := 0) HB3.out (.int .i64 y0.p.pid)) (.int .i64 y0.p.len)) (.slice xa y0.p.pieces.length xc)
    generalize (((w4.setCell ⟨b3, 0, none⟩ (.int .i64 y0.p.pid)).setCell ⟨b3, 1, none⟩ (.int .i64 y0.p.len)).setCell ⟨b3, 2, none⟩ (.slice xa y0.p.pieces.length xc)) = wz at *
    refine bodyPost_ret (results_cell_tmp (ty := 43) rfl _ wz b3 _ _ _ _ rfl hbz Try.underlying43 rfl plc_size3) rfl ?_
    refine ⟨HK4.out.trans hkz (fun b hb => .inr (by simp at hb; have := HE3.out; omega)), ?_⟩
    rw [findL_at hlt HNO.out HQ.out, ← HY0.out]
    simp [aggP, HXV.out]
end Go.Proofs.Ytngepgnmlpinaaa

/- The document's All. Printed by gen-mn31.py. -/
namespace Go.Proofs.Ytngepgnmlpinaaa
open Go.RowKit Go.Emb Go.Emb.Ext

set_option maxRecDepth 100000 in
set_option maxHeartbeats 1000000 in
theorem r_all {w : World} {m : MnV} (h : RdM w.heap.size w m) (hsz : (allL m.area m.places).length ≤ 1000000) :
    Calls Try.prog 57 #[aggM m] w fun e w' => ∃ v o, e = .returned v ∧ RowE w' v (allL m.area m.places) o ∧ (∀ b, o = some b → w.heap.size ≤ b) ∧ Keep [] w w' := by
  obtain ⟨i0, hi, hz0, hz1, hz2⟩ := info_parts exti_info
  obtain ⟨hs, harea, ⟨⟨ro, hrd, hro⟩, hrlen⟩, hpl⟩ := h
  obtain ⟨-, ra, rc, hrv, hrc1, hrc2, -⟩ := id hrd
  obtain ⟨⟨po, hpd, hpo⟩, hpok, hplen⟩ := id hpl
  obtain ⟨-, pa, pc, hpv, hpc1, hpc2, -⟩ := id hpd
  unfold aggM
  rw [hrv, hpv]
  have hk2 : Keep [] w ((w.alloc (.cells #[.string m.s, .int .i64 m.area.1, .int .i64 m.area.2, .slice ra m.rest.length rc, .slice pa m.places.length pc] 27)).alloc (.cells #[.int .i64 m.area.1, .int .i64 m.area.2] 23)) := ((Keep.refl [] w).alloc _).alloc _
  have hnew := heap_new (w.alloc (.cells #[.string m.s, .int .i64 m.area.1, .int .i64 m.area.2, .slice ra m.rest.length rc, .slice pa m.places.length pc] 27)) (.cells #[.int .i64 m.area.1, .int .i64 m.area.2] 23)
  rw [size_alloc] at hnew
  have hrow0 : RowE ((w.alloc (.cells #[.string m.s, .int .i64 m.area.1, .int .i64 m.area.2, .slice ra m.rest.length rc, .slice pa m.places.length pc] 27)).alloc (.cells #[.int .i64 m.area.1, .int .i64 m.area.2] 23)) (.slice (some ⟨w.heap.size + 1, 0, none⟩) 1 1) (allL m.area []) (some (w.heap.size + 1)) :=
    ⟨rfl, .inr ⟨w.heap.size + 1, 0, 1, _, rfl, rfl, hnew, Nat.le_refl _, by simp [maxLen], by simp, fun i hi => by
      match i, hi with
      | 0, _ => rfl
      | 1, _ => rfl⟩⟩
  have hbx := lit_alloc (heap_new w (.cells #[.string m.s, .int .i64 m.area.1, .int .i64 m.area.2, .slice ra m.rest.length rc, .slice pa m.places.length pc] 27)) (.cells #[.int .i64 m.area.1, .int .i64 m.area.2] 23)
  have hbx0 := heap_new w (.cells #[.string m.s, .int .i64 m.area.1, .int .i64 m.area.2, .slice ra m.rest.length rc, .slice pa m.places.length pc] 27)
  obtain ⟨c0, c1, c2, c3, c4⟩ := cells5 hbx0
  have HBX := Lib.hid hbx
  have HI := Lib.hid hi
  clear hbx hbx0
  have HR0 := Lib.hid hrow0
  have HK2 := Lib.hid hk2
  have HPL := Lib.hid hpl
  have HSZ := Lib.hid hsz
  unfold maxLen at hpc2 hrc2
  clear hi hrow0 hk2 hpl hpok hpd hrd hsz hnew
  go_enter Try.func57, Try.ntmps57
  go_wp2_with fail
  go_loopw [3, 4] (fun v i wr => ∃ (k : Nat) (o : Option Nat), k ≤ m.places.length ∧ i = .int .i64 (k : Int) ∧ RowE wr v (allL m.area (m.places.take k)) o ∧ (∃ b off c n, v = .slice (some ⟨b, off, none⟩) n c ∧ o = some b) ∧ (∀ b, o = some b → w.heap.size < b) ∧ Keep [] w wr ∧ wr.heap[w.heap.size]? = some (.cells #[.string m.s, .int .i64 m.area.1, .int .i64 m.area.2, .slice ra m.rest.length rc, .slice pa m.places.length pc] 27)) (fun _ i _ => m.places.length - (intOf i).toNat)
  case atStart => exact ⟨0, some (w.heap.size + 1), Nat.zero_le _, rfl, HR0.out, ⟨_, _, _, _, rfl, rfl⟩, fun b hb => by cases hb; omega, HK2.out, HBX.out⟩
  case round =>
    obtain ⟨k, o, hk, rfl, hrow, ⟨b, off, c, n, rfl, rfl⟩, hob, hkw, hbw⟩ := hrel
    have hn : n = (allL m.area (m.places.take k)).length := by
      obtain ⟨-, ⟨h, -⟩ | ⟨_, _, _, _, _, h, -⟩⟩ := hrow
      · cases h
      · cases h; rfl
    subst hn
    have HR := Lib.hid hrow
    have HOB := Lib.hid hob
    have HBW := Lib.hid hbw
    obtain ⟨c0, c1, c2, c3, c4⟩ := cells5 hbw
    have HK := Lib.hid hkw
    clear hrow hob hkw hbw HR0 HK2 HBX
    by_cases hlt : k < m.places.length
    · have hpl2 := HPL.out.keep HK.out (by simp)
      rw [hpv] at hpl2
      obtain ⟨pb, poff, rfl, hpb, g0, g1, g2⟩ := hpl2.at hlt
      have hx3 := (hpl2.2.1 _ (List.getElem_mem hlt)).2.2
      clear hpl2
      obtain ⟨x, hx⟩ : ∃ x, x = m.places[k] := ⟨_, rfl⟩
      rw [← hx] at g0 g1 g2 hx3
      obtain ⟨xa, xc, hxv, hxc1, hxc2⟩ := hx3.slice
      rw [hxv] at g2 hx3
      obtain ⟨⟨xo, hxr, hxo⟩, hx4, hx5⟩ := hx3
      have hst : allL m.area (m.places.take (k + 1)) = allL m.area (m.places.take k) ++ x.p.pieces := by
        unfold allL
        rw [List.take_succ_eq_append_getElem hlt, List.flatMap_append, ← hx]; simp
      have hlen : (allL m.area (m.places.take k)).length + x.p.pieces.length ≤ 1000000 := by
        have h1 : (allL m.area (m.places.take (k + 1))).length ≤ (allL m.area m.places).length := by
          unfold allL
          have h2 : m.places.flatMap (fun y => y.p.pieces) = (m.places.take (k + 1)).flatMap (fun y => y.p.pieces) ++ (m.places.drop (k + 1)).flatMap (fun y => y.p.pieces) := by rw [← List.flatMap_append, List.take_append_drop]
          rw [h2]
          simp
        have := HSZ.out
        rw [hst, List.length_append] at h1
        omega
      have hne : ∀ y, xo = some y → y ≠ b := fun y hy e => by
        have h1 := hxo y hy
        have h2 := HOB.out b rfl
        omega
      have HST := Lib.hid hst
      have HXR := Lib.hid hxr
      have HNE := Lib.hid hne
      have i0' : (0 : Int) ≤ (k : Int) := by omega
      have i1' : (k : Int) < (m.places.length : Int) := by omega
      unfold maxLen at hxc2
      obtain ⟨lk, hlk⟩ : ∃ q, q = allL m.area (m.places.take k) := ⟨_, rfl⟩
      rw [← hlk] at hst hlen HR HST
      rw [← hlk]
      clear hst hxr hne hx4 hx5 hxo hx hlk
      go_wp2_with (at_builtin; refine wpList_append_rd _ rfl _ _ 41 41 rfl 23 23 i0 (.agg #[.int .i64 0, .int .i64 0]) 2 16 Try.underlying41 Try.underlying41 HI.out hz0 hz1 hz2 rfl b off _ c _ rfl HR.out _ rfl x.p.pieces.length _ xo HXR.out (encX_all _) (by first | (unfold maxLen; omega) | (simp [maxLen] <;> omega)) (by omega) ?_)
      intro g off' cap' w' hr' hk' hg'
      have hrow2 : RowE w' (.slice (some ⟨g, off', none⟩) (lk.length + x.p.pieces.length) cap') (lk ++ x.p.pieces) (some g) := by
        unfold RowE
        rw [List.flatMap_append, List.length_append]; exact hr'
      rw [← HST.out] at hrow2
      have hob2 : ∀ y, some g = some y → w.heap.size < y := fun y hy => by
        cases hy
        have h1 := HOB.out b rfl
        have h2 := (Array.getElem?_eq_some_iff.1 HBW.out).1
        rcases hg' with h | h
        · omega
        · first | omega | (simp at h; omega)
      have hk2 : Keep [] w w' := HK.out.trans hk' (fun y hy => .inr (by simp at hy; subst hy; exact Nat.le_of_lt (HOB.out _ rfl)))
      have HBW2 := Lib.hid (blk_keep HBW.out hk' (by have := HOB.out b rfl; simp; omega))
      have HR2 := Lib.hid hrow2
      have HOB2 := Lib.hid hob2
      have HK2 := Lib.hid hk2
      clear hr' hk' hg' hrow2 hob2 hk2
      go_wp2_with fail
      go_roundw
      case rel => exact ⟨k + 1, some g, by omega, by go_num, HR2.out, ⟨_, _, _, _, rfl, rfl⟩, HOB2.out, HK2.out, HBW2.out⟩
      case measure => simp [intOf]; omega
    · obtain rfl : k = m.places.length := by omega
      rw [List.take_length] at HR
      rw [List.take_length]
      go_wp2_with fail
      go_ret
      exact ⟨_, _, rfl, HR.out, fun b hb => Nat.le_of_lt (HOB.out b hb), HK.out⟩
end Go.Proofs.Ytngepgnmlpinaaa

