/- A part of the proof (St1, Mn25, Mn26, Mn27, Mn28, MnOwn, Mn29, Mn30, Mn31, Mx7, Mx8), joined by squeeze2.py. -/
import Derived.Test.YtimpadpeibgmoaaGreatYd04
import Derived.Test.YtimpadpeibgmoaaGreatYd13
import Derived.Test.YtimpadpeibgmoaaGreatYd22
import Derived.Test.YtimpadpeibgmoaaGreatYd15
import Derived.Deep.Slices
import Derived.Deep.Fields
import Derived.ChangeSame
import Derived.SizedLaws
import Derived.KernelRfl
import Derived.Laws.MakeOwn
set_option maxHeartbeats 8000000
set_option maxRecDepth 100000
namespace Go.Proofs.YtimpadpeibgmoaaGreat
open Go.RowKit Go.Emb Go.Emb.Ext
theorem cell_of {w : World} {q : Nat} {cs : Array Value} {t : TypeId} (h : w.heap[q]? = some (.cells cs t (0, 0))) (i : Nat) : w.cell? ⟨q, i, none⟩ = cs[i]? := by simp [World.cell?, h]
section
variable {S : Nat → Prop} {w : World}
theorem RowE.xrd {v : Value} {l : List E} {o : Option Nat} (h : RowE w v l o) (hok : ∀ x ∈ l, ExtOk x) (hsz : l.length ≤ 1000000000) (hs : ∀ b, o = some b → S b) : XRd S w v l := by
 obtain ⟨o', h1, h2⟩ := h.rde
 refine ⟨⟨o', h1, fun b hb => ?_⟩, hok, hsz⟩
 rcases h2 with h2 | h2
 ·rw [h2] at hb; cases hb
 ·exact ⟨Row.lt h b (h2 ▸ hb), hs b (h2 ▸ hb)⟩
theorem XRd.rde {v : Value} {l : List E} (h : XRd S w v l) : ∃ o, RdE w v l o ∧ InS S w o := h.1
theorem right_ok {x : E} (h : right x = true) : ExtOk x := by
 have := (right_iff x).1 h
 unfold ExtOk I64
 omega
end
theorem p_cloneX {w : World} {v : Value} {l : List E} {o : Option Nat} (h : RdE w v l o) (hsz : l.length ≤ 1000000) :
  Calls Tryz.prog 38 #[v] w fun e w' => ∃ v' o', e = .returned v' ∧ RowE w' v' l o' ∧ (∀ b, o' = some b → w.heap.size ≤ b) ∧ Keep [] w w' := by
 obtain ⟨i0, hi, hz0, hz1, hz2⟩ := info_parts exti_info
 obtain ⟨-, a, c, rfl, hc1, hc2, hrd⟩ := id h
 unfold maxLen at hc2
 have heq := fun wx : World => Lib.run_eql_slice_nil (P := Tryz.prog) (w := wx) (t := 46) (e := 34) (a := a) (n := l.length) (c := c) (n' := 0) (c' := 0) (h := Tryz.underlying46)
 have H := hyd h
 have HI := hyd hi
 cases a with
 | none =>
  have hbs : l = [] := by
   rcases hrd with ⟨h0, -⟩ | ⟨b, off, h0, -⟩
   ·exact List.eq_nil_of_length_eq_zero h0
   ·cases h0
  subst hbs
  clear h hrd hi
  go_enter Tryz.func38, Tryz.ntmps38
  have heq0 : ∀ wx : World, (binOp .eql 46 (.slice none 0 c) (.slice none 0 0)).run Tryz.prog wx = .ok (.bool true) wx := heq
  clear heq
  go_wp2_with fail
  go_ret
  exact ⟨_, none, rfl, RowE.nil _, by simp, Keep.refl _ _⟩
 | some p =>
  clear h hrd hi
  go_enter Tryz.func38, Tryz.ntmps38
  go_wp2_with (at_builtin; refine wpList_append_rd _ rfl _ _ 46 46 rfl 34 34 i0 (.agg #[.int .i64 0, .int .i64 0]) 2 16 Tryz.underlying46 Tryz.underlying46 HI.o hz0 hz1 hz2 rfl w.heap.size 0 0 0 [] rfl (Row.made0 w _ _) _ rfl l.length (l.flatMap encE) o (H.o.keep ((Keep.refl [] w).alloc _) (by simp)) (encX_all _) (by unfold maxLen; omega) (by omega) ?_)
  intro g off cap w2 hr hk hg
  try simp only [Nat.zero_add, List.nil_append] at hr
  try simp only [Nat.zero_add, List.nil_append]
  have hk2 : Keep [] w w2 := ((Keep.refl [] w).alloc _).trans hk (by simp)
  have hg2 : w.heap.size ≤ g := by
   rcases hg with h | h
   ·omega
   ·first | omega | (simp at h; omega)
  have HR := hyd (show RowE w2 (.slice (some ⟨g, off, none⟩) l.length cap) l (some g) from hr)
  clear hr hk hg
  go_wp2_with fail
  go_ret
  exact ⟨_, some g, rfl, HR.o, fun b hb => by cases hb; exact hg2, hk2⟩
theorem p_cloneP {w : World} {v : Value} {l : List PlV} {o : Option Nat} (h : Rd w 3 v l.length (l.flatMap encP) o) (h1 : ∀ y ∈ l, y.v.oneCell' = true) (hsz : l.length ≤ 1000000) :
  Calls Tryz.prog 53 #[v] w fun e w' => ∃ v' o', e = .returned v' ∧ Row w' 48 3 v' l.length (l.flatMap encP) o' ∧ (∀ b, o' = some b → w.heap.size ≤ b) ∧ Keep [] w w' := by
 obtain ⟨i0, hi, hz0, hz1, hz2⟩ := info_parts plc_info
 obtain ⟨-, a, c, rfl, hc1, hc2, hrd⟩ := id h
 unfold maxLen at hc2
 have heq := fun wx : World => Lib.run_eql_slice_nil (P := Tryz.prog) (w := wx) (t := 36) (e := 48) (a := a) (n := l.length) (c := c) (n' := 0) (c' := 0) (h := Tryz.underlying36)
 have hone : ∀ u ∈ l.flatMap encP, u.oneCell' = true := fun u hu => by
  obtain ⟨y, hy, hu⟩ := List.mem_flatMap.1 hu
  exact encP_one y (h1 y hy) u hu
 have HONE := hyd hone
 have H := hyd h
 have HI := hyd hi
 cases a with
 | none =>
  have hbs : l = [] := by
   rcases hrd with ⟨h0, -⟩ | ⟨b, off, h0, -⟩
   ·exact List.eq_nil_of_length_eq_zero h0
   ·cases h0
  subst hbs
  clear h hrd hi hone h1
  go_enter Tryz.func53, Tryz.ntmps53
  have heq0 : ∀ wx : World, (binOp .eql 36 (.slice none 0 c) (.slice none 0 0)).run Tryz.prog wx = .ok (.bool true) wx := heq
  clear heq
  go_wp2_with fail
  go_ret
  exact ⟨_, none, rfl, Row.nil _ _ _, by simp, Keep.refl _ _⟩
 | some p =>
  clear h hrd hi hone h1
  go_enter Tryz.func53, Tryz.ntmps53
  go_wp2_with (at_builtin; refine wpList_append_rd _ rfl _ _ 36 36 rfl 48 48 i0 (.agg #[.int .i64 0, .int .i64 0, .slice none 0 0]) 3 40 Tryz.underlying36 Tryz.underlying36 HI.o hz0 hz1 hz2 rfl w.heap.size 0 0 0 [] rfl (Row.made0 w _ _) _ rfl l.length (l.flatMap encP) o (H.o.keep ((Keep.refl [] w).alloc _) (by simp)) HONE.o (by unfold maxLen; omega) (by omega) ?_)
  intro g off cap w2 hr hk hg
  try simp only [Nat.zero_add, List.nil_append] at hr
  try simp only [Nat.zero_add, List.nil_append]
  have hk2 : Keep [] w w2 := ((Keep.refl [] w).alloc _).trans hk (by simp)
  have hg2 : w.heap.size ≤ g := by
   rcases hg with h | h
   ·omega
   ·first | omega | (simp at h; omega)
  have HR := hyd hr
  clear hr hk hg
  go_wp2_with fail
  go_ret
  exact ⟨_, some g, rfl, HR.o, fun b hb => by cases hb; exact hg2, hk2⟩
def ptX (ps : List E) (pl : List PlV) : List E := ps ++ pl.flatMap (·.p.pieces)
def aggPt (s : Sup) (pv : Value) (m : MnV) : Value := .agg #[.int .u64 s.gen, pv, .int .i64 s.len, .int .i64 s.ep, .string m.s, .int .i64 m.area.1, .int .i64 m.area.2, m.rv, m.pv]
theorem ptX_succ {ps : List E} {pl : List PlV} {k : Nat} (h : k < pl.length) : ptX ps (pl.take (k + 1)) = ptX ps (pl.take k) ++ pl[k].p.pieces := by
 unfold ptX
 rw [List.take_succ_eq_append_getElem h, List.flatMap_append]
 simp
theorem ptX_le (ps : List E) (pl : List PlV) (k : Nat) : (ptX ps (pl.take k)).length ≤ (ptX ps pl).length := by
 unfold ptX
 conv => rhs; rw [← List.take_append_drop k pl]
 rw [List.flatMap_append, List.length_append, List.length_append, List.length_append]
 omega
theorem st_pieces {S : Nat → Prop} {w : World} {s : Sup} {pv : Value} {m : MnV} (hx : XRd S w pv s.ps) (hm : MRd S w m) (hsz : (ptX s.ps m.places).length ≤ 1000000) :
  Calls Tryz.prog 45 #[aggPt s pv m] w fun e w' => ∃ v o, e = .returned v ∧ RowE w' v (ptX s.ps m.places) o ∧ (∀ b, o = some b → w.heap.size ≤ b) ∧ Keep [] w w' := by
 obtain ⟨i0, hi, hz0, hz1, hz2⟩ := info_parts exti_info
 obtain ⟨⟨ra, rc, hrv⟩, pa, pc, hpv⟩ := hm.forms
 obtain ⟨xa, xc, hxv, -, -⟩ := hx.form
 obtain ⟨xo, hxr, hxo⟩ := hx.rde
 unfold aggPt
 rw [hrv, hpv, hxv]
 rw [hxv] at hxr
 have hsz0 : s.ps.length ≤ 1000000 := by have := ptX_le s.ps m.places 0; simp [ptX] at this hsz; omega
 have hk1 : Keep [] w (w.alloc (.cells #[.int .u64 s.gen, .slice xa s.ps.length xc, .int .i64 s.len, .int .i64 s.ep, .string m.s, .int .i64 m.area.1, .int .i64 m.area.2, .slice ra m.rest.length rc, .slice pa m.places.length pc] 82)) := (Keep.refl [] w).alloc _
 have hb1 := heap_new w (.cells #[.int .u64 s.gen, .slice xa s.ps.length xc, .int .i64 s.len, .int .i64 s.ep, .string m.s, .int .i64 m.area.1, .int .i64 m.area.2, .slice ra m.rest.length rc, .slice pa m.places.length pc] 82)
 have HB1 := hyd hb1
 have HI := hyd hi
 have HM := hyd (hm.2.2.2)
 have HSZ := hyd hsz
 have HC := hyd (p_cloneX (hxr.keep hk1 (by simp)) hsz0)
 have HK1 := hyd hk1
 have c1 : (w.alloc (.cells #[.int .u64 s.gen, .slice xa s.ps.length xc, .int .i64 s.len, .int .i64 s.ep, .string m.s, .int .i64 m.area.1, .int .i64 m.area.2, .slice ra m.rest.length rc, .slice pa m.places.length pc] 82)).cell? ⟨w.heap.size, 1, none⟩ = some (.slice xa s.ps.length xc) := (cell_of hb1 1).trans rfl
 clear hi hm hx hxr hxo hk1 hb1 hsz
 go_enter Tryz.func45, Tryz.ntmps45
 go_wp2_with fail
 refine HC.o.mono ?_
 rintro e w2 ⟨v2, o2, rfl, hr2, ho2, hk2⟩
 have hb2 := blk_keep HB1.o hk2 (by simp)
 have HR2 := hyd hr2
 have HO2 := hyd (fun b hb => Nat.le_trans HK1.o.size (ho2 b hb))
 have HK2 := hyd (HK1.o.trans hk2 (by simp))
 have d7 : w2.cell? ⟨w.heap.size, 8, none⟩ = some (.slice pa m.places.length pc) := (cell_of hb2 8).trans rfl
 clear hr2 ho2 hk2 HC c1 hb2
 go_wp2_with fail
 clear d7
 go_loopw [3, 14] (fun v i wr => ∃ (k : Nat) (o : Option Nat), k ≤ m.places.length ∧ i = .int .i64 (k : Int) ∧ RowE wr v (ptX s.ps (m.places.take k)) o ∧ (∀ b, o = some b → w.heap.size ≤ b) ∧ Keep [] w wr) (fun _ i _ => m.places.length - (intOf i).toNat)
 case atStart => exact ⟨0, o2, Nat.zero_le _, rfl, by simpa [ptX] using HR2.o, HO2.o, HK2.o⟩
 case round =>
  obtain ⟨k, o, hk, rfl, hrow, hob, hkw⟩ := hrel
  obtain ⟨va, vc, rfl⟩ := hrow.form
  have HR := hyd hrow
  have HOB := hyd hob
  have HK := hyd hkw
  clear hrow hob hkw HR2 HK2 HO2
  by_cases hlt : k < m.places.length
  ·have hpl2 := (HM.o.keep HK.o (by simp)).rdp
   have hx3 := ((HM.o.2.1 _ (List.getElem_mem hlt)).keep HK.o (by simp)).2.2
   rw [hpv] at hpl2
   obtain ⟨pb, poff, rfl, hpb, g0, g1, g2⟩ := hpl2.at hlt
   clear hpl2
   have hst := ptX_succ (ps := s.ps) hlt
   have hlen := ptX_le s.ps m.places (k + 1)
   have HSZ2 := HSZ.o
   have hpn := HM.o.2.2
   obtain ⟨x, hx⟩ : ∃ x, x = m.places[k] := ⟨_, rfl⟩
   rw [← hx] at g0 g1 g2 hx3 hst
   obtain ⟨ya, yc, hyv, hyc1, hyc2⟩ := hx3.form
   rw [hyv] at g2 hx3
   obtain ⟨yo, hyr, -⟩ := hx3.rde
   have HST := hyd hst
   have HYR := hyd hyr
   have i0' : (0 : Int) ≤ (k : Int) := by omega
   have i1' : (k : Int) < (m.places.length : Int) := by omega
   unfold maxLen at hyc2
   obtain ⟨lk, hlk⟩ : ∃ q, q = ptX s.ps (m.places.take k) := ⟨_, rfl⟩
   rw [← hlk] at hst HR HST
   rw [hst, List.length_append] at hlen
   rw [← hlk]
   clear hst hyr hx3 hx hlk
   go_wp2_with (at_builtin; refine wpList_append_any _ rfl _ _ 46 46 rfl 34 34 i0 (.agg #[.int .i64 0, .int .i64 0]) 2 16 Tryz.underlying46 Tryz.underlying46 HI.o hz0 hz1 hz2 rfl _ lk.length (lk.flatMap encE) o rfl (Row.keep HR.o (F := []) ((Keep.refl [] _).alloc _) (by simp)) _ rfl x.p.pieces.length _ yo (HYR.o.keep ((Keep.refl [] _).alloc _) (by simp)) (encX_all _) (by first | (unfold maxLen; omega) | (simp [maxLen] <;> omega)) (by omega) ?_)
   intro v' o' w' hr' hk' hg'
   have hrow2 : RowE w' v' (lk ++ x.p.pieces) o' := by
    unfold RowE
    rw [List.flatMap_append, List.length_append]; exact hr'
   have hob2 : ∀ y, o' = some y → w.heap.size ≤ y := fun y hy => by
    rcases hg' y hy with h | h
    ·exact HOB.o y h
    ·have h2 := HK.o.size
     first | omega | (simp at h; omega)
   obtain ⟨a', c', rfl⟩ := hrow2.form
   have hk2 : Keep [] w w' := (HK.o.alloc (.cells #[.int .i64 x.p.pid, .int .i64 x.p.len, .slice ya x.p.pieces.length yc] 48)).trans hk' (fun y hy => .inr (HOB.o _ (by simpa using hy)))
   have hrow3 : RowE w' (.slice a' (lk ++ x.p.pieces).length c') (ptX s.ps (m.places.take (k + 1))) o' := by rw [HST.o]; exact hrow2
   have HR2 := hyd hrow3
   have HOB2 := hyd hob2
   have HK2 := hyd hk2
   clear hr' hk' hg' hrow2 hrow3 hob2 hk2
   go_wp2_with fail
   go_roundw
   case rel => exact ⟨k + 1, o', by omega, by go_num, HR2.o, HOB2.o, HK2.o⟩
   case measure => first | omega | (simp [RowKit.intOf]; done) | (simp [RowKit.intOf]; omega) | (show _ - (k + 1) < _ - k; omega) | trace_state
  ·obtain rfl : k = m.places.length := by omega
   rw [List.take_length] at HR
   rw [List.take_length]
   go_wp2_with fail
   go_ret
   exact ⟨_, _, rfl, HR.o, HOB.o, HK.o⟩
theorem p_growX {w : World} {n : Nat} (hn : n ≤ 1000000) : Calls Tryz.prog 72 #[.slice none 0 0, .int .i64 n] w fun e w' => ∃ v o, e = .returned v ∧ RowE w' v [] o ∧ (∀ b, o = some b → w.heap.size ≤ b) ∧ Keep [] w w' := by
 obtain ⟨i0, hi, hz0, hz1, hz2⟩ := info_parts exti_info
 have HI := hyd hi
 clear hi
 by_cases h0 : n = 0
 ·subst h0
  go_enter Tryz.func72, Tryz.ntmps72
  go_wp2_with fail
  go_ret
  exact ⟨_, none, rfl, RowE.nil w, by simp, Keep.refl _ _⟩
 ·have h1 : (0 : Int) < (n : Int) := by omega
  have h2 : ¬ (n : Int) < 0 := by omega
  have hw : IntKind.i64.wrap (n : Int) = (n : Int) := IntWalk.i64_in _ (by omega)
  have hrun := Lib.run_append_nil_zeros (P := Tryz.prog) w 46 3 46 34 i0 (.agg #[.int .i64 0, .int .i64 0]) .i64 .i64 Tryz.underlying46 Tryz.underlying3 HI.o hz0 n (by omega) (by rw [hz1]; decide) (by omega) (by rw [hz2]; omega)
  have hge := grownCap_ge w n 0 34
  have hcm := grownCap_le_maxLen w n 0 34 (by unfold maxLen; omega)
  obtain ⟨C, hC⟩ : ∃ C, C = grownCap w n 0 34 := ⟨_, rfl⟩
  rw [← hC] at hrun hge hcm
  have hrow : RowE (w.drew.alloc (.cells (Builtin.zeroCells (Value.agg #[.int .i64 0, .int .i64 0]).cells n ++ Builtin.zeroCells (Value.agg #[.int .i64 0, .int .i64 0]).cells (C - n)) 34)) (.slice (some ⟨w.heap.size, 0, none⟩) 0 C) [] (some w.heap.size) := by
   refine ⟨by simp, .inr ⟨w.heap.size, 0, C, _, rfl, rfl, heap_alloc_new w.drew _, Nat.zero_le _, hcm, ?_, fun i hi => by simp at hi⟩⟩
   rw [Array.size_append, size_zeroCells, size_zeroCells]
   show 0 + C * 2 ≤ n * 2 + (C - n) * 2
   omega
  have hk : Keep [] w (w.drew.alloc (.cells (Builtin.zeroCells (Value.agg #[.int .i64 0, .int .i64 0]).cells n ++ Builtin.zeroCells (Value.agg #[.int .i64 0, .int .i64 0]).cells (C - n)) 34)) := (Keep.refl [] w).drew.alloc _
  have HROW := hyd hrow
  have HK := hyd hk
  have HRUN := hyd hrun
  clear hrun hrow hk hC
  unfold maxLen at hcm
  have q1 : (0 : Int) ≤ (C : Int) := by omega
  go_enter Tryz.func72, Tryz.ntmps72
  go_wp2_with (at_builtin; refine Lib.wpList_append_run _ rfl _ _ _ _ rfl _ _ rfl rfl _ _ HRUN.o ?_)
  go_wp2_with fail
  go_ret
  exact ⟨_, rfl, some w.heap.size, HROW.o, by rintro b ⟨⟩; omega, HK.o⟩
def catX (ls : List (Value × List E)) : List E := ls.flatMap (·.2)
theorem catX_succ {ls : List (Value × List E)} {k : Nat} (h : k < ls.length) : catX (ls.take (k + 1)) = catX (ls.take k) ++ ls[k].2 := by
 unfold catX
 rw [List.take_succ_eq_append_getElem h, List.flatMap_append]
 simp
theorem catX_le (ls : List (Value × List E)) (k : Nat) : (catX (ls.take k)).length ≤ (catX ls).length := by
 unfold catX
 conv => rhs; rw [← List.take_append_drop k ls]
 rw [List.flatMap_append, List.length_append]
 omega
theorem p_concatX {w : World} {lb lo lc : Nat} {ls : List (Value × List E)} (hl : ls.length ≤ 100) (hc : ∀ k (h : k < ls.length), w.cell? ⟨lb, lo + k, none⟩ = some ls[k].1 ∧ ∃ o, RdE w ls[k].1 ls[k].2 o) (hn : (catX ls).length ≤ 1000000) :
  Calls Tryz.prog 44 #[.slice (some ⟨lb, lo, none⟩) ls.length lc] w fun e w' => ∃ v' o', e = .returned v' ∧ RowE w' v' (catX ls) o' ∧ (∀ b, o' = some b → w.heap.size ≤ b) ∧ Keep [] w w' := by
 obtain ⟨i0, hi, hz0, hz1, hz2⟩ := info_parts exti_info
 have HI := hyd hi
 have HC := hyd hc
 have HGR := hyd (p_growX (w := w) (n := (catX ls).length) hn)
 clear hi hc
 go_enter Tryz.func44, Tryz.ntmps44
 go_wp2_with fail
 go_loop [3, 11] (fun n i => ∃ k : Nat, k ≤ ls.length ∧ i = .int .i64 k ∧ n = .int .i64 ((catX (ls.take k)).length : Nat)) (fun _ i => ls.length - (RowKit.intOf i).toNat)
 case atStart => exact ⟨0, by omega, rfl, by simp [catX]⟩
 case round =>
  obtain ⟨k, hk, rfl, rfl⟩ := hrel
  by_cases hlt : k < ls.length
  ·obtain ⟨g0, o, hrd⟩ := HC.o k hlt
   have hst := congrArg List.length (catX_succ hlt)
   rw [List.length_append] at hst
   have hle := catX_le ls (k + 1)
   obtain ⟨x, hx⟩ : ∃ x, x = ls[k] := ⟨_, rfl⟩
   rw [← hx] at g0 hrd hst
   obtain ⟨xa, xc, hxv⟩ : ∃ a c, x.1 = .slice a x.2.length c := by obtain ⟨-, a, c, h, -⟩ := hrd; exact ⟨a, c, h⟩
   rw [hxv] at g0
   have HST := hyd hst
   obtain ⟨N, hN⟩ : ∃ N, N = (catX (ls.take k)).length := ⟨_, rfl⟩
   rw [← hN] at hst HST
   rw [hst] at hle
   rw [← hN]
   have i0' : (0 : Int) ≤ (k : Int) := by omega
   have i1' : (k : Int) < (ls.length : Int) := by omega
   have q1 : ¬ ((N : Int) + (x.2.length : Int)) < 0 := by omega
   have q2 : (N : Int) + (x.2.length : Int) ≤ 1000000 := by omega
   clear hrd hst hN hx hxv
   go_wp2_with fail
   go_round
   case rel => exact ⟨k + 1, by omega, by go_num, by rw [HST.o]; simp⟩
   case measure => first | omega | (simp [RowKit.intOf]; done) | (simp [RowKit.intOf]; omega) | (show _ - (k + 1) < _ - k; omega) | trace_state
  ·obtain rfl : k = ls.length := by omega
   rw [List.take_length]
   go_wp2_with fail
   refine HGR.o.mono ?_
   rintro e w2 ⟨v2, o2, rfl, hr2, ho2, hk2⟩
   have HR2 := hyd hr2
   have HO2 := hyd ho2
   have HK2 := hyd hk2
   clear hr2 ho2 hk2 HGR
   go_wp2_with fail
   go_loopw [6, 27] (fun v i wr => ∃ k : Nat, k ≤ ls.length ∧ i = .int .i64 k ∧ ∃ o, RowE wr v (catX (ls.take k)) o ∧ (∀ b, o = some b → w.heap.size ≤ b) ∧ Keep [] w wr) (fun _ i _ => ls.length - (RowKit.intOf i).toNat)
   case atStart => exact ⟨0, by omega, rfl, o2, by simpa [catX] using HR2.o, HO2.o, HK2.o⟩
   case round =>
    obtain ⟨k, hk, rfl, o3, hr3, ho3, hk3⟩ := hrel
    have HR3 := hyd hr3
    have HO3 := hyd ho3
    have HK3 := hyd hk3
    obtain ⟨va, vc, rfl⟩ := hr3.form
    clear hr3 ho3 hk3
    by_cases hlt : k < ls.length
    ·obtain ⟨g0, o, hrd⟩ := HC.o k hlt
     have hst := catX_succ hlt
     have hle := catX_le ls (k + 1)
     obtain ⟨x, hx⟩ : ∃ x, x = ls[k] := ⟨_, rfl⟩
     rw [← hx] at g0 hrd hst
     obtain ⟨xa, xc, hxv⟩ : ∃ a c, x.1 = .slice a x.2.length c := by obtain ⟨-, a, c, h, -⟩ := hrd; exact ⟨a, c, h⟩
     rw [hxv] at g0 hrd
     have g0' := HK3.o.cellOf g0 (by simp)
     have HST := hyd hst
     obtain ⟨N, hN⟩ : ∃ N, N = catX (ls.take k) := ⟨_, rfl⟩
     rw [← hN] at hst HST HR3
     rw [hst, List.length_append] at hle
     rw [← hN]
     have HRD := hyd (hrd.keep HK3.o (by simp))
     have i0' : (0 : Int) ≤ (k : Int) := by omega
     have i1' : (k : Int) < (ls.length : Int) := by omega
     clear hrd hst hN hx hxv g0
     go_wp2_with (at_builtin; refine wpList_append_any _ rfl _ _ 46 46 rfl 34 34 i0 (.agg #[.int .i64 0, .int .i64 0]) 2 16 Tryz.underlying46 Tryz.underlying46 HI.o hz0 hz1 hz2 rfl _ N.length (N.flatMap encE) o3 rfl HR3.o _ rfl x.2.length _ o HRD.o (encX_all _) (by first | (unfold maxLen; omega) | (simp [maxLen] <;> omega)) (by omega) ?_)
     intro v' o' w' hr' hk' hg'
     have hrow2 : RowE w' v' (N ++ x.2) o' := by
      unfold RowE
      rw [List.flatMap_append, List.length_append]; exact hr'
     obtain ⟨a', c', rfl⟩ := hrow2.form
     have hob2 : ∀ y, o' = some y → w.heap.size ≤ y := fun y hy => by
      rcases hg' y hy with h | h
      ·exact HO3.o y h
      ·have h2 := HK3.o.size
       omega
     have hk2 : Keep [] w w' := HK3.o.trans hk' (fun y hy => .inr (HO3.o _ (by simpa using hy)))
     have hrow3 : RowE w' (.slice a' (N ++ x.2).length c') (catX (ls.take (k + 1))) o' := by rw [HST.o]; exact hrow2
     have HR4 := hyd hrow3
     have HOB2 := hyd hob2
     have HK4 := hyd hk2
     clear hr' hk' hg' hrow2 hrow3 hob2 hk2
     go_wp2_with fail
     go_roundw
     case rel => exact ⟨k + 1, by omega, by go_num, o', HR4.o, HOB2.o, HK4.o⟩
     case measure => first | omega | (simp [RowKit.intOf]; done) | (simp [RowKit.intOf]; omega) | (show _ - (k + 1) < _ - k; omega) | trace_state
    ·obtain rfl : k = ls.length := by omega
     rw [List.take_length] at HR3
     rw [List.take_length]
     go_wp2_with fail
     go_ret
     exact ⟨_, o3, rfl, HR3.o, HO3.o, HK3.o⟩
open Go.RowKit Go.Emb Go.Emb.Ext
def aggP (x : PlV) : Value := .agg #[.int .i64 x.p.pid, .int .i64 x.p.len, x.v]
theorem RdM.forms {B : Nat} {w : World} {m : MnV} (h : RdM B w m) : (∃ ra rc, m.rv = .slice ra m.rest.length rc ∧ m.rest.length ≤ rc ∧ rc ≤ 9223372036854775807) ∧ ∃ pa pc, m.pv = .slice pa m.places.length pc ∧ m.places.length ≤ pc ∧ pc ≤ 9223372036854775807 := by
 obtain ⟨-, -, ⟨⟨o, ⟨-, a, c, h1, h2, h3, -⟩, -⟩, -⟩, ⟨⟨o', ⟨-, a', c', h1', h2', h3', -⟩, -⟩, -⟩⟩ := h
 unfold maxLen at h3 h3'
 exact ⟨⟨a, c, h1, h2, by omega⟩, a', c', h1', h2', by omega⟩
theorem plc_size3 : (Tryz.prog.info? 48).map (·.size) = some 3 := by kernel_rfl
def findL (m : MnV) (pid : Int) : Option PlV := m.places.find? (fun y => decide (y.p.pid = pid))
def FindP (w : World) (m : MnV) (pid : Int) (e : Ending) (w' : World) : Prop := Keep [] w w' ∧ e = .returned (.tuple #[((findL m pid).map aggP).getD (.agg #[.int .i64 0, .int .i64 0, .slice none 0 0]), .bool (findL m pid).isSome])
theorem findL_at {m : MnV} {pid : Int} {k : Nat} (hk : k < m.places.length) (h0 : ∀ y ∈ m.places.take k, y.p.pid ≠ pid) (h1 : m.places[k].p.pid = pid) : findL m pid = some m.places[k] := by
 unfold findL
 have : m.places = m.places.take k ++ m.places[k] :: m.places.drop (k + 1) := by
  rw [← List.drop_eq_getElem_cons hk, List.take_append_drop]
 conv => lhs; rw [this]
 rw [List.find?_append, List.find?_eq_none.2 (fun y hy => by simpa using h0 y hy), List.find?_cons_of_pos (by simpa using h1)]
 rfl
theorem findL_none {m : MnV} {pid : Int} (h0 : ∀ y ∈ m.places, y.p.pid ≠ pid) : findL m pid = none := by
 unfold findL
 exact List.find?_eq_none.2 (fun y hy => by simpa using h0 y hy)
theorem p_find1 {W : World} {q : Nat} {pid : Int} (hq : W.heap[q]? = some (.cells #[.int .i64 pid] 2)) (a b : Int) (va : Option Addr) (vn vc : Nat) : Calls Tryz.prog 82 #[.agg #[.int .i64 a, .int .i64 b, .slice va vn vc], .pointer (some ⟨q, 0, none⟩)] W fun e w' => e = .returned (.bool (decide (a = pid))) ∧ Keep [] W w' := by
 have hk : Keep [] W (W.alloc (.cells #[.int .i64 a, .int .i64 b, .slice va vn vc] 48)) := (Keep.refl [] W).alloc _
 have hb := heap_new W (.cells #[.int .i64 a, .int .i64 b, .slice va vn vc] 48)
 have hq2 := lit_alloc hq (.cells #[.int .i64 a, .int .i64 b, .slice va vn vc] 48)
 obtain ⟨c0, c1, c2, -⟩ := cells3 hb
 have d0 : (W.alloc (.cells #[.int .i64 a, .int .i64 b, .slice va vn vc] 48)).cell? ⟨q, 0, none⟩ = some (.int .i64 pid) := by simp [World.cell?, hq2]
 have HK := hyd hk
 clear hk hb hq2 hq
 by_cases h : a = pid
 ·rw [decide_eq_true h]
  subst h
  go_enter Tryz.func82, Tryz.ntmps82
  go_wp2_with fail
  go_ret
  exact ⟨by simp, HK.o⟩
 ·rw [decide_eq_false h]
  go_enter Tryz.func82, Tryz.ntmps82
  go_wp2_with fail
  go_ret
  exact ⟨by simp [h], HK.o⟩
def IdxP (ps : List PlV) (pid : Int) (i : Int) : Prop := (i = -1 ∧ ∀ y ∈ ps, y.p.pid ≠ pid) ∨ ∃ (k : Nat) (h : k < ps.length), i = (k : Int) ∧ ps[k].p.pid = pid ∧ ∀ y ∈ ps.take k, y.p.pid ≠ pid
theorem p_index {B q : Nat} {w : World} {v : Value} {ps : List PlV} {pid : Int} (hps : RdPs B w v ps) (hl : ps.length ≤ 1000000) (hq : w.heap[q]? = some (.cells #[.int .i64 pid] 2)) :
  Calls Tryz.prog 81 #[v, .func (.func 82) #[] #[.pointer (some ⟨q, 0, none⟩)]] w fun e w' => ∃ i : Int, e = .returned (.int .i64 i) ∧ IdxP ps pid i ∧ Keep [] w w' := by
 have eg : ∀ args w, (callFunc 82 args).run Tryz.prog w = .ok (.enter 82 args) w := enters_of Tryz.func82 (by kernel_rfl) rfl
 obtain ⟨a, c, rfl⟩ : ∃ a c, v = .slice a ps.length c := by obtain ⟨⟨_, ⟨_, a, c, h, _⟩, _⟩, _⟩ := hps; exact ⟨a, c, h⟩
 have HPS := hyd hps
 have HQ := hyd hq
 clear hps hq
 go_enter Tryz.func81, Tryz.ntmps81
 go_wp2_with fail
 go_loopw [5, 8] (fun _ i wr => ∃ k : Nat, k ≤ ps.length ∧ i = .int .i64 (k : Int) ∧ Keep [] w wr ∧ ∀ y ∈ ps.take k, y.p.pid ≠ pid) (fun _ i _ => ps.length - (intOf i).toNat)
 case atStart => exact ⟨0, Nat.zero_le _, rfl, Keep.refl _ _, fun y hy => by simp at hy⟩
 case round =>
  obtain ⟨k, hk, rfl, hK, hno⟩ := hrel
  have HK := hyd hK
  have HNO := hyd hno
  clear hK hno
  by_cases hlt : k < ps.length
  ·obtain ⟨pb, poff, rfl, hpb, g0, g1, g2⟩ := (HPS.o.keep HK.o (by simp)).at hlt
   obtain ⟨y0, hy0⟩ : ∃ y, y = ps[k] := ⟨_, rfl⟩
   have hpx := HPS.o.2.1 _ (List.getElem_mem hlt)
   rw [← hy0] at g0 g1 g2 hpx
   have HY0 := hyd hy0
   obtain ⟨hx1', hx2', hx3⟩ := hpx
   obtain ⟨xa, xc, hxv, hxc1, hxc2⟩ := hx3.slice
   rw [hxv] at g2
   have hcall := p_find1 (blk_keep HQ.o HK.o (by simp)) y0.p.pid y0.p.len xa y0.p.pieces.length xc
   clear hx1' hx2' hx3 hy0 hxv
   have i0' : (0 : Int) ≤ (k : Int) := by omega
   have i1' : (k : Int) < (ps.length : Int) := by omega
   have k0 := g0
   by_cases hq : y0.p.pid = pid
   ·rw [decide_eq_true hq] at hcall
    have HQQ := hyd hq
    clear hq
    go_wp2_with (go_at_fn 82; refine hcall.mono ?_; rintro e w' ⟨rfl, hk'⟩)
    go_ret
    exact ⟨(k : Int), rfl, .inr ⟨k, hlt, rfl, by rw [← HY0.o]; exact HQQ.o, HNO.o⟩, HK.o.trans hk' (by simp)⟩
   ·rw [decide_eq_false hq] at hcall
    have HQQ := hyd hq
    clear hq
    go_wp2_with (go_at_fn 82; refine hcall.mono ?_; rintro e w' ⟨rfl, hk'⟩)
    go_roundw
    case rel => exact ⟨k + 1, by omega, by go_num, HK.o.trans hk' (by simp), fun y hy => by
      rw [List.take_succ_eq_append_getElem hlt, List.mem_append] at hy
      rcases hy with hy | hy
      · exact HNO.o y hy
      · simp at hy; rw [hy, ← HY0.o]; exact HQQ.o⟩
    case measure => simp [intOf]; omega
  ·obtain rfl : k = ps.length := by omega
   have i1' : ¬ (ps.length : Int) < (ps.length : Int) := by omega
   go_wp2_with fail
   go_ret
   exact ⟨-1, rfl, .inl ⟨rfl, by have := HNO.o; rwa [List.take_length] at this⟩, HK.o⟩
theorem p_find {w : World} {m : MnV} (hm : RdM w.heap.size w m) (hpl : m.places.length ≤ 1000000) {pid : Int} (hpid : I64 pid) : Calls Tryz.prog 54 #[aggM m, .int .i64 pid] w (FindP w m pid) := by
 obtain ⟨⟨ra, rc, hrv, hrc1, hrc2⟩, pa, pc, hpv, hpc1, hpc2⟩ := hm.forms
 have hk0 : Keep [] w (((w.alloc (.cells #[.string m.s, .int .i64 m.area.1, .int .i64 m.area.2, .slice ra m.rest.length rc, .slice pa m.places.length pc] 38)).alloc (.cells #[.int .i64 pid] 2)).alloc (.cells #[.int .i64 0, .int .i64 0, .slice none 0 0] 48)) := (((Keep.refl [] w).alloc _).alloc _).alloc _
 have hb1 := lit_alloc (lit_alloc (heap_new w (.cells #[.string m.s, .int .i64 m.area.1, .int .i64 m.area.2, .slice ra m.rest.length rc, .slice pa m.places.length pc] 38)) (.cells #[.int .i64 pid] 2)) (.cells #[.int .i64 0, .int .i64 0, .slice none 0 0] 48)
 have hb2 := lit_alloc (heap_new (w.alloc (.cells #[.string m.s, .int .i64 m.area.1, .int .i64 m.area.2, .slice ra m.rest.length rc, .slice pa m.places.length pc] 38)) (.cells #[.int .i64 pid] 2)) (.cells #[.int .i64 0, .int .i64 0, .slice none 0 0] 48)
 have hb3 := heap_new ((w.alloc (.cells #[.string m.s, .int .i64 m.area.1, .int .i64 m.area.2, .slice ra m.rest.length rc, .slice pa m.places.length pc] 38)).alloc (.cells #[.int .i64 pid] 2)) (.cells #[.int .i64 0, .int .i64 0, .slice none 0 0] 48)
 simp only [size_alloc] at hb2 hb3
 have hps := hm.2.2.2.keep hk0 (by simp)
 rw [hpv] at hps
 obtain ⟨m0, m1, m2, m3, m4⟩ := cells5 hb1
 have hix := p_index hps hpl hb2
 have HIX := hyd hix
 have HB1 := hyd hb1
 have HB3 := hyd hb3
 have HK0 := hyd hk0
 have HPS := hyd hps
 have eg : ∀ args w, (callFunc 81 args).run Tryz.prog w = .ok (.enter 81 args) w := enters_of Tryz.func81 (by kernel_rfl) rfl
 clear hk0 hb1 hb2 hb3 hm hps hix
 unfold aggM
 rw [hrv, hpv]
 go_enter Tryz.func54, Tryz.ntmps54
 go_wp2_with fail
 generalize (((w.alloc (.cells #[.string m.s, .int .i64 m.area.1, .int .i64 m.area.2, .slice ra m.rest.length rc, .slice pa m.places.length pc] 38)).alloc (.cells #[.int .i64 pid] 2)).alloc (.cells #[.int .i64 0, .int .i64 0, .slice none 0 0] 48)) = w3 at *
 generalize hB3 : w.heap.size + 1 + 1 = b3 at *
 have HE3 := hyd hB3
 clear hB3 m0 m1 m2 m3 m4
 refine HIX.o.mono ?_
 rintro e w4 ⟨i, rfl, hi, hk4⟩
 have HB14 := hyd (blk_keep HB1.o hk4 (by simp))
 have hb34 := blk_keep HB3.o hk4 (by simp)
 have HPS4 := hyd (HPS.o.keep hk4 (by simp))
 have HK4 := hyd (HK0.o.trans hk4 (by simp))
 clear hk4 HB1 HB3 HPS HK0 HIX
 have HB3 := hyd hb34
 obtain ⟨m0, m1, m2, m3, m4⟩ := cells5 HB14.o
 obtain ⟨d0, d1, d2, f0⟩ := cells3 hb34
 have f1 : w4.frozen? ⟨b3, 1, none⟩ = false := by simp [World.frozen?, hb34]
 have f2 : w4.frozen? ⟨b3, 2, none⟩ = false := by simp [World.frozen?, hb34]
 clear hb34
 rcases hi with ⟨rfl, hno⟩ | ⟨k, hlt, rfl, hq, hno⟩
 ·have HNO := hyd hno
  clear hno
  go_wp2_with fail
  have hkz : Keep [b3] w4 (((w4.setCell ⟨b3, 0, none⟩ (.int .i64 0)).setCell ⟨b3, 1, none⟩ (.int .i64 0)).setCell ⟨b3, 2, none⟩ (.slice none 0 0)) := (((Keep.refl _ w4).setCell (.inl (by simp)) _).setCell (.inl (by simp)) _).setCell (.inl (by simp)) _
  have hbz : ((((w4.setCell ⟨b3, 0, none⟩ (.int .i64 0)).setCell ⟨b3, 1, none⟩ (.int .i64 0)).setCell ⟨b3, 2, none⟩ (.slice none 0 0))).heap[b3]? = some (.cells #[(.int .i64 0), (.int .i64 0), (.slice none 0 0)] 48) := by simpa using heap_setCell_at (i := 2) (heap_setCell_at (i := 1) (heap_setCell_at (i := 0) HB3.o (.int .i64 0)) (.int .i64 0)) (.slice none 0 0)
  generalize (((w4.setCell ⟨b3, 0, none⟩ (.int .i64 0)).setCell ⟨b3, 1, none⟩ (.int .i64 0)).setCell ⟨b3, 2, none⟩ (.slice none 0 0)) = wz at *
  refine bodyPost_ret (results_cell_tmp (ty := 48) rfl _ wz b3 _ _ _ _ rfl hbz Tryz.underlying48 rfl plc_size3) rfl ?_
  refine ⟨HK4.o.trans hkz (fun b hb => .inr (by simp at hb; have := HE3.o; omega)), ?_⟩
  rw [findL_none HNO.o]
  rfl
 ·obtain ⟨pb, poff, rfl, hpb, g0, g1, g2⟩ := HPS4.o.at hlt
  obtain ⟨y0, hy0⟩ : ∃ y, y = m.places[k] := ⟨_, rfl⟩
  have hpx := HPS4.o.2.1 _ (List.getElem_mem hlt)
  rw [← hy0] at g0 g1 g2 hpx
  have HY0 := hyd hy0
  have HQ := hyd hq
  have HNO := hyd hno
  obtain ⟨hx1', hx2', hx3⟩ := hpx
  obtain ⟨xa, xc, hxv, hxc1, hxc2⟩ := hx3.slice
  rw [hxv] at g2
  have HXV := hyd hxv
  clear hx1' hx2' hx3 hy0 hxv hq hno
  have i0' : (0 : Int) ≤ (k : Int) := by omega
  have i2' : ¬ (k : Int) < (0 : Int) := by omega
  have i1' : (k : Int) < (m.places.length : Int) := by omega
  have k0 := g0
  go_wp2_with fail
  have hkz : Keep [b3] w4 (((w4.setCell ⟨b3, 0, none⟩ (.int .i64 y0.p.pid)).setCell ⟨b3, 1, none⟩ (.int .i64 y0.p.len)).setCell ⟨b3, 2, none⟩ (.slice xa y0.p.pieces.length xc)) := (((Keep.refl _ w4).setCell (.inl (by simp)) _).setCell (.inl (by simp)) _).setCell (.inl (by simp)) _
  have hbz : ((((w4.setCell ⟨b3, 0, none⟩ (.int .i64 y0.p.pid)).setCell ⟨b3, 1, none⟩ (.int .i64 y0.p.len)).setCell ⟨b3, 2, none⟩ (.slice xa y0.p.pieces.length xc))).heap[b3]? = some (.cells #[(.int .i64 y0.p.pid), (.int .i64 y0.p.len), (.slice xa y0.p.pieces.length xc)] 48) := by simpa using heap_setCell_at (i := 2) (heap_setCell_at (i := 1) (heap_setCell_at (i := 0) HB3.o (.int .i64 y0.p.pid)) (.int .i64 y0.p.len)) (.slice xa y0.p.pieces.length xc)
  generalize (((w4.setCell ⟨b3, 0, none⟩ (.int .i64 y0.p.pid)).setCell ⟨b3, 1, none⟩ (.int .i64 y0.p.len)).setCell ⟨b3, 2, none⟩ (.slice xa y0.p.pieces.length xc)) = wz at *
  refine bodyPost_ret (results_cell_tmp (ty := 48) rfl _ wz b3 _ _ _ _ rfl hbz Tryz.underlying48 rfl plc_size3) rfl ?_
  refine ⟨HK4.o.trans hkz (fun b hb => .inr (by simp at hb; have := HE3.o; omega)), ?_⟩
  rw [findL_at hlt HNO.o HQ.o, ← HY0.o]
  simp [aggP, HXV.o]
open Go.RowKit Go.Emb Go.Lib Go.Emb.Ext Go.Shelf Go.Sort
open Go.RowKit Go.Emb Go.Emb.Ext
theorem JoinRes.to {l a out : List E} {e : Int} (hr : ∀ x ∈ l, right x = true) (hd : Disj l) (hp : Plain out) (hc : ∀ i, cov out i ↔ cov l i) (h : JoinRes l a e) : e = 0 ∧ a = out := by
 rcases h with ⟨_, _, x, hx, hn⟩ | ⟨_, _, _, hn⟩ | ⟨h0, _, hok, _⟩
 ·rw [hr x hx] at hn; cases hn
 ·exact absurd hd hn
 ·exact ⟨h0, Plain.eq hok.plain hp fun i => by rw [hok.same, hc]⟩
theorem JoinRes.plain {l a : List E} {e : Int} (hp : Plain l) (hr : ∀ x ∈ l, right x = true) (h : JoinRes l a e) : e = 0 ∧ a = l := JoinRes.to hr hp.disj hp (fun _ => Iff.rfl) h
theorem JoinRes.nil {l a : List E} {e : Int} (h : JoinRes l a e) (he : e ≠ 0) : a = [] := by
 rcases h with ⟨_, h, _⟩ | ⟨_, h, _⟩ | ⟨h0, _⟩
 ·exact h
 ·exact h
 ·exact absurd h0 he
theorem len_le_sum {l : List E} (h : ∀ x ∈ l, 1 ≤ x.2) : (l.length : Int) ≤ sumL l := by
 induction l with
 | nil => simp [sumL]
 | cons x l ih =>
  have h1 := ih (fun y hy => h y (by simp [hy]))
  have h2 := h x (by simp)
  rw [sumL_cons, List.length_cons]
  omega
theorem disj_append {a b : List E} (ha : Disj a) (hb : Disj b) (h : ∀ i, cov a i → ¬ cov b i) : Disj (a ++ b) :=
 List.pairwise_append.2 ⟨ha, hb, fun x hx y hy i h1 h2 => h i ⟨x, hx, h1⟩ ⟨y, hy, h2⟩⟩
theorem disj_cov {a b : List E} (h : Disj (a ++ b)) (i : Int) : cov a i → ¬ cov b i := by
 rintro ⟨x, hx, h1⟩ ⟨y, hy, h2⟩
 exact (List.pairwise_append.1 h).2.2 x hx y hy i h1 h2
theorem r_right (x : E) (w : World) : Calls Tryz.prog 48 #[aggE x] w fun e w' => e = .returned (.bool (right x)) ∧ Keep [] w w' := by
 obtain ⟨f, n⟩ := x
 unfold right aggE
 simp only
 by_cases h1 : 0 ≤ f
 ·by_cases h2 : f ≤ 16384
  ·by_cases h3 : 1 ≤ n
   ·go_enter Tryz.func48, Tryz.ntmps48
    go_wp2_with fail
    go_ret
    exact ⟨by simp [h1, h2, h3], (Keep.refl _ _).alloc _⟩
   ·go_enter Tryz.func48, Tryz.ntmps48
    go_wp2_with fail
    go_ret
    exact ⟨by simp; omega, (Keep.refl _ _).alloc _⟩
  ·go_enter Tryz.func48, Tryz.ntmps48
   go_wp2_with fail
   go_ret
   exact ⟨by simp; omega, (Keep.refl _ _).alloc _⟩
 ·go_enter Tryz.func48, Tryz.ntmps48
  go_wp2_with fail
  go_ret
  exact ⟨by simp; omega, (Keep.refl _ _).alloc _⟩
theorem r_need (b r : Int) (w : World) (hb : b ≤ 9223372036854775807) (hr : r ≤ 9223372036854775807) : Calls Tryz.prog 27 #[.int .i64 b, .int .i64 r] w fun e w' => e = .returned (.int .i64 (needE b r)) ∧ w = w' := by
 unfold needE
 by_cases h1 : b < 1
 ·go_enter Tryz.func27, Tryz.ntmps27
  go_wp2_with fail
  go_ret
  exact ⟨rfl, rfl⟩
 ·by_cases h2 : r < 1
  ·go_enter Tryz.func27, Tryz.ntmps27
   go_wp2_with fail
   go_ret
   exact ⟨rfl, rfl⟩
  ·have h3 : (r == 0) = false := beq_eq_false_iff_ne.2 (by omega)
   have h4 : (0 : Int) ≤ (b - 1) / r := Int.ediv_nonneg (by omega) (by omega)
   have h5 : (b - 1) / r ≤ b - 1 := Int.ediv_le_self _ (by omega)
   go_enter Tryz.func27, Tryz.ntmps27
   go_wp2_with fail
   go_ret
   exact ⟨by rw [Int.add_comm]; rfl, rfl⟩
open Go.RowKit Go.Emb Go.Lib Go.Emb.Ext Go.Shelf Go.Sort
open Go.RowKit Go.Emb Go.Emb.Ext
end Go.Proofs.YtimpadpeibgmoaaGreat
namespace Go.Emb
open Go.RowKit
theorem Row.setAt {w : World} {E k b off n cap : Nat} {xs : List Value} (h : Row w E k (.slice (some ⟨b, off, none⟩) n cap) n xs (some b)) (j : Nat) (hj : j < n * k) (u : Value) :
  Row (w.setCell ⟨b, off + j, none⟩ u) E k (.slice (some ⟨b, off, none⟩) n cap) n (xs.set j u) (some b) := by
 obtain ⟨hl, h⟩ := h
 rcases h with ⟨h, _⟩ | ⟨b', off', cap', cs, e1, e2, hb, h1, h2, h3, h5⟩
 ·cases h
 cases e1; cases e2
 have hk2 : n * k ≤ cap * k := Nat.mul_le_mul_right _ h1
 refine ⟨by simpa using hl, .inr ⟨b, off, cap, _, rfl, rfl, heap_setCell_at hb _, h1, h2, by simpa using h3, fun i hi => ?_⟩⟩
 rw [Array.getElem?_setIfInBounds, List.getElem?_set]
 by_cases he : off + j = off + i
 ·obtain rfl : i = j := by omega
  simp only [if_true]
  rw [if_pos (by omega), if_pos (by omega)]
 ·rw [if_neg he, if_neg (by omega)]
  exact h5 i hi
theorem Row.notFrozen {w : World} {E k b off n cap : Nat} {xs : List Value} (h : Row w E k (.slice (some ⟨b, off, none⟩) n cap) n xs (some b)) (j : Nat) : w.frozen? ⟨b, j, none⟩ = false := by
 obtain ⟨hl, h⟩ := h
 rcases h with ⟨h, _⟩ | ⟨b', off', cap', cs, e1, e2, hb, h1, h2, h3, h5⟩
 ·cases h
 cases e1; cases e2
 simp [World.frozen?, hb]
end Go.Emb
namespace Go.Proofs.YtimpadpeibgmoaaGreat
open Go.RowKit Go.Emb Go.Lib Go.Emb.Ext Go.Shelf Go.Sort
theorem bool_info : (Tryz.prog.info? 4).map (fun i => (i.zero, i.size, i.bytes)) = some (some (.bool false), 1, 1) := by kernel_rfl
theorem cov_range {l : List E} (hr : ∀ x ∈ l, right x = true) {t : Int} (h : cov l t) : 0 ≤ t ∧ t < 16384 := by
 obtain ⟨x, hx, h1, h2⟩ := h
 have := (right_iff x).1 (hr x hx)
 omega
end Go.Proofs.YtimpadpeibgmoaaGreat
