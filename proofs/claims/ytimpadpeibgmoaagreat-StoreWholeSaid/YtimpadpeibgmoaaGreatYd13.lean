/- A part of the proof (Mx6, Mn23, BaseAny, SuX5), joined by squeeze2.py. -/
import Derived.Test.YtimpadpeibgmoaaGreatYd12
import Derived.StillTailTactics
import Derived.Test.YtimpadpeibgmoaaGreatYd10
import Derived.Test.YtimpadpeibgmoaaGreatYd01
import Derived.Test.YtimpadpeibgmoaaGreatYd02
set_option maxHeartbeats 8000000
set_option maxRecDepth 100000
namespace Go.Emb.Ext
theorem jstep_right {r r' : List E} {x : E} (hr : ∀ y ∈ r, right y = true) (hx : right x = true) (h : jstep r x = some r') : ∀ y ∈ r', right y = true := by
 cases r with
 | nil => simp [jstep] at h; subst h; simpa using hx
 | cons z r =>
  have hz := (right_iff z).1 (hr z (by simp))
  have hx' := (right_iff x).1 hx
  simp only [jstep] at h
  split at h
  ·cases h
  ·split at h
   ·cases h
    intro y hy
    rcases List.mem_cons.1 hy with rfl | hy
    ·rw [right_iff]; simp; omega
    ·exact hr y (by simp [hy])
   ·cases h
    intro y hy
    rcases List.mem_cons.1 hy with rfl | hy
    ·exact hx
    ·exact hr y hy
theorem joinR_snoc {r0 r : List E} {t : List E} {x : E} (h : joinR r0 t = some r) : joinR r0 (t ++ [x]) = jstep r x := by
 induction t generalizing r0 with
 | nil =>
  simp only [joinR, Option.some.injEq] at h
  subst h
  simp only [List.nil_append, joinR]
  cases jstep r0 x <;> rfl
 | cons z t ih =>
  simp only [joinR, List.cons_append] at h ⊢
  cases hj : jstep r0 z with
  | none => rw [hj] at h; cases h
  | some r1 => rw [hj] at h; simp only at h ⊢; exact ih h
theorem joinR_none_append {r0 : List E} {t u : List E} (h : joinR r0 t = none) : joinR r0 (t ++ u) = none := by
 induction t generalizing r0 with
 | nil => simp [joinR] at h
 | cons z t ih =>
  simp only [joinR, List.cons_append] at h ⊢
  cases hj : jstep r0 z with
  | none => rfl
  | some r1 => rw [hj] at h; simp only at h ⊢; exact ih h
def JoinRes (l out : List E) (err : Int) : Prop :=
 (err = 2 ∧ out = [] ∧ ∃ x ∈ l, right x = false) ∨ (err = 8 ∧ out = [] ∧ (∀ x ∈ l, right x = true) ∧ ¬ Disj l) ∨
 (err = 0 ∧ (∀ x ∈ l, right x = true) ∧ JoinOk l out ∧ ∀ x ∈ out, right x = true)
end Go.Emb.Ext
namespace Go.Proofs.YtimpadpeibgmoaaGreat
open Go.RowKit Go.Emb Go.Lib Go.Emb.Ext Go.Shelf Go.Sort
theorem two_srcB {P : Program} {tx e' : TypeId} (hk : P.underlying tx = some (.slice e')) (w : World) (B : Nat) (hB : w.heap.size = B) (x y : Value) (hx : x.oneCell' = true) (hy : y.oneCell' = true) (t : TypeId) : Src P 2 tx (.slice (some ⟨B, 0, none⟩) 1 1) 1 [x, y] (w.alloc (.cells #[x, y] t)) := by
 subst hB; exact two_src hk w x y hx hy t
def JoinP (w : World) (l : List E) (e : Ending) (w' : World) : Prop :=
 ∃ v o out err, e = .returned (.tuple #[v, .int .i64 err]) ∧ JoinRes l out err ∧ RowE w' v out o ∧ (∀ b, o = some b → w.heap.size ≤ b) ∧ Keep [] w w'
def JoinR (w : World) (s : List E) (k : Nat) (v : Value) (wr : World) : Prop :=
 ∃ r o, joinR [] (s.take k) = some r ∧ (∀ y ∈ r, right y = true) ∧ RowE wr v r.reverse o ∧ (∀ b, o = some b → w.heap.size ≤ b) ∧ Keep [] w wr ∧ r.length ≤ k
theorem RowE.slice {w : World} {v : Value} {l : List E} {o : Option Nat} (h : RowE w v l o) : ∃ a c, v = .slice a l.length c := by
 rcases h.2 with ⟨_, rfl, h0⟩ | ⟨b, off, cap, cs, _, rfl, _⟩
 ·rw [h0]; exact ⟨_, _, rfl⟩
 ·exact ⟨_, _, rfl⟩
theorem RowE.rd {w : World} {v : Value} {l : List E} {o : Option Nat} (h : RowE w v l o) : ∃ o', RdE w v l o' ∧ ∀ b, o' = some b → o = some b := by
 obtain ⟨o', h1, h2⟩ := Row.rd h
 refine ⟨o', h1, fun b hb => ?_⟩
 rcases h2 with h2 | h2
 ·rw [h2] at hb; cases hb
 ·rw [← h2]; exact hb
theorem RowE.last {w : World} {v : Value} {r : List E} {y : E} {o : Option Nat} (h : RowE w v (y :: r).reverse o) :
  ∃ b off c, v = .slice (some ⟨b, off, none⟩) (r.length + 1) c ∧ o = some b ∧ w.cell? ⟨b, off + r.length * 2, none⟩ = some (.int .i64 y.1) ∧ w.cell? ⟨b, off + r.length * 2 + 1, none⟩ = some (.int .i64 y.2) ∧ w.frozen? ⟨b, off + r.length * 2 + 1, none⟩ = false ∧
   ∀ u, RowE (w.setCell ⟨b, off + r.length * 2 + 1, none⟩ (.int .i64 u)) v ((y.1, u) :: r).reverse o := by
 unfold RowE at *
 have hl0 : (y :: r).reverse.length = r.length + 1 := by simp
 have hfl : ∀ z : E, ((z :: r).reverse.flatMap encE) = r.reverse.flatMap encE ++ [.int .i64 z.1, .int .i64 z.2] := fun z => by simp [encE]
 have hlr : (r.reverse.flatMap encE).length = r.length * 2 := by
  have : ∀ l : List E, (l.flatMap encE).length = l.length * 2 := fun l => by
   induction l with
   | nil => rfl
   | cons a l ih => rw [List.flatMap_cons, List.length_append, ih]; simp [encE]; omega
  rw [this]; simp
 rw [hl0, hfl] at h
 obtain ⟨hl, h⟩ := h
 rcases h with ⟨_, _, h0⟩ | ⟨b, off, cap, cs, rfl, rfl, hb, h1, h2, h3, h5⟩
 ·omega
 have e0 := h5 (r.length * 2) (by omega)
 have e1 := h5 (r.length * 2 + 1) (by omega)
 rw [List.getElem?_append_right (by omega), hlr] at e0 e1
 simp at e0 e1
 refine ⟨b, off, cap, rfl, rfl, by simp [World.cell?, hb, e0], by simp [World.cell?, hb, Nat.add_assoc, e1], by simp [World.frozen?, hb], fun u => ?_⟩
 have hl2 : ((y.1, u) :: r).reverse.length = r.length + 1 := by simp
 rw [hl2, hfl]
 refine ⟨by simp [hlr]; omega, .inr ⟨b, off, cap, _, rfl, rfl, heap_setCell_at hb _, h1, h2, by simpa using h3, fun i hi => ?_⟩⟩
 have h5i := h5 i hi
 rw [Array.getElem?_setIfInBounds]
 by_cases hi2 : off + r.length * 2 + 1 = off + i
 ·obtain rfl : i = r.length * 2 + 1 := by omega
  rw [if_pos hi2, if_pos (by omega), List.getElem?_append_right (by omega), hlr]
  simp
 ·rw [if_neg hi2, h5i]
  by_cases hi3 : i < r.length * 2
  ·rw [List.getElem?_append_left (by omega), List.getElem?_append_left (by omega)]
  ·obtain rfl : i = r.length * 2 := by omega
   rw [List.getElem?_append_right (by omega), List.getElem?_append_right (by omega), hlr]
   simp
theorem RowE.setLast {w : World} {b off c : Nat} {r : List E} {y : E} {u : Int} (h : RowE w (.slice (some ⟨b, off, none⟩) (r.length + 1) c) (y :: r).reverse (some b)) :
  RowE (w.setCell ⟨b, off + r.length * 2 + 1, none⟩ (.int .i64 u)) (.slice (some ⟨b, off, none⟩) (r.length + 1) c) ((y.1, u) :: r).reverse (some b) := by
 obtain ⟨b', off', c', hv, ho', _, _, _, hs⟩ := RowE.last h
 cases hv
 cases ho'
 exact hs u
theorem join_any {w : World} {v : Value} {l : List E} {o : Option Nat} (hr : RdE w v l o) (hsz : l.length ≤ 1000000) (ho : ∀ b, o = some b → b < w.heap.size) :
  Calls Tryz.prog 46 #[v] w (JoinP w l) := by
 have eg : ∀ args w, (callFunc 74 args).run Tryz.prog w = .ok (.enter 74 args) w := enters_of Tryz.func74 (by kernel_rfl) rfl
 obtain ⟨i0, hi, hz0, hz1, hz2⟩ := info_parts ext_info
 have HI := hyd hi
 obtain ⟨a, c, rfl⟩ : ∃ a c, v = .slice a l.length c := by obtain ⟨_, a, c, h, _⟩ := hr; exact ⟨a, c, h⟩
 have hcf := containsFunc_any hr (by omega) ho 74 #[] (fun x => !right x) eg (fun x W _ => notRight_any x W)
 have HR := hyd hr
 have HO := hyd ho
 clear hi hr ho eg
 by_cases hall : l.any (fun x => !right x) = true
 ·rw [hall] at hcf
  go_enter Tryz.func46, Tryz.ntmps46
  go_wp2_with (go_at_call 73; refine hcf.mono ?_; rintro e w1 ⟨rfl, hk1⟩)
  go_ret2
  refine ⟨_, none, [], 2, rfl, .inl ⟨rfl, rfl, ?_⟩, Row.nil _ _ _, by simp, hk1⟩
  obtain ⟨x, hx, h⟩ := List.any_eq_true.1 hall
  exact ⟨x, hx, by simpa using h⟩
 ·have hallF : l.any (fun x => !right x) = false := by simpa using hall
  have hright : ∀ x ∈ l, right x = true := fun x hx => by
   have := List.any_eq_false.1 hallF x hx
   simpa using this
  rw [hallF] at hcf
  have HRI := hyd hright
  clear hall hallF hright
  go_enter Tryz.func46, Tryz.ntmps46
  go_wp2_with fail
  refine hcf.mono ?_
  rintro e w1 ⟨rfl, hk1⟩
  have HK1 := hyd hk1
  clear hk1 hcf
  go_wp2_with fail
  refine (values_any _ _ ⟨_, _, _, rfl⟩).mono ?_
  rintro e w2 ⟨rfl, rfl⟩
  go_wp2_with fail
  have k2 : Keep [] w (w1.alloc (.cells #[.slice a l.length c] 46)) := HK1.o.alloc _
  have hsf := sortedFunc_any (w := w1.alloc (.cells #[.slice a l.length c] 46)) (B := w1.heap.size) (v := .slice a l.length c) (by simp) (HR.o.keep k2 (by simp)) (by omega) (fun b hb => by have := HO.o b hb; have := k2.size; omega)
  have hks := k2.size
  have HK2 := hyd k2
  clear k2
  refine hsf.mono ?_
  rintro e w3 ⟨v3, o3, s, rfl, p1, p2, p3, p4, p5⟩
  have k3 : Keep [] w w3 := HK2.o.trans p5 (by simp)
  obtain ⟨a3, c3, rfl⟩ := RowE.slice p3
  obtain ⟨o4, hrd, ho4⟩ := RowE.rd p3
  have hlt4 : ∀ b, o4 = some b → b < w3.heap.size := fun b hb => Row.lt p3 b (ho4 b hb)
  have hslen : s.length ≤ 1000000 := by rw [p1.length_eq]; exact hsz
  have hsr : ∀ x ∈ s, right x = true := fun x hx => HRI.o x (p1.mem_iff.1 hx)
  have HP1 := hyd p1
  have HP2 := hyd p2
  have HK3 := hyd k3
  have HRD := hyd hrd
  have HLT := hyd hlt4
  have HSR := hyd hsr
  clear p1 p2 p3 p4 p5 k3 hrd hlt4 ho4 hsr hsf HK1 HK2 hks HR HO
  go_wp2_with fail
  go_loopw [2, 14] (fun u i wr => ∃ (k : Nat) (v : Value), v = u ∧ k ≤ s.length ∧ i = .int .i64 k ∧ JoinR w3 s k v wr) (fun _ i _ => s.length - (intOf i).toNat)
  case atStart => exact ⟨0, _, rfl, Nat.zero_le _, rfl, [], none, rfl, by simp, Row.nil _ _ _, by simp, Keep.refl _ _, by simp⟩
  case round =>
   obtain ⟨k, v, rfl, hk, rfl, r, o', hj, hrr, hrow, hnew, hK, hrl⟩ := hrel
   have HJ := hyd hj
   have HRR := hyd hrr
   have HROW := hyd hrow
   have HNEW := hyd hnew
   have HK := hyd hK
   clear hj hrr hrow hnew hK
   by_cases hlt : k < s.length
   ·obtain ⟨b, off, rfl, rfl, g0, g1⟩ := HRD.o.at hlt
    have c0 := HK.o.cellOf g0
    have c1 := HK.o.cellOf g1
    have hxr := HSR.o s[k] (List.getElem_mem hlt)
    have hts : s.take (k + 1) = s.take k ++ [s[k]] := List.take_succ_eq_append_getElem hlt
    have hjs : joinR [] (s.take (k + 1)) = jstep r s[k] := by rw [hts]; exact joinR_snoc HJ.o
    have hjn : jstep r s[k] = none → joinR [] s = none := by
     intro hn
     rw [← List.take_append_drop (k + 1) s]
     exact joinR_none_append (by rw [hjs]; exact hn)
    have HJS := hyd hjs
    have HJN := hyd hjn
    have HXR := hyd hxr
    clear hts hjs hjn hxr g0 g1
    generalize s[k] = x at *
    obtain ⟨x1, x2⟩ := x
    simp only at c0 c1
    have q0 : (0 : Int) ≤ (k : Int) := by omega
    have q1 : (k : Int) < (s.length : Int) := by omega
    cases r with
    | nil =>
     obtain ⟨av, cv, rfl⟩ := RowE.slice HROW.o
     simp only [List.reverse_nil, List.length_nil] at *
     go_wp2_with fail
     go_quiet (fail)
     go_wp2_with fail
     go_quiet (fail)
     go_wp2_with (at_builtin; refine wpList_append_row _ rfl _ _ 46 46 rfl 34 i0 _ 2 16 Tryz.underlying46 HI.o hz0 hz1 hz2 rfl _ _ _ o' rfl (Row.keep HROW.o (F := []) (by repeat (first | exact Keep.refl _ _ | refine Keep.drewN ?_ _ | refine Keep.drew ?_ | refine Keep.alloc ?_ _)) (by simp)) _ rfl 1 _ (two_srcB Tryz.underlying46 _ _ (by simp) _ _ rfl rfl _) (by omega) (by simp [maxLen] <;> omega) (by simp <;> omega) ?_; intro g off2 cap w2 hrow2 hk2 hg2)
     go_roundw
     case rel =>
      refine ⟨k + 1, _, rfl, by omega, by go_num, [(x1, x2)], some g, by rw [HJS.o]; rfl, by simpa using HXR.o, ?_, ?_, ?_, by simp⟩
      ·unfold RowE
       simpa [encE] using hrow2
      ·rintro b ⟨⟩
       rcases hg2 with h | h
       ·exact HNEW.o g h
       ·have := HK.o.size
        simp at h
        omega
      ·exact (HK.o.trans (G := []) (by repeat (first | exact Keep.refl _ _ | refine Keep.drewN ?_ _ | refine Keep.drew ?_ | refine Keep.alloc ?_ _)) (by simp)).trans hk2 (fun z hz => by
         cases o' with
         | none => simp at hz
         | some b => simp at hz; subst hz; exact .inr (HNEW.o _ rfl))
     case measure => simp [intOf]; omega
    | cons y r =>
     obtain ⟨b2, off2, cv, rfl, rfl, d0, d1, df, hset⟩ := RowE.last HROW.o
     have hyr := (right_iff y).1 (HRR.o y (by simp))
     have hxr := (right_iff _).1 HXR.o
     have hm : r.length < 1000000 := by simp at hrl; omega
     have HSET := hyd hset
     obtain ⟨y1, y2⟩ := y
     simp only at d0 d1 hyr hxr
     clear hset
     have e0 : ∀ ob, (wr.alloc ob).cell? ⟨b2, off2 + r.length * 2, none⟩ = some (.int .i64 y1) := fun ob => ((Keep.refl [] wr).alloc ob).cellOf d0
     have e1 : ∀ ob, (wr.alloc ob).cell? ⟨b2, off2 + r.length * 2 + 1, none⟩ = some (.int .i64 y2) := fun ob => ((Keep.refl [] wr).alloc ob).cellOf d1
     have q2 : (0 : Int) ≤ (r.length : Int) := by omega
     have q3 : (r.length : Int) < (r.length : Int) + 1 := by omega
     by_cases h1 : x1 < y1 + y2
     ·go_wp2_with fail
      go_quiet (fail)
      go_wp2_with fail
      go_ret2
      refine ⟨_, none, [], 8, rfl, .inr (.inl ⟨rfl, rfl, HRI.o, ?_⟩), Row.nil _ _ _, by simp, ?_⟩
      ·refine joinS_none HP2.o HP1.o (fun x hx => ((right_iff x).1 (HRI.o x hx)).2.2.1) ?_
       unfold joinS
       rw [HJN.o (by simp [jstep, h1])]
       rfl
      ·exact (HK3.o.trans HK.o (by simp)).trans (G := []) (by repeat (first | exact Keep.refl _ _ | refine Keep.drewN ?_ _ | refine Keep.drew ?_ | refine Keep.alloc ?_ _)) (by simp)
     ·by_cases h2 : y1 + y2 = x1
      ·have hb2 : (y1 + y2 == x1) = true := by simp [h2]
       have hjs2 : jstep ((y1, y2) :: r) (x1, x2) = some ((y1, y2 + x2) :: r) := by simp [jstep, h2]
       have HJ2 := hyd hjs2
       clear h2 hjs2
       go_wp2_with fail
       go_quiet (fail)
       go_wp2_with fail
       go_quiet (fail)
       go_wp2_with fail
       have ef : ∀ ob, (wr.alloc ob).frozen? ⟨b2, off2 + r.length * 2 + 1, none⟩ = false := fun ob => by
        rw [← df]; unfold World.frozen?; rw [Below.heap_alloc wr ob b2 (World.block_lt_of_cell? _ _ d0)]
       go_region
       all_goals
        go_wp2_with fail
        go_roundw
        case rel =>
         refine ⟨k + 1, _, rfl, by omega, by go_num, (y1, y2 + x2) :: r, some b2, by rw [HJS.o, HJ2.o], jstep_right HRR.o HXR.o HJ2.o, ?_, HNEW.o, ?_, by simp at hrl ⊢; omega⟩
         ·refine RowE.setLast (y := (y1, y2)) ?_
          exact RowE.keep HROW.o (F := []) (by repeat (first | exact Keep.refl _ _ | refine Keep.drewN ?_ _ | refine Keep.drew ?_ | refine Keep.alloc ?_ _)) (by simp)
         ·exact (HK.o.trans (G := []) (by repeat (first | exact Keep.refl _ _ | refine Keep.drewN ?_ _ | refine Keep.drew ?_ | refine Keep.alloc ?_ _)) (by simp)).setCell (p := ⟨b2, off2 + r.length * 2 + 1, none⟩) (.inr (HNEW.o b2 rfl)) _
        case measure => simp [intOf]; omega
      ·have hb2 : (y1 + y2 == x1) = false := by simp [h2]
       have hjs2 : jstep ((y1, y2) :: r) (x1, x2) = some ((x1, x2) :: (y1, y2) :: r) := by simp [jstep, h1, h2]
       have HJ2 := hyd hjs2
       clear h2 hjs2
       go_wp2_with fail
       go_quiet (fail)
       go_wp2_with fail
       go_quiet (fail)
       go_wp2_with (at_builtin; refine wpList_append_row _ rfl _ _ 46 46 rfl 34 i0 _ 2 16 Tryz.underlying46 HI.o hz0 hz1 hz2 rfl _ _ _ (some b2) rfl (Row.keep HROW.o (F := []) (by repeat (first | exact Keep.refl _ _ | refine Keep.drewN ?_ _ | refine Keep.drew ?_ | refine Keep.alloc ?_ _)) (by simp)) _ rfl 1 _ (two_srcB Tryz.underlying46 _ _ (by simp) _ _ rfl rfl _) (by omega) (by simp [maxLen] <;> omega) (by simp <;> omega) ?_; intro g off3 cap w2 hrow2 hk2 hg2)
       go_roundw
       case rel =>
        refine ⟨k + 1, _, rfl, by omega, by go_num, (x1, x2) :: (y1, y2) :: r, some g, by rw [HJS.o, HJ2.o], jstep_right HRR.o HXR.o HJ2.o, ?_, ?_, ?_, by simp; omega⟩
        ·unfold RowE
         simpa [encE] using hrow2
        ·rintro b ⟨⟩
         rcases hg2 with h | h
         ·exact HNEW.o g h
         ·have := HK.o.size
          simp at h
          omega
        ·exact (HK.o.trans (G := []) (by repeat (first | exact Keep.refl _ _ | refine Keep.drewN ?_ _ | refine Keep.drew ?_ | refine Keep.alloc ?_ _)) (by simp)).trans hk2 (fun z hz => by
           simp at hz; subst hz; exact .inr (HNEW.o _ rfl))
       case measure => simp [intOf]; omega
   ·go_wp2_with fail
    go_ret2
    have hj := HJ.o
    rw [List.take_of_length_le (by omega)] at hj
    have hjo : joinS s = some r.reverse := by unfold joinS; rw [hj]; rfl
    refine ⟨v, o', r.reverse, 0, rfl, .inr (.inr ⟨rfl, HRI.o, joinS_some HP2.o HP1.o (fun x hx => ((right_iff x).1 (HRI.o x hx)).2.2.1) hjo, fun x hx => HRR.o x (by simpa using hx)⟩), HROW.o, fun b hb => ?_, HK3.o.trans HK.o (by simp)⟩
    have h3 := HNEW.o b hb
    have h4 := HK3.o.size
    omega
open Go.RowKit Go.Emb Go.Emb.Ext
def allL (a : Int × Int) (ps : List PlV) : List (Int × Int) := a :: ps.flatMap (·.p.pieces)
theorem encX_all (l : List (Int × Int)) : ∀ u ∈ l.flatMap encX, u.oneCell' = true := by
 intro u hu
 obtain ⟨x, -, h⟩ := List.mem_flatMap.1 hu
 exact encX_one x u h
theorem p_all {w : World} {m : MnV} (h : RdM w.heap.size w m) (hsz : (allL m.area m.places).length ≤ 1000000) :
  Calls Tryz.prog 105 #[aggM m] w fun e w' => ∃ v o, e = .returned v ∧ RowE w' v (allL m.area m.places) o ∧ (∀ b, o = some b → w.heap.size ≤ b) ∧ Keep [] w w' := by
 obtain ⟨i0, hi, hz0, hz1, hz2⟩ := info_parts exti_info
 obtain ⟨hs, harea, ⟨⟨ro, hrd, hro⟩, hrlen⟩, hpl⟩ := h
 obtain ⟨-, ra, rc, hrv, hrc1, hrc2, -⟩ := id hrd
 obtain ⟨⟨po, hpd, hpo⟩, hpok, hplen⟩ := id hpl
 obtain ⟨-, pa, pc, hpv, hpc1, hpc2, -⟩ := id hpd
 unfold aggM
 rw [hrv, hpv]
 have hk2 : Keep [] w ((w.alloc (.cells #[.string m.s, .int .i64 m.area.1, .int .i64 m.area.2, .slice ra m.rest.length rc, .slice pa m.places.length pc] 38)).alloc (.cells #[.int .i64 m.area.1, .int .i64 m.area.2] 34)) := ((Keep.refl [] w).alloc _).alloc _
 have hnew := heap_new (w.alloc (.cells #[.string m.s, .int .i64 m.area.1, .int .i64 m.area.2, .slice ra m.rest.length rc, .slice pa m.places.length pc] 38)) (.cells #[.int .i64 m.area.1, .int .i64 m.area.2] 34)
 rw [size_alloc] at hnew
 have hrow0 : RowE ((w.alloc (.cells #[.string m.s, .int .i64 m.area.1, .int .i64 m.area.2, .slice ra m.rest.length rc, .slice pa m.places.length pc] 38)).alloc (.cells #[.int .i64 m.area.1, .int .i64 m.area.2] 34)) (.slice (some ⟨w.heap.size + 1, 0, none⟩) 1 1) (allL m.area []) (some (w.heap.size + 1)) :=
  ⟨rfl, .inr ⟨w.heap.size + 1, 0, 1, _, rfl, rfl, hnew, Nat.le_refl _, by simp [maxLen], by simp, fun i hi => by
    match i, hi with
    | 0, _ => rfl
    | 1, _ => rfl⟩⟩
 have HI := hyd hi
 have HR0 := hyd hrow0
 have HK2 := hyd hk2
 have HPL := hyd hpl
 have HSZ := hyd hsz
 unfold maxLen at hpc2 hrc2
 clear hi hrow0 hk2 hpl hpok hpd hrd hsz hnew
 go_enter Tryz.func105, Tryz.ntmps105
 go_wp2_with fail
 go_loopw [3, 12] (fun v i wr => ∃ (k : Nat) (o : Option Nat), k ≤ m.places.length ∧ i = .int .i64 (k : Int) ∧ RowE wr v (allL m.area (m.places.take k)) o ∧ (∃ b off c n, v = .slice (some ⟨b, off, none⟩) n c ∧ o = some b) ∧ (∀ b, o = some b → w.heap.size ≤ b) ∧ Keep [] w wr) (fun _ i _ => m.places.length - (intOf i).toNat)
 case atStart => exact ⟨0, some (w.heap.size + 1), Nat.zero_le _, rfl, HR0.o, ⟨_, _, _, _, rfl, rfl⟩, fun b hb => by cases hb; omega, HK2.o⟩
 case round =>
  obtain ⟨k, o, hk, rfl, hrow, ⟨b, off, c, n, rfl, rfl⟩, hob, hkw⟩ := hrel
  have hn : n = (allL m.area (m.places.take k)).length := by
   obtain ⟨-, ⟨h, -⟩ | ⟨_, _, _, _, _, h, -⟩⟩ := hrow
   ·cases h
   ·cases h; rfl
  subst hn
  have HR := hyd hrow
  have HOB := hyd hob
  have HK := hyd hkw
  clear hrow hob hkw HR0 HK2
  by_cases hlt : k < m.places.length
  ·have hpl2 := HPL.o.keep HK.o (by simp)
   rw [hpv] at hpl2
   obtain ⟨pb, poff, rfl, hpb, g0, g1, g2⟩ := hpl2.at hlt
   have hx3 := (hpl2.2.1 _ (List.getElem_mem hlt)).2.2
   clear hpl2
   obtain ⟨x, hx⟩ : ∃ x, x = m.places[k] := ⟨_, rfl⟩
   rw [← hx] at g0 g1 g2 hx3
   obtain ⟨xa, xc, hxv, hxc1, hxc2⟩ := hx3.slice
   rw [hxv] at g2 hx3
   obtain ⟨⟨xo, hxr, hxo⟩, hx4, hx5⟩ := hx3
   have hst : allL m.area (m.places.take (k + 1)) = allL m.area (m.places.take k) ++ x.p.pieces := by
    unfold allL
    rw [List.take_succ_eq_append_getElem hlt, List.flatMap_append, ← hx]; simp
   have hlen : (allL m.area (m.places.take k)).length + x.p.pieces.length ≤ 1000000 := by
    have h1 : (allL m.area (m.places.take (k + 1))).length ≤ (allL m.area m.places).length := by
     unfold allL
     have h2 : m.places.flatMap (fun y => y.p.pieces) = (m.places.take (k + 1)).flatMap (fun y => y.p.pieces) ++ (m.places.drop (k + 1)).flatMap (fun y => y.p.pieces) := by rw [← List.flatMap_append, List.take_append_drop]
     rw [h2]
     simp
    have := HSZ.o
    rw [hst, List.length_append] at h1
    omega
   have hne : ∀ y, xo = some y → y ≠ b := fun y hy e => by
    have h1 := hxo y hy
    have h2 := HOB.o b rfl
    omega
   have HST := hyd hst
   have HXR := hyd hxr
   have HNE := hyd hne
   have i0' : (0 : Int) ≤ (k : Int) := by omega
   have i1' : (k : Int) < (m.places.length : Int) := by omega
   unfold maxLen at hxc2
   obtain ⟨lk, hlk⟩ : ∃ q, q = allL m.area (m.places.take k) := ⟨_, rfl⟩
   rw [← hlk] at hst hlen HR HST
   rw [← hlk]
   clear hst hxr hne hx4 hx5 hxo hx hlk
   go_wp2_with (at_builtin; refine wpList_append_rd _ rfl _ _ 46 46 rfl 34 34 i0 (.agg #[.int .i64 0, .int .i64 0]) 2 16 Tryz.underlying46 Tryz.underlying46 HI.o hz0 hz1 hz2 rfl b off _ c _ rfl (Row.keep HR.o (F := []) ((Keep.refl [] _).alloc _) (by simp)) _ rfl x.p.pieces.length _ xo (HXR.o.keep ((Keep.refl [] _).alloc _) (by simp)) (encX_all _) (by first | (unfold maxLen; omega) | (simp [maxLen] <;> omega)) (by omega) ?_)
   intro g off' cap' w' hr' hk' hg'
   have hrow2 : RowE w' (.slice (some ⟨g, off', none⟩) (lk.length + x.p.pieces.length) cap') (lk ++ x.p.pieces) (some g) := by
    unfold RowE
    rw [List.flatMap_append, List.length_append]; exact hr'
   rw [← HST.o] at hrow2
   have hob2 : ∀ y, some g = some y → w.heap.size ≤ y := fun y hy => by
    cases hy
    have h1 := HOB.o b rfl
    have h2 := HK.o.size
    rcases hg' with h | h
    ·omega
    ·first | omega | (simp at h; omega)
   have hk2 : Keep [] w w' := (HK.o.alloc (.cells #[.int .i64 x.p.pid, .int .i64 x.p.len, .slice xa x.p.pieces.length xc] 48)).trans hk' (fun y hy => .inr (by simp at hy; subst hy; exact HOB.o _ rfl))
   have HR2 := hyd hrow2
   have HOB2 := hyd hob2
   have HK2 := hyd hk2
   clear hr' hk' hg' hrow2 hob2 hk2
   go_wp2_with fail
   go_roundw
   case rel => exact ⟨k + 1, some g, by omega, by go_num, HR2.o, ⟨_, _, _, _, rfl, rfl⟩, HOB2.o, HK2.o⟩
   case measure => simp [intOf]; omega
  ·obtain rfl : k = m.places.length := by omega
   rw [List.take_length] at HR
   rw [List.take_length]
   go_wp2_with fail
   go_ret
   exact ⟨_, _, rfl, HR.o, HOB.o, HK.o⟩
theorem RdX.up {B B' : Nat} {w : World} {v : Value} {xs : List (Int × Int)} (h : RdX B w v xs) (hB : B ≤ B') : RdX B' w v xs := by
 obtain ⟨⟨o, h1, h2⟩, h3, h4⟩ := h
 exact ⟨⟨o, h1, fun b hb => Nat.lt_of_lt_of_le (h2 b hb) hB⟩, h3, h4⟩
theorem RdPs.up {B B' : Nat} {w : World} {v : Value} {xs : List PlV} (h : RdPs B w v xs) (hB : B ≤ B') : RdPs B' w v xs := by
 obtain ⟨⟨o, h1, h2⟩, h3, h4⟩ := h
 exact ⟨⟨o, h1, fun b hb => Nat.lt_of_lt_of_le (h2 b hb) hB⟩, fun x hx => ⟨(h3 x hx).1, (h3 x hx).2.1, (h3 x hx).2.2.up hB⟩, h4⟩
theorem RdM.up {B B' : Nat} {w : World} {m : MnV} (h : RdM B w m) (hB : B ≤ B') : RdM B' w m := by
 obtain ⟨h1, h2, ⟨⟨o, h3, h4⟩, h5⟩, h6⟩ := h
 exact ⟨h1, h2, ⟨⟨o, h3, fun b hb => Nat.lt_of_lt_of_le (h4 b hb) hB⟩, h5⟩, h6.up hB⟩
theorem RdM.next {w w' : World} {m : MnV} (h : RdM w.heap.size w m) (hk : Keep [] w w') : RdM w'.heap.size w' m := (h.keep hk (by simp)).up hk.size
end Go.Proofs.YtimpadpeibgmoaaGreat

namespace Go.Emb
open Go.RowKit
theorem run_append_any {P : Program} {w : World} {T tx ty E e' : TypeId} {i : TypeInfo} {z : Value} {k bytes : Nat} (ht : P.underlying T = some (.slice E)) (htx : P.underlying tx = some (.slice e')) (hi : P.info? E = some i) (hz : i.zero = some z) (hik : i.size = k) (hib : i.bytes = bytes)
  (hzs : z.cells.size = k) {v : Value} {n : Nat} {xs : List Value} {r : Option Nat} (h : Row w E k v n xs r) {x : Value} {m : Nat} {news : List Value} {ox : Option Nat} (hx : Rd w k x m news ox) (h1 : ∀ u ∈ news, u.oneCell' = true)
  (h63 : n + m ≤ maxLen) (hbytes : (n + m) * bytes ≤ 140737488355328) :
  ∃ v' o' w', (Builtin.append_ #[T, tx] ty #[v, x]).run P w = .ok v' w' ∧ Row w' E k v' (n + m) (xs ++ news) o' ∧ Keep r.toList w w' ∧ (∀ b, o' = some b → r = some b ∨ w.heap.size ≤ b) := by
 by_cases hm : m = 0
 ·subst hm
  have hn : news = [] := List.eq_nil_of_length_eq_zero (by simpa using hx.1)
  subst hn
  refine ⟨v, r, w, ?_, by simpa using h, Keep.refl _ _, fun b hb => .inl hb⟩
  obtain ⟨_, a, c, rfl, _⟩ := hx
  obtain ⟨_, h⟩ := h
  rcases h with ⟨rfl, rfl, rfl⟩ | ⟨b', off', cap', cs, e1, rfl, hb, hc1, hc2, _⟩
  ·cases a with
   | none => simp [Builtin.append_, run_underlying ht, run_underlying htx, sizeOf, typeInfo, hi, Builtin.lenOf, Builtin.firstCells, storeCells]
   | some a => simp [Builtin.append_, run_underlying ht, run_underlying htx, sizeOf, typeInfo, hi, Builtin.lenOf, Builtin.firstCells, loadCells, loadCellsFrom, storeCells]
  ·cases a with
   | none => simp [Builtin.append_, run_underlying ht, run_underlying htx, sizeOf, typeInfo, hi, Builtin.lenOf, Builtin.firstCells, hc1, storeCells]
   | some a => simp [Builtin.append_, run_underlying ht, run_underlying htx, sizeOf, typeInfo, hi, Builtin.lenOf, Builtin.firstCells, loadCells, loadCellsFrom, hc1, storeCells]
 ·obtain ⟨g, off', cap', w', r1, r2, r3, r4⟩ := run_append_row (P := P) (w := w) (ty := ty) ht hi hz hik hib hzs h (hx.src htx (by omega) h1) (by omega) h63 hbytes
  exact ⟨_, some g, w', r1, r2, r3, fun b hb => by cases hb; exact r4⟩
section
variable {P : Program} (w : World)
theorem wpList_append_any {ops : Array Oper} {rest : List Oper} {o : Oper} {a : Act} {Q : Exit → Act → World → Prop} (hgd : o.guard = none) (s x : Operand) (T tx : TypeId) (ho : o.op = .call { callee := .builtin .append, args := #[s, x], argTypes := #[T, tx] })
  (E e' : TypeId) (i : TypeInfo) (z : Value) (k bytes : Nat) (ht : P.underlying T = some (.slice E)) (htx : P.underlying tx = some (.slice e')) (hi : P.info? E = some i) (hz : i.zero = some z) (hik : i.size = k) (hib : i.bytes = bytes) (hzs : z.cells.size = k)
  (v : Value) (n : Nat) (xs : List Value) (r : Option Nat) (hs : a.eval s = v) (hown : Row w E k v n xs r) (xv : Value) (hx : a.eval x = xv) (m : Nat) (news : List Value) (ox : Option Nat) (hrd : Rd w k xv m news ox) (h1 : ∀ u ∈ news, u.oneCell' = true) (h63 : n + m ≤ maxLen) (hbytes : (n + m) * bytes ≤ 140737488355328)
  (h : ∀ v' o' w', Row w' E k v' (n + m) (xs ++ news) o' → Keep r.toList w w' → (∀ b, o' = some b → r = some b ∨ w.heap.size ≤ b) → wpList P ops Q rest (a.put o.dst v') w') : wpList P ops Q (o :: rest) a w := by
 refine wpList_plain hgd fun K' hK' => ?_
 obtain ⟨v', o', w', hr, h2, h3, h4⟩ := run_append_any (P := P) (w := w) (ty := o.type) ht htx hi hz hik hib hzs hown hrd h1 h63 hbytes
 unfold Oper.wp execOp
 simp only [ho, resolve, invoke, builtin, Sem.run_bind, Sem.run_pure, Result.andThen_ok, List.map_toArray, List.map_cons, List.map_nil, hs, hx, hr]
 exact hK' _ _ (h v' o' w' h2 h3 h4)
theorem step_append_any {ops : Array Oper} {o : Oper} {a : Act} {K : Act → World → Prop} {Q : Exit → Act → World → Prop} {X : Prop} (hw : Region.wanted o (yielded ops a.tmps) = true) (s x : Operand) (T tx : TypeId) (ho : o.op = .call { callee := .builtin .append, args := #[s, x], argTypes := #[T, tx] })
  (E e' : TypeId) (i : TypeInfo) (z : Value) (k bytes : Nat) (ht : P.underlying T = some (.slice E)) (htx : P.underlying tx = some (.slice e')) (hi : P.info? E = some i) (hz : i.zero = some z) (hik : i.size = k) (hib : i.bytes = bytes) (hzs : z.cells.size = k)
  (v : Value) (n : Nat) (xs : List Value) (r : Option Nat) (hs : a.eval s = v) (hown : Row w E k v n xs r) (xv : Value) (hx : a.eval x = xv) (m : Nat) (news : List Value) (ox : Option Nat) (hrd : Rd w k xv m news ox) (h1 : ∀ u ∈ news, u.oneCell' = true) (h63 : n + m ≤ maxLen) (hbytes : (n + m) * bytes ≤ 140737488355328)
  (h : ∀ v' o' w', Row w' E k v' (n + m) (xs ++ news) o' → Keep r.toList w w' → (∀ b, o' = some b → r = some b ∨ w.heap.size ≤ b) → K (a.put o.dst v') w') :
  if Region.wanted o (yielded ops a.tmps) = true then Oper.wp P o a w K Q else X := by
 rw [if_pos hw]
 obtain ⟨v', o', w', hr, h2, h3, h4⟩ := run_append_any (P := P) (w := w) (ty := o.type) ht htx hi hz hik hib hzs hown hrd h1 h63 hbytes
 unfold Oper.wp execOp
 simp only [ho, resolve, invoke, builtin, Sem.run_bind, Sem.run_pure, Result.andThen_ok, List.map_toArray, List.map_cons, List.map_nil, hs, hx, hr]
 exact h v' o' w' h2 h3 h4
end
end Go.Emb

namespace Go.Proofs.YtimpadpeibgmoaaGreat
open Go.RowKit Go.Emb Go.Lib Go.Emb.Ext Go.Shelf Go.Sort
def SmallE (x : E) : Prop := 0 ≤ x.1 ∧ x.1 ≤ 1000000
abbrev EB := { x : E // SmallE x }
instance : Inhabited EB := ⟨⟨(0, 0), by unfold SmallE; simp⟩⟩
def encB (x : EB) : List Value := encE x.val
def cmpB (x y : EB) : Int := x.val.1 - y.val.1
theorem ltB (x y : EB) : ltOf cmpB x y = decide (x.val.1 < y.val.1) := by
 unfold ltOf cmpB
 rw [Bool.eq_iff_iff]
 simp only [decide_eq_true_eq]
 omega
theorem swoB : SWO (ltOf cmpB) where
 irrefl x := by rw [ltB]; simp
 trans x y z h1 h2 := by rw [ltB] at *; simp at *; omega
 ntrans x y z h1 h2 := by rw [ltB] at *; simp at *; omega
theorem attach_flat (D : List E) (h : ∀ x ∈ D, SmallE x) : (D.attachWith SmallE h).flatMap encB = D.flatMap encE := by
 induction D with
 | nil => rfl
 | cons x l ih => simp only [List.attachWith_cons, List.flatMap_cons, ih]; rfl
theorem attach_len (D : List E) (h : ∀ x ∈ D, SmallE x) : (D.attachWith SmallE h).length = D.length := by simp
theorem map_flat (l : List EB) : l.flatMap encB = (l.map (·.val)).flatMap encE := by
 induction l with
 | nil => rfl
 | cons x l ih => simp only [List.flatMap_cons, List.map_cons, ih]; rfl
theorem attach_map (D : List E) (h : ∀ x ∈ D, SmallE x) : (D.attachWith SmallE h).map (·.val) = D := by
 induction D with
 | nil => rfl
 | cons x l ih => simp only [List.attachWith_cons, List.map_cons, ih]
theorem closureB (x y : EB) (W : World) : Calls Tryz.prog 125 #[.agg #[.int .i64 x.val.1, .int .i64 x.val.2], .agg #[.int .i64 y.val.1, .int .i64 y.val.2]] W fun e w' => e = .returned (.int .i64 (cmpB x y)) ∧ ∃ q os', w' = grow (W.drewN q) os' := by
 obtain ⟨⟨x1, x2⟩, hx⟩ := x
 obtain ⟨⟨y1, y2⟩, hy⟩ := y
 unfold SmallE at hx hy
 simp only at hx hy
 unfold cmpB
 simp only
 have hw : IntKind.i64.wrap (x1 - y1) = x1 - y1 := IntWalk.i64_in _ (by omega)
 clear hx hy
 go_enter Tryz.func125, Tryz.ntmps125
 go_wp2_with fail
 refine bodyPost_ret (results_tmp rfl _ _ _) rfl ?_
 exact ⟨rfl, 0, _, by rw [alloc_eq_grow, alloc_eq_grow, grow_grow]; rfl⟩
theorem perm_of_permInS {d d' : Array EB} (h : PermIn 0 d.size d d') : d'.toList.Perm d.toList ∧ d'.size = d.size := by
 obtain ⟨h1, _, h3⟩ := h
 refine ⟨?_, h1⟩
 have e1 : d.extract 0 d.size = d := by simp
 have e2 : d'.extract 0 d.size = d' := by rw [← h1]; simp
 rwa [e1, e2] at h3
theorem sortF_anyS {w : World} {v : Value} {d : List E} {o : Option Nat} (h : RowE w v d o) (hsz : d.length ≤ 1000000000) (hsm : ∀ x ∈ d, SmallE x) :
  Calls Tryz.prog 113 #[v, .func (.func 125) #[] #[]] w fun e w' => e = .returned (.tuple #[]) ∧ ∃ s, s.Perm d ∧ s.Pairwise (fun x y => x.1 ≤ y.1) ∧ RowE w' v s o ∧ Keep o.toList w w' := by
 have eg : ∀ args w, (callFunc 125 args).run Tryz.prog w = .ok (.enter 125 args) w := enters_of Tryz.func125 (by kernel_rfl) rfl
 have hk : ∀ x, (encB x).length = 2 := fun _ => rfl
 unfold RowE at *
 rcases d with _ | ⟨t, d⟩
 ·obtain ⟨a, c, rfl⟩ : ∃ a c, v = .slice a 0 c := by
   rcases h.2 with ⟨_, hv, _⟩ | ⟨b, off, cap, cs, _, hv, _⟩
   ·exact ⟨_, _, hv⟩
   ·exact ⟨_, _, hv⟩
  have hcon := AnyF.slices_SortFunc_none Tryz.sortT a c (.func (.func 125) #[] #[]) w
  change Calls Tryz.prog 113 _ _ _ at hcon
  refine hcon.mono ?_
  rintro e w' ⟨rfl, rfl⟩
  exact ⟨rfl, [], List.Perm.refl _, by simp, h, Keep.refl _ _⟩
 ·generalize hd : t :: d = D at *
  have hpos : D.length ≠ 0 := by rw [← hd]; simp
  obtain ⟨b, off, cap, rfl, rfl⟩ : ∃ b off cap, o = some b ∧ v = .slice (some ⟨b, off, none⟩) D.length cap := by
   rcases h.2 with ⟨_, _, h0⟩ | ⟨b, off, cap, cs, ho, hv, _⟩
   ·exact absurd h0 hpos
   ·exact ⟨b, off, cap, ho, hv⟩
  obtain ⟨DB, hDB⟩ : ∃ X, X = (D.attachWith SmallE hsm) := ⟨_, rfl⟩
  have hfl : DB.flatMap encB = D.flatMap encE := by rw [hDB]; exact attach_flat D hsm
  have hln : DB.length = D.length := by rw [hDB]; exact attach_len D hsm
  have hmp : DB.map (·.val) = D := by rw [hDB]; exact attach_map D hsm
  have h' : Row w 34 2 (.slice (some ⟨b, off, none⟩) DB.toArray.size cap) DB.toArray.size (DB.toArray.toList.flatMap encB) (some b) := by simpa [hfl, hln] using h
  have hcon := AnyQ.slices_SortFunc Tryz.sortT 2 Tryz.isAgg34 Tryz.sizeOf34 encB hk (fun x v hv => by simp [encB, encE] at hv; rcases hv with rfl | rfl <;> rfl) cmpB swoB 125 #[] b off cap DB.toArray w eg (fun _ _ _ _ x y => closureB x y _) (h'.holdsK hk (by omega)) (h.lt b rfl) (by simp; omega)
  change Calls Tryz.prog 113 _ _ _ at hcon
  have hsz' : DB.toArray.size = D.length := by simp [hln]
  rw [hsz'] at hcon
  refine hcon.mono ?_
  rintro e w' ⟨rfl, d', n, os, hp, hs, rfl⟩
  obtain ⟨hp1, hp2⟩ := perm_of_permInS (d := DB.toArray) (by rw [hsz']; exact hp)
  have := h'.sorted hk (by omega) hp2 n os
  refine ⟨rfl, d'.toList.map (·.val), ?_, ?_, ?_, by simpa using this.2⟩
  ·have h2 := hp1.map (·.val)
   simp only [List.map_map] at h2
   rw [← hmp]
   simpa using h2
  ·rw [List.pairwise_map, List.pairwise_iff_getElem]
   intro i j hi hj hij
   have := hs i j (by omega) hij (by have := hp2; simp at hj this; omega)
   rw [ltB, getElem!_pos d' i (by simpa using hi), getElem!_pos d' j (by simpa using hj)] at this
   simp at this ⊢
   exact this
  ·have h1 := this.1
   have hl : (d'.toList.map (·.val)).length = D.length := by rw [List.length_map]; simpa [hln] using hp2
   rw [hl, ← map_flat]
   simpa [hln] using h1
theorem sortedFunc_anyS {w : World} {B : Nat} {v : Value} {xs : List E} {o : Option Nat} (hB : w.cell? ⟨B, 0, none⟩ = some v) (hr : RdE w v xs o) (hsz : xs.length ≤ 1000000000) (hsm : ∀ x ∈ xs, SmallE x) (ho : ∀ b, o = some b → b < w.heap.size) :
  Calls Tryz.prog 76 #[.func (.func 114) #[] #[.pointer (some ⟨B, 0, none⟩)], .func (.func 125) #[] #[]] w (SortedP w xs) := by
 have h := collect_any hB hr hsz ho
 clear hB hr ho
 go_enter Tryz.func76, Tryz.ntmps76
 go_wp2_with fail
 refine h.mono ?_
 rintro e w' ⟨v', o', rfl, h1, h2, h3⟩
 have hc := sortF_anyS h1 hsz hsm
 have H2 := hyd h2
 have H3 := hyd h3
 clear h h1 h2 h3
 go_wp2_with fail
 refine hc.mono ?_
 rintro e w2 ⟨rfl, s, p1, p2, p3, p4⟩
 have P1 := hyd p1
 have P2 := hyd p2
 have P3 := hyd p3
 have P4 := hyd p4
 clear p1 p2 p3 p4 hc
 go_wp2_with fail
 go_ret
 refine ⟨v', o', s, rfl, P1.o, P2.o, P3.o, H2.o, H3.o.trans P4.o ?_⟩
 intro x hx
 right
 cases o' with
 | none => simp at hx
 | some b => simp at hx; subst hx; exact H2.o x rfl
end Go.Proofs.YtimpadpeibgmoaaGreat
