/- (of XExt, by exm.py) Extents: Join. -/
import Derived.Test.YtngepgnmlpinaaaMx5
import Derived.StillTailTactics
namespace Go.Emb.Ext
set_option maxRecDepth 100000 in
theorem jstep_right {r r' : List E} {x : E} (hr : ∀ y ∈ r, right y = true) (hx : right x = true) (h : jstep r x = some r') : ∀ y ∈ r', right y = true := by
  cases r with
  | nil => simp [jstep] at h; subst h; simpa using hx
  | cons z r =>
    have hz := (right_iff z).1 (hr z (by simp))
    have hx' := (right_iff x).1 hx
    simp only [jstep] at h
    split at h
    · cases h
    · split at h
      · cases h
        intro y hy
        rcases List.mem_cons.1 hy with rfl | hy
        · rw [right_iff]; simp; omega
        · exact hr y (by simp [hy])
      · cases h
        intro y hy
        rcases List.mem_cons.1 hy with rfl | hy
        · exact hx
        · exact hr y hy
set_option maxRecDepth 100000 in
theorem joinR_snoc {r0 r : List E} {t : List E} {x : E} (h : joinR r0 t = some r) : joinR r0 (t ++ [x]) = jstep r x := by
  induction t generalizing r0 with
  | nil =>
    simp only [joinR, Option.some.injEq] at h
    subst h
    simp only [List.nil_append, joinR]
    cases jstep r0 x <;> rfl
  | cons z t ih =>
    simp only [joinR, List.cons_append] at h ⊢
    cases hj : jstep r0 z with
    | none => rw [hj] at h; cases h
    | some r1 => rw [hj] at h; simp only at h ⊢; exact ih h
set_option maxRecDepth 100000 in
theorem joinR_none_append {r0 : List E} {t u : List E} (h : joinR r0 t = none) : joinR r0 (t ++ u) = none := by
  induction t generalizing r0 with
  | nil => simp [joinR] at h
  | cons z t ih =>
    simp only [joinR, List.cons_append] at h ⊢
    cases hj : jstep r0 z with
    | none => rfl
    | some r1 => rw [hj] at h; simp only at h ⊢; exact ih h
/-- what Join comes to -/
def JoinRes (l out : List E) (err : Int) : Prop :=
  (err = 2 ∧ out = [] ∧ ∃ x ∈ l, right x = false) ∨ (err = 8 ∧ out = [] ∧ (∀ x ∈ l, right x = true) ∧ ¬ Disj l) ∨
  (err = 0 ∧ (∀ x ∈ l, right x = true) ∧ JoinOk l out ∧ ∀ x ∈ out, right x = true)
end Go.Emb.Ext
namespace Go.Proofs.Ytngepgnmlpinaaa
open Go.RowKit Go.Emb Go.Lib Go.Emb.Ext Go.Shelf Go.Sort

set_option maxRecDepth 100000 in
theorem two_srcB {P : Program} {tx e' : TypeId} (hk : P.underlying tx = some (.slice e')) (w : World) (B : Nat) (hB : w.heap.size = B) (x y : Value) (hx : x.oneCell' = true) (hy : y.oneCell' = true) (t : TypeId) : Src P 2 tx (.slice (some ⟨B, 0, none⟩) 1 1) 1 [x, y] (w.alloc (.cells #[x, y] t)) := by
  subst hB; exact two_src hk w x y hx hy t

def JoinP (w : World) (l : List E) (e : Ending) (w' : World) : Prop :=
  ∃ v o out err, e = .returned (.tuple #[v, .int .i64 err]) ∧ JoinRes l out err ∧ RowE w' v out o ∧ (∀ b, o = some b → w.heap.size ≤ b) ∧ Keep [] w w'

/-- the loop of Join: behind k of the sorted list -/
def JoinR (w : World) (s : List E) (k : Nat) (v : Value) (wr : World) : Prop :=
  ∃ r o, joinR [] (s.take k) = some r ∧ (∀ y ∈ r, right y = true) ∧ RowE wr v r.reverse o ∧ (∀ b, o = some b → w.heap.size ≤ b) ∧ Keep [] w wr ∧ r.length ≤ k

set_option maxRecDepth 100000 in
theorem RowE.slice {w : World} {v : Value} {l : List E} {o : Option Nat} (h : RowE w v l o) : ∃ a c, v = .slice a l.length c := by
  rcases h.2 with ⟨_, rfl, h0⟩ | ⟨b, off, cap, cs, _, rfl, _⟩
  · rw [h0]; exact ⟨_, _, rfl⟩
  · exact ⟨_, _, rfl⟩
set_option maxRecDepth 100000 in
theorem RowE.rd {w : World} {v : Value} {l : List E} {o : Option Nat} (h : RowE w v l o) : ∃ o', RdE w v l o' ∧ ∀ b, o' = some b → o = some b := by
  obtain ⟨o', h1, h2⟩ := Row.rd h
  refine ⟨o', h1, fun b hb => ?_⟩
  rcases h2 with h2 | h2
  · rw [h2] at hb; cases hb
  · rw [← h2]; exact hb

set_option maxRecDepth 100000 in
/-- the last of a row of extents -/
theorem RowE.last {w : World} {v : Value} {r : List E} {y : E} {o : Option Nat} (h : RowE w v (y :: r).reverse o) :
    ∃ b off c, v = .slice (some ⟨b, off, none⟩) (r.length + 1) c ∧ o = some b ∧ w.cell? ⟨b, off + r.length * 2, none⟩ = some (.int .i64 y.1) ∧ w.cell? ⟨b, off + r.length * 2 + 1, none⟩ = some (.int .i64 y.2) ∧ w.frozen? ⟨b, off + r.length * 2 + 1, none⟩ = false ∧
      ∀ u, RowE (w.setCell ⟨b, off + r.length * 2 + 1, none⟩ (.int .i64 u)) v ((y.1, u) :: r).reverse o := by
  unfold RowE at *
  have hl0 : (y :: r).reverse.length = r.length + 1 := by simp
  have hfl : ∀ z : E, ((z :: r).reverse.flatMap encE) = r.reverse.flatMap encE ++ [.int .i64 z.1, .int .i64 z.2] := fun z => by simp [encE]
  have hlr : (r.reverse.flatMap encE).length = r.length * 2 := by
    have : ∀ l : List E, (l.flatMap encE).length = l.length * 2 := fun l => by
      induction l with
      | nil => rfl
      | cons a l ih => rw [List.flatMap_cons, List.length_append, ih]; simp [encE]; omega
    rw [this]; simp
  rw [hl0, hfl] at h
  obtain ⟨hl, h⟩ := h
  rcases h with ⟨_, _, h0⟩ | ⟨b, off, cap, cs, rfl, rfl, hb, h1, h2, h3, h5⟩
  · omega
  have e0 := h5 (r.length * 2) (by omega)
  have e1 := h5 (r.length * 2 + 1) (by omega)
  rw [List.getElem?_append_right (by omega), hlr] at e0 e1
  simp at e0 e1
  refine ⟨b, off, cap, rfl, rfl, by simp [World.cell?, hb, e0], by simp [World.cell?, hb, Nat.add_assoc, e1], by simp [World.frozen?, hb], fun u => ?_⟩
  have hl2 : ((y.1, u) :: r).reverse.length = r.length + 1 := by simp
  rw [hl2, hfl]
  refine ⟨by simp [hlr]; omega, .inr ⟨b, off, cap, _, rfl, rfl, heap_setCell_at hb _, h1, h2, by simpa using h3, fun i hi => ?_⟩⟩
  have h5i := h5 i hi
  rw [Array.getElem?_setIfInBounds]
  by_cases hi2 : off + r.length * 2 + 1 = off + i
  · obtain rfl : i = r.length * 2 + 1 := by omega
    rw [if_pos hi2, if_pos (by omega), List.getElem?_append_right (by omega), hlr]
    simp
  · rw [if_neg hi2, h5i]
    by_cases hi3 : i < r.length * 2
    · rw [List.getElem?_append_left (by omega), List.getElem?_append_left (by omega)]
    · obtain rfl : i = r.length * 2 := by omega
      rw [List.getElem?_append_right (by omega), List.getElem?_append_right (by omega), hlr]
      simp

set_option maxRecDepth 100000 in
theorem RowE.setLast {w : World} {b off c : Nat} {r : List E} {y : E} {u : Int} (h : RowE w (.slice (some ⟨b, off, none⟩) (r.length + 1) c) (y :: r).reverse (some b)) :
    RowE (w.setCell ⟨b, off + r.length * 2 + 1, none⟩ (.int .i64 u)) (.slice (some ⟨b, off, none⟩) (r.length + 1) c) ((y.1, u) :: r).reverse (some b) := by
  obtain ⟨b', off', c', hv, ho', _, _, _, hs⟩ := RowE.last h
  cases hv
  cases ho'
  exact hs u

set_option maxRecDepth 100000 in
set_option maxHeartbeats 1000000 in
theorem join_any {w : World} {v : Value} {l : List E} {o : Option Nat} (hr : RdE w v l o) (hsz : l.length ≤ 1000000) (ho : ∀ b, o = some b → b < w.heap.size) :
    Calls Try.prog 53 #[v] w (JoinP w l) := by
  have eg : ∀ args w, (callFunc 74 args).run Try.prog w = .ok (.enter 74 args) w := enters_of Try.func74 (by kernel_rfl) rfl
  obtain ⟨i0, hi, hz0, hz1, hz2⟩ := info_parts ext_info
  have HI := Lib.hid hi
  obtain ⟨a, c, rfl⟩ : ∃ a c, v = .slice a l.length c := by obtain ⟨_, a, c, h, _⟩ := hr; exact ⟨a, c, h⟩
  have hcf := containsFunc_any hr (by omega) ho 74 #[] (fun x => !right x) eg (fun x W _ => notRight_any x W)
  have HR := Lib.hid hr
  have HO := Lib.hid ho
  clear hi hr ho eg
  by_cases hall : l.any (fun x => !right x) = true
  · rw [hall] at hcf
    go_enter Try.func53, Try.ntmps53
    go_wp2_with (go_at_call 51; refine hcf.mono ?_; rintro e w1 ⟨rfl, hk1⟩)
    go_ret2
    refine ⟨_, none, [], 2, rfl, .inl ⟨rfl, rfl, ?_⟩, Row.nil _ _ _, by simp, hk1⟩
    obtain ⟨x, hx, h⟩ := List.any_eq_true.1 hall
    exact ⟨x, hx, by simpa using h⟩
  · have hallF : l.any (fun x => !right x) = false := by simpa using hall
    have hright : ∀ x ∈ l, right x = true := fun x hx => by
      have := List.any_eq_false.1 hallF x hx
      simpa using this
    rw [hallF] at hcf
    have HRI := Lib.hid hright
    clear hall hallF hright
    go_enter Try.func53, Try.ntmps53
    go_wp2_with fail
    refine hcf.mono ?_
    rintro e w1 ⟨rfl, hk1⟩
    have HK1 := Lib.hid hk1
    clear hk1 hcf
    go_wp2_with fail
    refine (values_any _ _ ⟨_, _, _, rfl⟩).mono ?_
    rintro e w2 ⟨rfl, rfl⟩
    go_wp2_with fail
    have k2 : Keep [] w (w1.alloc (.cells #[.slice a l.length c] 41)) := HK1.out.alloc _
    have hsf := sortedFunc_any (w := w1.alloc (.cells #[.slice a l.length c] 41)) (B := w1.heap.size) (v := .slice a l.length c) (by simp) (HR.out.keep k2 (by simp)) (by omega) (fun b hb => by have := HO.out b hb; have := k2.size; omega)
    have hks := k2.size
    have HK2 := Lib.hid k2
    clear k2
    refine hsf.mono ?_
    rintro e w3 ⟨v3, o3, s, rfl, p1, p2, p3, p4, p5⟩
    have k3 : Keep [] w w3 := HK2.out.trans p5 (by simp)
    obtain ⟨a3, c3, rfl⟩ := RowE.slice p3
    obtain ⟨o4, hrd, ho4⟩ := RowE.rd p3
    have hlt4 : ∀ b, o4 = some b → b < w3.heap.size := fun b hb => Row.lt p3 b (ho4 b hb)
    have hslen : s.length ≤ 1000000 := by rw [p1.length_eq]; exact hsz
    have hsr : ∀ x ∈ s, right x = true := fun x hx => HRI.out x (p1.mem_iff.1 hx)
    have HP1 := Lib.hid p1
    have HP2 := Lib.hid p2
    have HK3 := Lib.hid k3
    have HRD := Lib.hid hrd
    have HLT := Lib.hid hlt4
    have HSR := Lib.hid hsr
    clear p1 p2 p3 p4 p5 k3 hrd hlt4 ho4 hsr hsf HK1 HK2 hks HR HO
    go_wp2_with fail
    go_loopw [2, 14] (fun u i wr => ∃ (k : Nat) (v : Value), v = u ∧ k ≤ s.length ∧ i = .int .i64 k ∧ JoinR w3 s k v wr) (fun _ i _ => s.length - (intOf i).toNat)
    case atStart => exact ⟨0, _, rfl, Nat.zero_le _, rfl, [], none, rfl, by simp, Row.nil _ _ _, by simp, Keep.refl _ _, by simp⟩
    case round =>
      obtain ⟨k, v, rfl, hk, rfl, r, o', hj, hrr, hrow, hnew, hK, hrl⟩ := hrel
      have HJ := Lib.hid hj
      have HRR := Lib.hid hrr
      have HROW := Lib.hid hrow
      have HNEW := Lib.hid hnew
      have HK := Lib.hid hK
      clear hj hrr hrow hnew hK
      by_cases hlt : k < s.length
      · obtain ⟨b, off, rfl, rfl, g0, g1⟩ := HRD.out.at hlt
        have c0 := HK.out.cellOf g0
        have c1 := HK.out.cellOf g1
        have hxr := HSR.out s[k] (List.getElem_mem hlt)
        have hts : s.take (k + 1) = s.take k ++ [s[k]] := List.take_succ_eq_append_getElem hlt
        have hjs : joinR [] (s.take (k + 1)) = jstep r s[k] := by rw [hts]; exact joinR_snoc HJ.out
        have hjn : jstep r s[k] = none → joinR [] s = none := by
          intro hn
          rw [← List.take_append_drop (k + 1) s]
          exact joinR_none_append (by rw [hjs]; exact hn)
        have HJS := Lib.hid hjs
        have HJN := Lib.hid hjn
        have HXR := Lib.hid hxr
        clear hts hjs hjn hxr g0 g1
        generalize s[k] = x at *
        obtain ⟨x1, x2⟩ := x
        simp only at c0 c1
        have q0 : (0 : Int) ≤ (k : Int) := by omega
        have q1 : (k : Int) < (s.length : Int) := by omega
        cases r with
        | nil =>
          obtain ⟨av, cv, rfl⟩ := RowE.slice HROW.out
          simp only [List.reverse_nil, List.length_nil] at *
          go_wp2_with fail
          go_quiet (fail)
          go_wp2_with fail
          go_quiet (fail)
          go_wp2_with (at_builtin; refine wpList_append_row _ rfl _ _ 41 41 rfl 23 i0 _ 2 16 Try.underlying41 HI.out hz0 hz1 hz2 rfl _ _ _ o' rfl (Row.keep HROW.out (F := []) (by repeat (first | exact Keep.refl _ _ | refine Keep.drewN ?_ _ | refine Keep.drew ?_ | refine Keep.alloc ?_ _)) (by simp)) _ rfl 1 _ (two_srcB Try.underlying41 _ _ (by simp) _ _ rfl rfl _) (by omega) (by simp [maxLen] <;> omega) (by simp <;> omega) ?_; intro g off2 cap w2 hrow2 hk2 hg2)
          go_roundw
          case rel =>
            refine ⟨k + 1, _, rfl, by omega, by go_num, [(x1, x2)], some g, by rw [HJS.out]; rfl, by simpa using HXR.out, ?_, ?_, ?_, by simp⟩
            · unfold RowE
              simpa [encE] using hrow2
            · rintro b ⟨⟩
              rcases hg2 with h | h
              · exact HNEW.out g h
              · have := HK.out.size
                simp at h
                omega
            · exact (HK.out.trans (G := []) (by repeat (first | exact Keep.refl _ _ | refine Keep.drewN ?_ _ | refine Keep.drew ?_ | refine Keep.alloc ?_ _)) (by simp)).trans hk2 (fun z hz => by
                cases o' with
                | none => simp at hz
                | some b => simp at hz; subst hz; exact .inr (HNEW.out _ rfl))
          case measure => simp [intOf]; omega
        | cons y r =>
          obtain ⟨b2, off2, cv, rfl, rfl, d0, d1, df, hset⟩ := RowE.last HROW.out
          have hyr := (right_iff y).1 (HRR.out y (by simp))
          have hxr := (right_iff _).1 HXR.out
          have hm : r.length < 1000000 := by simp at hrl; omega
          have HSET := Lib.hid hset
          obtain ⟨y1, y2⟩ := y
          simp only at d0 d1 hyr hxr
          clear hset
          have e0 : ∀ ob, (wr.alloc ob).cell? ⟨b2, off2 + r.length * 2, none⟩ = some (.int .i64 y1) := fun ob => ((Keep.refl [] wr).alloc ob).cellOf d0
          have e1 : ∀ ob, (wr.alloc ob).cell? ⟨b2, off2 + r.length * 2 + 1, none⟩ = some (.int .i64 y2) := fun ob => ((Keep.refl [] wr).alloc ob).cellOf d1
          have q2 : (0 : Int) ≤ (r.length : Int) := by omega
          have q3 : (r.length : Int) < (r.length : Int) + 1 := by omega
          by_cases h1 : x1 < y1 + y2
          · go_wp2_with fail
            go_quiet (fail)
            go_wp2_with fail
            go_ret2
            refine ⟨_, none, [], 8, rfl, .inr (.inl ⟨rfl, rfl, HRI.out, ?_⟩), Row.nil _ _ _, by simp, ?_⟩
            · refine joinS_none HP2.out HP1.out (fun x hx => ((right_iff x).1 (HRI.out x hx)).2.2.1) ?_
              unfold joinS
              rw [HJN.out (by simp [jstep, h1])]
              rfl
            · exact (HK3.out.trans HK.out (by simp)).trans (G := []) (by repeat (first | exact Keep.refl _ _ | refine Keep.drewN ?_ _ | refine Keep.drew ?_ | refine Keep.alloc ?_ _)) (by simp)
          · by_cases h2 : y1 + y2 = x1
            · have hb2 : (y1 + y2 == x1) = true := by simp [h2]
              have hjs2 : jstep ((y1, y2) :: r) (x1, x2) = some ((y1, y2 + x2) :: r) := by simp [jstep, h2]
              have HJ2 := Lib.hid hjs2
              clear h2 hjs2
              go_wp2_with fail
              go_quiet (fail)
              go_wp2_with fail
              go_quiet (fail)
              go_wp2_with fail
              have ef : ∀ ob, (wr.alloc ob).frozen? ⟨b2, off2 + r.length * 2 + 1, none⟩ = false := fun ob => by
                rw [← df]; unfold World.frozen?; rw [Below.heap_alloc wr ob b2 (World.block_lt_of_cell? _ _ d0)]
              go_region
              all_goals
                go_wp2_with fail
                go_roundw
                case rel =>
                  refine ⟨k + 1, _, rfl, by omega, by go_num, (y1, y2 + x2) :: r, some b2, by rw [HJS.out, HJ2.out], jstep_right HRR.out HXR.out HJ2.out, ?_, HNEW.out, ?_, by simp at hrl ⊢; omega⟩
                  · refine RowE.setLast (y := (y1, y2)) ?_
                    exact RowE.keep HROW.out (F := []) (by repeat (first | exact Keep.refl _ _ | refine Keep.drewN ?_ _ | refine Keep.drew ?_ | refine Keep.alloc ?_ _)) (by simp)
                  · exact (HK.out.trans (G := []) (by repeat (first | exact Keep.refl _ _ | refine Keep.drewN ?_ _ | refine Keep.drew ?_ | refine Keep.alloc ?_ _)) (by simp)).setCell (p := ⟨b2, off2 + r.length * 2 + 1, none⟩) (.inr (HNEW.out b2 rfl)) _
                case measure => simp [intOf]; omega
            · have hb2 : (y1 + y2 == x1) = false := by simp [h2]
              have hjs2 : jstep ((y1, y2) :: r) (x1, x2) = some ((x1, x2) :: (y1, y2) :: r) := by simp [jstep, h1, h2]
              have HJ2 := Lib.hid hjs2
              clear h2 hjs2
              go_wp2_with fail
              go_quiet (fail)
              go_wp2_with fail
              go_quiet (fail)
              go_wp2_with (at_builtin; refine wpList_append_row _ rfl _ _ 41 41 rfl 23 i0 _ 2 16 Try.underlying41 HI.out hz0 hz1 hz2 rfl _ _ _ (some b2) rfl (Row.keep HROW.out (F := []) (by repeat (first | exact Keep.refl _ _ | refine Keep.drewN ?_ _ | refine Keep.drew ?_ | refine Keep.alloc ?_ _)) (by simp)) _ rfl 1 _ (two_srcB Try.underlying41 _ _ (by simp) _ _ rfl rfl _) (by omega) (by simp [maxLen] <;> omega) (by simp <;> omega) ?_; intro g off3 cap w2 hrow2 hk2 hg2)
              go_roundw
              case rel =>
                refine ⟨k + 1, _, rfl, by omega, by go_num, (x1, x2) :: (y1, y2) :: r, some g, by rw [HJS.out, HJ2.out], jstep_right HRR.out HXR.out HJ2.out, ?_, ?_, ?_, by simp; omega⟩
                · unfold RowE
                  simpa [encE] using hrow2
                · rintro b ⟨⟩
                  rcases hg2 with h | h
                  · exact HNEW.out g h
                  · have := HK.out.size
                    simp at h
                    omega
                · exact (HK.out.trans (G := []) (by repeat (first | exact Keep.refl _ _ | refine Keep.drewN ?_ _ | refine Keep.drew ?_ | refine Keep.alloc ?_ _)) (by simp)).trans hk2 (fun z hz => by
                    simp at hz; subst hz; exact .inr (HNEW.out _ rfl))
              case measure => simp [intOf]; omega
      · go_wp2_with fail
        go_ret2
        have hj := HJ.out
        rw [List.take_of_length_le (by omega)] at hj
        have hjo : joinS s = some r.reverse := by unfold joinS; rw [hj]; rfl
        refine ⟨v, o', r.reverse, 0, rfl, .inr (.inr ⟨rfl, HRI.out, joinS_some HP2.out HP1.out (fun x hx => ((right_iff x).1 (HRI.out x hx)).2.2.1) hjo, fun x hx => HRR.out x (by simpa using hx)⟩), HROW.out, fun b hb => ?_, HK3.out.trans HK.out (by simp)⟩
        have h3 := HNEW.out b hb
        have h4 := HK3.out.size
        omega
end Go.Proofs.Ytngepgnmlpinaaa
