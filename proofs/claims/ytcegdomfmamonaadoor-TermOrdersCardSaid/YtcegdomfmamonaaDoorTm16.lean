/- Terms: Elements, the program's and the document's. Printed by gen-tm16.py. -/
import Derived.Test.YtcegdomfmamonaaDoorTm14
namespace Go.Emb
open Go.RowKit
/-- a list's heads, and its end -/
inductive Sp : Tm → List Tm → Tm → Prop
  | stop (t : Tm) (h : ¬ (t.kind = 8 ∧ t.items.length = 2)) : Sp t [] t
  | cons (t x u : Tm) (l : List Tm) (e : Tm) (h : t.kind = 8) (hi : t.items = [x, u]) (hs : Sp u l e) : Sp t (x :: l) e
theorem Sp.exN : ∀ (n : Nat) (t : Tm), t.sz ≤ n → ∃ l e, Sp t l e
  | 0, t, h => by have := t.sz_pos; omega
  | n + 1, t, h => by
    by_cases hc : t.kind = 8 ∧ t.items.length = 2
    · obtain ⟨x, u, hxy⟩ : ∃ x y, t.items = [x, y] := by
        match hm : t.items, hc.2 with
        | [x, y], _ => exact ⟨x, y, rfl⟩
      obtain ⟨l, e, hs⟩ := Sp.exN n u (by have := sz_mem_lt (x := u) (t := t) (by rw [hxy]; simp); omega)
      exact ⟨_, _, .cons t x u l e hc.1 hxy hs⟩
    · exact ⟨_, _, .stop t hc⟩
theorem Sp.ex (t : Tm) : ∃ l e, Sp t l e := Sp.exN t.sz t (Nat.le_refl _)
theorem Sp.len {t e : Tm} {l : List Tm} (h : Sp t l e) : l.length < t.sz := by
  induction h with
  | stop t h => have := t.sz_pos; simp; omega
  | cons t x u l e h hi hs ih =>
    have := sz_mem_lt (x := u) (t := t) (by rw [hi]; simp)
    simp only [List.length_cons]; omega
theorem Sp.rd {B : Nat} {w : World} {t e : Tm} {l : List Tm} (h : Sp t l e) (hr : RdTm B w t) : RdTms B w l ∧ RdTm B w e := by
  induction h with
  | stop t h => exact ⟨by simp [RdTms], hr⟩
  | cons t x u l e h hi hs ih =>
    have h2 := ((RdTm_iff t).1 hr).2
    have := ih (h2 u (by rw [hi]; simp))
    exact ⟨by simp only [RdTms]; exact ⟨h2 x (by rw [hi]; simp), this.1⟩, this.2⟩
theorem Sp.inv {u e : Tm} {l : List Tm} (h : Sp u l e) : (l = [] ∧ e = u ∧ ¬ (u.kind = 8 ∧ u.items.length = 2)) ∨ ∃ x y r, l = x :: r ∧ u.kind = 8 ∧ u.items = [x, y] ∧ Sp y r e := by
  cases h with
  | stop _ h => exact .inl ⟨rfl, rfl, h⟩
  | cons _ x y r _ h hi hs => exact .inr ⟨x, y, r, rfl, h, hi, hs⟩
theorem Sp.tms {t e : Tm} {l : List Tm} (h : Sp t l e) (hr : isTm t = true) : isTms l = true ∧ isTm e = true := by
  induction h with
  | stop t h => exact ⟨by simp [isTms], hr⟩
  | cons t x u l e h hi hs ih =>
    have h2 := (isTm_split hr).2
    have := ih (h2 u (by rw [hi]; simp))
    exact ⟨by simp only [isTms, Bool.and_eq_true]; exact ⟨h2 x (by rw [hi]; simp), this.1⟩, this.2⟩
theorem four_src {P : Program} {tx e' : TypeId} (hk : P.underlying tx = some (.slice e')) (w : World) (B : Nat) (hB : w.heap.size = B) (x y z u : Value) (hx : x.oneCell' = true) (hy : y.oneCell' = true) (hz : z.oneCell' = true) (hu : u.oneCell' = true) (t : TypeId) : Src P 4 tx (.slice (some ⟨B, 0, none⟩) 1 1) 1 [x, y, z, u] (w.alloc (.cells #[x, y, z, u] t)) := by
  subst hB
  exact Src.ofSlice _ hk _ 1 1 [x, y, z, u] rfl (fun j u hu => by
    match j with
    | 0 => simp at hu; subst hu; simp [Addr.add]
    | 1 => simp at hu; subst hu; simp [Addr.add]
    | 2 => simp at hu; subst hu; simp [Addr.add]
    | 3 => simp at hu; subst hu; simp [Addr.add]
    | j + 4 => simp at hu) (by simp [hx, hy, hz, hu])
end Go.Emb
namespace Go.Proofs.YtcegdomfmamonaaDoor
open Go.RowKit Go.Emb

theorem hasT_nil2 {B : Nat} {w : World} : HasT B w (.slice none 0 0) [] := ⟨⟨none, ⟨by simp, none, 0, rfl, by simp, by simp [maxLen], .inl ⟨rfl, rfl⟩⟩, by simp⟩, by simp, by simp [RdTms]⟩
theorem row_form {w : World} {E k : Nat} {v : Value} {n : Nat} {xs : List Value} {o : Option Nat} (h : Row w E k v n xs o) : ∃ a c, v = .slice a n c ∧ n ≤ c := by
  obtain ⟨-, ⟨rfl, rfl, rfl⟩ | ⟨b, off, cap, cs, rfl, rfl, -, h2, -⟩⟩ := h
  · exact ⟨none, 0, rfl, Nat.le_refl _⟩
  · exact ⟨_, _, rfl, h2⟩
def ElemsP (w : World) (l : List Tm) (e : Tm) (r : Ending) (w' : World) : Prop :=
  ∃ iv, r = .returned (.tuple #[iv, .bool (decide (e.kind = 7))]) ∧ HasT w'.heap.size w' iv (if e.kind = 7 then l else []) ∧ Keep [] w w'
def LoopE (w : World) (B : Nat) (l : List Tm) (e : Tm) (gk : Nat) (v : Value) (wr : World) : Prop :=
  ∃ (u : Tm) (done rest : List Tm) (o : Option Nat), gk = u.sz ∧ Sp u rest e ∧ l = done ++ rest ∧ wr.heap[w.heap.size]? = some (.cells #[.int .i64 u.kind, .int .i64 u.num, .string u.name, u.iv] 31) ∧
    Row wr 31 4 v done.length (done.flatMap encTm) o ∧ (∀ b, o = some b → w.heap.size < b) ∧ Keep [] w wr ∧ RdTm B wr u
theorem LoopE.start {w : World} {B : Nat} {t e : Tm} {l : List Tm} (hs : Sp t l e) (hr : RdTm B w t) : LoopE w B l e t.sz (.slice none 0 0) (w.alloc (.cells #[.int .i64 t.kind, .int .i64 t.num, .string t.name, t.iv] 31)) :=
  ⟨t, [], l, none, rfl, hs, rfl, heap_alloc_new _ _, Row.nil _ _ _, by simp, (Keep.refl [] w).alloc _, hr.keep0 ((Keep.refl [] w).alloc _)⟩
theorem LoopE.next {w wr w2 : World} {B : Nat} {l done rest : List Tm} {e x y : Tm} {o : Option Nat} {g off cap : Nat} {x0 x1 x2 x3 : Value} {xa ya : Option Addr} {xc yc : Nat} (ho : ∀ b, o = some b → w.heap.size < b) (hK : Keep [] w wr) (hqr : w.heap.size < wr.heap.size)
    (hb2 : w2.heap[w.heap.size]? = some (.cells #[x0, x1, x2, x3] 31)) (hk3 : Keep o.toList wr w2) (hrow2 : Row w2 31 4 (.slice (some ⟨g, off, none⟩) (done.length + 1) cap) (done.length + 1) (done.flatMap encTm ++ [.int .i64 x.kind, .int .i64 x.num, .string x.name, .slice xa x.items.length xc]) (some g))
    (hg : o = some g ∨ wr.heap.size ≤ g) (hxv : x.iv = .slice xa x.items.length xc) (hyv : y.iv = .slice ya y.items.length yc) (hry : RdTm B wr y) (hB : B ≤ w.heap.size) (hsy : Sp y rest e) (hld : l = done ++ x :: rest) :
    LoopE w B l e y.sz (.slice (some ⟨g, off, none⟩) (done.length + 1) cap) ((((w2.setCell ⟨w.heap.size, 0, none⟩ (.int .i64 y.kind)).setCell ⟨w.heap.size, 1, none⟩ (.int .i64 y.num)).setCell ⟨w.heap.size, 2, none⟩ (.string y.name)).setCell ⟨w.heap.size, 3, none⟩ (.slice ya y.items.length yc)) := by
  obtain ⟨s1, s2⟩ := set4 hb2 (.int .i64 y.kind) (.int .i64 y.num) (.string y.name) (.slice ya y.items.length yc)
  have hgt : w.heap.size < g := by
    rcases hg with h | h
    · exact ho g h
    · omega
  have hkk : Keep [] w _ := (hK.trans hk3 (fun z hz => by have := ho z (by simpa using hz); right; omega)).trans s2 (fun z hz => by simp at hz; subst hz; right; exact Nat.le_refl _)
  refine ⟨y, done ++ [x], rest, some g, rfl, hsy, by rw [hld]; simp, by rw [hyv]; exact s1, ?_, fun b hb => by cases hb; exact hgt, hkk, ?_⟩
  · have := hrow2.keep s2 (fun b hb h => by cases hb; simp at h; omega)
    simpa [encTm, hxv] using this
  · exact (hry.keep hk3 (fun b hb => by have := ho b (by simpa using hb); omega)).keep s2 (fun b hb => by simp at hb; omega)



set_option maxRecDepth 100000 in
set_option maxHeartbeats 2000000 in
theorem p_elements {B : Nat} {w : World} {t e : Tm} {l : List Tm} (hr : RdTm B w t) (hB : B ≤ w.heap.size) (hs : Sp t l e) (hsz : t.sz ≤ 100000) : Calls Tryd.prog 21 #[aggTm t] w (ElemsP w l e) := by
  have hst := LoopE.start hs hr
  have hlen := hs.len
  have hl := (hs.rd hr).1
  have HST := Lib.hid hst
  have HL := Lib.hid hl
  obtain ⟨i0, hi, hz0, hz1, hz2⟩ := info_parts term_info
  have HI := Lib.hid hi
  obtain ⟨c0, c1, c2, c3⟩ := box4 (Keep.refl [] (w.alloc (.cells #[.int .i64 t.kind, .int .i64 t.num, .string t.name, t.iv] 31)))
  clear hst hl hi
  unfold aggTm
  go_enter Tryd.func21, Tryd.ntmps21
  go_wp2_with fail
  go_loopg [2] t.sz (fun gk s2 wr => LoopE w B l e gk s2 wr)
  case atStart => exact HST.out
  case round =>
    clear HST c0 c1 c2 c3 hs hr
    obtain ⟨u, done, rest, o, rfl, hsp, hld, hbx, hrow, ho, hK, hru⟩ := hrel
    obtain ⟨ua, uc, huv, huc1, huc2⟩ := hru.has.form
    unfold maxLen at huc2
    rw [huv] at hbx
    obtain ⟨av, cv, hv, hdl⟩ := row_form hrow
    subst hv
    rcases hsp.inv with ⟨rfl, rfl, hno⟩ | ⟨x, y, rest, rfl, k8, hxy, hsy⟩
    · as_aux_lemma =>
      clear hsp
      simp only [List.append_nil] at hld
      subst hld
      obtain ⟨e0, e1, e2, e3, -⟩ := cells4 hbx
      have hres : HasT wr.heap.size wr (.slice av l.length cv) l := HasT.ofRow hrow ((HL.out.keep0 hK).up (Nat.le_trans hB hK.size)) (by omega) (fun b hb => hrow.lt b hb)
      have HRES := Lib.hid hres
      have HK := Lib.hid hK
      have q0 : (0 : Int) ≤ (e.items.length : Int) := by omega
      clear hres hrow hbx hru ho hK
      by_cases k8 : e.kind = 8
      · have hn2 : ¬ e.items.length = 2 := fun h => hno ⟨k8, h⟩
        have hn2i : ¬ (e.items.length : Int) = 2 := by omega
        have k7 : ¬ e.kind = 7 := by omega
        rw [k8] at e0
        go_wp2_with fail
        go_ret2
        exact ⟨.slice none 0 0, by simp [k7], by simp only [if_neg k7]; exact hasT_nil2, HK.out⟩
      · have k8i : (e.kind == 8) = false := by simpa using k8
        by_cases k7 : e.kind = 7
        · rw [k7] at e0
          go_wp2_with fail
          go_ret2
          exact ⟨.slice av l.length cv, by simp [k7], by simp only [if_pos k7]; exact HRES.out, HK.out⟩
        · have k7i : (e.kind == 7) = false := by simpa using k7
          go_wp2_with fail
          go_ret2
          exact ⟨.slice none 0 0, by simp [k7], by simp only [if_neg k7]; exact hasT_nil2, HK.out⟩
    · as_aux_lemma =>
      clear hsp
      have hsyz : y.sz < u.sz := sz_mem_lt (by rw [hxy]; simp)
      have hhas : HasT B wr (.slice ua 2 uc) [x, y] := by have := hru.has; rw [huv, hxy] at this; exact this
      obtain ⟨b', off, hua, c0, c1, c2, c3, hrx⟩ := hhas.at (Keep.refl [] wr) (k := 0) (by simp)
      obtain ⟨b'', off', hua', d0, d1, d2, d3, hry⟩ := hhas.at (Keep.refl [] wr) (k := 1) (by simp)
      subst hua
      cases hua'
      have hbB : b' < B := by
        obtain ⟨⟨o, hrd, ho⟩, -⟩ := hhas
        obtain ⟨_, _, hq, ho2, -⟩ := hrd.at4 (k := 0) (by simp)
        cases hq
        exact ho b' ho2
      simp only [List.getElem_cons_zero, List.getElem_cons_succ, Nat.zero_mul, Nat.one_mul, Nat.add_zero] at c0 c1 c2 c3 d0 d1 d2 d3 hrx hry
      obtain ⟨xa, xc, hxv, -, -⟩ := hrx.has.form
      obtain ⟨ya, yc, hyv, -, -⟩ := hry.has.form
      rw [k8, hxy] at hbx
      obtain ⟨e0, e1, e2, e3, -⟩ := cells4 hbx
      rw [hxv] at c3
      rw [hyv] at d3
      have hdone : done.length + 1 ≤ 100000 := by rw [hld] at hlen; simp only [List.length_append, List.length_cons] at hlen; omega
      have HROW := Lib.hid hrow
      have HO := Lib.hid ho
      have HK := Lib.hid hK
      have HBX := Lib.hid hbx
      have HRY := Lib.hid hry
      have HSY := Lib.hid hsy
      have HLD := Lib.hid hld
      have HXV := Lib.hid hxv
      have HYV := Lib.hid hyv
      clear hrow ho hK hbx hry hsy hld hxv hyv hhas hru hrx huv k8 hxy
      go_wp2_with (at_builtin; refine wpList_append_row _ rfl _ _ 22 22 rfl 31 i0 _ 4 56 Tryd.underlying22 HI.out hz0 hz1 hz2 rfl _ _ _ o rfl (Row.keep HROW.out (F := []) (by repeat (first | exact Keep.refl _ _ | refine Keep.drewN ?_ _ | refine Keep.drew ?_ | refine Keep.alloc ?_ _)) (by simp)) _ rfl 1 _ (four_src Tryd.underlying22 _ _ (by first | rfl | simp) _ _ _ _ rfl rfl rfl rfl _) (by omega) (by first | (unfold maxLen; omega) | (simp [maxLen] <;> omega)) (by first | omega | (simp <;> omega)) ?_; intro g off3 cap w2 hrow2 hk2 hg2; have hk3 : Keep o.toList wr w2 := Keep.trans (F := o.toList) (Keep.mono (F := []) (by repeat (first | exact Keep.refl _ _ | refine Keep.drewN ?_ _ | refine Keep.drew ?_ | refine Keep.alloc ?_ _)) (fun _ h => nomatch h)) hk2 (fun x hx => .inl hx); have hbo : w.heap.size ∉ o.toList := (fun hx => by have := HO.out w.heap.size (by simpa using hx); omega); have hb2 := box_later HBX.out hk3 hbo; obtain ⟨n0, n1, n2, n3, nf⟩ := cells4 hb2; have nf0 := nf 0; have nf1 := nf 1; have nf2 := nf 2; have nf3 := nf 3; clear nf; have hbF : b' ∉ o.toList := (fun hx => by have := HO.out b' (by simpa using hx); omega); have m0 := hk3.cellOf d0 hbF; have m1 := hk3.cellOf d1 hbF; have m2 := hk3.cellOf d2 hbF; have m3 := hk3.cellOf d3 hbF; have hg3 : o = some g ∨ wr.heap.size ≤ g := hg2.imp id (fun h => Nat.le_trans (by simp) h); have HNX := Lib.hid (LoopE.next HO.out HK.out (Array.getElem?_eq_some_iff.1 HBX.out).1 hb2 hk3 hrow2 hg3 HXV.out HYV.out HRY.out hB HSY.out HLD.out); clear hrow2 hk2 hg2 hk3 hbo hb2 hbF hg3 c0 c1 c2 c3 d0 d1 d2 d3 e0 e1 e2 e3)
      go_roundg y.sz
      case measure => exact hsyz
      case rel => exact HNX.out

set_option maxRecDepth 100000 in
set_option maxHeartbeats 2000000 in
theorem r_elements {B : Nat} {w : World} {t e : Tm} {l : List Tm} (hr : RdTm B w t) (hB : B ≤ w.heap.size) (hs : Sp t l e) (hsz : t.sz ≤ 100000) : Calls Tryd.prog 23 #[aggTm t] w (ElemsP w l e) := by
  have hst := LoopE.start hs hr
  have hlen := hs.len
  have hl := (hs.rd hr).1
  have HST := Lib.hid hst
  have HL := Lib.hid hl
  obtain ⟨i0, hi, hz0, hz1, hz2⟩ := info_parts term_info
  have HI := Lib.hid hi
  obtain ⟨c0, c1, c2, c3⟩ := box4 (Keep.refl [] (w.alloc (.cells #[.int .i64 t.kind, .int .i64 t.num, .string t.name, t.iv] 31)))
  clear hst hl hi
  unfold aggTm
  go_enter Tryd.func23, Tryd.ntmps23
  go_wp2_with fail
  go_loopg [4] t.sz (fun gk s2 wr => LoopE w B l e gk s2 wr)
  case atStart => exact HST.out
  case round =>
    clear HST c0 c1 c2 c3 hs hr
    obtain ⟨u, done, rest, o, rfl, hsp, hld, hbx, hrow, ho, hK, hru⟩ := hrel
    obtain ⟨ua, uc, huv, huc1, huc2⟩ := hru.has.form
    unfold maxLen at huc2
    rw [huv] at hbx
    obtain ⟨av, cv, hv, hdl⟩ := row_form hrow
    subst hv
    rcases hsp.inv with ⟨rfl, rfl, hno⟩ | ⟨x, y, rest, rfl, k8, hxy, hsy⟩
    · as_aux_lemma =>
      clear hsp
      simp only [List.append_nil] at hld
      subst hld
      obtain ⟨e0, e1, e2, e3, -⟩ := cells4 hbx
      have hres : HasT wr.heap.size wr (.slice av l.length cv) l := HasT.ofRow hrow ((HL.out.keep0 hK).up (Nat.le_trans hB hK.size)) (by omega) (fun b hb => hrow.lt b hb)
      have HRES := Lib.hid hres
      have HK := Lib.hid hK
      have q0 : (0 : Int) ≤ (e.items.length : Int) := by omega
      clear hres hrow hbx hru ho hK
      by_cases k8 : e.kind = 8
      · have hn2 : ¬ e.items.length = 2 := fun h => hno ⟨k8, h⟩
        have hn2i : ¬ (e.items.length : Int) = 2 := by omega
        have k7 : ¬ e.kind = 7 := by omega
        rw [k8] at e0
        go_wp2_with fail
        go_ret2
        exact ⟨.slice none 0 0, by simp [k7], by simp only [if_neg k7]; exact hasT_nil2, HK.out⟩
      · have k8i : (e.kind == 8) = false := by simpa using k8
        by_cases k7 : e.kind = 7
        · rw [k7] at e0
          go_wp2_with fail
          go_ret2
          exact ⟨.slice av l.length cv, by simp [k7], by simp only [if_pos k7]; exact HRES.out, HK.out⟩
        · have k7i : (e.kind == 7) = false := by simpa using k7
          go_wp2_with fail
          go_ret2
          exact ⟨.slice none 0 0, by simp [k7], by simp only [if_neg k7]; exact hasT_nil2, HK.out⟩
    · as_aux_lemma =>
      clear hsp
      have hsyz : y.sz < u.sz := sz_mem_lt (by rw [hxy]; simp)
      have hhas : HasT B wr (.slice ua 2 uc) [x, y] := by have := hru.has; rw [huv, hxy] at this; exact this
      obtain ⟨b', off, hua, c0, c1, c2, c3, hrx⟩ := hhas.at (Keep.refl [] wr) (k := 0) (by simp)
      obtain ⟨b'', off', hua', d0, d1, d2, d3, hry⟩ := hhas.at (Keep.refl [] wr) (k := 1) (by simp)
      subst hua
      cases hua'
      have hbB : b' < B := by
        obtain ⟨⟨o, hrd, ho⟩, -⟩ := hhas
        obtain ⟨_, _, hq, ho2, -⟩ := hrd.at4 (k := 0) (by simp)
        cases hq
        exact ho b' ho2
      simp only [List.getElem_cons_zero, List.getElem_cons_succ, Nat.zero_mul, Nat.one_mul, Nat.add_zero] at c0 c1 c2 c3 d0 d1 d2 d3 hrx hry
      obtain ⟨xa, xc, hxv, -, -⟩ := hrx.has.form
      obtain ⟨ya, yc, hyv, -, -⟩ := hry.has.form
      rw [k8, hxy] at hbx
      obtain ⟨e0, e1, e2, e3, -⟩ := cells4 hbx
      rw [hxv] at c3
      rw [hyv] at d3
      have hdone : done.length + 1 ≤ 100000 := by rw [hld] at hlen; simp only [List.length_append, List.length_cons] at hlen; omega
      have HROW := Lib.hid hrow
      have HO := Lib.hid ho
      have HK := Lib.hid hK
      have HBX := Lib.hid hbx
      have HRY := Lib.hid hry
      have HSY := Lib.hid hsy
      have HLD := Lib.hid hld
      have HXV := Lib.hid hxv
      have HYV := Lib.hid hyv
      clear hrow ho hK hbx hry hsy hld hxv hyv hhas hru hrx huv k8 hxy
      go_wp2_with (at_builtin; refine wpList_append_row _ rfl _ _ 22 22 rfl 31 i0 _ 4 56 Tryd.underlying22 HI.out hz0 hz1 hz2 rfl _ _ _ o rfl (Row.keep HROW.out (F := []) (by repeat (first | exact Keep.refl _ _ | refine Keep.drewN ?_ _ | refine Keep.drew ?_ | refine Keep.alloc ?_ _)) (by simp)) _ rfl 1 _ (four_src Tryd.underlying22 _ _ (by first | rfl | simp) _ _ _ _ rfl rfl rfl rfl _) (by omega) (by first | (unfold maxLen; omega) | (simp [maxLen] <;> omega)) (by first | omega | (simp <;> omega)) ?_; intro g off3 cap w2 hrow2 hk2 hg2; have hk3 : Keep o.toList wr w2 := Keep.trans (F := o.toList) (Keep.mono (F := []) (by repeat (first | exact Keep.refl _ _ | refine Keep.drewN ?_ _ | refine Keep.drew ?_ | refine Keep.alloc ?_ _)) (fun _ h => nomatch h)) hk2 (fun x hx => .inl hx); have hbo : w.heap.size ∉ o.toList := (fun hx => by have := HO.out w.heap.size (by simpa using hx); omega); have hb2 := box_later HBX.out hk3 hbo; obtain ⟨n0, n1, n2, n3, nf⟩ := cells4 hb2; have nf0 := nf 0; have nf1 := nf 1; have nf2 := nf 2; have nf3 := nf 3; clear nf; have hbF : b' ∉ o.toList := (fun hx => by have := HO.out b' (by simpa using hx); omega); have m0 := hk3.cellOf d0 hbF; have m1 := hk3.cellOf d1 hbF; have m2 := hk3.cellOf d2 hbF; have m3 := hk3.cellOf d3 hbF; have hg3 : o = some g ∨ wr.heap.size ≤ g := hg2.imp id (fun h => Nat.le_trans (by simp) h); have HNX := Lib.hid (LoopE.next HO.out HK.out (Array.getElem?_eq_some_iff.1 HBX.out).1 hb2 hk3 hrow2 hg3 HXV.out HYV.out HRY.out hB HSY.out HLD.out); clear hrow2 hk2 hg2 hk3 hbo hb2 hbF hg3 c0 c1 c2 c3 d0 d1 d2 d3 e0 e1 e2 e3)
      go_roundg y.sz
      case measure => exact hsyz
      case rel => exact HNX.out
end Go.Proofs.YtcegdomfmamonaaDoor
