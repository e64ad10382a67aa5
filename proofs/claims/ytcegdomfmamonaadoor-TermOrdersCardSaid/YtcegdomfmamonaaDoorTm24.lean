/- Terms: the document's Own; the elements of an own. Printed by gen-tm24.py. -/
import Derived.Test.YtcegdomfmamonaaDoorTm23
import Derived.Test.YtcegdomfmamonaaDoorTm18
import Derived.Test.YtcegdomfmamonaaDoorTmLaw
namespace Go.Proofs.YtcegdomfmamonaaDoor
open Go.RowKit Go.Emb

theorem or0_iff {x y : Int} : or0 x y = 0 ↔ x = 0 ∧ y = 0 := by
  unfold or0
  split <;> simp_all
theorem compareInt_zero {x y : Int} : Lib.compareInt x y = 0 ↔ x = y := by
  unfold Lib.compareInt
  split
  · omega
  · split <;> omega
theorem cmp_zero_kind {u t : Tm} (h : cmpTm u t = 0) : u.kind = t.kind ∧ u.items.length = t.items.length ∧ cmpTms u.items t.items = 0 := by
  rw [cmpTm_eq, or0_iff, or0_iff, or0_iff, or0_iff, compareInt_zero, compareInt_zero, compareInt_zero] at h
  exact ⟨h.1, by omega, h.2.2.2.2⟩
theorem Sp.same {t e : Tm} {l : List Tm} (h : Sp t l e) : ∀ {u lu eu}, Sp u lu eu → cmpTm u t = 0 → rowsEq lu l = true ∧ eu.kind = e.kind ∧ lu.length = l.length := by
  induction h with
  | stop t h =>
    intro u lu eu hu hc
    obtain ⟨h1, h2, -⟩ := cmp_zero_kind hc
    rcases hu.inv with ⟨rfl, rfl, -⟩ | ⟨x, y, r, rfl, k8, hi, -⟩
    · exact ⟨rfl, h1, rfl⟩
    · exact absurd ⟨by omega, by rw [← h2, hi]; rfl⟩ h
  | cons t x u' l e h hi hs ih =>
    intro u lu eu hu hc
    obtain ⟨h1, h2, h3⟩ := cmp_zero_kind hc
    rcases hu.inv with ⟨rfl, rfl, hno⟩ | ⟨x2, y2, r, rfl, k8, hi2, hs2⟩
    · exact absurd ⟨by omega, by rw [h2, hi]; rfl⟩ hno
    · rw [hi2, hi, cmpTms_cons, cmpTms_cons, or0_iff, or0_iff] at h3
      obtain ⟨i1, i2, i3⟩ := ih hs2 h3.2.1
      refine ⟨?_, i2, by simp [i3]⟩
      unfold rowsEq at i1 ⊢
      simp only [Bool.and_eq_true, decide_eq_true_eq] at i1
      simp only [List.length_cons, i1.1, decide_true, Bool.true_and, List.zip_cons_cons, List.all_cons, h3.1, i1.2, beq_self_eq_true]
/-- what Own leaves -/
def OwnP (w : World) (t : Tm) (e : Ending) (w' : World) : Prop := ∃ u a c, e = .returned (.agg #[.int .i64 u.kind, .int .i64 u.num, .string u.name, .slice a u.items.length c]) ∧ u.iv = .slice a u.items.length c ∧ cmpTm u t = 0 ∧ u.sz = t.sz ∧ RdP (fun b => w.heap.size ≤ b) w' u ∧ Keep [] w w'
def OwnC (t : Tm) : Prop := ∀ (B : Nat) (w : World), RdTm B w t → B ≤ w.heap.size → t.sz ≤ 100000 → Calls Tryd.prog 22 #[aggTm t] w (OwnP w t)
theorem Rd.inHeap2 {w : World} {n : Nat} {xs : List Value} {v : Value} {o : Option Nat} (h : Rd w 4 v n xs o) : ∃ o', Rd w 4 v n xs o' ∧ ∀ b, o' = some b → o = some b ∧ b < w.heap.size := by
  obtain ⟨hl, a, c, hv, h1, h2, h3⟩ := h
  by_cases hn : n = 0
  · exact ⟨none, ⟨hl, a, c, hv, h1, h2, .inl ⟨hn, rfl⟩⟩, fun b hb => by cases hb⟩
  · rcases h3 with ⟨h, -⟩ | ⟨b, off, ha, ho, hc⟩
    · exact absurd h hn
    · refine ⟨some b, ⟨hl, a, c, hv, h1, h2, .inr ⟨b, off, ha, rfl, hc⟩⟩, fun b' hb' => ?_⟩
      cases hb'
      refine ⟨ho, ?_⟩
      have h0 := hc 0 (by omega)
      rw [List.getElem?_eq_getElem (by omega)] at h0
      rcases Nat.lt_or_ge b w.heap.size with h | h
      · exact h
      · rw [World.cell?, Array.getElem?_eq_none h] at h0; cases h0
theorem RdP.imp {P P' : Nat → Prop} {w : World} {t : Tm} (h : RdP P w t) (hP : ∀ b, P b → P' b) : RdP P' w t := RdP.mapN (fun _ _ _ o h1 h2 => ⟨o, h1, fun b hb => hP b (h2 b hb)⟩) t.sz t (Nat.le_refl _) h
theorem RdP.oneCell {P : Nat → Prop} {w : World} {t : Tm} (h : RdP P w t) : ∃ a n c, t.iv = .slice a n c := by
  obtain ⟨⟨-, -, -, o, ⟨-, a, c, h, -⟩, -⟩, -⟩ := (RdP_iff t).1 h
  exact ⟨a, _, c, h⟩
/-- between two rounds of Own -/
def LoopO (w w1 : World) (l : List Tm) (k : Nat) (v : Value) (wr : World) : Prop :=
  ∃ (us : List Tm) (o : Option Nat), us.length = k ∧ cmpTms us (l.take k) = 0 ∧ szL us = szL (l.take k) ∧ Row wr 31 4 v k (us.flatMap encTm) o ∧ (∀ b, o = some b → w1.heap.size ≤ b) ∧ (∀ x ∈ us, RdP (fun b => w1.heap.size ≤ b ∧ some b ≠ o) wr x) ∧ Keep [] w1 wr
theorem LoopO.start {w w1 : World} {l : List Tm} : LoopO w w1 l 0 (.slice none 0 0) w1 :=
  ⟨[], none, rfl, by simp [cmpTms_nil], by simp [szL], Row.nil _ _ _, (fun b hb => by cases hb), (fun x hx => by cases hx), Keep.refl _ _⟩
theorem LoopO.next {w w1 wr w3 w4 : World} {l : List Tm} {k : Nat} {us : List Tm} {o : Option Nat} {x u : Tm} {g off cap : Nat} (hlt : k < l.length) (hx : l[k] = x) (h1 : us.length = k) (h2 : cmpTms us (l.take k) = 0) (h3 : szL us = szL (l.take k)) (ho : ∀ b, o = some b → w1.heap.size ≤ b) (hrd : ∀ x ∈ us, RdP (fun b => w1.heap.size ≤ b ∧ some b ≠ o) wr x) (hK : Keep [] w1 wr)
    (hob : ∀ b, o = some b → b < wr.heap.size) (hc : cmpTm u x = 0) (hsz : u.sz = x.sz) (hru : RdP (fun b => wr.heap.size ≤ b) w3 u) (hk3 : Keep [] wr w3) (hrow : Row w4 31 4 (.slice (some ⟨g, off, none⟩) (k + 1) cap) (k + 1) (us.flatMap encTm ++ encTm u) (some g)) (hk4 : Keep o.toList w3 w4) (hg : o = some g ∨ w3.heap.size ≤ g) :
    LoopO w w1 l (k + 1) (.slice (some ⟨g, off, none⟩) (k + 1) cap) w4 := by
  have hlen : (l.take k).length = k := by rw [List.length_take]; omega
  have hts : l.take (k + 1) = l.take k ++ [x] := by rw [List.take_succ_eq_append_getElem hlt, hx]
  have s1 := hK.size
  have s3 := hk3.size
  have hk4' : Keep o.toList wr w4 := (hk3.mono (fun _ h => nomatch h)).trans hk4 (fun x hx => .inl hx)
  refine ⟨us ++ [u], some g, by simp [h1], ?_, ?_, by simpa using hrow, ?_, ?_, ?_⟩
  · rw [hts, cmpTms_snoc _ _ _ _ (by rw [h1, hlen]), or0_iff]; exact ⟨h2, hc⟩
  · rw [hts, szL_append, szL_append, szL_cons, szL_cons, szL_nil, h3, hsz]
  · intro b hb
    cases hb
    rcases hg with h | h
    · exact ho g h
    · omega
  · intro y hy
    rcases List.mem_append.1 hy with hy | hy
    · have ha := (RdP.keep (hrd y hy) hk4' (fun b hb ⟨_, hn⟩ => by
        cases o with
        | none => cases hb
        | some z => simp at hb; subst hb; exact hn rfl))
      -- a block in which an elder own lies is in the heap of wr
      have hin : RdP (fun b => (w1.heap.size ≤ b ∧ some b ≠ o) ∧ b < wr.heap.size) wr y := RdP.mapN (fun _ _ _ o' q1 q2 => by
        obtain ⟨o2, r1, r2⟩ := Rd.inHeap2 q1
        exact ⟨o2, r1, fun b hb => ⟨q2 b (r2 b hb).1, (r2 b hb).2⟩⟩) y.sz y (Nat.le_refl _) (hrd y hy)
      have hin2 := RdP.keep hin hk4' (fun b hb ⟨⟨_, hn⟩, _⟩ => by
        cases o with
        | none => cases hb
        | some z => simp at hb; subst hb; exact hn rfl)
      refine RdP.imp hin2 (fun b ⟨⟨q1, q2⟩, q3⟩ => ⟨q1, fun e => ?_⟩)
      cases e
      rcases hg with h | h
      · exact q2 h.symm
      · omega
    · simp at hy
      subst hy
      have hu4 := RdP.keep hru hk4 (fun b hb hn => by
        cases o with
        | none => cases hb
        | some z => simp at hb; subst hb; have := hob _ rfl; omega)
      have hin : RdP (fun b => wr.heap.size ≤ b ∧ b < w3.heap.size) w3 y := RdP.mapN (fun _ _ _ o' q1 q2 => by
        obtain ⟨o2, r1, r2⟩ := Rd.inHeap2 q1
        exact ⟨o2, r1, fun b hb => ⟨q2 b (r2 b hb).1, (r2 b hb).2⟩⟩) y.sz y (Nat.le_refl _) hru
      have hin2 := RdP.keep hin hk4 (fun b hb ⟨hn, _⟩ => by
        cases o with
        | none => cases hb
        | some z => simp at hb; subst hb; have := hob _ rfl; omega)
      refine RdP.imp hin2 (fun b ⟨q1, q2⟩ => ⟨by omega, fun e => ?_⟩)
      cases e
      rcases hg with h | h
      · have := hob _ h; omega
      · omega
  · exact hK.trans hk4' (fun z hz => by
      cases o with
      | none => cases hz
      | some y => simp at hz; subst hz; exact .inr (ho _ rfl))
set_option maxRecDepth 100000 in
set_option maxHeartbeats 4000000 in
theorem r_ownN : ∀ (N : Nat) (t : Tm), t.sz ≤ N → OwnC t
  | 0, t, hN => by have := t.sz_pos; omega
  | N + 1, t, hN => by
    intro B w hr hB hsz
    have IH := r_ownN N
    have hh := hr.has
    obtain ⟨⟨hnum, hnm, hlen48, -⟩, -⟩ := (RdTm_iff t).1 hr
    have htsz : t.sz = szL t.items + 1 := by cases t; simp only [Tm.sz, Tm.items]
    have hlz := length_le_szL t.items
    have hwc : ∀ x ∈ t.items, OwnC x := fun x hx => IH x (by have := sz_mem_lt hx; omega)
    obtain ⟨a, c, hiv, hc1, hc2⟩ := hh.form
    obtain ⟨i0, hi, hz0, hz1, hz2⟩ := info_parts term_info
    have HI := Lib.hid hi
    unfold maxLen at hc2
    unfold aggTm
    rw [hiv] at hh ⊢
    have HH := Lib.hid hh
    have HWC := Lib.hid hwc
    have HNUM := Lib.hid (And.intro hnum (And.intro hnm htsz))
    have HEQ0 := Lib.hid (cmpTm_eq · t)
    clear hr hh hwc hi IH hnum hnm hiv
    generalize hl : t.items = l at *
    generalize hk : t.kind = tk at *
    generalize hn : t.num = tn at *
    generalize hs : t.name = ts at *
    clear hl hk hn hs
    have hls : l.length ≤ 100000 := by omega
    have hszl : ∀ x ∈ l, x.sz ≤ 100000 := fun x hx => by have := sz_le_of_mem hx; omega
    have HSZ := Lib.hid hszl
    have HKW := Lib.hid (((Keep.refl [] w).alloc (.cells #[.int .i64 tk, .int .i64 tn, .string ts, .slice a l.length c] 31)).alloc (.cells #[.int .i64 0, .int .i64 0, .string ⟨#[]⟩, .slice none 0 0] 31))
    have hb1 : ((w.alloc (.cells #[.int .i64 tk, .int .i64 tn, .string ts, .slice a l.length c] 31)).alloc (.cells #[.int .i64 0, .int .i64 0, .string ⟨#[]⟩, .slice none 0 0] 31)).heap[w.heap.size]? = some (.cells #[.int .i64 tk, .int .i64 tn, .string ts, .slice a l.length c] 31) := by
      rw [heap_alloc_old _ _ (by simp)]; exact heap_alloc_new _ _
    have hb2 : ((w.alloc (.cells #[.int .i64 tk, .int .i64 tn, .string ts, .slice a l.length c] 31)).alloc (.cells #[.int .i64 0, .int .i64 0, .string ⟨#[]⟩, .slice none 0 0] 31)).heap[w.heap.size + 1]? = some (.cells #[.int .i64 0, .int .i64 0, .string ⟨#[]⟩, .slice none 0 0] 31) := by
      have := heap_alloc_new (w.alloc (.cells #[.int .i64 tk, .int .i64 tn, .string ts, .slice a l.length c] 31)) (.cells #[.int .i64 0, .int .i64 0, .string ⟨#[]⟩, .slice none 0 0] 31)
      simpa using this
    have HB1 := Lib.hid hb1
    have HB2 := Lib.hid hb2
    clear hb1 hb2 hszl
    go_enter Tryd.func22, Tryd.ntmps22
    go_wp2_with fail
    generalize (w.alloc (.cells #[.int .i64 tk, .int .i64 tn, .string ts, .slice a l.length c] 31)).alloc (.cells #[.int .i64 0, .int .i64 0, .string ⟨#[]⟩, .slice none 0 0] 31) = w1 at *
    have hq1 : w.heap.size + 1 < w1.heap.size := (Array.getElem?_eq_some_iff.1 HB2.out).1
    go_loopw [3, 4] (fun v i wr => ∃ k : Nat, k ≤ l.length ∧ i = .int .i64 k ∧ LoopO w w1 l k v wr) (fun _ i _ => l.length - (intOf i).toNat)
    case atStart => exact ⟨0, Nat.zero_le _, rfl, LoopO.start⟩
    case round =>
      obtain ⟨k, hk, rfl, us, o, h1, h2, h3, hrow, ho, hrd, hK⟩ := hrel
      have hbx := box_later HB1.out hK (by simp)
      obtain ⟨e0, e1, e2, e3, ef⟩ := cells4 hbx
      obtain ⟨av, cv, hv, hdl⟩ := row_form hrow
      subst hv
      by_cases hlt : k < l.length
      · as_aux_lemma =>
        clear ef
        have hkw : Keep [] w wr := HKW.out.trans hK (by simp)
        obtain ⟨b', off, hab, c0, c1, c2, c3, hrx⟩ := HH.out.at hkw hlt
        subst hab
        obtain ⟨xa, xc, hxv, -, -⟩ := hrx.has.form
        have hmem := List.getElem_mem hlt
        have hcall := HWC.out _ hmem B wr hrx (Nat.le_trans hB hkw.size) (HSZ.out _ hmem)
        obtain ⟨x, hx⟩ : ∃ x, l[k] = x := ⟨_, rfl⟩
        rw [hx] at c0 c1 c2 c3 hxv hcall
        rw [hxv] at c3
        unfold aggTm at hcall
        rw [hxv] at hcall
        have HC := Lib.hid hcall
        have HX := Lib.hid hx
        have H1 := Lib.hid (And.intro h1 (And.intro h2 h3))
        have HROW := Lib.hid hrow
        have HO := Lib.hid ho
        have HRD := Lib.hid hrd
        have HK := Lib.hid hK
        have i0' : (0 : Int) ≤ (k : Int) := by omega
        have i1' : (k : Int) < (l.length : Int) := by omega
        clear hcall hx h1 h2 h3 hrow ho hrd hK hrx hxv hmem hbx hkw
        go_wp2_with fail
        refine HC.out.mono ?_
        rintro e w3 ⟨u, ua, uc, rfl, huv, hcu, hsu, hru, hk3⟩
        have HU := Lib.hid (And.intro hcu (And.intro hsu hru))
        have HUV := Lib.hid huv
        have HK3 := Lib.hid hk3
        have HENC : Hid (encTm u = [.int .i64 u.kind, .int .i64 u.num, .string u.name, .slice ua u.items.length uc]) := by unfold encTm; rw [huv]; exact Lib.hid rfl
        clear hcu hsu hru huv hk3 HC c0 c1 c2 c3 e0 e1 e2 e3
        go_wp2_with (at_builtin; refine wpList_append_row _ rfl _ _ 22 22 rfl 31 i0 _ 4 56 Tryd.underlying22 HI.out hz0 hz1 hz2 rfl _ _ _ o rfl (Row.keep HROW.out (F := []) (HK3.out.alloc _) (by simp)) _ rfl 1 _ (four_src Tryd.underlying22 _ _ (by first | rfl | simp) _ _ _ _ rfl rfl rfl rfl _) (by omega) (by first | (unfold maxLen; omega) | (simp [maxLen] <;> omega)) (by first | omega | (simp <;> omega)) ?_)
        intro g off3 cap w4 hrow4 hk4 hg4
        rw [← HENC.out] at hrow4
        have hnx := LoopO.next (w := w) (w3 := w3) hlt HX.out H1.out.1 H1.out.2.1 H1.out.2.2 HO.out HRD.out HK.out (fun b hb => HROW.out.lt b hb) HU.out.1 HU.out.2.1 HU.out.2.2 HK3.out hrow4 (((Keep.refl [] w3).alloc _).mono (fun _ h => nomatch h) |>.trans hk4 (fun x hx => .inl hx)) (by rcases hg4 with h | h; exact .inl h; exact .inr (by first | omega | (simp at h; omega)))
        have HNX := Lib.hid hnx
        clear hrow4 hk4 hg4 hnx
        go_wp2_with fail
        go_roundw
        case rel => exact ⟨k + 1, by omega, by go_num, HNX.out⟩
        case measure => simp [intOf]; omega
      · obtain rfl : k = l.length := by omega
        rw [List.take_length] at h2 h3
        have i0' : (0 : Int) ≤ (l.length : Int) := by omega
        have f0 := ef 0
        have f1 := ef 1
        have f2 := ef 2
        have f3 := ef 3
        have hqw : w.heap.size < wr.heap.size := (Array.getElem?_eq_some_iff.1 hbx).1
        have hbx2 := box_later HB2.out hK (by simp)
        obtain ⟨n0, n1, n2, n3, nf⟩ := cells4 hbx2
        have nf0 := nf 0
        have nf1 := nf 1
        have nf2 := nf 2
        have nf3 := nf 3
        have H1 := Lib.hid (And.intro h1 (And.intro h2 h3))
        have HROW := Lib.hid hrow
        have HO := Lib.hid ho
        have HRD := Lib.hid hrd
        have HK := Lib.hid hK
        have HBX := Lib.hid hbx
        have HBX2 := Lib.hid hbx2
        clear h1 h2 h3 hrow ho hrd hK hbx hbx2 nf ef
        have hs0 : Keep [w.heap.size] wr (wr.setCell ⟨w.heap.size, 3, none⟩ (.slice av l.length cv)) := Keep.set1 wr ⟨w.heap.size, 3, none⟩ _
        have HB3 := Lib.hid (box_later HBX2.out hs0 (by simp))
        have HS0 := Lib.hid hs0
        clear hs0
        go_wp2_with fail
        try simp only [Exit.inBlock, Exit.then]
        refine bodyPost_ret (term_ret rfl rfl (set4 HB3.out _ _ _ _).1) rfl ?_
        have hset := (set4 HB3.out (.int .i64 tk) (.int .i64 tn) (.string ts) (.slice av l.length cv)).2
        have hkk := (HS0.out.mono (G := [w.heap.size, w.heap.size + 1]) (fun x hx _ => by simp at hx; simp [hx])).trans hset (fun x hx => by simp at hx; left; simp [hx])
        obtain ⟨o', hrd', ho'⟩ := HROW.out.rd
        obtain ⟨h1, h2, h3⟩ := H1.out
        have hob : ∀ b, o' = some b → w1.heap.size ≤ b := fun b hb => by
          rcases ho' with h | h
          · rw [h] at hb; cases hb
          · exact HO.out b (h ▸ hb)
        refine ⟨.mk tk tn ts (.slice av l.length cv) us, av, cv, ?_, ?_, ?_, ?_, ?_, ?_⟩
        · show _ = Ending.returned (.agg #[.int .i64 tk, .int .i64 tn, .string ts, .slice av us.length cv])
          rw [h1]
        · show Value.slice av l.length cv = .slice av us.length cv
          rw [h1]
        · rw [HEQ0.out]
          simp only [Tm.kind, Tm.num, Tm.name, Tm.items, h1, h2]
          rw [or0_iff, or0_iff, or0_iff, or0_iff, compareInt_zero, compareInt_zero, compareInt_zero]
          exact ⟨rfl, rfl, by simpa using (cmpTm_self (.mk 0 0 ts .nilIface []) |> fun h => by rw [cmpTm_eq, or0_iff, or0_iff, or0_iff] at h; exact h.2.2.1), rfl, rfl⟩
        · rw [HNUM.out.2.2]; simp only [Tm.sz, h3]
        · rw [RdP_iff]
          refine ⟨⟨HNUM.out.1, HNUM.out.2.1, by show us.length * 48 ≤ _; omega, o', ?_, fun b hb => by have := hob b hb; omega⟩, fun x hx => ?_⟩
          · show Rd _ 4 (.slice av l.length cv) us.length (us.flatMap encTm) o'
            rw [h1]
            exact hrd'.keep hkk (fun b hb hm => by have := hob b hb; simp at hm; omega)
          · exact RdP.imp (RdP.keep (HRD.out x hx) hkk (fun b hb ⟨hn, _⟩ => by simp at hb; omega)) (fun b ⟨q1, _⟩ => by omega)
        · exact (HKW.out.trans HK.out (by simp)).trans hkk (fun x hx => by simp at hx; right; omega)
theorem r_own {B : Nat} {w : World} {t : Tm} (hr : RdTm B w t) (hB : B ≤ w.heap.size) (hsz : t.sz ≤ 100000) : Calls Tryd.prog 22 #[aggTm t] w (OwnP w t) := r_ownN t.sz t (Nat.le_refl _) B w hr hB hsz
end Go.Proofs.YtcegdomfmamonaaDoor
