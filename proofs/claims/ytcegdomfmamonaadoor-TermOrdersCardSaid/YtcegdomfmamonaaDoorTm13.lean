/- Terms: write, Print (the program's). Printed by gen-tm13.py. -/
import Derived.Test.YtcegdomfmamonaaDoorTm12
import Derived.Deep.LoopGhost
namespace Go.Proofs.YtcegdomfmamonaaDoor
open Go.RowKit Go.Emb

theorem QuoteR.base {w w1 wr : World} {b : Nat} {F : List Nat} {bs : List UInt8} (h : QuoteR w1 b F bs wr) (hk : Keep [] w w1) : QuoteR w b F bs wr := by
  obtain ⟨F', h1, h2, h3⟩ := h
  refine ⟨F', h1, fun x hx => (h2 x hx).imp id (fun h => by have := hk.size; omega), (hk.mono (fun _ h => nomatch h)).trans h3 (fun x hx => .inl hx)⟩
theorem BPost.of {w wr : World} {b : Nat} {F : List Nat} {bs bs' : List UInt8} (h : QuoteR w b F bs wr) (he : bs = bs') : BPost w b bs' F (.tuple #[]) (.returned (.tuple #[])) wr := by
  subst he
  exact ⟨rfl, h⟩
theorem QuoteR.refl {w : World} {b : Nat} {F : List Nat} {bs : List UInt8} (h : IsB w b bs F) : QuoteR w b F bs w := ⟨F, h, fun _ hx => .inl hx, Keep.refl _ _⟩
/-- the boxed term, still there -/
theorem box_later {w1 wr : World} {q : Nat} {F : List Nat} {x0 x1 x2 x3 : Value} {t : TypeId} (hq : w1.heap[q]? = some (.cells #[x0, x1, x2, x3] t)) (hk : Keep F w1 wr) (hn : q ∉ F) : wr.heap[q]? = some (.cells #[x0, x1, x2, x3] t) :=
  (hk.block q (Array.getElem?_eq_some_iff.1 hq).1 hn).trans hq
theorem str_app (a b : ByteArray) : (a ++ b).data.toList = a.data.toList ++ b.data.toList := by simp
theorem str_app_size (a b : ByteArray) : (a ++ b).size = a.size + b.size := by simp

/-- a list's loop: the box holds u; what is still to be written -/
def LoopW (w w1 : World) (B b N : Nat) (bs : List UInt8) (F : List Nat) (t : Tm) (gk : Nat) (s5 : Value) (wr : World) : Prop :=
  ∃ (u : Tm) (first : Bool) (done : List UInt8) (F1 : List Nat), gk = u.sz ∧ s5 = .bool first ∧ wr.heap[w.heap.size]? = some (.cells #[.int .i64 u.kind, .int .i64 u.num, .string u.name, u.iv] 31) ∧ IsB wr b (bs ++ 91 :: done) F1 ∧ (∀ x ∈ F1, x ∈ F ∨ w1.heap.size ≤ x) ∧ Keep (w.heap.size :: F) w1 wr ∧ RdTm B wr u ∧ isTm u = true ∧
    done ++ restTm first u = restTm true t ∧ ((u = t ∧ first = true) ∨ (u.sz ≤ N ∧ done.length + 1200 * u.sz + 100 ≤ 1200 * t.sz)) ∧ u.sz ≤ N + 1 ∧ done.length + 1200 * u.sz ≤ 1200 * t.sz
theorem BPost.of' {w wr : World} {b : Nat} {F : List Nat} {bs : List UInt8} (h : QuoteR w b F bs wr) : BPost w b bs F .nilIface (.returned .nilIface) wr := ⟨rfl, h⟩
/-- behind a list's loop: the box is none of the caller's -/
theorem endR {w w1 wr w4 : World} {b : Nat} {F F1 : List Nat} {bs : List UInt8} {r : Value} {e : Ending} (hkw : Keep [] w w1) (hk1 : Keep (w.heap.size :: F) w1 wr) (hf1 : ∀ x ∈ F1, x ∈ F ∨ w1.heap.size ≤ x) (_hF : ∀ x ∈ F, x < w.heap.size) (h : BPost wr b bs F1 r e w4) : QuoteR w b F bs w4 := by
  obtain ⟨-, F', q1, q2, q3⟩ := h
  refine ⟨F', q1, fun x hx => ?_, ?_⟩
  · rcases q2 x hx with h | h
    · exact (hf1 x h).imp id (fun h => by have := hkw.size; omega)
    · right; have := hkw.size; have := hk1.size; omega
  · have a : Keep F w wr := by
      refine (hkw.mono (G := F) (fun _ h => nomatch h)).trans hk1 (fun x hx => ?_)
      rcases List.mem_cons.1 hx with rfl | h
      · right; exact Nat.le_refl _
      · left; exact h
    exact a.trans q3 (fun x hx => (hf1 x hx).imp id (fun h => by have := hkw.size; omega))
theorem set4 {w : World} {q : Nat} {x0 x1 x2 x3 : Value} {t : TypeId} (h : w.heap[q]? = some (.cells #[x0, x1, x2, x3] t)) (y0 y1 y2 y3 : Value) :
    ((((w.setCell ⟨q, 0, none⟩ y0).setCell ⟨q, 1, none⟩ y1).setCell ⟨q, 2, none⟩ y2).setCell ⟨q, 3, none⟩ y3).heap[q]? = some (.cells #[y0, y1, y2, y3] t) ∧ Keep [q] w ((((w.setCell ⟨q, 0, none⟩ y0).setCell ⟨q, 1, none⟩ y1).setCell ⟨q, 2, none⟩ y2).setCell ⟨q, 3, none⟩ y3) := by
  refine ⟨?_, ((((Keep.refl [q] w).setCell (p := ⟨q, 0, none⟩) (.inl (by simp)) _).setCell (p := ⟨q, 1, none⟩) (.inl (by simp)) _).setCell (p := ⟨q, 2, none⟩) (.inl (by simp)) _).setCell (p := ⟨q, 3, none⟩) (.inl (by simp)) _⟩
  rw [heap_setCell_at (heap_setCell_at (heap_setCell_at (heap_setCell_at h y0) y1) y2) y3]
  rfl
theorem LoopW.next {w w1 wr w3 : World} {B b N : Nat} {bs done : List UInt8} {F F1 : List Nat} {t y : Tm} {ya : Option Addr} {yc : Nat} {x0 x1 x2 x3 : Value} (hk1 : Keep (w.heap.size :: F) w1 wr) (hf1 : ∀ x ∈ F1, x ∈ F ∨ w1.heap.size ≤ x) (hqF1 : w.heap.size ∉ F1) (hFB : ∀ y ∈ F1, B ≤ y) (hBq : B ≤ w.heap.size) (hqr : w.heap.size < wr.heap.size)
    (hq3 : QuoteR wr b F1 (bs ++ 91 :: done) w3) (hbx3 : w3.heap[w.heap.size]? = some (.cells #[x0, x1, x2, x3] 31)) (hry : RdTm B wr y) (hoky : isTm y = true) (hyv : y.iv = .slice ya y.items.length yc) (hdone : done ++ restTm false y = restTm true t) (hsy : y.sz ≤ N) (hroom : done.length + 1200 * y.sz + 100 ≤ 1200 * t.sz) :
    LoopW w w1 B b N bs F t y.sz (.bool false) ((((w3.setCell ⟨w.heap.size, 0, none⟩ (.int .i64 y.kind)).setCell ⟨w.heap.size, 1, none⟩ (.int .i64 y.num)).setCell ⟨w.heap.size, 2, none⟩ (.string y.name)).setCell ⟨w.heap.size, 3, none⟩ (.slice ya y.items.length yc)) := by
  obtain ⟨F3, hb3, hf3, hk3⟩ := hq3
  obtain ⟨s1, s2⟩ := set4 hbx3 (.int .i64 y.kind) (.int .i64 y.num) (.string y.name) (.slice ya y.items.length yc)
  have hq3' : w.heap.size ∉ F3 := fun hx => by
    rcases hf3 _ hx with h | h
    · exact hqF1 h
    · omega
  have hkk : Keep (w.heap.size :: F1) wr _ := (hk3.mono (G := w.heap.size :: F1) (fun x hx _ => by simp [hx])).trans s2 (fun x hx => .inl (by simp at hx; simp [hx]))
  refine ⟨y, false, done, F3, rfl, rfl, by rw [hyv]; exact s1, hb3.keep s2 (fun x hx hn => by simp at hn; subst hn; exact hq3' hx), fun x hx => ?_, hk1.trans hkk (fun x hx => ?_), hry.keep hkk (fun x hx => ?_), hoky, hdone, .inr ⟨hsy, hroom⟩, by omega, by omega⟩
  · rcases hf3 x hx with h | h
    · exact hf1 x h
    · right; have := hk1.size; omega
  · rcases List.mem_cons.1 hx with rfl | h
    · left; simp
    · rcases hf1 x h with h | h
      · left; simp [h]
      · right; exact h
  · rcases List.mem_cons.1 hx with rfl | h
    · exact hBq
    · exact hFB x h
set_option maxRecDepth 100000 in
set_option maxHeartbeats 4000000 in
theorem p_writeN : ∀ (N : Nat) (t : Tm), t.sz ≤ N → WriteC t
  | 0, t, hN => by have := t.sz_pos; omega
  | N + 1, t, hN => by
    intro B b bs F w h hr hok ht hF hsz
    have IH := p_writeN N
    have hh := hr.has
    have hbd := isTm_bd hok
    obtain ⟨hhead, hoks⟩ := isTm_split hok
    have hpr := printTm_eq t
    have htsz : t.sz = szL t.items + 1 := by cases t; simp only [Tm.sz, Tm.items]
    have hwc : ∀ x ∈ t.items, WriteC x := fun x hx => IH x (by have := sz_mem_lt hx; omega)
    obtain ⟨a, c, hiv, hc1, hc2⟩ := hh.form
    have hnum1 := hbd.1
    have hnum2 := hbd.2.1
    have hnsz := hbd.2.2
    unfold maxLen at hc2
    unfold aggTm
    rw [hiv] at hh ⊢
    have hfmt := fun ob => fmt_any (ht.keep0 ((Keep.refl [] w).alloc ob)) t.num hnum1 hnum2
    have hns := itoa_le t.num hnum1 hnum2
    have hFlt := h.lt
    have HB := Lib.hid h
    have HR := Lib.hid hr
    have HT := Lib.hid ht
    have HF := Lib.hid hF
    have HFLT := Lib.hid hFlt
    have HH := Lib.hid hh
    have HHEAD := Lib.hid hhead
    have HOKS := Lib.hid hoks
    have HOK := Lib.hid hok
    have HWC := Lib.hid hwc
    have HPR := Lib.hid hpr
    have HIH := Lib.hid IH
    have HFMT := Lib.hid hfmt
    have HIV := Lib.hid hiv
    clear h hr ht hF hFlt hh hhead hoks hok hwc hpr IH hfmt hbd hiv
    generalize hl : t.items = l at *
    generalize hk : t.kind = tk at *
    generalize hn : t.num = tn at *
    generalize hs : t.name = ts at *
    have HEQ : Hid (t.items = l ∧ t.kind = tk ∧ t.num = tn ∧ t.name = ts) := ⟨hl, hk, hn, hs⟩
    clear hl hk hn hs
    obtain ⟨ns, hns1⟩ : ∃ ns : ByteArray, ns = ⟨(Lib.itoa tn).toArray⟩ := ⟨_, rfl⟩
    have hns2 : ns.data.toList = Lib.itoa tn := by rw [hns1]
    have hns3 : ns.size ≤ 20 ∧ 0 < ns.size := by rw [hns1]; simpa [ByteArray.size] using hns
    have HNS := Lib.hid hns2
    rw [← hns1] at HFMT
    obtain ⟨hns4, hns5⟩ := hns3
    clear hns hns1 hns2
    go_enter Tryd.func56, Tryd.ntmps56
    go_wp2_with fail
    refine (HFMT.out _).mono ?_
    rintro e w1 ⟨rfl, hk1⟩
    have hbox : w1.heap[w.heap.size]? = some (.cells #[.int .i64 tk, .int .i64 tn, .string ts, .slice a l.length c] 31) := (hk1.block _ (by simp) (by simp)).trans (heap_alloc_new w _)
    have hkw : Keep [] w w1 := ((Keep.refl [] w).alloc _).trans hk1 (by simp)
    have hsz1 : w.heap.size + 1 ≤ w1.heap.size := by have := hk1.size; simpa using this
    obtain ⟨e0, e1, e2, e3, -⟩ := cells4 hbox
    have HBOX := Lib.hid hbox
    have HKW := Lib.hid hkw
    have HB1 := Lib.hid (HB.out.keep hkw (by simp))
    clear hbox hkw hk1 HFMT HB
    go_upto_block 0 with fail
    by_cases k1 : tk = 1
    · as_aux_lemma =>
      subst k1
      have hpr2 : printTm t = Lib.itoa tn := by rw [HPR.out, if_neg (by omega), if_neg (by omega)]; rfl
      have HP2 := Lib.hid hpr2
      have hcall := b_string HB1.out ns hns5 (by omega)
      have HC := Lib.hid hcall
      clear hpr2 hcall
      go_wp2_with fail
      refine HC.out.mono ?_
      rintro e w2 hp
      obtain rfl := hp.1
      have QQ := Lib.hid (QuoteR.next (Keep.refl F w1) (fun x hx => .inl hx) hp)
      clear hp
      go_wp2_with fail
      go_end0
      exact BPost.of (QQ.out.base HKW.out) (by rw [HP2.out, HNS.out])
    by_cases k3 : tk = 3
    · as_aux_lemma =>
      subst k3
      have hpr2 : printTm t = 35 :: Lib.itoa tn := by rw [HPR.out, if_neg (by omega), if_neg (by omega)]; rfl
      have HP2 := Lib.hid hpr2
      have hcall := b_string HB1.out (⟨#[35]⟩ ++ ns) (by rw [str_app_size]; omega) (by rw [str_app_size]; show _ + (1 + _) ≤ _; omega)
      have HC := Lib.hid hcall
      clear hpr2 hcall
      go_wp2_with fail
      refine HC.out.mono ?_
      rintro e w2 hp
      obtain rfl := hp.1
      have QQ := Lib.hid (QuoteR.next (Keep.refl F w1) (fun x hx => .inl hx) hp)
      clear hp
      go_wp2_with fail
      go_end0
      exact BPost.of (QQ.out.base HKW.out) (by rw [HP2.out, str_app, HNS.out]; rfl)
    by_cases k5 : tk = 5
    · as_aux_lemma =>
      subst k5
      have hpr2 : printTm t = 60 :: (Lib.itoa tn ++ [62]) := by rw [HPR.out, if_neg (by omega), if_neg (by omega)]; rfl
      have HP2 := Lib.hid hpr2
      have hcall := b_string HB1.out (⟨#[60]⟩ ++ ns ++ ⟨#[62]⟩) (by rw [str_app_size, str_app_size]; omega) (by rw [str_app_size, str_app_size]; show _ + (1 + _ + 1) ≤ _; omega)
      have HC := Lib.hid hcall
      clear hpr2 hcall
      go_wp2_with fail
      refine HC.out.mono ?_
      rintro e w2 hp
      obtain rfl := hp.1
      have QQ := Lib.hid (QuoteR.next (Keep.refl F w1) (fun x hx => .inl hx) hp)
      clear hp
      go_wp2_with fail
      go_end0
      exact BPost.of (QQ.out.base HKW.out) (by rw [HP2.out, str_app, str_app, HNS.out]; rfl)
    by_cases k2 : tk = 2
    · as_aux_lemma =>
      subst k2
      have hpr2 : printTm t = nameL ts.data.toList := by rw [HPR.out, if_neg (by omega), if_neg (by omega)]; rfl
      have hts0 : 0 < ts.size := by
        have := HHEAD.out
        unfold HeadOk at this
        simp only [toList_nil_iff] at this
        omega
      have HP2 := Lib.hid hpr2
      have hbare := p_bare ts w1 (by omega)
      clear hpr2
      cases hb : bareL ts.data.toList with
      | true =>
        rw [hb] at hbare
        have hname : nameL ts.data.toList = ts.data.toList := by unfold nameL; rw [if_pos hb]
        have HNM := Lib.hid hname
        have HBA := Lib.hid hbare
        clear hbare hb hname
        go_wp2_with fail
        refine HBA.out.mono ?_
        rintro e w2 ⟨rfl, hk2⟩
        have hcall := b_string (HB1.out.keep hk2 (by simp)) ts hts0 (by omega)
        have f2 := hk2.cellOf e2
        have HK2 := Lib.hid (hk2.mono (G := F) (fun _ h => nomatch h))
        have HC := Lib.hid hcall
        clear hcall hk2
        go_wp2_with fail
        refine HC.out.mono ?_
        rintro e w3 hp
        obtain rfl := hp.1
        have QQ := Lib.hid (QuoteR.next HK2.out (fun x hx => .inl hx) hp)
        clear hp
        go_wp2_with fail
        go_end0
        exact BPost.of (QQ.out.base HKW.out) (by rw [HP2.out, HNM.out])
      | false =>
        rw [hb] at hbare
        have hname : nameL ts.data.toList = quoteL ts.data.toList := by unfold nameL; rw [hb]; rfl
        have HNM := Lib.hid hname
        have HBA := Lib.hid hbare
        clear hbare hb hname
        go_wp2_with fail
        refine HBA.out.mono ?_
        rintro e w2 ⟨rfl, hk2⟩
        have hcall := p_quote (HB1.out.keep hk2 (by simp)) ts (by omega) (by omega)
        have f2 := hk2.cellOf e2
        have HK2 := Lib.hid (hk2.mono (G := F) (fun _ h => nomatch h))
        have HC := Lib.hid hcall
        clear hcall hk2
        go_wp2_with fail
        refine HC.out.mono ?_
        rintro e w3 hp
        obtain rfl := hp.1
        have QQ := Lib.hid (QuoteR.next HK2.out (fun x hx => .inl hx) hp)
        clear hp
        go_wp2_with fail
        go_end0
        exact BPost.of (QQ.out.base HKW.out) (by rw [HP2.out, HNM.out])
    by_cases k6 : tk = 6
    · as_aux_lemma =>
      subst k6
      have hpr2 : printTm t = 123 :: (rowTms l ++ [125]) := by rw [HPR.out, if_neg (by omega), if_neg (by omega)]; rfl
      have HP2 := Lib.hid hpr2
      have hcall := b_byte HB1.out 123 (by omega)
      have HC := Lib.hid hcall
      clear hpr2 hcall
      go_wp2_with fail
      refine HC.out.mono ?_
      rintro e w2 hp
      obtain rfl := hp.1
      obtain ⟨F2, hb2, hf2, hk2⟩ := QuoteR.next (Keep.refl F w1) (fun x hx => .inl hx) hp
      have hF2 := QuoteR.upB HF.out (Nat.le_trans HT.out.2.2 HKW.out.size) hf2
      have g3 := (cells4 (box_later HBOX.out hk2 (fun hx => by have := HFLT.out _ hx; omega))).2.2.2.1
      have hkw2 : Keep F w w2 := (HKW.out.mono (fun _ h => nomatch h)).trans hk2 (fun x hx => .inl hx)
      have hrow := p_row HWC.out hb2 (HH.out.keep hkw2 HF.out) HOKS.out (HT.out.keep hkw2 HF.out) hF2 (by rw [List.length_append, List.length_singleton]; omega)
      have HRW := Lib.hid hrow
      have HF2 := Lib.hid hf2
      have HK2 := Lib.hid hk2
      clear hp hb2 hf2 hk2 hF2 hkw2 hrow
      go_wp2_with fail
      refine HRW.out.mono ?_
      rintro e w3 hp
      obtain rfl := hp.1
      obtain ⟨F3, hb3, hf3, hk3⟩ := QuoteR.next HK2.out HF2.out hp
      have hrl := row_le l HOKS.out
      have hlast := b_byte hb3 125 (by rw [List.length_append]; rw [List.length_append, List.length_singleton]; omega)
      have HLA := Lib.hid hlast
      have HF3 := Lib.hid hf3
      have HK3 := Lib.hid hk3
      clear hp hb3 hf3 hk3 hlast
      go_wp2_with fail
      refine HLA.out.mono ?_
      rintro e w4 hp
      obtain rfl := hp.1
      have QQ := Lib.hid (QuoteR.next HK3.out HF3.out hp)
      clear hp
      go_wp2_with fail
      go_end0
      exact BPost.of (QQ.out.base HKW.out) (by rw [HP2.out]; simp)
    by_cases k4 : tk = 4
    · as_aux_lemma =>
      subst k4
      have hpr2 : printTm t = [102, 117, 110, 64] ++ Lib.itoa tn ++ [40] ++ rowTms l ++ [41] := by rw [HPR.out, if_neg (by omega), if_neg (by omega)]; rfl
      have HP2 := Lib.hid hpr2
      have hsl : (⟨#[102, 117, 110, 64]⟩ ++ ns ++ ⟨#[40]⟩ : ByteArray).data.toList.length = 4 + ns.size + 1 := by rw [str_app, str_app]; simp; omega
      have HSL := Lib.hid hsl
      clear hsl
      have hcall := b_string HB1.out (⟨#[102, 117, 110, 64]⟩ ++ ns ++ ⟨#[40]⟩) (by rw [str_app_size, str_app_size]; omega) (by rw [str_app_size, str_app_size]; show _ + (4 + _ + 1) ≤ _; omega)
      have HC := Lib.hid hcall
      clear hpr2 hcall
      go_wp2_with fail
      refine HC.out.mono ?_
      rintro e w2 hp
      obtain rfl := hp.1
      obtain ⟨F2, hb2, hf2, hk2⟩ := QuoteR.next (Keep.refl F w1) (fun x hx => .inl hx) hp
      have hF2 := QuoteR.upB HF.out (Nat.le_trans HT.out.2.2 HKW.out.size) hf2
      have g3 := (cells4 (box_later HBOX.out hk2 (fun hx => by have := HFLT.out _ hx; omega))).2.2.2.1
      have hkw2 : Keep F w w2 := (HKW.out.mono (fun _ h => nomatch h)).trans hk2 (fun x hx => .inl hx)
      have hrow := p_row HWC.out hb2 (HH.out.keep hkw2 HF.out) HOKS.out (HT.out.keep hkw2 HF.out) hF2 (by rw [List.length_append, HSL.out]; omega)
      have HRW := Lib.hid hrow
      have HF2 := Lib.hid hf2
      have HK2 := Lib.hid hk2
      clear hp hb2 hf2 hk2 hF2 hkw2 hrow
      go_wp2_with fail
      refine HRW.out.mono ?_
      rintro e w3 hp
      obtain rfl := hp.1
      obtain ⟨F3, hb3, hf3, hk3⟩ := QuoteR.next HK2.out HF2.out hp
      have hrl := row_le l HOKS.out
      have hlast := b_byte hb3 41 (by rw [List.length_append]; rw [List.length_append, HSL.out]; omega)
      have HLA := Lib.hid hlast
      have HF3 := Lib.hid hf3
      have HK3 := Lib.hid hk3
      clear hp hb3 hf3 hk3 hlast
      go_wp2_with fail
      refine HLA.out.mono ?_
      rintro e w4 hp
      obtain rfl := hp.1
      have QQ := Lib.hid (QuoteR.next HK3.out HF3.out hp)
      clear hp
      go_wp2_with fail
      go_end0
      exact BPost.of (QQ.out.base HKW.out) (by rw [HP2.out]; rw [str_app, str_app, HNS.out]; simp)
    by_cases k7 : tk = 7
    · as_aux_lemma =>
      subst k7
      have hpr2 : printTm t = 91 :: (restTm true t ++ [93]) := by
        rw [HPR.out, restTm_eq, HEQ.out.2.1, HEQ.out.1]
        simp
      have HP2 := Lib.hid hpr2
      have hrl := (print_le t.sz t (Nat.le_refl _) HOK.out).2 true
      have hcall := b_byte HB1.out 91 (by omega)
      have HC := Lib.hid hcall
      clear hpr2 hcall
      go_wp2_with fail
      refine HC.out.mono ?_
      rintro e w2 hp
      obtain rfl := hp.1
      obtain ⟨F2, hb2, hf2, hk2⟩ := QuoteR.next (Keep.refl F w1) (fun x hx => .inl hx) hp
      have hbx2 := box_later HBOX.out hk2 (fun hx => by have := HFLT.out _ hx; omega)
      have hkw2 : Keep F w w2 := (HKW.out.mono (fun _ h => nomatch h)).trans hk2 (fun x hx => .inl hx)
      have hru2 := HR.out.keep hkw2 HF.out
      have hat : LoopW w w1 B b N bs F t t.sz (.bool true) w2 := ⟨t, true, [], F2, rfl, rfl, by rw [HEQ.out.2.1, HEQ.out.2.2.1, HEQ.out.2.2.2, HIV.out]; exact hbx2, hb2, hf2, hk2.mono (fun x hx _ => by simp [hx]), hru2, HOK.out, by simp, .inl ⟨rfl, rfl⟩, hN, by simp⟩
      have HAT := Lib.hid hat
      clear hp hb2 hf2 hk2 hbx2 hkw2 hru2 hat HC
      go_wp2_with fail
      go_loopg [5] t.sz (fun gk s5 wr => LoopW w w1 B b N bs F t gk s5 wr)
      case atStart => exact HAT.out
      case round =>
        clear HAT e0 e1 e2 e3 HB1 HBOX HPR HNS HHEAD HOKS HWC HH
        obtain ⟨u, first, done, F1, rfl, rfl, hbx, hb1, hf1, hk1, hru, hoku, hdone, hcase, husz, hroom⟩ := hrel
        have hBq : B ≤ w.heap.size := HT.out.2.2
        have hqF1 : w.heap.size ∉ F1 := fun hx => by
          rcases hf1 _ hx with h | h
          · have := HFLT.out _ h; omega
          · omega
        have hFq : ∀ y ∈ (w.heap.size :: F), B ≤ y := fun y hy => by
          rcases List.mem_cons.1 hy with rfl | h
          · exact hBq
          · exact HF.out y h
        have hkwr : Keep (w.heap.size :: F) w wr := (HKW.out.mono (fun _ h => nomatch h)).trans hk1 (fun x hx => .inl hx)
        have htabr := HT.out.keep hkwr hFq
        have hF1 : ∀ y ∈ F1, B ≤ y := fun y hy => by
          rcases hf1 y hy with h | h
          · exact HF.out y h
          · omega
        have hdl : done.length + (restTm first u).length = (restTm true t).length := by rw [← hdone, List.length_append]
        have hul := (print_le u.sz u (Nat.le_refl _) hoku).1
        obtain ⟨ua, uc, huv, huc1, huc2⟩ := hru.has.form
        unfold maxLen at huc2
        obtain ⟨hhd, hoku2⟩ := isTm_split hoku
        have hlen1 : (bs ++ 91 :: done).length = bs.length + done.length + 1 := by rw [List.length_append, List.length_cons]; omega
        by_cases k8 : u.kind = 8
        · have hu2 : u.items.length = 2 := by unfold HeadOk at hhd; omega
          obtain ⟨x, y, hxy⟩ : ∃ x y, u.items = [x, y] := by
            match hm : u.items, hu2 with
            | [x, y], _ => exact ⟨x, y, rfl⟩
          have hrest : restTm first u = (if first then [] else [44]) ++ printTm x ++ restTm false y := by rw [restTm_eq, if_pos k8, hxy]; rfl
          have hsx : x.sz < u.sz := sz_mem_lt (by rw [hxy]; simp)
          have hsy : y.sz < u.sz := sz_mem_lt (by rw [hxy]; simp)
          have hsxy : u.sz = x.sz + y.sz + 1 := by
            have : u.sz = szL u.items + 1 := by cases u; simp only [Tm.sz, Tm.items]
            rw [this, hxy, szL_cons, szL_cons, szL_nil]; omega
          have hhas : HasT B wr (.slice ua 2 uc) [x, y] := by have := hru.has; rw [huv, hxy] at this; exact this
          obtain ⟨b', off, hua, c0, c1, c2, c3, hrx⟩ := hhas.at (Keep.refl [] wr) (k := 0) (by simp)
          obtain ⟨b'', off', hua', d0, d1, d2, d3, hry⟩ := hhas.at (Keep.refl [] wr) (k := 1) (by simp)
          subst hua
          cases hua'
          have hbB : b' < B := by
            obtain ⟨⟨o, hrd, ho⟩, -⟩ := hhas
            obtain ⟨_, _, hq, ho2, -⟩ := hrd.at4 (k := 0) (by simp)
            cases hq
            exact ho b' ho2
          simp only [List.getElem_cons_zero, List.getElem_cons_succ, Nat.zero_mul, Nat.one_mul, Nat.add_zero] at c0 c1 c2 c3 d0 d1 d2 d3 hrx hry
          obtain ⟨xa, xc, hxv, -, -⟩ := hrx.has.form
          obtain ⟨ya, yc, hyv, -, -⟩ := hry.has.form
          rw [k8, huv, hxy] at hbx
          obtain ⟨e0, e1, e2, e3, -⟩ := cells4 hbx
          rw [hxv] at c3
          rw [hyv] at d3
          have hokx := hoku2 x (by rw [hxy]; simp)
          have hoky := hoku2 y (by rw [hxy]; simp)
          have hxl := (print_le x.sz x (Nat.le_refl _) hokx).1
          have hwx := HIH.out x (by omega)
          have HAGX : Hid (aggTm x = .agg #[.int .i64 x.kind, .int .i64 x.num, .string x.name, .slice xa x.items.length xc]) := by unfold aggTm; rw [hxv]; rfl
          have hrl2 : (restTm first u).length = (if first then 0 else 1) + (printTm x).length + (restTm false y).length := by rw [hrest, List.length_append, List.length_append]; cases first <;> simp
          have HYV := Lib.hid hyv
          have HREST := Lib.hid hrest
          have HDONE := Lib.hid hdone
          have HB := Lib.hid hb1
          have HF1 := Lib.hid hf1
          have HK1 := Lib.hid hk1
          have HFB := Lib.hid hF1
          have HTB := Lib.hid htabr
          have HQF := Lib.hid hqF1
          have HBX := Lib.hid hbx
          have HRX := Lib.hid hrx
          have HRY := Lib.hid hry
          have HOKX := Lib.hid hokx
          have HOKY := Lib.hid hoky
          have HWX := Lib.hid hwx
          have HLEN := Lib.hid hlen1
          clear hb1 hf1 hk1 hF1 htabr hqF1 hbx hrx hry hokx hoky hwx hxv hyv hrest hdone hcase hlen1 hhd hoku2 hhas huv hxy hkwr hFq hru hoku k8 hu2
          cases first with
          | true =>
            have hcall := HWX.out B b _ F1 wr HB.out HRX.out HOKX.out HTB.out HFB.out (by rw [HLEN.out]; omega)
            rw [HAGX.out] at hcall
            have HC := Lib.hid hcall
            clear hcall
            go_wp2_with fail
            refine HC.out.mono ?_
            rintro e w3 hp
            obtain rfl := hp.1
            have hq3 : QuoteR wr b F1 _ w3 := hp.2
            have hk3 := hp.2
            obtain ⟨_, _, _, hk3⟩ := hk3
            have hbx3 := box_later HBX.out hk3 HQF.out
            clear hp HC
            obtain ⟨n0, n1, n2, n3, nf⟩ := cells4 hbx3
            have nf0 := nf 0
            have nf1 := nf 1
            have nf2 := nf 2
            have nf3 := nf 3
            have hbF : b' ∉ F1 := fun hx => by have := HFB.out _ hx; omega
            have m0 := hk3.cellOf d0 hbF
            have m1 := hk3.cellOf d1 hbF
            have m2 := hk3.cellOf d2 hbF
            have m3 := hk3.cellOf d3 hbF
            have hqr : w.heap.size < wr.heap.size := (Array.getElem?_eq_some_iff.1 HBX.out).1
            have hnx := LoopW.next (N := N) (bs := bs) (done := done ++ printTm x) (t := t) HK1.out HF1.out HQF.out HFB.out hBq hqr (by simpa using hq3) hbx3 HRY.out HOKY.out HYV.out (by rw [← HDONE.out, HREST.out]; simp) (by omega) (by simp only [List.length_append]; omega)
            have HNX := Lib.hid hnx
            clear hq3 hk3 hbx3 hnx nf c0 c1 c2 c3 d0 d1 d2 d3 e0 e1 e2 e3
            go_wp2_with fail
            go_roundg y.sz
            case measure => exact hsy
            case rel => exact HNX.out
          | false =>
            have hcomma := b_byte HB.out 44 (by rw [HLEN.out]; omega)
            have HCO := Lib.hid hcomma
            clear hcomma
            go_wp2_with fail
            refine HCO.out.mono ?_
            rintro e w2 hp
            obtain rfl := hp.1
            obtain ⟨F2, hb2, hf2, hk2⟩ := hp.2
            have hF2 : ∀ y ∈ F2, B ≤ y := fun y hy => by
              rcases hf2 y hy with h | h
              · exact HFB.out y h
              · have := HTB.out.2.2; omega
            have hbx2 := box_later HBX.out hk2 HQF.out
            obtain ⟨o0, o1, o2, o3, -⟩ := cells4 hbx2
            have hbF : b' ∉ F1 := fun hx => by have := HFB.out _ hx; omega
            have p0 := hk2.cellOf c0 hbF
            have p1 := hk2.cellOf c1 hbF
            have p2 := hk2.cellOf c2 hbF
            have p3 := hk2.cellOf c3 hbF
            have hcall := HWX.out B b _ F2 w2 hb2 (HRX.out.keep hk2 HFB.out) HOKX.out (HTB.out.keep hk2 HFB.out) hF2 (by rw [List.length_append, HLEN.out, List.length_singleton]; omega)
            rw [HAGX.out] at hcall
            have HC := Lib.hid hcall
            have HK2 := Lib.hid hk2
            have HF2 := Lib.hid hf2
            clear hcall hp hb2 hf2 hk2 hF2 hbx2 hbF HCO
            go_wp2_with fail
            refine HC.out.mono ?_
            rintro e w3 hp
            obtain rfl := hp.1
            have hq3 := QuoteR.next HK2.out HF2.out hp
            have hk3 := hq3
            obtain ⟨_, _, _, hk3⟩ := hk3
            have hbx3 := box_later HBX.out hk3 HQF.out
            clear hp HC p0 p1 p2 p3 o0 o1 o2 o3
            obtain ⟨n0, n1, n2, n3, nf⟩ := cells4 hbx3
            have nf0 := nf 0
            have nf1 := nf 1
            have nf2 := nf 2
            have nf3 := nf 3
            have hbF : b' ∉ F1 := fun hx => by have := HFB.out _ hx; omega
            have m0 := hk3.cellOf d0 hbF
            have m1 := hk3.cellOf d1 hbF
            have m2 := hk3.cellOf d2 hbF
            have m3 := hk3.cellOf d3 hbF
            have hqr : w.heap.size < wr.heap.size := (Array.getElem?_eq_some_iff.1 HBX.out).1
            have hnx := LoopW.next (N := N) (bs := bs) (done := done ++ 44 :: printTm x) (t := t) HK1.out HF1.out HQF.out HFB.out hBq hqr (by simpa using hq3) hbx3 HRY.out HOKY.out HYV.out (by rw [← HDONE.out, HREST.out]; simp) (by omega) (by simp only [List.length_append, List.length_cons]; omega)
            have HNX := Lib.hid hnx
            clear hq3 hk3 hbx3 hnx nf c0 c1 c2 c3 d0 d1 d2 d3 e0 e1 e2 e3
            go_wp2_with fail
            go_roundg y.sz
            case measure => exact hsy
            case rel => exact HNX.out
        · have hq8 : (u.kind == 8) = false := by simpa using k8
          obtain ⟨e0, e1, e2, e3, -⟩ := cells4 hbx
          rw [huv] at e3
          have hqF : ∀ x ∈ F1, x ∈ (w.heap.size :: F) ∨ w1.heap.size ≤ x := fun x hx => (hf1 x hx).imp (fun h => by simp [h]) id
          by_cases k7 : u.kind = 7
          · have hdone2 : done = restTm true t := by rw [← hdone, restTm_eq, if_neg k8, if_pos k7]; simp
            have hlast := b_byte hb1 93 (by rw [hlen1]; omega)
            have HLA := Lib.hid hlast
            have HD2 := Lib.hid hdone2
            have HK1 := Lib.hid hk1
            have HF1 := Lib.hid hf1
            have HKB := Lib.hid hbx
            have HQF1 := Lib.hid hqF1
            rw [k7] at e0
            clear hlast hdone2 hdone hb1 hf1 hk1 hbx hru hoku hcase hlen1 hhd hoku2 huv hF1 hqF1 hkwr hFq htabr hq8 k8 hqF k7
            go_wp2_with fail
            refine HLA.out.mono ?_
            rintro e w4 hp
            obtain rfl := hp.1
            have QQ := Lib.hid (endR HKW.out HK1.out HF1.out HFLT.out hp)
            clear hp
            go_wp2_with fail
            go_end0
            exact BPost.of QQ.out (by rw [HP2.out, HD2.out]; simp)
          · have hpu : printTm u = flatL u.kind u.num u.name.data.toList (rowTms u.items) := by rw [printTm_eq, if_neg k8, if_neg k7]
            have hdone2 : done ++ 124 :: printTm u = restTm true t := by rw [← hdone, restTm_eq, if_neg k8, if_neg k7, hpu]
            have hus : u.sz ≤ N ∧ done.length + 1200 * u.sz + 100 ≤ 1200 * t.sz := by
              rcases hcase with ⟨rfl, -⟩ | h
              · have := HEQ.out.2.1; omega
              · exact h
            have hq7 : (u.kind != 7) = true := by simpa using k7
            have hbar := b_byte hb1 124 (by rw [hlen1]; omega)
            obtain ⟨hus1, hus2⟩ := hus
            have hwu := HIH.out u hus1
            have HAG : Hid (aggTm u = .agg #[.int .i64 u.kind, .int .i64 u.num, .string u.name, .slice ua u.items.length uc]) := by unfold aggTm; rw [huv]; rfl
            have HBAR := Lib.hid hbar
            have HD2 := Lib.hid hdone2
            have HK1 := Lib.hid hk1
            have HF1 := Lib.hid hf1
            have HBX := Lib.hid hbx
            have HQF1 := Lib.hid hqF1
            have HFB := Lib.hid hF1
            have HWU := Lib.hid hwu
            have HRU := Lib.hid hru
            have HOKU := Lib.hid hoku
            have HTB := Lib.hid htabr
            have HLEN := Lib.hid hlen1
            have HUV := Lib.hid huv
            clear hbar hwu hdone2 hdone hb1 hf1 hk1 hbx hru hoku hcase hlen1 hhd hoku2 huv hF1 hqF1 hkwr hFq htabr k8 hqF k7 hpu
            go_wp2_with fail
            refine HBAR.out.mono ?_
            rintro e w2 hp
            obtain rfl := hp.1
            obtain ⟨F2, hb2, hf2, hk2⟩ := hp.2
            have hF2 : ∀ y ∈ F2, B ≤ y := fun y hy => by
              rcases hf2 y hy with h | h
              · exact HFB.out y h
              · have := HTB.out.2.2; omega
            have hbx2 := box_later HBX.out hk2 HQF1.out
            rw [HUV.out] at hbx2
            obtain ⟨o0, o1, o2, o3, -⟩ := cells4 hbx2
            have hcall := HWU.out B b _ F2 w2 hb2 (HRU.out.keep hk2 HFB.out) HOKU.out (HTB.out.keep hk2 HFB.out) hF2 (by rw [List.length_append, HLEN.out, List.length_singleton]; omega)
            rw [HAG.out] at hcall
            have HC := Lib.hid hcall
            have HK2 := Lib.hid hk2
            have HF2 := Lib.hid hf2
            clear hcall hp hb2 hf2 hk2 hF2 hbx2 HBAR
            go_wp2_with fail
            refine HC.out.mono ?_
            rintro e w3 hp
            obtain rfl := hp.1
            obtain ⟨F3, hb3, hf3, hk3⟩ := QuoteR.next HK2.out HF2.out hp
            have hlast := b_byte hb3 93 (by rw [List.length_append, List.length_append, HLEN.out, List.length_singleton]; omega)
            have HLA := Lib.hid hlast
            have HK3 := Lib.hid hk3
            have HF3 := Lib.hid hf3
            clear hp hb3 hf3 hk3 hlast HC
            go_wp2_with fail
            refine HLA.out.mono ?_
            rintro e w4 hp
            obtain rfl := hp.1
            have QQ := Lib.hid (endR HKW.out HK1.out HF1.out HFLT.out (BPost.of' (QuoteR.next HK3.out HF3.out hp)))
            clear hp
            go_wp2_with fail
            go_end0
            exact BPost.of QQ.out (by rw [HP2.out, ← HD2.out]; simp)
    by_cases k8 : tk = 8
    · as_aux_lemma =>
      subst k8
      have hpr2 : printTm t = 91 :: (restTm true t ++ [93]) := by
        rw [HPR.out, restTm_eq, HEQ.out.2.1, HEQ.out.1]
        simp
      have HP2 := Lib.hid hpr2
      have hrl := (print_le t.sz t (Nat.le_refl _) HOK.out).2 true
      have hcall := b_byte HB1.out 91 (by omega)
      have HC := Lib.hid hcall
      clear hpr2 hcall
      go_wp2_with fail
      refine HC.out.mono ?_
      rintro e w2 hp
      obtain rfl := hp.1
      obtain ⟨F2, hb2, hf2, hk2⟩ := QuoteR.next (Keep.refl F w1) (fun x hx => .inl hx) hp
      have hbx2 := box_later HBOX.out hk2 (fun hx => by have := HFLT.out _ hx; omega)
      have hkw2 : Keep F w w2 := (HKW.out.mono (fun _ h => nomatch h)).trans hk2 (fun x hx => .inl hx)
      have hru2 := HR.out.keep hkw2 HF.out
      have hat : LoopW w w1 B b N bs F t t.sz (.bool true) w2 := ⟨t, true, [], F2, rfl, rfl, by rw [HEQ.out.2.1, HEQ.out.2.2.1, HEQ.out.2.2.2, HIV.out]; exact hbx2, hb2, hf2, hk2.mono (fun x hx _ => by simp [hx]), hru2, HOK.out, by simp, .inl ⟨rfl, rfl⟩, hN, by simp⟩
      have HAT := Lib.hid hat
      clear hp hb2 hf2 hk2 hbx2 hkw2 hru2 hat HC
      go_wp2_with fail
      go_loopg [5] t.sz (fun gk s5 wr => LoopW w w1 B b N bs F t gk s5 wr)
      case atStart => exact HAT.out
      case round =>
        clear HAT e0 e1 e2 e3 HB1 HBOX HPR HNS HHEAD HOKS HWC HH
        obtain ⟨u, first, done, F1, rfl, rfl, hbx, hb1, hf1, hk1, hru, hoku, hdone, hcase, husz, hroom⟩ := hrel
        have hBq : B ≤ w.heap.size := HT.out.2.2
        have hqF1 : w.heap.size ∉ F1 := fun hx => by
          rcases hf1 _ hx with h | h
          · have := HFLT.out _ h; omega
          · omega
        have hFq : ∀ y ∈ (w.heap.size :: F), B ≤ y := fun y hy => by
          rcases List.mem_cons.1 hy with rfl | h
          · exact hBq
          · exact HF.out y h
        have hkwr : Keep (w.heap.size :: F) w wr := (HKW.out.mono (fun _ h => nomatch h)).trans hk1 (fun x hx => .inl hx)
        have htabr := HT.out.keep hkwr hFq
        have hF1 : ∀ y ∈ F1, B ≤ y := fun y hy => by
          rcases hf1 y hy with h | h
          · exact HF.out y h
          · omega
        have hdl : done.length + (restTm first u).length = (restTm true t).length := by rw [← hdone, List.length_append]
        have hul := (print_le u.sz u (Nat.le_refl _) hoku).1
        obtain ⟨ua, uc, huv, huc1, huc2⟩ := hru.has.form
        unfold maxLen at huc2
        obtain ⟨hhd, hoku2⟩ := isTm_split hoku
        have hlen1 : (bs ++ 91 :: done).length = bs.length + done.length + 1 := by rw [List.length_append, List.length_cons]; omega
        by_cases k8 : u.kind = 8
        · have hu2 : u.items.length = 2 := by unfold HeadOk at hhd; omega
          obtain ⟨x, y, hxy⟩ : ∃ x y, u.items = [x, y] := by
            match hm : u.items, hu2 with
            | [x, y], _ => exact ⟨x, y, rfl⟩
          have hrest : restTm first u = (if first then [] else [44]) ++ printTm x ++ restTm false y := by rw [restTm_eq, if_pos k8, hxy]; rfl
          have hsx : x.sz < u.sz := sz_mem_lt (by rw [hxy]; simp)
          have hsy : y.sz < u.sz := sz_mem_lt (by rw [hxy]; simp)
          have hsxy : u.sz = x.sz + y.sz + 1 := by
            have : u.sz = szL u.items + 1 := by cases u; simp only [Tm.sz, Tm.items]
            rw [this, hxy, szL_cons, szL_cons, szL_nil]; omega
          have hhas : HasT B wr (.slice ua 2 uc) [x, y] := by have := hru.has; rw [huv, hxy] at this; exact this
          obtain ⟨b', off, hua, c0, c1, c2, c3, hrx⟩ := hhas.at (Keep.refl [] wr) (k := 0) (by simp)
          obtain ⟨b'', off', hua', d0, d1, d2, d3, hry⟩ := hhas.at (Keep.refl [] wr) (k := 1) (by simp)
          subst hua
          cases hua'
          have hbB : b' < B := by
            obtain ⟨⟨o, hrd, ho⟩, -⟩ := hhas
            obtain ⟨_, _, hq, ho2, -⟩ := hrd.at4 (k := 0) (by simp)
            cases hq
            exact ho b' ho2
          simp only [List.getElem_cons_zero, List.getElem_cons_succ, Nat.zero_mul, Nat.one_mul, Nat.add_zero] at c0 c1 c2 c3 d0 d1 d2 d3 hrx hry
          obtain ⟨xa, xc, hxv, -, -⟩ := hrx.has.form
          obtain ⟨ya, yc, hyv, -, -⟩ := hry.has.form
          rw [k8, huv, hxy] at hbx
          obtain ⟨e0, e1, e2, e3, -⟩ := cells4 hbx
          rw [hxv] at c3
          rw [hyv] at d3
          have hokx := hoku2 x (by rw [hxy]; simp)
          have hoky := hoku2 y (by rw [hxy]; simp)
          have hxl := (print_le x.sz x (Nat.le_refl _) hokx).1
          have hwx := HIH.out x (by omega)
          have HAGX : Hid (aggTm x = .agg #[.int .i64 x.kind, .int .i64 x.num, .string x.name, .slice xa x.items.length xc]) := by unfold aggTm; rw [hxv]; rfl
          have hrl2 : (restTm first u).length = (if first then 0 else 1) + (printTm x).length + (restTm false y).length := by rw [hrest, List.length_append, List.length_append]; cases first <;> simp
          have HYV := Lib.hid hyv
          have HREST := Lib.hid hrest
          have HDONE := Lib.hid hdone
          have HB := Lib.hid hb1
          have HF1 := Lib.hid hf1
          have HK1 := Lib.hid hk1
          have HFB := Lib.hid hF1
          have HTB := Lib.hid htabr
          have HQF := Lib.hid hqF1
          have HBX := Lib.hid hbx
          have HRX := Lib.hid hrx
          have HRY := Lib.hid hry
          have HOKX := Lib.hid hokx
          have HOKY := Lib.hid hoky
          have HWX := Lib.hid hwx
          have HLEN := Lib.hid hlen1
          clear hb1 hf1 hk1 hF1 htabr hqF1 hbx hrx hry hokx hoky hwx hxv hyv hrest hdone hcase hlen1 hhd hoku2 hhas huv hxy hkwr hFq hru hoku k8 hu2
          cases first with
          | true =>
            have hcall := HWX.out B b _ F1 wr HB.out HRX.out HOKX.out HTB.out HFB.out (by rw [HLEN.out]; omega)
            rw [HAGX.out] at hcall
            have HC := Lib.hid hcall
            clear hcall
            go_wp2_with fail
            refine HC.out.mono ?_
            rintro e w3 hp
            obtain rfl := hp.1
            have hq3 : QuoteR wr b F1 _ w3 := hp.2
            have hk3 := hp.2
            obtain ⟨_, _, _, hk3⟩ := hk3
            have hbx3 := box_later HBX.out hk3 HQF.out
            clear hp HC
            obtain ⟨n0, n1, n2, n3, nf⟩ := cells4 hbx3
            have nf0 := nf 0
            have nf1 := nf 1
            have nf2 := nf 2
            have nf3 := nf 3
            have hbF : b' ∉ F1 := fun hx => by have := HFB.out _ hx; omega
            have m0 := hk3.cellOf d0 hbF
            have m1 := hk3.cellOf d1 hbF
            have m2 := hk3.cellOf d2 hbF
            have m3 := hk3.cellOf d3 hbF
            have hqr : w.heap.size < wr.heap.size := (Array.getElem?_eq_some_iff.1 HBX.out).1
            have hnx := LoopW.next (N := N) (bs := bs) (done := done ++ printTm x) (t := t) HK1.out HF1.out HQF.out HFB.out hBq hqr (by simpa using hq3) hbx3 HRY.out HOKY.out HYV.out (by rw [← HDONE.out, HREST.out]; simp) (by omega) (by simp only [List.length_append]; omega)
            have HNX := Lib.hid hnx
            clear hq3 hk3 hbx3 hnx nf c0 c1 c2 c3 d0 d1 d2 d3 e0 e1 e2 e3
            go_wp2_with fail
            go_roundg y.sz
            case measure => exact hsy
            case rel => exact HNX.out
          | false =>
            have hcomma := b_byte HB.out 44 (by rw [HLEN.out]; omega)
            have HCO := Lib.hid hcomma
            clear hcomma
            go_wp2_with fail
            refine HCO.out.mono ?_
            rintro e w2 hp
            obtain rfl := hp.1
            obtain ⟨F2, hb2, hf2, hk2⟩ := hp.2
            have hF2 : ∀ y ∈ F2, B ≤ y := fun y hy => by
              rcases hf2 y hy with h | h
              · exact HFB.out y h
              · have := HTB.out.2.2; omega
            have hbx2 := box_later HBX.out hk2 HQF.out
            obtain ⟨o0, o1, o2, o3, -⟩ := cells4 hbx2
            have hbF : b' ∉ F1 := fun hx => by have := HFB.out _ hx; omega
            have p0 := hk2.cellOf c0 hbF
            have p1 := hk2.cellOf c1 hbF
            have p2 := hk2.cellOf c2 hbF
            have p3 := hk2.cellOf c3 hbF
            have hcall := HWX.out B b _ F2 w2 hb2 (HRX.out.keep hk2 HFB.out) HOKX.out (HTB.out.keep hk2 HFB.out) hF2 (by rw [List.length_append, HLEN.out, List.length_singleton]; omega)
            rw [HAGX.out] at hcall
            have HC := Lib.hid hcall
            have HK2 := Lib.hid hk2
            have HF2 := Lib.hid hf2
            clear hcall hp hb2 hf2 hk2 hF2 hbx2 hbF HCO
            go_wp2_with fail
            refine HC.out.mono ?_
            rintro e w3 hp
            obtain rfl := hp.1
            have hq3 := QuoteR.next HK2.out HF2.out hp
            have hk3 := hq3
            obtain ⟨_, _, _, hk3⟩ := hk3
            have hbx3 := box_later HBX.out hk3 HQF.out
            clear hp HC p0 p1 p2 p3 o0 o1 o2 o3
            obtain ⟨n0, n1, n2, n3, nf⟩ := cells4 hbx3
            have nf0 := nf 0
            have nf1 := nf 1
            have nf2 := nf 2
            have nf3 := nf 3
            have hbF : b' ∉ F1 := fun hx => by have := HFB.out _ hx; omega
            have m0 := hk3.cellOf d0 hbF
            have m1 := hk3.cellOf d1 hbF
            have m2 := hk3.cellOf d2 hbF
            have m3 := hk3.cellOf d3 hbF
            have hqr : w.heap.size < wr.heap.size := (Array.getElem?_eq_some_iff.1 HBX.out).1
            have hnx := LoopW.next (N := N) (bs := bs) (done := done ++ 44 :: printTm x) (t := t) HK1.out HF1.out HQF.out HFB.out hBq hqr (by simpa using hq3) hbx3 HRY.out HOKY.out HYV.out (by rw [← HDONE.out, HREST.out]; simp) (by omega) (by simp only [List.length_append, List.length_cons]; omega)
            have HNX := Lib.hid hnx
            clear hq3 hk3 hbx3 hnx nf c0 c1 c2 c3 d0 d1 d2 d3 e0 e1 e2 e3
            go_wp2_with fail
            go_roundg y.sz
            case measure => exact hsy
            case rel => exact HNX.out
        · have hq8 : (u.kind == 8) = false := by simpa using k8
          obtain ⟨e0, e1, e2, e3, -⟩ := cells4 hbx
          rw [huv] at e3
          have hqF : ∀ x ∈ F1, x ∈ (w.heap.size :: F) ∨ w1.heap.size ≤ x := fun x hx => (hf1 x hx).imp (fun h => by simp [h]) id
          by_cases k7 : u.kind = 7
          · have hdone2 : done = restTm true t := by rw [← hdone, restTm_eq, if_neg k8, if_pos k7]; simp
            have hlast := b_byte hb1 93 (by rw [hlen1]; omega)
            have HLA := Lib.hid hlast
            have HD2 := Lib.hid hdone2
            have HK1 := Lib.hid hk1
            have HF1 := Lib.hid hf1
            have HKB := Lib.hid hbx
            have HQF1 := Lib.hid hqF1
            rw [k7] at e0
            clear hlast hdone2 hdone hb1 hf1 hk1 hbx hru hoku hcase hlen1 hhd hoku2 huv hF1 hqF1 hkwr hFq htabr hq8 k8 hqF k7
            go_wp2_with fail
            refine HLA.out.mono ?_
            rintro e w4 hp
            obtain rfl := hp.1
            have QQ := Lib.hid (endR HKW.out HK1.out HF1.out HFLT.out hp)
            clear hp
            go_wp2_with fail
            go_end0
            exact BPost.of QQ.out (by rw [HP2.out, HD2.out]; simp)
          · have hpu : printTm u = flatL u.kind u.num u.name.data.toList (rowTms u.items) := by rw [printTm_eq, if_neg k8, if_neg k7]
            have hdone2 : done ++ 124 :: printTm u = restTm true t := by rw [← hdone, restTm_eq, if_neg k8, if_neg k7, hpu]
            have hus : u.sz ≤ N ∧ done.length + 1200 * u.sz + 100 ≤ 1200 * t.sz := by
              rcases hcase with ⟨rfl, -⟩ | h
              · have := HEQ.out.2.1; omega
              · exact h
            have hq7 : (u.kind != 7) = true := by simpa using k7
            have hbar := b_byte hb1 124 (by rw [hlen1]; omega)
            obtain ⟨hus1, hus2⟩ := hus
            have hwu := HIH.out u hus1
            have HAG : Hid (aggTm u = .agg #[.int .i64 u.kind, .int .i64 u.num, .string u.name, .slice ua u.items.length uc]) := by unfold aggTm; rw [huv]; rfl
            have HBAR := Lib.hid hbar
            have HD2 := Lib.hid hdone2
            have HK1 := Lib.hid hk1
            have HF1 := Lib.hid hf1
            have HBX := Lib.hid hbx
            have HQF1 := Lib.hid hqF1
            have HFB := Lib.hid hF1
            have HWU := Lib.hid hwu
            have HRU := Lib.hid hru
            have HOKU := Lib.hid hoku
            have HTB := Lib.hid htabr
            have HLEN := Lib.hid hlen1
            have HUV := Lib.hid huv
            clear hbar hwu hdone2 hdone hb1 hf1 hk1 hbx hru hoku hcase hlen1 hhd hoku2 huv hF1 hqF1 hkwr hFq htabr k8 hqF k7 hpu
            go_wp2_with fail
            refine HBAR.out.mono ?_
            rintro e w2 hp
            obtain rfl := hp.1
            obtain ⟨F2, hb2, hf2, hk2⟩ := hp.2
            have hF2 : ∀ y ∈ F2, B ≤ y := fun y hy => by
              rcases hf2 y hy with h | h
              · exact HFB.out y h
              · have := HTB.out.2.2; omega
            have hbx2 := box_later HBX.out hk2 HQF1.out
            rw [HUV.out] at hbx2
            obtain ⟨o0, o1, o2, o3, -⟩ := cells4 hbx2
            have hcall := HWU.out B b _ F2 w2 hb2 (HRU.out.keep hk2 HFB.out) HOKU.out (HTB.out.keep hk2 HFB.out) hF2 (by rw [List.length_append, HLEN.out, List.length_singleton]; omega)
            rw [HAG.out] at hcall
            have HC := Lib.hid hcall
            have HK2 := Lib.hid hk2
            have HF2 := Lib.hid hf2
            clear hcall hp hb2 hf2 hk2 hF2 hbx2 HBAR
            go_wp2_with fail
            refine HC.out.mono ?_
            rintro e w3 hp
            obtain rfl := hp.1
            obtain ⟨F3, hb3, hf3, hk3⟩ := QuoteR.next HK2.out HF2.out hp
            have hlast := b_byte hb3 93 (by rw [List.length_append, List.length_append, HLEN.out, List.length_singleton]; omega)
            have HLA := Lib.hid hlast
            have HK3 := Lib.hid hk3
            have HF3 := Lib.hid hf3
            clear hp hb3 hf3 hk3 hlast HC
            go_wp2_with fail
            refine HLA.out.mono ?_
            rintro e w4 hp
            obtain rfl := hp.1
            have QQ := Lib.hid (endR HKW.out HK1.out HF1.out HFLT.out (BPost.of' (QuoteR.next HK3.out HF3.out hp)))
            clear hp
            go_wp2_with fail
            go_end0
            exact BPost.of QQ.out (by rw [HP2.out, ← HD2.out]; simp)
    exfalso
    have hno := HHEAD.out
    unfold HeadOk at hno
    simp only [k1, k2, k3, k4, k5, k6, k7, k8, false_and, or_self] at hno
end Go.Proofs.YtcegdomfmamonaaDoor
