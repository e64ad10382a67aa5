/- TermOrders: the walk. Printed by gen-tmorders.py. -/
import Derived.Test.YtcegdomfmamonaaDoorTmTexts
import Derived.Test.YtcegdomfmamonaaDoorTmParts
import Derived.Test.YtcegdomfmamonaaDoorTm22
import Derived.Test.YtcegdomfmamonaaDoorTm23
import Derived.Test.YtcegdomfmamonaaDoorTm24
namespace Go.Proofs.YtcegdomfmamonaaDoor
open Go.RowKit Go.Emb

theorem cmp_iv (k n : Int) (s : ByteArray) (v v' : Value) (l : List Tm) : cmpTm (.mk k n s v l) (.mk k n s v' l) = 0 := by
  have h := cmpTm_self (.mk k n s v l)
  rw [cmpTm_eq] at h ⊢
  exact h
theorem IsL.cmp {l : List Tm} : ∀ {u u' : Tm}, IsL l u → IsL l u' → cmpTm u u' = 0 := by
  induction l with
  | nil => rintro u u' ⟨iv, rfl⟩ ⟨iv', rfl⟩; exact cmp_iv _ _ _ _ _ _
  | cons x r ih =>
    rintro u u' ⟨iv, y, rfl, h⟩ ⟨iv', y', rfl, h'⟩
    have h1 := cmp_iv 8 0 ⟨#[]⟩ iv iv' [x, y]
    have h2 := ih h h'
    rw [cmpTm_eq] at h1 ⊢
    rw [or0_iff, or0_iff, or0_iff, or0_iff] at h1 ⊢
    refine ⟨h1.1, h1.2.1, h1.2.2.1, rfl, ?_⟩
    simp only [Tm.items, cmpTms_cons, cmpTms_nil, cmpTm_self, h2, or0, if_true]
theorem same_of {B B' : Nat} {w : World} {s t : Tm} (hs : RdTm B w s) (ht : RdTm B' w t) (h : cmpTm s t = 0) : Calls Tryd.prog 16 #[aggTm s, aggTm t] w fun e w' => e = .returned (.bool true) ∧ Keep [] w w' := by
  have := r_same (hs.up (Nat.le_max_left B B')) (ht.up (Nat.le_max_right B B'))
  rwa [h] at this
theorem bytes_of {S : ByteArray} {l : List UInt8} (h : S.data.toList = l) : S = ⟨l.toArray⟩ := by
  subst h; rfl
theorem r_print2 {B : Nat} {w : World} {t : Tm} (hr : RdTm B w t) (hB : B ≤ w.heap.size) (hok : isTm t = true) (hsz : t.sz ≤ 1000000) : Calls Tryd.prog 41 #[aggTm t] w fun e w' => e = .returned (.string ⟨(printTm t).toArray⟩) ∧ Keep [] w w' :=
  (r_print hr hB hok hsz).mono fun e w' ⟨S, h1, h2, h3⟩ => ⟨by rw [h1, bytes_of h2], h3⟩

theorem same_leaf {w : World} {k n : Int} {s : ByteArray} (h0 : -9223372036854775808 ≤ n) (h1 : n ≤ 9223372036854775807) (hs : s.size ≤ 140737488355328) : Calls Tryd.prog 16 #[.agg #[.int .i64 k, .int .i64 n, .string s, .slice none 0 0], .agg #[.int .i64 k, .int .i64 n, .string s, .slice none 0 0]] w fun e w' => e = .returned (.bool true) ∧ Keep [] w w' :=
  same_of (B := 0) (B' := 0) (s := leaf k n s) (t := leaf k n s) (leaf_rd h0 h1 hs) (leaf_rd h0 h1 hs) (cmpTm_self _)
theorem listP_lit {w : World} {xs : List Tm} {e : Ending} {w' : World} (h : ListP w xs e w') : ∃ u xa xl xc, e = .returned (.agg #[.int .i64 u.kind, .int .i64 u.num, .string u.name, .slice xa xl xc]) ∧ u.iv = .slice xa xl xc ∧ IsL xs u ∧ RdTm w'.heap.size w' u ∧ Keep [] w w' := by
  obtain ⟨u, h1, h2, h3, h4⟩ := h
  obtain ⟨a, c, hv, -, -⟩ := h3.has.form
  exact ⟨u, a, _, c, by rw [h1]; unfold aggTm; rw [hv], hv, h2, h3, h4⟩
theorem listP_nil {w : World} {e : Ending} {w' : World} (h : ListP w [] e w') : ∃ nv, e = .returned (.agg #[.int .i64 7, .int .i64 0, .string ⟨#[]⟩, nv]) ∧ RdTm w'.heap.size w' (.mk 7 0 ⟨#[]⟩ nv []) ∧ Keep [] w w' := by
  obtain ⟨u, h1, ⟨nv, rfl⟩, h3, h4⟩ := h
  exact ⟨nv, h1, h3, h4⟩
set_option maxRecDepth 100000 in
set_option maxHeartbeats 8000000 in
theorem orders_walk {w : World} {a bt : Tm} {n : Int} {s : ByteArray} (hta : RdTm w.heap.size w a) (htb : RdTm w.heap.size w bt) (hn0 : -9223372036854775808 ≤ n) (hn1 : n ≤ 9223372036854775807) (hs : s.size ≤ 140737488355328) (ht : TabOk w.heap.size w) : Calls Tryd.prog 6 #[aggTm a, aggTm bt, .int .i64 n, .string s] w fun e w' => e = .returned (.bool true) ∧ Keep [] w w' := by
  have hl2 : ∀ wx (n : Nat), Keep [] w wx → wx.heap.size = n → HasT (wx.heap.size + 1) (wx.alloc (.cells ([a, bt].flatMap encTm).toArray 31)) (.slice (some ⟨n, 0, none⟩) 2 2) [a, bt] := fun wx n hx hn => hn ▸
    hasT_list (l := [a, bt]) (B := w.heap.size) (by simp only [RdTms, and_true]; exact ⟨hta.keep0 hx, htb.keep0 hx⟩) hx.size (by simp)
  have hhas : ∀ (l : List Tm), (∀ x ∈ l, x = a ∨ x = bt) → l.length ≤ 3 → ∀ W q, Keep [] w W → W.heap[q]? = some (.cells (l.flatMap encTm).toArray 31) → HasT W.heap.size W (.slice (some ⟨q, 0, none⟩) l.length l.length) l := fun l hl hlen W q hk hb => by
    have hlt := (Array.getElem?_eq_some_iff.1 hb).1
    refine HasT.ofBlock (l := l) (E := 31) hb ?_ (by omega) (by omega)
    rw [RdTms_iff]
    intro x hx
    rcases hl x hx with rfl | rfl
    · exact (hta.keep0 hk).up hk.size
    · exact (htb.keep0 hk).up hk.size
  have hsm := fun wx n hx hn => l_small (hl2 wx n hx hn) (by simp)
  have hrc := fun wx n hx hn => r_check (hl2 wx n hx hn)
  have hpb := fun W => p_bare s W hs
  have hrb := fun W => r_bare s W hs
  obtain ⟨le, ee, hspa⟩ := Sp.ex a
  have how : a.sz ≤ 4096 → ∀ wx, Keep [] w wx → Calls Tryd.prog 22 #[aggTm a] wx (OwnP wx a) := fun h wx hx => r_own (hta.keep0 hx) hx.size (by omega)
  have hre : a.sz ≤ 4096 → ∀ wx, Keep [] w wx → Calls Tryd.prog 23 #[aggTm a] wx (ElemsP wx le ee) := fun h wx hx => r_elements (hta.keep0 hx) hx.size hspa (by omega)
  have hcp := fun W (hx : Keep [] w W) => q_cons (hta.keep0 hx) (htb.keep0 hx) hx.size
  have hcr := fun W (hx : Keep [] w W) => r_cons (hta.keep0 hx) (htb.keep0 hx) hx.size
  have htp := fun W q (hx : Keep [] w W) hb => q_tuple (hhas [a, bt, a] (by simp) (by simp) W q hx hb) (Nat.le_refl _) (by simp)
  have htr := fun W q (hx : Keep [] w W) hb => r_tuple (hhas [a, bt, a] (by simp) (by simp) W q hx hb) (Nat.le_refl _)
  have hlp := fun W q (hx : Keep [] w W) hb => (p_list (hhas [a, bt] (by simp) (by simp) W q hx hb) (by simp)).mono fun e w' h => listP_lit h
  have hlr := fun W q (hx : Keep [] w W) hb => (r_list (hhas [a, bt] (by simp) (by simp) W q hx hb) (by simp)).mono fun e w' h => listP_lit h
  have hln := fun W (_hx : Keep [] w W) => (p_list (w := W) (v := .slice none 0 0) (xs := []) hasT_nil (by simp)).mono fun e w' h => listP_nil h
  have hcm1 := fun wx (hx : Keep [] w wx) => p_compare (hta.keep0 hx) (htb.keep0 hx)
  have hcm2 := fun wx (hx : Keep [] w wx) => r_compare (hta.keep0 hx) (htb.keep0 hx)
  have hpr1 : isTm a = true → a.sz ≤ 4096 → ∀ wx, Keep [] w wx → Calls Tryd.prog 18 #[aggTm a] wx fun e w' => e = .returned (.string ⟨(printTm a).toArray⟩) ∧ Keep [] wx w' := fun h1 h2 wx hx => p_print (B := w.heap.size) (hta.keep0 hx) h1 (ht.keep0 hx) (by omega)
  have hpr2 : isTm a = true → a.sz ≤ 4096 → ∀ wx, Keep [] w wx → Calls Tryd.prog 41 #[aggTm a] wx fun e w' => e = .returned (.string ⟨(printTm a).toArray⟩) ∧ Keep [] wx w' := fun h1 h2 wx hx => r_print2 (B := w.heap.size) (hta.keep0 hx) hx.size h1 (by omega)
  have hck := fun h => check_ok (a := a) (b := bt) h
  have hlive := fun wx (hx : Keep [] w wx) => l_live (ht.up2 hx)
  have hsi := fun W => same_leaf (w := W) (k := 1) (n := n) (s := ⟨#[]⟩) hn0 hn1 (by simp [ByteArray.size])
  have hsa := fun W => same_leaf (w := W) (k := 2) (n := 0) (s := s) (by omega) (by omega) hs
  have hsp := fun W => same_leaf (w := W) (k := 5) (n := n) (s := ⟨#[]⟩) hn0 hn1 (by simp [ByteArray.size])
  have hsr := fun W => same_leaf (w := W) (k := 3) (n := n) (s := ⟨#[]⟩) hn0 hn1 (by simp [ByteArray.size])
  have hsn := fun W => same_leaf (w := W) (k := 7) (n := 0) (s := ⟨#[]⟩) (by omega) (by omega) (by simp [ByteArray.size])
  generalize cmpTm a bt = x at *
  generalize checkTm [a, bt] = ck0 at *
  generalize isTm a = ia at *
  generalize isTm bt = ib at *
  generalize (⟨(printTm a).toArray⟩ : ByteArray) = pa at *
  generalize bareL s.data.toList = sb at *
  obtain ⟨aa, ac, hav, -, -⟩ := hta.has.form
  obtain ⟨ba, bc, hbv, -, -⟩ := htb.has.form
  unfold aggTm at *
  simp only [List.flatMap_cons, List.flatMap_nil, encTm, List.cons_append, List.nil_append, List.length_cons, List.length_nil, Nat.zero_add, Nat.reduceAdd, hav, hbv] at hsm hrc how hre hcp hcr htp htr hlp hlr hcm1 hcm2 hpr1 hpr2
  rw [hav, hbv]
  have HSPA := Lib.hid hspa
  have HSM := Lib.hid hsm
  have HRC := Lib.hid hrc
  have HPB := Lib.hid hpb
  have HRB := Lib.hid hrb
  have HOW := Lib.hid how
  have HRE := Lib.hid hre
  have HCP := Lib.hid hcp
  have HCR := Lib.hid hcr
  have HTP := Lib.hid htp
  have HTR := Lib.hid htr
  have HLP := Lib.hid hlp
  have HLR := Lib.hid hlr
  have HLN := Lib.hid hln
  have HCM1 := Lib.hid hcm1
  have HCM2 := Lib.hid hcm2
  have HPRA := Lib.hid hpr1
  have HPRB := Lib.hid hpr2
  have HCK := Lib.hid hck
  have HLV := Lib.hid hlive
  have HSI := Lib.hid hsi
  have HSA := Lib.hid hsa
  have HSP := Lib.hid hsp
  have HSR := Lib.hid hsr
  have HSN := Lib.hid hsn
  clear hspa hsm hrc hpb hrb how hre hcp hcr htp htr hlp hlr hln hcm1 hcm2 hpr1 hpr2 hck hlive hsi hsa hsp hsr hsn hl2 hhas hta htb ht hav hbv
  generalize a.kind = ak at *
  generalize a.num = an at *
  generalize a.name = am at *
  generalize a.items.length = al at *
  generalize bt.kind = bk at *
  generalize bt.num = bn at *
  generalize bt.name = bm at *
  generalize bt.items.length = bl at *
  have HSS := Lib.hid (two_boxes w ak an bk bn am bm (.slice aa al ac) (.slice ba bl bc))
  have HK0 := Lib.hid (((Keep.refl [] w).alloc (.cells #[.int .i64 ak, .int .i64 an, .string am, .slice aa al ac] 31)).alloc (.cells #[.int .i64 bk, .int .i64 bn, .string bm, .slice ba bl bc] 31))
  go_enter Tryd.func6, Tryd.ntmps6
  go_wp2_with fail
  refine (HSM.out _ _ HK0.out (by simp)).mono ?_
  rintro e w1 ⟨bb, rfl, -, hk1⟩
  have HL1 := Lib.hid (((Keep.refl [] ((w.alloc (.cells #[.int .i64 ak, .int .i64 an, .string am, .slice aa al ac] 31)).alloc (.cells #[.int .i64 bk, .int .i64 bn, .string bm, .slice ba bl bc] 31))).alloc _).trans hk1 (by simp))
  have HK1 := Lib.hid (HK0.out.trans HL1.out (by simp))
  clear hk1 HSM
  cases bb with
  | false =>
    go_wp2_with fail
    refine (HLV.out _ HK1.out).mono ?_
    rintro e wl ⟨rfl, hkl⟩
    go_wp2_with fail
    go_ret
    exact ⟨rfl, HK1.out.trans hkl (by simp)⟩
  | true =>
  by_cases hs2 : (20000 : Int) < (s.size : Int)
  · 
    go_wp2_with fail
    refine (HLV.out _ HK1.out).mono ?_
    rintro e wl ⟨rfl, hkl⟩
    go_wp2_with fail
    go_ret
    exact ⟨rfl, HK1.out.trans hkl (by simp)⟩
  obtain ⟨⟨a0, a1, a2, a3⟩, b0, b1, b2, b3⟩ := HSS.out w1 HL1.out
  go_wp2_with fail
  refine (HRC.out _ _ HK1.out rfl).mono ?_
  rintro e w2 ⟨rfl, hk2⟩
  have HL2 := Lib.hid (HL1.out.trans (((Keep.refl [] w1).alloc _).trans hk2 (by simp)) (by simp))
  have HK2 := Lib.hid (HK0.out.trans HL2.out (by simp))
  clear hk2 HRC a0 a1 a2 a3 b0 b1 b2 b3
  by_cases hck : ck0 = 0
  case neg =>
    have hckb : (ck0 != 0) = true := by simpa using hck
    go_wp2_with fail
    refine (HLV.out _ HK2.out).mono ?_
    rintro e wl ⟨rfl, hkl⟩
    go_wp2_with fail
    go_ret
    exact ⟨rfl, HK2.out.trans hkl (by simp)⟩
  subst hck
  obtain ⟨ia1, ib1, sa, sb2⟩ := HCK.out rfl
  have HPR1 := Lib.hid (HPRA.out ia1 sa)
  have HPR2 := Lib.hid (HPRB.out ia1 sa)
  have HOW2 := Lib.hid (HOW.out sa)
  have HRE2 := Lib.hid (HRE.out sa)
  clear HPRA HPRB HOW HRE HCK ia1 ib1 sb2
  go_wp2_with fail
  refine (HPB.out _).mono ?_
  rintro e w3 ⟨rfl, hk3⟩
  have HL3 := Lib.hid (HL2.out.trans hk3 (by simp))
  have HK3 := Lib.hid (HK0.out.trans HL3.out (by simp))
  clear hk3
  go_wp2_with fail
  refine (HRB.out _).mono ?_
  rintro e w4 ⟨rfl, hk4⟩
  have HL4 := Lib.hid (HL3.out.trans hk4 (by simp))
  have HK4 := Lib.hid (HK0.out.trans HL4.out (by simp))
  clear hk4
  obtain ⟨⟨a0, a1, a2, a3⟩, b0, b1, b2, b3⟩ := HSS.out w4 HL4.out
  have hsb : (sb != sb) = false := by simp
  go_wp2_with fail
  refine (HOW2.out _ HK4.out).mono ?_
  rintro e w5 ⟨u, ua, uc, rfl, huv, hcu, hsu, hru, hk5⟩
  obtain ⟨lu, eu, hspu⟩ := Sp.ex u
  have hsame := Sp.same HSPA.out hspu hcu
  have hlu := hspu.len
  have hel := p_elements hru.tm (Nat.le_refl _) hspu (by omega)
  unfold ElemsP aggTm at hel
  rw [huv, hsame.2.1] at hel
  have hrow : rowsEq (if ee.kind = 7 then lu else []) (if ee.kind = 7 then le else []) = true := by
    split
    · exact hsame.1
    · rfl
  have HEL := Lib.hid hel
  have HROW0 := Lib.hid hrow
  have HLU := Lib.hid (And.intro hlu (And.intro hsame.2.2 hsu))
  have HL5 := Lib.hid (HL4.out.trans hk5 (by simp))
  have HK5 := Lib.hid (HK0.out.trans HL5.out (by simp))
  clear hel hrow hspu hcu hsu hru hk5 hsame huv HSPA hsb a0 a1 a2 a3 b0 b1 b2 b3 hlu
  have hre2 := HRE2.out
  unfold ElemsP at hre2
  generalize decide (ee.kind = 7) = kb at *
  have HRE3 := Lib.hid hre2
  clear hre2 HRE2
  go_wp2_with fail
  refine HEL.out.mono ?_
  rintro e w6 ⟨iv1, rfl, hx1, hk6⟩
  have HX1 := Lib.hid hx1
  have HK56 := Lib.hid hk6
  have HL6 := Lib.hid (HL5.out.trans hk6 (by simp))
  have HK6 := Lib.hid (HK0.out.trans HL6.out (by simp))
  clear hx1 hk6 HEL
  obtain ⟨⟨a0, a1, a2, a3⟩, b0, b1, b2, b3⟩ := HSS.out w6 HL6.out
  go_wp2_with fail
  refine (HRE3.out _ HK6.out).mono ?_
  rintro e w7 ⟨iv2, rfl, hx2, hk7⟩
  have HL7 := Lib.hid (HL6.out.trans hk7 (by simp))
  have HK7 := Lib.hid (HK0.out.trans HL7.out (by simp))
  have hrows := fun W (hx : Keep [] w7 W) => r_rows ((HX1.out.keep0 hk7).keep0 hx) (hx2.keep0 hx) (by have := HLU.out; split <;> simp <;> omega) (by have := HLU.out; split <;> simp <;> omega)
  simp only [HROW0.out] at hrows
  have HROWS := Lib.hid hrows
  clear hx2 hk7 hrows HX1 HROW0 HLU HRE3 HK56 HL6 HK6 HL5 HK5 HL4 HK4 HL3 HK3 HL2 HK2 HL1 HK1 HOW2 HPB HRB a0 a1 a2 a3 b0 b1 b2 b3 hs2
  go_wp2_with fail
  refine wp_region_held_drew (S := fun w' => Keep [] w7 w') (by kernel_rfl) ((Keep.refl [] w7).drew) (fun hHeld => ?_)
  refine wpAnyH_takeL (i := 0) (v := ?v0) rfl (by kernel_rfl) (by kernel_rfl) (by kernel_rfl) (fun _ _ _ h => h) (Or.inl ⟨by kernel_rfl, ?run0⟩) hHeld ?_
  case run0 => (intro w9 hS9; obtain ⟨⟨a0, a1, a2, a3⟩, b0, b1, b2, b3⟩ := HSS.out w9 (HL7.out.trans hS9 (by simp)); go_simp; try exact rfl)
  try simp only [Act.put, List.setIfInBounds_toArray, List.set_cons_zero, List.set_cons_succ]
  refine wpAnyH_takeL (i := 2) (v := ?v2) rfl (by kernel_rfl) (by kernel_rfl) (by kernel_rfl) (fun _ _ _ h => h) (Or.inl ⟨by kernel_rfl, ?run2⟩) hHeld ?_
  case run2 => (intro w9 hS9; obtain ⟨⟨a0, a1, a2, a3⟩, b0, b1, b2, b3⟩ := HSS.out w9 (HL7.out.trans hS9 (by simp)); go_simp; try exact rfl)
  try simp only [Act.put, List.setIfInBounds_toArray, List.set_cons_zero, List.set_cons_succ]
  refine wpAnyH_ready (rs := [1]) (by kernel_rfl) (by simp) ?_
  refine AllReadyH.consL rfl (fun K hK => ?_) AllReadyH.nil
  go_simp
  refine (q_int n _).mono ?_
  rintro e wc1 ⟨rfl, hc1⟩
  have HC1 := Lib.hid (((Keep.refl [] w7).drew).trans hc1 (by simp))
  have HH1 := Lib.hid hc1
  clear hc1
  go_wp2_with fail
  refine hK.out _ _ HC1.out (fun hHeld2 => ?_)
  clear hK K hHeld
  have hHeld := hHeld2
  clear hHeld2
  try simp only [Act.put, List.setIfInBounds_toArray, List.set_cons_zero, List.set_cons_succ]
  refine wpAnyH_ready (rs := [3]) (by kernel_rfl) (by simp) ?_
  refine AllReadyH.consL rfl (fun K hK => ?_) AllReadyH.nil
  go_simp
  refine (r_int n _).mono ?_
  rintro e wc2 ⟨rfl, hc2⟩
  have HC2 := Lib.hid (HC1.out.trans hc2 (by simp))
  have HH2 := Lib.hid hc2
  clear hc2
  go_wp2_with fail
  refine hK.out _ _ HC2.out (fun hHeld2 => ?_)
  clear hK K hHeld
  have hHeld := hHeld2
  clear hHeld2
  try simp only [Act.put, List.setIfInBounds_toArray, List.set_cons_zero, List.set_cons_succ]
  refine wpAnyH_ready (rs := [4]) (by kernel_rfl) (by simp) ?_
  refine AllReadyH.consL rfl (fun K hK => ?_) AllReadyH.nil
  go_simp
  refine (HSI.out _).mono ?_
  rintro e wc3 ⟨rfl, hc3⟩
  have HC3 := Lib.hid (HC2.out.trans hc3 (by simp))
  have HH3 := Lib.hid hc3
  clear hc3
  go_wp2_with fail
  refine hK.out _ _ HC3.out (fun hHeld2 => ?_)
  clear hK K hHeld
  have hHeld := hHeld2
  clear hHeld2
  try simp only [Act.put, List.setIfInBounds_toArray, List.set_cons_zero, List.set_cons_succ]
  refine wpAnyH_takeL (i := 5) (v := ?v5) rfl (by kernel_rfl) (by kernel_rfl) (by kernel_rfl) (fun _ _ _ h => h) (Or.inl ⟨by kernel_rfl, ?run5⟩) hHeld ?_
  case run5 => (intro w9 hS9; obtain ⟨⟨a0, a1, a2, a3⟩, b0, b1, b2, b3⟩ := HSS.out w9 (HL7.out.trans hS9 (by simp)); go_simp; try exact rfl)
  try simp only [Act.put, List.setIfInBounds_toArray, List.set_cons_zero, List.set_cons_succ]
  refine wpAnyH_takeL (i := 6) (v := ?v6) rfl (by kernel_rfl) (by kernel_rfl) (by kernel_rfl) (fun _ _ _ h => h) (Or.inl ⟨by kernel_rfl, ?run6⟩) hHeld ?_
  case run6 => (intro w9 hS9; obtain ⟨⟨a0, a1, a2, a3⟩, b0, b1, b2, b3⟩ := HSS.out w9 (HL7.out.trans hS9 (by simp)); go_simp; try exact rfl)
  try simp only [Act.put, List.setIfInBounds_toArray, List.set_cons_zero, List.set_cons_succ]
  refine wpAnyH_takeL (i := 8) (v := ?v8) rfl (by kernel_rfl) (by kernel_rfl) (by kernel_rfl) (fun _ _ _ h => h) (Or.inl ⟨by kernel_rfl, ?run8⟩) hHeld ?_
  case run8 => (intro w9 hS9; obtain ⟨⟨a0, a1, a2, a3⟩, b0, b1, b2, b3⟩ := HSS.out w9 (HL7.out.trans hS9 (by simp)); go_simp; try exact rfl)
  try simp only [Act.put, List.setIfInBounds_toArray, List.set_cons_zero, List.set_cons_succ]
  refine wpAnyH_ready (rs := [7]) (by kernel_rfl) (by simp) ?_
  refine AllReadyH.consL rfl (fun K hK => ?_) AllReadyH.nil
  go_simp
  refine (q_atom s _).mono ?_
  rintro e wc4 ⟨rfl, hc4⟩
  have HC4 := Lib.hid (HC3.out.trans hc4 (by simp))
  have HH4 := Lib.hid hc4
  clear hc4
  go_wp2_with fail
  refine hK.out _ _ HC4.out (fun hHeld2 => ?_)
  clear hK K hHeld
  have hHeld := hHeld2
  clear hHeld2
  try simp only [Act.put, List.setIfInBounds_toArray, List.set_cons_zero, List.set_cons_succ]
  refine wpAnyH_ready (rs := [9]) (by kernel_rfl) (by simp) ?_
  refine AllReadyH.consL rfl (fun K hK => ?_) AllReadyH.nil
  go_simp
  refine (r_atom s _).mono ?_
  rintro e wc5 ⟨rfl, hc5⟩
  have HC5 := Lib.hid (HC4.out.trans hc5 (by simp))
  have HH5 := Lib.hid hc5
  clear hc5
  go_wp2_with fail
  refine hK.out _ _ HC5.out (fun hHeld2 => ?_)
  clear hK K hHeld
  have hHeld := hHeld2
  clear hHeld2
  try simp only [Act.put, List.setIfInBounds_toArray, List.set_cons_zero, List.set_cons_succ]
  refine wpAnyH_ready (rs := [10]) (by kernel_rfl) (by simp) ?_
  refine AllReadyH.consL rfl (fun K hK => ?_) AllReadyH.nil
  go_simp
  refine (HSA.out _).mono ?_
  rintro e wc6 ⟨rfl, hc6⟩
  have HC6 := Lib.hid (HC5.out.trans hc6 (by simp))
  have HH6 := Lib.hid hc6
  clear hc6
  go_wp2_with fail
  refine hK.out _ _ HC6.out (fun hHeld2 => ?_)
  clear hK K hHeld
  have hHeld := hHeld2
  clear hHeld2
  try simp only [Act.put, List.setIfInBounds_toArray, List.set_cons_zero, List.set_cons_succ]
  refine wpAnyH_takeL (i := 11) (v := .bool true) rfl (by kernel_rfl) (by kernel_rfl) (by kernel_rfl) (fun _ _ _ h => h) (Or.inl ⟨by kernel_rfl, ?run11⟩) hHeld ?_
  case run11 => (intro w9 hS9; obtain ⟨⟨a0, a1, a2, a3⟩, b0, b1, b2, b3⟩ := HSS.out w9 (HL7.out.trans hS9 (by simp)); go_simp; first | done | exact rfl | (simp [*]; done) | (simp; omega))
  try simp only [Act.put, List.setIfInBounds_toArray, List.set_cons_zero, List.set_cons_succ]
  refine wpAnyH_takeL (i := 12) (v := ?v12) rfl (by kernel_rfl) (by kernel_rfl) (by kernel_rfl) (fun _ _ _ h => h) (Or.inl ⟨by kernel_rfl, ?run12⟩) hHeld ?_
  case run12 => (intro w9 hS9; obtain ⟨⟨a0, a1, a2, a3⟩, b0, b1, b2, b3⟩ := HSS.out w9 (HL7.out.trans hS9 (by simp)); go_simp; try exact rfl)
  try simp only [Act.put, List.setIfInBounds_toArray, List.set_cons_zero, List.set_cons_succ]
  refine wpAnyH_takeL (i := 13) (v := ?v13) rfl (by kernel_rfl) (by kernel_rfl) (by kernel_rfl) (fun _ _ _ h => h) (Or.inl ⟨by kernel_rfl, ?run13⟩) hHeld ?_
  case run13 => (intro w9 hS9; obtain ⟨⟨a0, a1, a2, a3⟩, b0, b1, b2, b3⟩ := HSS.out w9 (HL7.out.trans hS9 (by simp)); go_simp; try exact rfl)
  try simp only [Act.put, List.setIfInBounds_toArray, List.set_cons_zero, List.set_cons_succ]
  refine wpAnyH_takeL (i := 15) (v := ?v15) rfl (by kernel_rfl) (by kernel_rfl) (by kernel_rfl) (fun _ _ _ h => h) (Or.inl ⟨by kernel_rfl, ?run15⟩) hHeld ?_
  case run15 => (intro w9 hS9; obtain ⟨⟨a0, a1, a2, a3⟩, b0, b1, b2, b3⟩ := HSS.out w9 (HL7.out.trans hS9 (by simp)); go_simp; try exact rfl)
  try simp only [Act.put, List.setIfInBounds_toArray, List.set_cons_zero, List.set_cons_succ]
  refine wpAnyH_ready (rs := [14]) (by kernel_rfl) (by simp) ?_
  refine AllReadyH.consL rfl (fun K hK => ?_) AllReadyH.nil
  go_simp
  refine (q_pid n _).mono ?_
  rintro e wc7 ⟨rfl, hc7⟩
  have HC7 := Lib.hid (HC6.out.trans hc7 (by simp))
  have HH7 := Lib.hid hc7
  clear hc7
  go_wp2_with fail
  refine hK.out _ _ HC7.out (fun hHeld2 => ?_)
  clear hK K hHeld
  have hHeld := hHeld2
  clear hHeld2
  try simp only [Act.put, List.setIfInBounds_toArray, List.set_cons_zero, List.set_cons_succ]
  refine wpAnyH_ready (rs := [16]) (by kernel_rfl) (by simp) ?_
  refine AllReadyH.consL rfl (fun K hK => ?_) AllReadyH.nil
  go_simp
  refine (r_pid n _).mono ?_
  rintro e wc8 ⟨rfl, hc8⟩
  have HC8 := Lib.hid (HC7.out.trans hc8 (by simp))
  have HH8 := Lib.hid hc8
  clear hc8
  go_wp2_with fail
  refine hK.out _ _ HC8.out (fun hHeld2 => ?_)
  clear hK K hHeld
  have hHeld := hHeld2
  clear hHeld2
  try simp only [Act.put, List.setIfInBounds_toArray, List.set_cons_zero, List.set_cons_succ]
  refine wpAnyH_ready (rs := [17]) (by kernel_rfl) (by simp) ?_
  refine AllReadyH.consL rfl (fun K hK => ?_) AllReadyH.nil
  go_simp
  refine (HSP.out _).mono ?_
  rintro e wc9 ⟨rfl, hc9⟩
  have HC9 := Lib.hid (HC8.out.trans hc9 (by simp))
  have HH9 := Lib.hid hc9
  clear hc9
  go_wp2_with fail
  refine hK.out _ _ HC9.out (fun hHeld2 => ?_)
  clear hK K hHeld
  have hHeld := hHeld2
  clear hHeld2
  try simp only [Act.put, List.setIfInBounds_toArray, List.set_cons_zero, List.set_cons_succ]
  refine wpAnyH_takeL (i := 18) (v := .bool true) rfl (by kernel_rfl) (by kernel_rfl) (by kernel_rfl) (fun _ _ _ h => h) (Or.inl ⟨by kernel_rfl, ?run18⟩) hHeld ?_
  case run18 => (intro w9 hS9; obtain ⟨⟨a0, a1, a2, a3⟩, b0, b1, b2, b3⟩ := HSS.out w9 (HL7.out.trans hS9 (by simp)); go_simp; first | done | exact rfl | (simp [*]; done) | (simp; omega))
  try simp only [Act.put, List.setIfInBounds_toArray, List.set_cons_zero, List.set_cons_succ]
  refine wpAnyH_takeL (i := 19) (v := ?v19) rfl (by kernel_rfl) (by kernel_rfl) (by kernel_rfl) (fun _ _ _ h => h) (Or.inl ⟨by kernel_rfl, ?run19⟩) hHeld ?_
  case run19 => (intro w9 hS9; obtain ⟨⟨a0, a1, a2, a3⟩, b0, b1, b2, b3⟩ := HSS.out w9 (HL7.out.trans hS9 (by simp)); go_simp; try exact rfl)
  try simp only [Act.put, List.setIfInBounds_toArray, List.set_cons_zero, List.set_cons_succ]
  refine wpAnyH_takeL (i := 20) (v := ?v20) rfl (by kernel_rfl) (by kernel_rfl) (by kernel_rfl) (fun _ _ _ h => h) (Or.inl ⟨by kernel_rfl, ?run20⟩) hHeld ?_
  case run20 => (intro w9 hS9; obtain ⟨⟨a0, a1, a2, a3⟩, b0, b1, b2, b3⟩ := HSS.out w9 (HL7.out.trans hS9 (by simp)); go_simp; try exact rfl)
  try simp only [Act.put, List.setIfInBounds_toArray, List.set_cons_zero, List.set_cons_succ]
  refine wpAnyH_takeL (i := 22) (v := ?v22) rfl (by kernel_rfl) (by kernel_rfl) (by kernel_rfl) (fun _ _ _ h => h) (Or.inl ⟨by kernel_rfl, ?run22⟩) hHeld ?_
  case run22 => (intro w9 hS9; obtain ⟨⟨a0, a1, a2, a3⟩, b0, b1, b2, b3⟩ := HSS.out w9 (HL7.out.trans hS9 (by simp)); go_simp; try exact rfl)
  try simp only [Act.put, List.setIfInBounds_toArray, List.set_cons_zero, List.set_cons_succ]
  refine wpAnyH_ready (rs := [21]) (by kernel_rfl) (by simp) ?_
  refine AllReadyH.consL rfl (fun K hK => ?_) AllReadyH.nil
  go_simp
  refine (q_ref n _).mono ?_
  rintro e wc10 ⟨rfl, hc10⟩
  have HC10 := Lib.hid (HC9.out.trans hc10 (by simp))
  have HH10 := Lib.hid hc10
  clear hc10
  go_wp2_with fail
  refine hK.out _ _ HC10.out (fun hHeld2 => ?_)
  clear hK K hHeld
  have hHeld := hHeld2
  clear hHeld2
  try simp only [Act.put, List.setIfInBounds_toArray, List.set_cons_zero, List.set_cons_succ]
  refine wpAnyH_ready (rs := [23]) (by kernel_rfl) (by simp) ?_
  refine AllReadyH.consL rfl (fun K hK => ?_) AllReadyH.nil
  go_simp
  refine (r_ref n _).mono ?_
  rintro e wc11 ⟨rfl, hc11⟩
  have HC11 := Lib.hid (HC10.out.trans hc11 (by simp))
  have HH11 := Lib.hid hc11
  clear hc11
  go_wp2_with fail
  refine hK.out _ _ HC11.out (fun hHeld2 => ?_)
  clear hK K hHeld
  have hHeld := hHeld2
  clear hHeld2
  try simp only [Act.put, List.setIfInBounds_toArray, List.set_cons_zero, List.set_cons_succ]
  refine wpAnyH_ready (rs := [24]) (by kernel_rfl) (by simp) ?_
  refine AllReadyH.consL rfl (fun K hK => ?_) AllReadyH.nil
  go_simp
  refine (HSR.out _).mono ?_
  rintro e wc12 ⟨rfl, hc12⟩
  have HC12 := Lib.hid (HC11.out.trans hc12 (by simp))
  have HH12 := Lib.hid hc12
  clear hc12
  go_wp2_with fail
  refine hK.out _ _ HC12.out (fun hHeld2 => ?_)
  clear hK K hHeld
  have hHeld := hHeld2
  clear hHeld2
  try simp only [Act.put, List.setIfInBounds_toArray, List.set_cons_zero, List.set_cons_succ]
  refine wpAnyH_takeL (i := 25) (v := .bool true) rfl (by kernel_rfl) (by kernel_rfl) (by kernel_rfl) (fun _ _ _ h => h) (Or.inl ⟨by kernel_rfl, ?run25⟩) hHeld ?_
  case run25 => (intro w9 hS9; obtain ⟨⟨a0, a1, a2, a3⟩, b0, b1, b2, b3⟩ := HSS.out w9 (HL7.out.trans hS9 (by simp)); go_simp; first | done | exact rfl | (simp [*]; done) | (simp; omega))
  try simp only [Act.put, List.setIfInBounds_toArray, List.set_cons_zero, List.set_cons_succ]
  refine wpAnyH_takeL (i := 26) (v := ?v26) rfl (by kernel_rfl) (by kernel_rfl) (by kernel_rfl) (fun _ _ _ h => h) (Or.inl ⟨by kernel_rfl, ?run26⟩) hHeld ?_
  case run26 => (intro w9 hS9; obtain ⟨⟨a0, a1, a2, a3⟩, b0, b1, b2, b3⟩ := HSS.out w9 (HL7.out.trans hS9 (by simp)); go_simp; try exact rfl)
  try simp only [Act.put, List.setIfInBounds_toArray, List.set_cons_zero, List.set_cons_succ]
  refine wpAnyH_ready (rs := [27]) (by kernel_rfl) (by simp) ?_
  refine AllReadyH.consL rfl (fun K hK => ?_) AllReadyH.nil
  go_simp
  refine (q_nil _).mono ?_
  rintro e wc13 ⟨rfl, hc13⟩
  have HC13 := Lib.hid (HC12.out.trans hc13 (by simp))
  have HH13 := Lib.hid hc13
  clear hc13
  go_wp2_with fail
  refine hK.out _ _ HC13.out (fun hHeld2 => ?_)
  clear hK K hHeld
  have hHeld := hHeld2
  clear hHeld2
  try simp only [Act.put, List.setIfInBounds_toArray, List.set_cons_zero, List.set_cons_succ]
  refine wpAnyH_ready (rs := [28]) (by kernel_rfl) (by simp) ?_
  refine AllReadyH.consL rfl (fun K hK => ?_) AllReadyH.nil
  go_simp
  refine (r_nil _).mono ?_
  rintro e wc14 ⟨rfl, hc14⟩
  have HC14 := Lib.hid (HC13.out.trans hc14 (by simp))
  have HH14 := Lib.hid hc14
  clear hc14
  go_wp2_with fail
  refine hK.out _ _ HC14.out (fun hHeld2 => ?_)
  clear hK K hHeld
  have hHeld := hHeld2
  clear hHeld2
  try simp only [Act.put, List.setIfInBounds_toArray, List.set_cons_zero, List.set_cons_succ]
  refine wpAnyH_ready (rs := [29]) (by kernel_rfl) (by simp) ?_
  refine AllReadyH.consL rfl (fun K hK => ?_) AllReadyH.nil
  go_simp
  refine (HSN.out _).mono ?_
  rintro e wc15 ⟨rfl, hc15⟩
  have HC15 := Lib.hid (HC14.out.trans hc15 (by simp))
  have HH15 := Lib.hid hc15
  clear hc15
  go_wp2_with fail
  refine hK.out _ _ HC15.out (fun hHeld2 => ?_)
  clear hK K hHeld
  have hHeld := hHeld2
  clear hHeld2
  try simp only [Act.put, List.setIfInBounds_toArray, List.set_cons_zero, List.set_cons_succ]
  refine wpAnyH_takeL (i := 30) (v := .bool true) rfl (by kernel_rfl) (by kernel_rfl) (by kernel_rfl) (fun _ _ _ h => h) (Or.inl ⟨by kernel_rfl, ?run30⟩) hHeld ?_
  case run30 => (intro w9 hS9; obtain ⟨⟨a0, a1, a2, a3⟩, b0, b1, b2, b3⟩ := HSS.out w9 (HL7.out.trans hS9 (by simp)); go_simp; first | done | exact rfl | (simp [*]; done) | (simp; omega))
  try simp only [Act.put, List.setIfInBounds_toArray, List.set_cons_zero, List.set_cons_succ]
  refine wpAnyH_takeL (i := 31) (v := ?v31) rfl (by kernel_rfl) (by kernel_rfl) (by kernel_rfl) (fun _ _ _ h => h) (Or.inl ⟨by kernel_rfl, ?run31⟩) hHeld ?_
  case run31 => (intro w9 hS9; obtain ⟨⟨a0, a1, a2, a3⟩, b0, b1, b2, b3⟩ := HSS.out w9 (HL7.out.trans hS9 (by simp)); go_simp; try exact rfl)
  try simp only [Act.put, List.setIfInBounds_toArray, List.set_cons_zero, List.set_cons_succ]
  refine wpAnyH_takeL (i := 32) (v := ?v32) rfl (by kernel_rfl) (by kernel_rfl) (by kernel_rfl) (fun _ _ _ h => h) (Or.inl ⟨by kernel_rfl, ?run32⟩) hHeld ?_
  case run32 => (intro w9 hS9; obtain ⟨⟨a0, a1, a2, a3⟩, b0, b1, b2, b3⟩ := HSS.out w9 (HL7.out.trans hS9 (by simp)); go_simp; try exact rfl)
  try simp only [Act.put, List.setIfInBounds_toArray, List.set_cons_zero, List.set_cons_succ]
  refine wpAnyH_takeL (i := 33) (v := ?v33) rfl (by kernel_rfl) (by kernel_rfl) (by kernel_rfl) (fun _ _ _ h => h) (Or.inl ⟨by kernel_rfl, ?run33⟩) hHeld ?_
  case run33 => (intro w9 hS9; obtain ⟨⟨a0, a1, a2, a3⟩, b0, b1, b2, b3⟩ := HSS.out w9 (HL7.out.trans hS9 (by simp)); go_simp; try exact rfl)
  try simp only [Act.put, List.setIfInBounds_toArray, List.set_cons_zero, List.set_cons_succ]
  refine wpAnyH_takeL (i := 35) (v := ?v35) rfl (by kernel_rfl) (by kernel_rfl) (by kernel_rfl) (fun _ _ _ h => h) (Or.inl ⟨by kernel_rfl, ?run35⟩) hHeld ?_
  case run35 => (intro w9 hS9; obtain ⟨⟨a0, a1, a2, a3⟩, b0, b1, b2, b3⟩ := HSS.out w9 (HL7.out.trans hS9 (by simp)); go_simp; try exact rfl)
  try simp only [Act.put, List.setIfInBounds_toArray, List.set_cons_zero, List.set_cons_succ]
  refine wpAnyH_takeL (i := 36) (v := ?v36) rfl (by kernel_rfl) (by kernel_rfl) (by kernel_rfl) (fun _ _ _ h => h) (Or.inl ⟨by kernel_rfl, ?run36⟩) hHeld ?_
  case run36 => (intro w9 hS9; obtain ⟨⟨a0, a1, a2, a3⟩, b0, b1, b2, b3⟩ := HSS.out w9 (HL7.out.trans hS9 (by simp)); go_simp; try exact rfl)
  try simp only [Act.put, List.setIfInBounds_toArray, List.set_cons_zero, List.set_cons_succ]
  refine wpAnyH_ready (rs := [34]) (by kernel_rfl) (by simp) ?_
  refine AllReadyH.consL rfl (fun K hK => ?_) AllReadyH.nil
  go_simp
  refine (HCP.out _ (HK7.out.trans HC15.out (by simp))).mono ?_
  rintro e wc16 ⟨ca, cc, rfl, hr1, hc16⟩
  have HC16 := Lib.hid (HC15.out.trans hc16 (by simp))
  have HH16 := Lib.hid hc16
  clear hc16
  have HR1 := Lib.hid hr1
  clear hr1
  go_wp2_with fail
  refine hK.out _ _ HC16.out (fun hHeld2 => ?_)
  clear hK K hHeld
  have hHeld := hHeld2
  clear hHeld2
  try simp only [Act.put, List.setIfInBounds_toArray, List.set_cons_zero, List.set_cons_succ]
  refine wpAnyH_ready (rs := [37]) (by kernel_rfl) (by simp) ?_
  refine AllReadyH.consL rfl (fun K hK => ?_) AllReadyH.nil
  go_simp
  refine (HCR.out _ (HK7.out.trans HC16.out (by simp))).mono ?_
  rintro e wc17 ⟨da, dc, rfl, hr2, hc17⟩
  have HC17 := Lib.hid (HC16.out.trans hc17 (by simp))
  have HH17 := Lib.hid hc17
  clear hc17
  have HR2 := Lib.hid hr2
  clear hr2
  go_wp2_with fail
  refine hK.out _ _ HC17.out (fun hHeld2 => ?_)
  clear hK K hHeld
  have hHeld := hHeld2
  clear hHeld2
  try simp only [Act.put, List.setIfInBounds_toArray, List.set_cons_zero, List.set_cons_succ]
  have hsc := same_of (HR1.out.keep0 HH17.out) HR2.out (cmp_iv _ _ _ _ _ _)
  unfold aggTm at hsc
  have HSC := Lib.hid hsc
  clear hsc HR1 HR2
  refine wpAnyH_ready (rs := [38]) (by kernel_rfl) (by simp) ?_
  refine AllReadyH.consL rfl (fun K hK => ?_) AllReadyH.nil
  go_simp
  refine (HSC.out).mono ?_
  rintro e wc18 ⟨rfl, hc18⟩
  have HC18 := Lib.hid (HC17.out.trans hc18 (by simp))
  have HH18 := Lib.hid hc18
  clear hc18
  go_wp2_with fail
  refine hK.out _ _ HC18.out (fun hHeld2 => ?_)
  clear hK K hHeld
  have hHeld := hHeld2
  clear hHeld2
  try simp only [Act.put, List.setIfInBounds_toArray, List.set_cons_zero, List.set_cons_succ]
  refine wpAnyH_takeL (i := 39) (v := .bool true) rfl (by kernel_rfl) (by kernel_rfl) (by kernel_rfl) (fun _ _ _ h => h) (Or.inl ⟨by kernel_rfl, ?run39⟩) hHeld ?_
  case run39 => (intro w9 hS9; obtain ⟨⟨a0, a1, a2, a3⟩, b0, b1, b2, b3⟩ := HSS.out w9 (HL7.out.trans hS9 (by simp)); go_simp; first | done | exact rfl | (simp [*]; done) | (simp; omega))
  try simp only [Act.put, List.setIfInBounds_toArray, List.set_cons_zero, List.set_cons_succ]
  refine wpAnyH_takeL (i := 40) (v := ?v40) rfl (by kernel_rfl) (by kernel_rfl) (by kernel_rfl) (fun _ _ _ h => h) (Or.inl ⟨by kernel_rfl, ?run40⟩) hHeld ?_
  case run40 => (intro w9 hS9; obtain ⟨⟨a0, a1, a2, a3⟩, b0, b1, b2, b3⟩ := HSS.out w9 (HL7.out.trans hS9 (by simp)); go_simp; try exact rfl)
  try simp only [Act.put, List.setIfInBounds_toArray, List.set_cons_zero, List.set_cons_succ]
  refine wpAnyH_takeL (i := 41) (v := ?v41) rfl (by kernel_rfl) (by kernel_rfl) (by kernel_rfl) (fun _ _ _ h => h) (Or.inl ⟨by kernel_rfl, ?run41⟩) hHeld ?_
  case run41 => (intro w9 hS9; obtain ⟨⟨a0, a1, a2, a3⟩, b0, b1, b2, b3⟩ := HSS.out w9 (HL7.out.trans hS9 (by simp)); go_simp; try exact rfl)
  try simp only [Act.put, List.setIfInBounds_toArray, List.set_cons_zero, List.set_cons_succ]
  refine wpAnyH_takeL (i := 42) (v := ?v42) rfl (by kernel_rfl) (by kernel_rfl) (by kernel_rfl) (fun _ _ _ h => h) (Or.inl ⟨by kernel_rfl, ?run42⟩) hHeld ?_
  case run42 => (intro w9 hS9; obtain ⟨⟨a0, a1, a2, a3⟩, b0, b1, b2, b3⟩ := HSS.out w9 (HL7.out.trans hS9 (by simp)); go_simp; try exact rfl)
  try simp only [Act.put, List.setIfInBounds_toArray, List.set_cons_zero, List.set_cons_succ]
  refine wpAnyH_takeL (i := 43) (v := ?v43) rfl (by kernel_rfl) (by kernel_rfl) (by kernel_rfl) (fun _ _ _ h => h) (Or.inl ⟨by kernel_rfl, ?run43⟩) hHeld ?_
  case run43 => (intro w9 hS9; obtain ⟨⟨a0, a1, a2, a3⟩, b0, b1, b2, b3⟩ := HSS.out w9 (HL7.out.trans hS9 (by simp)); go_simp; try exact rfl)
  try simp only [Act.put, List.setIfInBounds_toArray, List.set_cons_zero, List.set_cons_succ]
  refine wpAnyH_takeL (i := 46) (v := ?v46) rfl (by kernel_rfl) (by kernel_rfl) (by kernel_rfl) (fun _ _ _ h => h) (Or.inl ⟨by kernel_rfl, ?run46⟩) hHeld ?_
  case run46 => (intro w9 hS9; obtain ⟨⟨a0, a1, a2, a3⟩, b0, b1, b2, b3⟩ := HSS.out w9 (HL7.out.trans hS9 (by simp)); go_simp; try exact rfl)
  try simp only [Act.put, List.setIfInBounds_toArray, List.set_cons_zero, List.set_cons_succ]
  refine wpAnyH_takeL (i := 47) (v := ?v47) rfl (by kernel_rfl) (by kernel_rfl) (by kernel_rfl) (fun _ _ _ h => h) (Or.inl ⟨by kernel_rfl, ?run47⟩) hHeld ?_
  case run47 => (intro w9 hS9; obtain ⟨⟨a0, a1, a2, a3⟩, b0, b1, b2, b3⟩ := HSS.out w9 (HL7.out.trans hS9 (by simp)); go_simp; try exact rfl)
  try simp only [Act.put, List.setIfInBounds_toArray, List.set_cons_zero, List.set_cons_succ]
  refine wpAnyH_takeL (i := 48) (v := ?v48) rfl (by kernel_rfl) (by kernel_rfl) (by kernel_rfl) (fun _ _ _ h => h) (Or.inl ⟨by kernel_rfl, ?run48⟩) hHeld ?_
  case run48 => (intro w9 hS9; obtain ⟨⟨a0, a1, a2, a3⟩, b0, b1, b2, b3⟩ := HSS.out w9 (HL7.out.trans hS9 (by simp)); go_simp; try exact rfl)
  try simp only [Act.put, List.setIfInBounds_toArray, List.set_cons_zero, List.set_cons_succ]
  have HB7 := Lib.hid HC18.out
  clear HC1 HH1
  clear HC2 HH2
  clear HC3 HH3
  clear HC4 HH4
  clear HC5 HH5
  clear HC6 HH6
  clear HC7 HH7
  clear HC8 HH8
  clear HC9 HH9
  clear HC10 HH10
  clear HC11 HH11
  clear HC12 HH12
  clear HC13 HH13
  clear HC14 HH14
  clear HC15 HH15
  clear HC16 HH16
  clear HC17 HH17
  clear HC18 HH18
  generalize wc18 = wt at *
  have HN0T : Hid (((wt.alloc (.cells #[.int .i64 ak, .int .i64 an, .string am, .slice aa al ac, .int .i64 bk, .int .i64 bn, .string bm, .slice ba bl bc, .int .i64 ak, .int .i64 an, .string am, .slice aa al ac] 31)).alloc (.cells #[.int .i64 ak, .int .i64 an, .string am, .slice aa al ac, .int .i64 bk, .int .i64 bn, .string bm, .slice ba bl bc, .int .i64 ak, .int .i64 an, .string am, .slice aa al ac] 31)).heap[wt.heap.size]? = some (.cells #[.int .i64 ak, .int .i64 an, .string am, .slice aa al ac, .int .i64 bk, .int .i64 bn, .string bm, .slice ba bl bc, .int .i64 ak, .int .i64 an, .string am, .slice aa al ac] 31)) := by rw [heap_alloc_old _ _ (by simp)]; exact heap_alloc_new _ _
  have HN1T : Hid (((wt.alloc (.cells #[.int .i64 ak, .int .i64 an, .string am, .slice aa al ac, .int .i64 bk, .int .i64 bn, .string bm, .slice ba bl bc, .int .i64 ak, .int .i64 an, .string am, .slice aa al ac] 31)).alloc (.cells #[.int .i64 ak, .int .i64 an, .string am, .slice aa al ac, .int .i64 bk, .int .i64 bn, .string bm, .slice ba bl bc, .int .i64 ak, .int .i64 an, .string am, .slice aa al ac] 31)).heap[wt.heap.size + 1]? = some (.cells #[.int .i64 ak, .int .i64 an, .string am, .slice aa al ac, .int .i64 bk, .int .i64 bn, .string bm, .slice ba bl bc, .int .i64 ak, .int .i64 an, .string am, .slice aa al ac] 31)) := by
    have h := heap_alloc_new (wt.alloc (.cells #[.int .i64 ak, .int .i64 an, .string am, .slice aa al ac, .int .i64 bk, .int .i64 bn, .string bm, .slice ba bl bc, .int .i64 ak, .int .i64 an, .string am, .slice aa al ac] 31)) (.cells #[.int .i64 ak, .int .i64 an, .string am, .slice aa al ac, .int .i64 bk, .int .i64 bn, .string bm, .slice ba bl bc, .int .i64 ak, .int .i64 an, .string am, .slice aa al ac] 31)
    rw [show (wt.alloc (.cells #[.int .i64 ak, .int .i64 an, .string am, .slice aa al ac, .int .i64 bk, .int .i64 bn, .string bm, .slice ba bl bc, .int .i64 ak, .int .i64 an, .string am, .slice aa al ac] 31)).heap.size = wt.heap.size + 1 from by simp] at h
    exact Lib.hid h
  refine wpAnyH_cut (P := Tryd.prog) (md := ?mdT) (ops := ?opsT) (Q := ?QT) (S := ?ST) (fuel := ?fuelT) (listed := ?listedT) (n := 147) (R := fun f W => f 4 = (.pointer (some ⟨w.heap.size, 0, none⟩)) ∧ f 5 = (.pointer (some ⟨w.heap.size + 1, 0, none⟩)) ∧ f 9 = iv1 ∧ f 10 = (.bool kb) ∧ f 11 = iv2 ∧ f 12 = (.bool kb) ∧ f 88 = (.bool true) ∧ ∃ ta tc b, (f 93) = .agg #[.int .i64 6, .int .i64 0, .string ⟨#[]⟩, .slice ta 3 tc] ∧ RdTm W.heap.size W (.mk 6 0 ⟨#[]⟩ (.slice ta 3 tc) [a, bt, a]) ∧ (f 97) = .slice (some ⟨b, 0, none⟩) 3 3 ∧ W.heap[b]? = some (.cells #[.int .i64 ak, .int .i64 an, .string am, .slice aa al ac, .int .i64 bk, .int .i64 bn, .string bm, .slice ba bl bc, .int .i64 ak, .int .i64 an, .string am, .slice aa al ac] 31) ∧ Keep [] w7 W) (fun hcut => ?firstT) ?restT
  case firstT =>
    refine wpAnyH_ready (rs := [44, 49]) (by kernel_rfl) (by simp) ?_
    refine AllReadyH.consL rfl (fun K hK => ?_) (AllReadyH.consL rfl (fun K hK => ?_) (AllReadyH.nil))
    · go_simp
      refine hK.out _ _ (HB7.out.trans ((Keep.refl [] wt).alloc (.cells #[.int .i64 ak, .int .i64 an, .string am, .slice aa al ac, .int .i64 bk, .int .i64 bn, .string bm, .slice ba bl bc, .int .i64 ak, .int .i64 an, .string am, .slice aa al ac] 31)) (by simp)) (fun hHeld => ?_)
      clear hK K
      try simp only [Act.put, List.setIfInBounds_toArray, List.set_cons_zero, List.set_cons_succ]
      refine wpAnyH_ready (rs := [45, 49]) (by kernel_rfl) (by simp) ?_
      refine AllReadyH.consL rfl (fun K hK => ?_) (AllReadyH.consL rfl (fun K hK => ?_) (AllReadyH.nil))
      · skip
        go_simp
        refine (HTP.out (wt.alloc (.cells #[.int .i64 ak, .int .i64 an, .string am, .slice aa al ac, .int .i64 bk, .int .i64 bn, .string bm, .slice ba bl bc, .int .i64 ak, .int .i64 an, .string am, .slice aa al ac] 31)) wt.heap.size (HK7.out.trans (HB7.out.trans ((Keep.refl [] wt).alloc (.cells #[.int .i64 ak, .int .i64 an, .string am, .slice aa al ac, .int .i64 bk, .int .i64 bn, .string bm, .slice ba bl bc, .int .i64 ak, .int .i64 an, .string am, .slice aa al ac] 31)) (by simp)) (by simp)) (by first | exact heap_alloc_new _ _ | exact HN0T.out | exact HN1T.out)).mono ?_
        rintro e wq ⟨ta, tc, rfl, hrt, hq⟩
        go_wp2_with fail
        refine hK.out _ _ ((HB7.out.trans ((Keep.refl [] wt).alloc (.cells #[.int .i64 ak, .int .i64 an, .string am, .slice aa al ac, .int .i64 bk, .int .i64 bn, .string bm, .slice ba bl bc, .int .i64 ak, .int .i64 an, .string am, .slice aa al ac] 31)) (by simp)).trans hq (by simp)) (fun hHeld => ?_)
        clear hK K
        try simp only [Act.put, List.setIfInBounds_toArray, List.set_cons_zero, List.set_cons_succ]
        refine wpAnyH_ready (rs := [49]) (by kernel_rfl) (by simp) ?_
        refine AllReadyH.consL rfl (fun K hK => ?_) (AllReadyH.nil)
        go_simp
        refine hK.out _ _ (((HB7.out.trans ((Keep.refl [] wt).alloc (.cells #[.int .i64 ak, .int .i64 an, .string am, .slice aa al ac, .int .i64 bk, .int .i64 bn, .string bm, .slice ba bl bc, .int .i64 ak, .int .i64 an, .string am, .slice aa al ac] 31)) (by simp)).trans hq (by simp)).alloc (.cells #[.int .i64 ak, .int .i64 an, .string am, .slice aa al ac, .int .i64 bk, .int .i64 bn, .string bm, .slice ba bl bc, .int .i64 ak, .int .i64 an, .string am, .slice aa al ac] 31)) (fun hHeld => ?_)
        clear hK K
        try simp only [Act.put, List.setIfInBounds_toArray, List.set_cons_zero, List.set_cons_succ]
        refine hcut _ _ ?_
        exact CutF.mk rfl ⟨rfl, rfl, rfl, rfl, rfl, rfl, rfl, ta, tc, wq.heap.size, rfl, (hrt.keep0 ((Keep.refl [] wq).alloc (.cells #[.int .i64 ak, .int .i64 an, .string am, .slice aa al ac, .int .i64 bk, .int .i64 bn, .string bm, .slice ba bl bc, .int .i64 ak, .int .i64 an, .string am, .slice aa al ac] 31))).up (by have := (((Keep.refl [] wq).alloc (.cells #[.int .i64 ak, .int .i64 an, .string am, .slice aa al ac, .int .i64 bk, .int .i64 bn, .string bm, .slice ba bl bc, .int .i64 ak, .int .i64 an, .string am, .slice aa al ac] 31))).size; omega), rfl, heap_alloc_new wq (.cells #[.int .i64 ak, .int .i64 an, .string am, .slice aa al ac, .int .i64 bk, .int .i64 bn, .string bm, .slice ba bl bc, .int .i64 ak, .int .i64 an, .string am, .slice aa al ac] 31), ((HB7.out.trans ((Keep.refl [] wt).alloc (.cells #[.int .i64 ak, .int .i64 an, .string am, .slice aa al ac, .int .i64 bk, .int .i64 bn, .string bm, .slice ba bl bc, .int .i64 ak, .int .i64 an, .string am, .slice aa al ac] 31)) (by simp)).trans hq (by simp)).alloc (.cells #[.int .i64 ak, .int .i64 an, .string am, .slice aa al ac, .int .i64 bk, .int .i64 bn, .string bm, .slice ba bl bc, .int .i64 ak, .int .i64 an, .string am, .slice aa al ac] 31)⟩
      · go_simp
        refine hK.out _ _ (HB7.out.trans (((Keep.refl [] wt).alloc (.cells #[.int .i64 ak, .int .i64 an, .string am, .slice aa al ac, .int .i64 bk, .int .i64 bn, .string bm, .slice ba bl bc, .int .i64 ak, .int .i64 an, .string am, .slice aa al ac] 31)).alloc (.cells #[.int .i64 ak, .int .i64 an, .string am, .slice aa al ac, .int .i64 bk, .int .i64 bn, .string bm, .slice ba bl bc, .int .i64 ak, .int .i64 an, .string am, .slice aa al ac] 31)) (by simp)) (fun hHeld => ?_)
        clear hK K
        try simp only [Act.put, List.setIfInBounds_toArray, List.set_cons_zero, List.set_cons_succ]
        refine wpAnyH_ready (rs := [45]) (by kernel_rfl) (by simp) ?_
        refine AllReadyH.consL rfl (fun K hK => ?_) (AllReadyH.nil)
        go_simp
        refine (HTP.out ((wt.alloc (.cells #[.int .i64 ak, .int .i64 an, .string am, .slice aa al ac, .int .i64 bk, .int .i64 bn, .string bm, .slice ba bl bc, .int .i64 ak, .int .i64 an, .string am, .slice aa al ac] 31)).alloc (.cells #[.int .i64 ak, .int .i64 an, .string am, .slice aa al ac, .int .i64 bk, .int .i64 bn, .string bm, .slice ba bl bc, .int .i64 ak, .int .i64 an, .string am, .slice aa al ac] 31)) wt.heap.size (HK7.out.trans (HB7.out.trans (((Keep.refl [] wt).alloc (.cells #[.int .i64 ak, .int .i64 an, .string am, .slice aa al ac, .int .i64 bk, .int .i64 bn, .string bm, .slice ba bl bc, .int .i64 ak, .int .i64 an, .string am, .slice aa al ac] 31)).alloc (.cells #[.int .i64 ak, .int .i64 an, .string am, .slice aa al ac, .int .i64 bk, .int .i64 bn, .string bm, .slice ba bl bc, .int .i64 ak, .int .i64 an, .string am, .slice aa al ac] 31)) (by simp)) (by simp)) (by first | exact heap_alloc_new _ _ | exact HN0T.out | exact HN1T.out)).mono ?_
        rintro e wq ⟨ta, tc, rfl, hrt, hq⟩
        go_wp2_with fail
        refine hK.out _ _ ((HB7.out.trans (((Keep.refl [] wt).alloc (.cells #[.int .i64 ak, .int .i64 an, .string am, .slice aa al ac, .int .i64 bk, .int .i64 bn, .string bm, .slice ba bl bc, .int .i64 ak, .int .i64 an, .string am, .slice aa al ac] 31)).alloc (.cells #[.int .i64 ak, .int .i64 an, .string am, .slice aa al ac, .int .i64 bk, .int .i64 bn, .string bm, .slice ba bl bc, .int .i64 ak, .int .i64 an, .string am, .slice aa al ac] 31)) (by simp)).trans hq (by simp)) (fun hHeld => ?_)
        clear hK K
        try simp only [Act.put, List.setIfInBounds_toArray, List.set_cons_zero, List.set_cons_succ]
        refine hcut _ _ ?_
        exact CutF.mk rfl ⟨rfl, rfl, rfl, rfl, rfl, rfl, rfl, ta, tc, (wt.heap.size + 1), rfl, (hrt.keep0 (Keep.refl [] wq)).up (by have := ((Keep.refl [] wq)).size; omega), rfl, (hq.block _ (by simp) (by simp)).trans (HN1T.out), (HB7.out.trans (((Keep.refl [] wt).alloc (.cells #[.int .i64 ak, .int .i64 an, .string am, .slice aa al ac, .int .i64 bk, .int .i64 bn, .string bm, .slice ba bl bc, .int .i64 ak, .int .i64 an, .string am, .slice aa al ac] 31)).alloc (.cells #[.int .i64 ak, .int .i64 an, .string am, .slice aa al ac, .int .i64 bk, .int .i64 bn, .string bm, .slice ba bl bc, .int .i64 ak, .int .i64 an, .string am, .slice aa al ac] 31)) (by simp)).trans hq (by simp)⟩
    · go_simp
      refine hK.out _ _ (HB7.out.trans ((Keep.refl [] wt).alloc (.cells #[.int .i64 ak, .int .i64 an, .string am, .slice aa al ac, .int .i64 bk, .int .i64 bn, .string bm, .slice ba bl bc, .int .i64 ak, .int .i64 an, .string am, .slice aa al ac] 31)) (by simp)) (fun hHeld => ?_)
      clear hK K
      try simp only [Act.put, List.setIfInBounds_toArray, List.set_cons_zero, List.set_cons_succ]
      refine wpAnyH_ready (rs := [44]) (by kernel_rfl) (by simp) ?_
      refine AllReadyH.consL rfl (fun K hK => ?_) (AllReadyH.nil)
      go_simp
      refine hK.out _ _ (HB7.out.trans (((Keep.refl [] wt).alloc (.cells #[.int .i64 ak, .int .i64 an, .string am, .slice aa al ac, .int .i64 bk, .int .i64 bn, .string bm, .slice ba bl bc, .int .i64 ak, .int .i64 an, .string am, .slice aa al ac] 31)).alloc (.cells #[.int .i64 ak, .int .i64 an, .string am, .slice aa al ac, .int .i64 bk, .int .i64 bn, .string bm, .slice ba bl bc, .int .i64 ak, .int .i64 an, .string am, .slice aa al ac] 31)) (by simp)) (fun hHeld => ?_)
      clear hK K
      try simp only [Act.put, List.setIfInBounds_toArray, List.set_cons_zero, List.set_cons_succ]
      refine wpAnyH_ready (rs := [45]) (by kernel_rfl) (by simp) ?_
      refine AllReadyH.consL rfl (fun K hK => ?_) (AllReadyH.nil)
      go_simp
      refine (HTP.out ((wt.alloc (.cells #[.int .i64 ak, .int .i64 an, .string am, .slice aa al ac, .int .i64 bk, .int .i64 bn, .string bm, .slice ba bl bc, .int .i64 ak, .int .i64 an, .string am, .slice aa al ac] 31)).alloc (.cells #[.int .i64 ak, .int .i64 an, .string am, .slice aa al ac, .int .i64 bk, .int .i64 bn, .string bm, .slice ba bl bc, .int .i64 ak, .int .i64 an, .string am, .slice aa al ac] 31)) (wt.heap.size + 1) (HK7.out.trans (HB7.out.trans (((Keep.refl [] wt).alloc (.cells #[.int .i64 ak, .int .i64 an, .string am, .slice aa al ac, .int .i64 bk, .int .i64 bn, .string bm, .slice ba bl bc, .int .i64 ak, .int .i64 an, .string am, .slice aa al ac] 31)).alloc (.cells #[.int .i64 ak, .int .i64 an, .string am, .slice aa al ac, .int .i64 bk, .int .i64 bn, .string bm, .slice ba bl bc, .int .i64 ak, .int .i64 an, .string am, .slice aa al ac] 31)) (by simp)) (by simp)) (by first | exact heap_alloc_new _ _ | exact HN0T.out | exact HN1T.out)).mono ?_
      rintro e wq ⟨ta, tc, rfl, hrt, hq⟩
      go_wp2_with fail
      refine hK.out _ _ ((HB7.out.trans (((Keep.refl [] wt).alloc (.cells #[.int .i64 ak, .int .i64 an, .string am, .slice aa al ac, .int .i64 bk, .int .i64 bn, .string bm, .slice ba bl bc, .int .i64 ak, .int .i64 an, .string am, .slice aa al ac] 31)).alloc (.cells #[.int .i64 ak, .int .i64 an, .string am, .slice aa al ac, .int .i64 bk, .int .i64 bn, .string bm, .slice ba bl bc, .int .i64 ak, .int .i64 an, .string am, .slice aa al ac] 31)) (by simp)).trans hq (by simp)) (fun hHeld => ?_)
      clear hK K
      try simp only [Act.put, List.setIfInBounds_toArray, List.set_cons_zero, List.set_cons_succ]
      refine hcut _ _ ?_
      exact CutF.mk rfl ⟨rfl, rfl, rfl, rfl, rfl, rfl, rfl, ta, tc, wt.heap.size, rfl, (hrt.keep0 (Keep.refl [] wq)).up (by have := ((Keep.refl [] wq)).size; omega), rfl, (hq.block _ (by simp <;> omega) (by simp)).trans (HN0T.out), (HB7.out.trans (((Keep.refl [] wt).alloc (.cells #[.int .i64 ak, .int .i64 an, .string am, .slice aa al ac, .int .i64 bk, .int .i64 bn, .string bm, .slice ba bl bc, .int .i64 ak, .int .i64 an, .string am, .slice aa al ac] 31)).alloc (.cells #[.int .i64 ak, .int .i64 an, .string am, .slice aa al ac, .int .i64 bk, .int .i64 bn, .string bm, .slice ba bl bc, .int .i64 ak, .int .i64 an, .string am, .slice aa al ac] 31)) (by simp)).trans hq (by simp)⟩
  case restT =>
    intro a' W hc
    obtain ⟨f, rfl, h4, h5, h9, h10, h11, h12, h88, hu⟩ := hc.lit
    rw [show ((List.range 147).map f).toArray = #[f 0, f 1, f 2, f 3, f 4, f 5, f 6, f 7, f 8, f 9, f 10, f 11, f 12, f 13, f 14, f 15, f 16, f 17, f 18, f 19, f 20, f 21, f 22, f 23, f 24, f 25, f 26, f 27, f 28, f 29, f 30, f 31, f 32, f 33, f 34, f 35, f 36, f 37, f 38, f 39, f 40, f 41, f 42, f 43, f 44, f 45, f 46, f 47, f 48, f 49, f 50, f 51, f 52, f 53, f 54, f 55, f 56, f 57, f 58, f 59, f 60, f 61, f 62, f 63, f 64, f 65, f 66, f 67, f 68, f 69, f 70, f 71, f 72, f 73, f 74, f 75, f 76, f 77, f 78, f 79, f 80, f 81, f 82, f 83, f 84, f 85, f 86, f 87, f 88, f 89, f 90, f 91, f 92, f 93, f 94, f 95, f 96, f 97, f 98, f 99, f 100, f 101, f 102, f 103, f 104, f 105, f 106, f 107, f 108, f 109, f 110, f 111, f 112, f 113, f 114, f 115, f 116, f 117, f 118, f 119, f 120, f 121, f 122, f 123, f 124, f 125, f 126, f 127, f 128, f 129, f 130, f 131, f 132, f 133, f 134, f 135, f 136, f 137, f 138, f 139, f 140, f 141, f 142, f 143, f 144, f 145, f 146] from rfl]
    rw [h4, h5, h9, h10, h11, h12, h88]
    clear hc h4 h5 h9 h10 h11 h12 h88
    obtain ⟨ta, tc, tb, h93, hrt, h97, hb, hkw⟩ := hu
    rw [h93, h97]
    have HRT := Lib.hid hrt
    have HW := Lib.hid hkw
    have HBT := Lib.hid hb
    have hHeld : Keep [] w7 W := HW.out
    clear h93 h97 hrt hb hkw
    refine wpAnyH_ready (rs := [50]) (by kernel_rfl) (by simp) ?_
    refine AllReadyH.consL rfl (fun K hK => ?_) AllReadyH.nil
    go_simp
    refine (HTR.out W tb (HK7.out.trans HW.out (by simp)) HBT.out).mono ?_
    rintro e wc1 ⟨va, vc, rfl, hr2, hc1⟩
    have HC1 := Lib.hid (HW.out.trans hc1 (by simp))
    have HH1 := Lib.hid hc1
    clear hc1
    have HR2 := Lib.hid hr2
    clear hr2
    go_wp2_with fail
    refine hK.out _ _ HC1.out (fun hHeld2 => ?_)
    clear hK K hHeld
    have hHeld := hHeld2
    clear hHeld2
    try simp only [Act.put, List.setIfInBounds_toArray, List.set_cons_zero, List.set_cons_succ]
    have hsc := same_of (HRT.out.keep0 HH1.out) HR2.out (cmp_iv _ _ _ _ _ _)
    unfold aggTm at hsc
    have HSC := Lib.hid hsc
    clear hsc HRT HR2
    refine wpAnyH_ready (rs := [51]) (by kernel_rfl) (by simp) ?_
    refine AllReadyH.consL rfl (fun K hK => ?_) AllReadyH.nil
    go_simp
    refine (HSC.out).mono ?_
    rintro e wc2 ⟨rfl, hc2⟩
    have HC2 := Lib.hid (HC1.out.trans hc2 (by simp))
    have HH2 := Lib.hid hc2
    clear hc2
    go_wp2_with fail
    refine hK.out _ _ HC2.out (fun hHeld2 => ?_)
    clear hK K hHeld
    have hHeld := hHeld2
    clear hHeld2
    try simp only [Act.put, List.setIfInBounds_toArray, List.set_cons_zero, List.set_cons_succ]
    refine wpAnyH_takeL (i := 52) (v := .bool true) rfl (by kernel_rfl) (by kernel_rfl) (by kernel_rfl) (fun _ _ _ h => h) (Or.inl ⟨by kernel_rfl, ?runU52⟩) hHeld ?_
    case runU52 => (intro w9 hS9; obtain ⟨⟨a0, a1, a2, a3⟩, b0, b1, b2, b3⟩ := HSS.out w9 (HL7.out.trans hS9 (by simp)); go_simp; first | done | exact rfl | (simp [*]; done) | (simp; omega))
    try simp only [Act.put, List.setIfInBounds_toArray, List.set_cons_zero, List.set_cons_succ]
    refine wpAnyH_takeL (i := 53) (v := ?vU53) rfl (by kernel_rfl) (by kernel_rfl) (by kernel_rfl) (fun _ _ _ h => h) (Or.inl ⟨by kernel_rfl, ?runU53⟩) hHeld ?_
    case runU53 => (intro w9 hS9; obtain ⟨⟨a0, a1, a2, a3⟩, b0, b1, b2, b3⟩ := HSS.out w9 (HL7.out.trans hS9 (by simp)); go_simp; try exact rfl)
    try simp only [Act.put, List.setIfInBounds_toArray, List.set_cons_zero, List.set_cons_succ]
    refine wpAnyH_takeL (i := 54) (v := ?vU54) rfl (by kernel_rfl) (by kernel_rfl) (by kernel_rfl) (fun _ _ _ h => h) (Or.inl ⟨by kernel_rfl, ?runU54⟩) hHeld ?_
    case runU54 => (intro w9 hS9; obtain ⟨⟨a0, a1, a2, a3⟩, b0, b1, b2, b3⟩ := HSS.out w9 (HL7.out.trans hS9 (by simp)); go_simp; try exact rfl)
    try simp only [Act.put, List.setIfInBounds_toArray, List.set_cons_zero, List.set_cons_succ]
    refine wpAnyH_takeL (i := 55) (v := ?vU55) rfl (by kernel_rfl) (by kernel_rfl) (by kernel_rfl) (fun _ _ _ h => h) (Or.inl ⟨by kernel_rfl, ?runU55⟩) hHeld ?_
    case runU55 => (intro w9 hS9; obtain ⟨⟨a0, a1, a2, a3⟩, b0, b1, b2, b3⟩ := HSS.out w9 (HL7.out.trans hS9 (by simp)); go_simp; try exact rfl)
    try simp only [Act.put, List.setIfInBounds_toArray, List.set_cons_zero, List.set_cons_succ]
    refine wpAnyH_takeL (i := 58) (v := ?vU58) rfl (by kernel_rfl) (by kernel_rfl) (by kernel_rfl) (fun _ _ _ h => h) (Or.inl ⟨by kernel_rfl, ?runU58⟩) hHeld ?_
    case runU58 => (intro w9 hS9; obtain ⟨⟨a0, a1, a2, a3⟩, b0, b1, b2, b3⟩ := HSS.out w9 (HL7.out.trans hS9 (by simp)); go_simp; try exact rfl)
    try simp only [Act.put, List.setIfInBounds_toArray, List.set_cons_zero, List.set_cons_succ]
    refine wpAnyH_takeL (i := 59) (v := ?vU59) rfl (by kernel_rfl) (by kernel_rfl) (by kernel_rfl) (fun _ _ _ h => h) (Or.inl ⟨by kernel_rfl, ?runU59⟩) hHeld ?_
    case runU59 => (intro w9 hS9; obtain ⟨⟨a0, a1, a2, a3⟩, b0, b1, b2, b3⟩ := HSS.out w9 (HL7.out.trans hS9 (by simp)); go_simp; try exact rfl)
    try simp only [Act.put, List.setIfInBounds_toArray, List.set_cons_zero, List.set_cons_succ]
    have HB7b := Lib.hid HC2.out
    clear HB7
    have HB7 := HB7b
    clear HB7b
    clear HC1 HH1
    clear HC2 HH2
    clear HW HBT HN0T HN1T
    generalize wc2 = wu at *
    have HN0L : Hid (((wu.alloc (.cells #[.int .i64 ak, .int .i64 an, .string am, .slice aa al ac, .int .i64 bk, .int .i64 bn, .string bm, .slice ba bl bc] 31)).alloc (.cells #[.int .i64 ak, .int .i64 an, .string am, .slice aa al ac, .int .i64 bk, .int .i64 bn, .string bm, .slice ba bl bc] 31)).heap[wu.heap.size]? = some (.cells #[.int .i64 ak, .int .i64 an, .string am, .slice aa al ac, .int .i64 bk, .int .i64 bn, .string bm, .slice ba bl bc] 31)) := by rw [heap_alloc_old _ _ (by simp)]; exact heap_alloc_new _ _
    have HN1L : Hid (((wu.alloc (.cells #[.int .i64 ak, .int .i64 an, .string am, .slice aa al ac, .int .i64 bk, .int .i64 bn, .string bm, .slice ba bl bc] 31)).alloc (.cells #[.int .i64 ak, .int .i64 an, .string am, .slice aa al ac, .int .i64 bk, .int .i64 bn, .string bm, .slice ba bl bc] 31)).heap[wu.heap.size + 1]? = some (.cells #[.int .i64 ak, .int .i64 an, .string am, .slice aa al ac, .int .i64 bk, .int .i64 bn, .string bm, .slice ba bl bc] 31)) := by
      have h := heap_alloc_new (wu.alloc (.cells #[.int .i64 ak, .int .i64 an, .string am, .slice aa al ac, .int .i64 bk, .int .i64 bn, .string bm, .slice ba bl bc] 31)) (.cells #[.int .i64 ak, .int .i64 an, .string am, .slice aa al ac, .int .i64 bk, .int .i64 bn, .string bm, .slice ba bl bc] 31)
      rw [show (wu.alloc (.cells #[.int .i64 ak, .int .i64 an, .string am, .slice aa al ac, .int .i64 bk, .int .i64 bn, .string bm, .slice ba bl bc] 31)).heap.size = wu.heap.size + 1 from by simp] at h
      exact Lib.hid h
    refine wpAnyH_cut (P := Tryd.prog) (md := ?mdL) (ops := ?opsL) (Q := ?QL) (S := ?SL) (fuel := ?fuelL) (listed := ?listedL) (n := 147) (R := fun f W => f 4 = (.pointer (some ⟨w.heap.size, 0, none⟩)) ∧ f 5 = (.pointer (some ⟨w.heap.size + 1, 0, none⟩)) ∧ f 9 = iv1 ∧ f 10 = (.bool kb) ∧ f 11 = iv2 ∧ f 12 = (.bool kb) ∧ f 101 = (.bool true) ∧ ∃ u1 xa xl xc b, (f 105) = .agg #[.int .i64 u1.kind, .int .i64 u1.num, .string u1.name, .slice xa xl xc] ∧ u1.iv = .slice xa xl xc ∧ IsL [a, bt] u1 ∧ RdTm W.heap.size W u1 ∧ (f 108) = .slice (some ⟨b, 0, none⟩) 2 2 ∧ W.heap[b]? = some (.cells #[.int .i64 ak, .int .i64 an, .string am, .slice aa al ac, .int .i64 bk, .int .i64 bn, .string bm, .slice ba bl bc] 31) ∧ Keep [] w7 W) (fun hcut => ?firstL) ?restL
    case firstL =>
      refine wpAnyH_ready (rs := [56, 60]) (by kernel_rfl) (by simp) ?_
      refine AllReadyH.consL rfl (fun K hK => ?_) (AllReadyH.consL rfl (fun K hK => ?_) (AllReadyH.nil))
      · go_simp
        refine hK.out _ _ (HB7.out.trans ((Keep.refl [] wu).alloc (.cells #[.int .i64 ak, .int .i64 an, .string am, .slice aa al ac, .int .i64 bk, .int .i64 bn, .string bm, .slice ba bl bc] 31)) (by simp)) (fun hHeld => ?_)
        clear hK K
        try simp only [Act.put, List.setIfInBounds_toArray, List.set_cons_zero, List.set_cons_succ]
        refine wpAnyH_ready (rs := [57, 60]) (by kernel_rfl) (by simp) ?_
        refine AllReadyH.consL rfl (fun K hK => ?_) (AllReadyH.consL rfl (fun K hK => ?_) (AllReadyH.nil))
        · skip
          go_simp
          refine (HLP.out (wu.alloc (.cells #[.int .i64 ak, .int .i64 an, .string am, .slice aa al ac, .int .i64 bk, .int .i64 bn, .string bm, .slice ba bl bc] 31)) wu.heap.size (HK7.out.trans (HB7.out.trans ((Keep.refl [] wu).alloc (.cells #[.int .i64 ak, .int .i64 an, .string am, .slice aa al ac, .int .i64 bk, .int .i64 bn, .string bm, .slice ba bl bc] 31)) (by simp)) (by simp)) (by first | exact heap_alloc_new _ _ | exact HN0L.out | exact HN1L.out)).mono ?_
          rintro e wq ⟨u1, xa, xl, xc, rfl, hu1, hil1, hrt, hq⟩
          go_wp2_with fail
          refine hK.out _ _ ((HB7.out.trans ((Keep.refl [] wu).alloc (.cells #[.int .i64 ak, .int .i64 an, .string am, .slice aa al ac, .int .i64 bk, .int .i64 bn, .string bm, .slice ba bl bc] 31)) (by simp)).trans hq (by simp)) (fun hHeld => ?_)
          clear hK K
          try simp only [Act.put, List.setIfInBounds_toArray, List.set_cons_zero, List.set_cons_succ]
          refine wpAnyH_ready (rs := [60]) (by kernel_rfl) (by simp) ?_
          refine AllReadyH.consL rfl (fun K hK => ?_) (AllReadyH.nil)
          go_simp
          refine hK.out _ _ (((HB7.out.trans ((Keep.refl [] wu).alloc (.cells #[.int .i64 ak, .int .i64 an, .string am, .slice aa al ac, .int .i64 bk, .int .i64 bn, .string bm, .slice ba bl bc] 31)) (by simp)).trans hq (by simp)).alloc (.cells #[.int .i64 ak, .int .i64 an, .string am, .slice aa al ac, .int .i64 bk, .int .i64 bn, .string bm, .slice ba bl bc] 31)) (fun hHeld => ?_)
          clear hK K
          try simp only [Act.put, List.setIfInBounds_toArray, List.set_cons_zero, List.set_cons_succ]
          refine hcut _ _ ?_
          exact CutF.mk rfl ⟨rfl, rfl, rfl, rfl, rfl, rfl, rfl, u1, xa, xl, xc, wq.heap.size, rfl, hu1, hil1, (hrt.keep0 ((Keep.refl [] wq).alloc (.cells #[.int .i64 ak, .int .i64 an, .string am, .slice aa al ac, .int .i64 bk, .int .i64 bn, .string bm, .slice ba bl bc] 31))).up (by have := (((Keep.refl [] wq).alloc (.cells #[.int .i64 ak, .int .i64 an, .string am, .slice aa al ac, .int .i64 bk, .int .i64 bn, .string bm, .slice ba bl bc] 31))).size; omega), rfl, heap_alloc_new wq (.cells #[.int .i64 ak, .int .i64 an, .string am, .slice aa al ac, .int .i64 bk, .int .i64 bn, .string bm, .slice ba bl bc] 31), ((HB7.out.trans ((Keep.refl [] wu).alloc (.cells #[.int .i64 ak, .int .i64 an, .string am, .slice aa al ac, .int .i64 bk, .int .i64 bn, .string bm, .slice ba bl bc] 31)) (by simp)).trans hq (by simp)).alloc (.cells #[.int .i64 ak, .int .i64 an, .string am, .slice aa al ac, .int .i64 bk, .int .i64 bn, .string bm, .slice ba bl bc] 31)⟩
        · go_simp
          refine hK.out _ _ (HB7.out.trans (((Keep.refl [] wu).alloc (.cells #[.int .i64 ak, .int .i64 an, .string am, .slice aa al ac, .int .i64 bk, .int .i64 bn, .string bm, .slice ba bl bc] 31)).alloc (.cells #[.int .i64 ak, .int .i64 an, .string am, .slice aa al ac, .int .i64 bk, .int .i64 bn, .string bm, .slice ba bl bc] 31)) (by simp)) (fun hHeld => ?_)
          clear hK K
          try simp only [Act.put, List.setIfInBounds_toArray, List.set_cons_zero, List.set_cons_succ]
          refine wpAnyH_ready (rs := [57]) (by kernel_rfl) (by simp) ?_
          refine AllReadyH.consL rfl (fun K hK => ?_) (AllReadyH.nil)
          go_simp
          refine (HLP.out ((wu.alloc (.cells #[.int .i64 ak, .int .i64 an, .string am, .slice aa al ac, .int .i64 bk, .int .i64 bn, .string bm, .slice ba bl bc] 31)).alloc (.cells #[.int .i64 ak, .int .i64 an, .string am, .slice aa al ac, .int .i64 bk, .int .i64 bn, .string bm, .slice ba bl bc] 31)) wu.heap.size (HK7.out.trans (HB7.out.trans (((Keep.refl [] wu).alloc (.cells #[.int .i64 ak, .int .i64 an, .string am, .slice aa al ac, .int .i64 bk, .int .i64 bn, .string bm, .slice ba bl bc] 31)).alloc (.cells #[.int .i64 ak, .int .i64 an, .string am, .slice aa al ac, .int .i64 bk, .int .i64 bn, .string bm, .slice ba bl bc] 31)) (by simp)) (by simp)) (by first | exact heap_alloc_new _ _ | exact HN0L.out | exact HN1L.out)).mono ?_
          rintro e wq ⟨u1, xa, xl, xc, rfl, hu1, hil1, hrt, hq⟩
          go_wp2_with fail
          refine hK.out _ _ ((HB7.out.trans (((Keep.refl [] wu).alloc (.cells #[.int .i64 ak, .int .i64 an, .string am, .slice aa al ac, .int .i64 bk, .int .i64 bn, .string bm, .slice ba bl bc] 31)).alloc (.cells #[.int .i64 ak, .int .i64 an, .string am, .slice aa al ac, .int .i64 bk, .int .i64 bn, .string bm, .slice ba bl bc] 31)) (by simp)).trans hq (by simp)) (fun hHeld => ?_)
          clear hK K
          try simp only [Act.put, List.setIfInBounds_toArray, List.set_cons_zero, List.set_cons_succ]
          refine hcut _ _ ?_
          exact CutF.mk rfl ⟨rfl, rfl, rfl, rfl, rfl, rfl, rfl, u1, xa, xl, xc, (wu.heap.size + 1), rfl, hu1, hil1, (hrt.keep0 (Keep.refl [] wq)).up (by have := ((Keep.refl [] wq)).size; omega), rfl, (hq.block _ (by simp) (by simp)).trans (HN1L.out), (HB7.out.trans (((Keep.refl [] wu).alloc (.cells #[.int .i64 ak, .int .i64 an, .string am, .slice aa al ac, .int .i64 bk, .int .i64 bn, .string bm, .slice ba bl bc] 31)).alloc (.cells #[.int .i64 ak, .int .i64 an, .string am, .slice aa al ac, .int .i64 bk, .int .i64 bn, .string bm, .slice ba bl bc] 31)) (by simp)).trans hq (by simp)⟩
      · go_simp
        refine hK.out _ _ (HB7.out.trans ((Keep.refl [] wu).alloc (.cells #[.int .i64 ak, .int .i64 an, .string am, .slice aa al ac, .int .i64 bk, .int .i64 bn, .string bm, .slice ba bl bc] 31)) (by simp)) (fun hHeld => ?_)
        clear hK K
        try simp only [Act.put, List.setIfInBounds_toArray, List.set_cons_zero, List.set_cons_succ]
        refine wpAnyH_ready (rs := [56]) (by kernel_rfl) (by simp) ?_
        refine AllReadyH.consL rfl (fun K hK => ?_) (AllReadyH.nil)
        go_simp
        refine hK.out _ _ (HB7.out.trans (((Keep.refl [] wu).alloc (.cells #[.int .i64 ak, .int .i64 an, .string am, .slice aa al ac, .int .i64 bk, .int .i64 bn, .string bm, .slice ba bl bc] 31)).alloc (.cells #[.int .i64 ak, .int .i64 an, .string am, .slice aa al ac, .int .i64 bk, .int .i64 bn, .string bm, .slice ba bl bc] 31)) (by simp)) (fun hHeld => ?_)
        clear hK K
        try simp only [Act.put, List.setIfInBounds_toArray, List.set_cons_zero, List.set_cons_succ]
        refine wpAnyH_ready (rs := [57]) (by kernel_rfl) (by simp) ?_
        refine AllReadyH.consL rfl (fun K hK => ?_) (AllReadyH.nil)
        go_simp
        refine (HLP.out ((wu.alloc (.cells #[.int .i64 ak, .int .i64 an, .string am, .slice aa al ac, .int .i64 bk, .int .i64 bn, .string bm, .slice ba bl bc] 31)).alloc (.cells #[.int .i64 ak, .int .i64 an, .string am, .slice aa al ac, .int .i64 bk, .int .i64 bn, .string bm, .slice ba bl bc] 31)) (wu.heap.size + 1) (HK7.out.trans (HB7.out.trans (((Keep.refl [] wu).alloc (.cells #[.int .i64 ak, .int .i64 an, .string am, .slice aa al ac, .int .i64 bk, .int .i64 bn, .string bm, .slice ba bl bc] 31)).alloc (.cells #[.int .i64 ak, .int .i64 an, .string am, .slice aa al ac, .int .i64 bk, .int .i64 bn, .string bm, .slice ba bl bc] 31)) (by simp)) (by simp)) (by first | exact heap_alloc_new _ _ | exact HN0L.out | exact HN1L.out)).mono ?_
        rintro e wq ⟨u1, xa, xl, xc, rfl, hu1, hil1, hrt, hq⟩
        go_wp2_with fail
        refine hK.out _ _ ((HB7.out.trans (((Keep.refl [] wu).alloc (.cells #[.int .i64 ak, .int .i64 an, .string am, .slice aa al ac, .int .i64 bk, .int .i64 bn, .string bm, .slice ba bl bc] 31)).alloc (.cells #[.int .i64 ak, .int .i64 an, .string am, .slice aa al ac, .int .i64 bk, .int .i64 bn, .string bm, .slice ba bl bc] 31)) (by simp)).trans hq (by simp)) (fun hHeld => ?_)
        clear hK K
        try simp only [Act.put, List.setIfInBounds_toArray, List.set_cons_zero, List.set_cons_succ]
        refine hcut _ _ ?_
        exact CutF.mk rfl ⟨rfl, rfl, rfl, rfl, rfl, rfl, rfl, u1, xa, xl, xc, wu.heap.size, rfl, hu1, hil1, (hrt.keep0 (Keep.refl [] wq)).up (by have := ((Keep.refl [] wq)).size; omega), rfl, (hq.block _ (by simp <;> omega) (by simp)).trans (HN0L.out), (HB7.out.trans (((Keep.refl [] wu).alloc (.cells #[.int .i64 ak, .int .i64 an, .string am, .slice aa al ac, .int .i64 bk, .int .i64 bn, .string bm, .slice ba bl bc] 31)).alloc (.cells #[.int .i64 ak, .int .i64 an, .string am, .slice aa al ac, .int .i64 bk, .int .i64 bn, .string bm, .slice ba bl bc] 31)) (by simp)).trans hq (by simp)⟩
    case restL =>
      intro a' W hc
      obtain ⟨f, rfl, h4, h5, h9, h10, h11, h12, h101, hu⟩ := hc.lit
      rw [show ((List.range 147).map f).toArray = #[f 0, f 1, f 2, f 3, f 4, f 5, f 6, f 7, f 8, f 9, f 10, f 11, f 12, f 13, f 14, f 15, f 16, f 17, f 18, f 19, f 20, f 21, f 22, f 23, f 24, f 25, f 26, f 27, f 28, f 29, f 30, f 31, f 32, f 33, f 34, f 35, f 36, f 37, f 38, f 39, f 40, f 41, f 42, f 43, f 44, f 45, f 46, f 47, f 48, f 49, f 50, f 51, f 52, f 53, f 54, f 55, f 56, f 57, f 58, f 59, f 60, f 61, f 62, f 63, f 64, f 65, f 66, f 67, f 68, f 69, f 70, f 71, f 72, f 73, f 74, f 75, f 76, f 77, f 78, f 79, f 80, f 81, f 82, f 83, f 84, f 85, f 86, f 87, f 88, f 89, f 90, f 91, f 92, f 93, f 94, f 95, f 96, f 97, f 98, f 99, f 100, f 101, f 102, f 103, f 104, f 105, f 106, f 107, f 108, f 109, f 110, f 111, f 112, f 113, f 114, f 115, f 116, f 117, f 118, f 119, f 120, f 121, f 122, f 123, f 124, f 125, f 126, f 127, f 128, f 129, f 130, f 131, f 132, f 133, f 134, f 135, f 136, f 137, f 138, f 139, f 140, f 141, f 142, f 143, f 144, f 145, f 146] from rfl]
      rw [h4, h5, h9, h10, h11, h12, h101]
      clear hc h4 h5 h9 h10 h11 h12 h101
      obtain ⟨u1, xa, xl, xc, tb, h105, hu1, hil1, hrt, h108, hb, hkw⟩ := hu
      rw [h105, h108]
      have HRT := Lib.hid hrt
      have HIL1 := Lib.hid hil1
      have HU1 := Lib.hid hu1
      have HW := Lib.hid hkw
      have HBT := Lib.hid hb
      have hHeld : Keep [] w7 W := HW.out
      clear h105 h108 hrt hb hkw hu1 hil1
      refine wpAnyH_ready (rs := [61]) (by kernel_rfl) (by simp) ?_
      refine AllReadyH.consL rfl (fun K hK => ?_) AllReadyH.nil
      go_simp
      refine (HLR.out W tb (HK7.out.trans HW.out (by simp)) HBT.out).mono ?_
      rintro e wc1 ⟨u2, ya, yl, yc, rfl, hu2, hil2, hr2, hc1⟩
      have HC1 := Lib.hid (HW.out.trans hc1 (by simp))
      have HH1 := Lib.hid hc1
      clear hc1
      have HR2 := Lib.hid hr2
      clear hr2
      have HIL2 := Lib.hid hil2
      clear hil2
      have HU2 := Lib.hid hu2
      clear hu2
      go_wp2_with fail
      refine hK.out _ _ HC1.out (fun hHeld2 => ?_)
      clear hK K hHeld
      have hHeld := hHeld2
      clear hHeld2
      try simp only [Act.put, List.setIfInBounds_toArray, List.set_cons_zero, List.set_cons_succ]
      have hsc := same_of (HRT.out.keep0 HH1.out) HR2.out (IsL.cmp HIL1.out HIL2.out)
      unfold aggTm at hsc
      rw [HU1.out, HU2.out] at hsc
      have HSC := Lib.hid hsc
      clear hsc HRT HR2
      refine wpAnyH_ready (rs := [62]) (by kernel_rfl) (by simp) ?_
      refine AllReadyH.consL rfl (fun K hK => ?_) AllReadyH.nil
      go_simp
      refine (HSC.out).mono ?_
      rintro e wc2 ⟨rfl, hc2⟩
      have HC2 := Lib.hid (HC1.out.trans hc2 (by simp))
      have HH2 := Lib.hid hc2
      clear hc2
      go_wp2_with fail
      refine hK.out _ _ HC2.out (fun hHeld2 => ?_)
      clear hK K hHeld
      have hHeld := hHeld2
      clear hHeld2
      try simp only [Act.put, List.setIfInBounds_toArray, List.set_cons_zero, List.set_cons_succ]
      refine wpAnyH_takeL (i := 63) (v := .bool true) rfl (by kernel_rfl) (by kernel_rfl) (by kernel_rfl) (fun _ _ _ h => h) (Or.inl ⟨by kernel_rfl, ?runV63⟩) hHeld ?_
      case runV63 => (intro w9 hS9; obtain ⟨⟨a0, a1, a2, a3⟩, b0, b1, b2, b3⟩ := HSS.out w9 (HL7.out.trans hS9 (by simp)); go_simp; first | done | exact rfl | (simp [*]; done) | (simp; omega))
      try simp only [Act.put, List.setIfInBounds_toArray, List.set_cons_zero, List.set_cons_succ]
      refine wpAnyH_takeL (i := 64) (v := ?vV64) rfl (by kernel_rfl) (by kernel_rfl) (by kernel_rfl) (fun _ _ _ h => h) (Or.inl ⟨by kernel_rfl, ?runV64⟩) hHeld ?_
      case runV64 => (intro w9 hS9; obtain ⟨⟨a0, a1, a2, a3⟩, b0, b1, b2, b3⟩ := HSS.out w9 (HL7.out.trans hS9 (by simp)); go_simp; try exact rfl)
      try simp only [Act.put, List.setIfInBounds_toArray, List.set_cons_zero, List.set_cons_succ]
      refine wpAnyH_ready (rs := [65]) (by kernel_rfl) (by simp) ?_
      refine AllReadyH.consL rfl (fun K hK => ?_) AllReadyH.nil
      go_simp
      refine (HLN.out _ (HK7.out.trans HC2.out (by simp))).mono ?_
      rintro e wc3 ⟨nv, rfl, hr3, hc3⟩
      have HC3 := Lib.hid (HC2.out.trans hc3 (by simp))
      have HH3 := Lib.hid hc3
      clear hc3
      have HR3 := Lib.hid hr3
      clear hr3
      go_wp2_with fail
      refine hK.out _ _ HC3.out (fun hHeld2 => ?_)
      clear hK K hHeld
      have hHeld := hHeld2
      clear hHeld2
      try simp only [Act.put, List.setIfInBounds_toArray, List.set_cons_zero, List.set_cons_succ]
      refine wpAnyH_ready (rs := [66]) (by kernel_rfl) (by simp) ?_
      refine AllReadyH.consL rfl (fun K hK => ?_) AllReadyH.nil
      go_simp
      refine (r_nil _).mono ?_
      rintro e wc4 ⟨rfl, hc4⟩
      have HC4 := Lib.hid (HC3.out.trans hc4 (by simp))
      have HH4 := Lib.hid hc4
      clear hc4
      go_wp2_with fail
      refine hK.out _ _ HC4.out (fun hHeld2 => ?_)
      clear hK K hHeld
      have hHeld := hHeld2
      clear hHeld2
      try simp only [Act.put, List.setIfInBounds_toArray, List.set_cons_zero, List.set_cons_succ]
      have hsc := same_of (B' := 0) (t := leaf 7 0 ⟨#[]⟩) (HR3.out.keep0 HH4.out) (leaf_rd (by omega) (by omega) (by simp [ByteArray.size])) (cmp_iv _ _ _ _ _ _)
      unfold aggTm leaf at hsc
      have HSD := Lib.hid hsc
      clear hsc HR3
      refine wpAnyH_ready (rs := [67]) (by kernel_rfl) (by simp) ?_
      refine AllReadyH.consL rfl (fun K hK => ?_) AllReadyH.nil
      go_simp
      refine (HSD.out).mono ?_
      rintro e wc5 ⟨rfl, hc5⟩
      have HC5 := Lib.hid (HC4.out.trans hc5 (by simp))
      have HH5 := Lib.hid hc5
      clear hc5
      go_wp2_with fail
      refine hK.out _ _ HC5.out (fun hHeld2 => ?_)
      clear hK K hHeld
      have hHeld := hHeld2
      clear hHeld2
      try simp only [Act.put, List.setIfInBounds_toArray, List.set_cons_zero, List.set_cons_succ]
      refine wpAnyH_takeL (i := 68) (v := .bool true) rfl (by kernel_rfl) (by kernel_rfl) (by kernel_rfl) (fun _ _ _ h => h) (Or.inl ⟨by kernel_rfl, ?runV68⟩) hHeld ?_
      case runV68 => (intro w9 hS9; obtain ⟨⟨a0, a1, a2, a3⟩, b0, b1, b2, b3⟩ := HSS.out w9 (HL7.out.trans hS9 (by simp)); go_simp; first | done | exact rfl | (simp [*]; done) | (simp; omega))
      try simp only [Act.put, List.setIfInBounds_toArray, List.set_cons_zero, List.set_cons_succ]
      refine wpAnyH_ready (rs := [69]) (by kernel_rfl) (by simp) ?_
      refine AllReadyH.consL rfl (fun K hK => ?_) AllReadyH.nil
      go_simp
      refine hK.out _ _ HC5.out (fun hHeld => ?_)
      clear hK K
      try simp only [Act.put, List.setIfInBounds_toArray, List.set_cons_zero, List.set_cons_succ]
      refine wpAnyH_done (by kernel_rfl) ?_ _
      have HKX := Lib.hid HC5.out
      have HL8 := Lib.hid (HL7.out.trans HC5.out (by simp))
      have HK8 := Lib.hid (HK7.out.trans HC5.out (by simp))
      clear HW HBT HN0L HN1L HSC HSD HIL1 HIL2 HU1 HU2 HB7 hHeld HL7 HK7
      clear HC1 HH1
      clear HC2 HH2
      clear HC3 HH3
      clear HC4 HH4
      clear HC5 HH5
      skip
      go_wp2_with fail
      generalize wc5 = w8 at *
      refine wp_region_held_drew (S := fun w' => Keep [] w8 w') (by kernel_rfl) ((Keep.refl [] w8).drew) (fun hHeld => ?_)
      refine wpAnyH_takeL (i := 0) (v := ?vZ0) rfl (by kernel_rfl) (by kernel_rfl) (by kernel_rfl) (fun _ _ _ h => h) (Or.inl ⟨by kernel_rfl, ?runZ0⟩) hHeld ?_
      case runZ0 => (intro w9 hS9; obtain ⟨⟨a0, a1, a2, a3⟩, b0, b1, b2, b3⟩ := HSS.out w9 (HL8.out.trans hS9 (by simp)); go_simp; try exact rfl)
      try simp only [Act.put, List.setIfInBounds_toArray, List.set_cons_zero, List.set_cons_succ]
      refine wpAnyH_takeL (i := 1) (v := ?vZ1) rfl (by kernel_rfl) (by kernel_rfl) (by kernel_rfl) (fun _ _ _ h => h) (Or.inl ⟨by kernel_rfl, ?runZ1⟩) hHeld ?_
      case runZ1 => (intro w9 hS9; obtain ⟨⟨a0, a1, a2, a3⟩, b0, b1, b2, b3⟩ := HSS.out w9 (HL8.out.trans hS9 (by simp)); go_simp; try exact rfl)
      try simp only [Act.put, List.setIfInBounds_toArray, List.set_cons_zero, List.set_cons_succ]
      refine wpAnyH_takeL (i := 2) (v := ?vZ2) rfl (by kernel_rfl) (by kernel_rfl) (by kernel_rfl) (fun _ _ _ h => h) (Or.inl ⟨by kernel_rfl, ?runZ2⟩) hHeld ?_
      case runZ2 => (intro w9 hS9; obtain ⟨⟨a0, a1, a2, a3⟩, b0, b1, b2, b3⟩ := HSS.out w9 (HL8.out.trans hS9 (by simp)); go_simp; try exact rfl)
      try simp only [Act.put, List.setIfInBounds_toArray, List.set_cons_zero, List.set_cons_succ]
      refine wpAnyH_takeL (i := 3) (v := ?vZ3) rfl (by kernel_rfl) (by kernel_rfl) (by kernel_rfl) (fun _ _ _ h => h) (Or.inl ⟨by kernel_rfl, ?runZ3⟩) hHeld ?_
      case runZ3 => (intro w9 hS9; obtain ⟨⟨a0, a1, a2, a3⟩, b0, b1, b2, b3⟩ := HSS.out w9 (HL8.out.trans hS9 (by simp)); go_simp; try exact rfl)
      try simp only [Act.put, List.setIfInBounds_toArray, List.set_cons_zero, List.set_cons_succ]
      refine wpAnyH_takeL (i := 5) (v := ?vZ5) rfl (by kernel_rfl) (by kernel_rfl) (by kernel_rfl) (fun _ _ _ h => h) (Or.inl ⟨by kernel_rfl, ?runZ5⟩) hHeld ?_
      case runZ5 => (intro w9 hS9; obtain ⟨⟨a0, a1, a2, a3⟩, b0, b1, b2, b3⟩ := HSS.out w9 (HL8.out.trans hS9 (by simp)); go_simp; try exact rfl)
      try simp only [Act.put, List.setIfInBounds_toArray, List.set_cons_zero, List.set_cons_succ]
      refine wpAnyH_takeL (i := 6) (v := ?vZ6) rfl (by kernel_rfl) (by kernel_rfl) (by kernel_rfl) (fun _ _ _ h => h) (Or.inl ⟨by kernel_rfl, ?runZ6⟩) hHeld ?_
      case runZ6 => (intro w9 hS9; obtain ⟨⟨a0, a1, a2, a3⟩, b0, b1, b2, b3⟩ := HSS.out w9 (HL8.out.trans hS9 (by simp)); go_simp; try exact rfl)
      try simp only [Act.put, List.setIfInBounds_toArray, List.set_cons_zero, List.set_cons_succ]
      refine wpAnyH_ready (rs := [4]) (by kernel_rfl) (by simp) ?_
      refine AllReadyH.consL rfl (fun K hK => ?_) AllReadyH.nil
      go_simp
      refine (HCM1.out _ (HK8.out.trans ((Keep.refl [] w8).drew) (by simp))).mono ?_
      rintro e wc1 ⟨rfl, hc1⟩
      have HC1 := Lib.hid (((Keep.refl [] w8).drew).trans hc1 (by simp))
      have HH1 := Lib.hid hc1
      clear hc1
      go_wp2_with fail
      refine hK.out _ _ HC1.out (fun hHeld2 => ?_)
      clear hK K hHeld
      have hHeld := hHeld2
      clear hHeld2
      try simp only [Act.put, List.setIfInBounds_toArray, List.set_cons_zero, List.set_cons_succ]
      refine wpAnyH_ready (rs := [7]) (by kernel_rfl) (by simp) ?_
      refine AllReadyH.consL rfl (fun K hK => ?_) AllReadyH.nil
      go_simp
      refine (HCM2.out _ (HK8.out.trans HC1.out (by simp))).mono ?_
      rintro e wc2 ⟨rfl, hc2⟩
      have HC2 := Lib.hid (HC1.out.trans hc2 (by simp))
      have HH2 := Lib.hid hc2
      clear hc2
      go_wp2_with fail
      refine hK.out _ _ HC2.out (fun hHeld2 => ?_)
      clear hK K hHeld
      have hHeld := hHeld2
      clear hHeld2
      try simp only [Act.put, List.setIfInBounds_toArray, List.set_cons_zero, List.set_cons_succ]
      refine wpAnyH_takeL (i := 8) (v := .bool true) rfl (by kernel_rfl) (by kernel_rfl) (by kernel_rfl) (fun _ _ _ h => h) (Or.inl ⟨by kernel_rfl, ?runZ8⟩) hHeld ?_
      case runZ8 => (intro w9 hS9; obtain ⟨⟨a0, a1, a2, a3⟩, b0, b1, b2, b3⟩ := HSS.out w9 (HL8.out.trans hS9 (by simp)); go_simp; first | done | exact rfl | (simp [*]; done) | (simp; omega))
      try simp only [Act.put, List.setIfInBounds_toArray, List.set_cons_zero, List.set_cons_succ]
      refine wpAnyH_takeL (i := 9) (v := .bool true) rfl (by kernel_rfl) (by kernel_rfl) (by kernel_rfl) (fun _ _ _ h => h) (Or.inl ⟨by kernel_rfl, ?runZ9⟩) hHeld ?_
      case runZ9 => (intro w9 hS9; obtain ⟨⟨a0, a1, a2, a3⟩, b0, b1, b2, b3⟩ := HSS.out w9 (HL8.out.trans hS9 (by simp)); go_simp; first | done | exact rfl | (simp [*]; done) | (simp; omega))
      try simp only [Act.put, List.setIfInBounds_toArray, List.set_cons_zero, List.set_cons_succ]
      refine wpAnyH_takeL (i := 10) (v := ?vZ10) rfl (by kernel_rfl) (by kernel_rfl) (by kernel_rfl) (fun _ _ _ h => h) (Or.inl ⟨by kernel_rfl, ?runZ10⟩) hHeld ?_
      case runZ10 => (intro w9 hS9; obtain ⟨⟨a0, a1, a2, a3⟩, b0, b1, b2, b3⟩ := HSS.out w9 (HL8.out.trans hS9 (by simp)); go_simp; try exact rfl)
      try simp only [Act.put, List.setIfInBounds_toArray, List.set_cons_zero, List.set_cons_succ]
      refine wpAnyH_takeL (i := 11) (v := ?vZ11) rfl (by kernel_rfl) (by kernel_rfl) (by kernel_rfl) (fun _ _ _ h => h) (Or.inl ⟨by kernel_rfl, ?runZ11⟩) hHeld ?_
      case runZ11 => (intro w9 hS9; obtain ⟨⟨a0, a1, a2, a3⟩, b0, b1, b2, b3⟩ := HSS.out w9 (HL8.out.trans hS9 (by simp)); go_simp; try exact rfl)
      try simp only [Act.put, List.setIfInBounds_toArray, List.set_cons_zero, List.set_cons_succ]
      refine wpAnyH_takeL (i := 13) (v := ?vZ13) rfl (by kernel_rfl) (by kernel_rfl) (by kernel_rfl) (fun _ _ _ h => h) (Or.inl ⟨by kernel_rfl, ?runZ13⟩) hHeld ?_
      case runZ13 => (intro w9 hS9; obtain ⟨⟨a0, a1, a2, a3⟩, b0, b1, b2, b3⟩ := HSS.out w9 (HL8.out.trans hS9 (by simp)); go_simp; try exact rfl)
      try simp only [Act.put, List.setIfInBounds_toArray, List.set_cons_zero, List.set_cons_succ]
      refine wpAnyH_ready (rs := [12]) (by kernel_rfl) (by simp) ?_
      refine AllReadyH.consL rfl (fun K hK => ?_) AllReadyH.nil
      go_simp
      refine (HPR1.out _ (HK8.out.trans HC2.out (by simp))).mono ?_
      rintro e wc3 ⟨rfl, hc3⟩
      have HC3 := Lib.hid (HC2.out.trans hc3 (by simp))
      have HH3 := Lib.hid hc3
      clear hc3
      go_wp2_with fail
      refine hK.out _ _ HC3.out (fun hHeld2 => ?_)
      clear hK K hHeld
      have hHeld := hHeld2
      clear hHeld2
      try simp only [Act.put, List.setIfInBounds_toArray, List.set_cons_zero, List.set_cons_succ]
      refine wpAnyH_ready (rs := [14]) (by kernel_rfl) (by simp) ?_
      refine AllReadyH.consL rfl (fun K hK => ?_) AllReadyH.nil
      go_simp
      refine (HPR2.out _ (HK8.out.trans HC3.out (by simp))).mono ?_
      rintro e wc4 ⟨rfl, hc4⟩
      have HC4 := Lib.hid (HC3.out.trans hc4 (by simp))
      have HH4 := Lib.hid hc4
      clear hc4
      go_wp2_with fail
      refine hK.out _ _ HC4.out (fun hHeld2 => ?_)
      clear hK K hHeld
      have hHeld := hHeld2
      clear hHeld2
      try simp only [Act.put, List.setIfInBounds_toArray, List.set_cons_zero, List.set_cons_succ]
      refine wpAnyH_takeL (i := 15) (v := .bool true) rfl (by kernel_rfl) (by kernel_rfl) (by kernel_rfl) (fun _ _ _ h => h) (Or.inl ⟨by kernel_rfl, ?runZ15⟩) hHeld ?_
      case runZ15 => (intro w9 hS9; obtain ⟨⟨a0, a1, a2, a3⟩, b0, b1, b2, b3⟩ := HSS.out w9 (HL8.out.trans hS9 (by simp)); go_simp; first | done | exact rfl | (simp [*]; done) | (simp; omega))
      try simp only [Act.put, List.setIfInBounds_toArray, List.set_cons_zero, List.set_cons_succ]
      refine wpAnyH_takeL (i := 16) (v := .bool true) rfl (by kernel_rfl) (by kernel_rfl) (by kernel_rfl) (fun _ _ _ h => h) (Or.inl ⟨by kernel_rfl, ?runZ16⟩) hHeld ?_
      case runZ16 => (intro w9 hS9; obtain ⟨⟨a0, a1, a2, a3⟩, b0, b1, b2, b3⟩ := HSS.out w9 (HL8.out.trans hS9 (by simp)); go_simp; first | done | exact rfl | (simp [*]; done) | (simp; omega))
      try simp only [Act.put, List.setIfInBounds_toArray, List.set_cons_zero, List.set_cons_succ]
      refine wpAnyH_takeL (i := 17) (v := ?vZ17) rfl (by kernel_rfl) (by kernel_rfl) (by kernel_rfl) (fun _ _ _ h => h) (Or.inl ⟨by kernel_rfl, ?runZ17⟩) hHeld ?_
      case runZ17 => (intro w9 hS9; obtain ⟨⟨a0, a1, a2, a3⟩, b0, b1, b2, b3⟩ := HSS.out w9 (HL8.out.trans hS9 (by simp)); go_simp; try exact rfl)
      try simp only [Act.put, List.setIfInBounds_toArray, List.set_cons_zero, List.set_cons_succ]
      refine wpAnyH_takeL (i := 18) (v := ?vZ18) rfl (by kernel_rfl) (by kernel_rfl) (by kernel_rfl) (fun _ _ _ h => h) (Or.inl ⟨by kernel_rfl, ?runZ18⟩) hHeld ?_
      case runZ18 => (intro w9 hS9; obtain ⟨⟨a0, a1, a2, a3⟩, b0, b1, b2, b3⟩ := HSS.out w9 (HL8.out.trans hS9 (by simp)); go_simp; try exact rfl)
      try simp only [Act.put, List.setIfInBounds_toArray, List.set_cons_zero, List.set_cons_succ]
      refine wpAnyH_takeL (i := 19) (v := ?vZ19) rfl (by kernel_rfl) (by kernel_rfl) (by kernel_rfl) (fun _ _ _ h => h) (Or.inl ⟨by kernel_rfl, ?runZ19⟩) hHeld ?_
      case runZ19 => (intro w9 hS9; obtain ⟨⟨a0, a1, a2, a3⟩, b0, b1, b2, b3⟩ := HSS.out w9 (HL8.out.trans hS9 (by simp)); go_simp; try exact rfl)
      try simp only [Act.put, List.setIfInBounds_toArray, List.set_cons_zero, List.set_cons_succ]
      refine wpAnyH_ready (rs := [20]) (by kernel_rfl) (by simp) ?_
      refine AllReadyH.consL rfl (fun K hK => ?_) AllReadyH.nil
      go_simp
      refine (HROWS.out _ (HKX.out.trans HC4.out (by simp))).mono ?_
      rintro e wc5 ⟨rfl, hc5⟩
      have HC5 := Lib.hid (HC4.out.trans hc5 (by simp))
      have HH5 := Lib.hid hc5
      clear hc5
      go_wp2_with fail
      refine hK.out _ _ HC5.out (fun hHeld2 => ?_)
      clear hK K hHeld
      have hHeld := hHeld2
      clear hHeld2
      try simp only [Act.put, List.setIfInBounds_toArray, List.set_cons_zero, List.set_cons_succ]
      refine wpAnyH_takeL (i := 21) (v := .bool true) rfl (by kernel_rfl) (by kernel_rfl) (by kernel_rfl) (fun _ _ _ h => h) (Or.inl ⟨by kernel_rfl, ?runZ21⟩) hHeld ?_
      case runZ21 => (intro w9 hS9; obtain ⟨⟨a0, a1, a2, a3⟩, b0, b1, b2, b3⟩ := HSS.out w9 (HL8.out.trans hS9 (by simp)); go_simp; first | done | exact rfl | (simp [*]; done) | (simp; omega))
      try simp only [Act.put, List.setIfInBounds_toArray, List.set_cons_zero, List.set_cons_succ]
      refine wpAnyH_takeL (i := 22) (v := ?vZ22) rfl (by kernel_rfl) (by kernel_rfl) (by kernel_rfl) (fun _ _ _ h => h) (Or.inl ⟨by kernel_rfl, ?runZ22⟩) hHeld ?_
      case runZ22 => (intro w9 hS9; obtain ⟨⟨a0, a1, a2, a3⟩, b0, b1, b2, b3⟩ := HSS.out w9 (HL8.out.trans hS9 (by simp)); go_simp; try exact rfl)
      try simp only [Act.put, List.setIfInBounds_toArray, List.set_cons_zero, List.set_cons_succ]
      refine wpAnyH_takeL (i := 23) (v := ?vZ23) rfl (by kernel_rfl) (by kernel_rfl) (by kernel_rfl) (fun _ _ _ h => h) (Or.inl ⟨by kernel_rfl, ?runZ23⟩) hHeld ?_
      case runZ23 => (intro w9 hS9; obtain ⟨⟨a0, a1, a2, a3⟩, b0, b1, b2, b3⟩ := HSS.out w9 (HL8.out.trans hS9 (by simp)); go_simp; try exact rfl)
      try simp only [Act.put, List.setIfInBounds_toArray, List.set_cons_zero, List.set_cons_succ]
      refine wpAnyH_takeL (i := 24) (v := ?vZ24) rfl (by kernel_rfl) (by kernel_rfl) (by kernel_rfl) (fun _ _ _ h => h) (Or.inl ⟨by kernel_rfl, ?runZ24⟩) hHeld ?_
      case runZ24 => (intro w9 hS9; obtain ⟨⟨a0, a1, a2, a3⟩, b0, b1, b2, b3⟩ := HSS.out w9 (HL8.out.trans hS9 (by simp)); go_simp; try exact rfl)
      try simp only [Act.put, List.setIfInBounds_toArray, List.set_cons_zero, List.set_cons_succ]
      refine wpAnyH_takeL (i := 25) (v := .bool true) rfl (by kernel_rfl) (by kernel_rfl) (by kernel_rfl) (fun _ _ _ h => h) (Or.inl ⟨by kernel_rfl, ?runZ25⟩) hHeld ?_
      case runZ25 => (intro w9 hS9; obtain ⟨⟨a0, a1, a2, a3⟩, b0, b1, b2, b3⟩ := HSS.out w9 (HL8.out.trans hS9 (by simp)); go_simp; first | done | exact rfl | (simp [*]; done) | (simp; omega))
      try simp only [Act.put, List.setIfInBounds_toArray, List.set_cons_zero, List.set_cons_succ]
      refine wpAnyH_takeL (i := 26) (v := .bool true) rfl (by kernel_rfl) (by kernel_rfl) (by kernel_rfl) (fun _ _ _ h => h) (Or.inl ⟨by kernel_rfl, ?runZ26⟩) hHeld ?_
      case runZ26 => (intro w9 hS9; obtain ⟨⟨a0, a1, a2, a3⟩, b0, b1, b2, b3⟩ := HSS.out w9 (HL8.out.trans hS9 (by simp)); go_simp; first | done | exact rfl | (simp [*]; done) | (simp; omega))
      try simp only [Act.put, List.setIfInBounds_toArray, List.set_cons_zero, List.set_cons_succ]
      refine wpAnyH_takeL (i := 27) (v := ?vZ27) rfl (by kernel_rfl) (by kernel_rfl) (by kernel_rfl) (fun _ _ _ h => h) (Or.inl ⟨by kernel_rfl, ?runZ27⟩) hHeld ?_
      case runZ27 => (intro w9 hS9; obtain ⟨⟨a0, a1, a2, a3⟩, b0, b1, b2, b3⟩ := HSS.out w9 (HL8.out.trans hS9 (by simp)); go_simp; try exact rfl)
      try simp only [Act.put, List.setIfInBounds_toArray, List.set_cons_zero, List.set_cons_succ]
      refine wpAnyH_ready (rs := [28]) (by kernel_rfl) (by simp) ?_
      refine AllReadyH.consL rfl (fun K hK => ?_) AllReadyH.nil
      go_simp
      refine (HLV.out _ (HK8.out.trans HC5.out (by simp))).mono ?_
      rintro e wc6 ⟨rfl, hc6⟩
      have HC6 := Lib.hid (HC5.out.trans hc6 (by simp))
      have HH6 := Lib.hid hc6
      clear hc6
      go_wp2_with fail
      refine hK.out _ _ HC6.out (fun hHeld2 => ?_)
      clear hK K hHeld
      have hHeld := hHeld2
      clear hHeld2
      try simp only [Act.put, List.setIfInBounds_toArray, List.set_cons_zero, List.set_cons_succ]
      refine wpAnyH_takeL (i := 29) (v := .bool true) rfl (by kernel_rfl) (by kernel_rfl) (by kernel_rfl) (fun _ _ _ h => h) (Or.inl ⟨by kernel_rfl, ?runZ29⟩) hHeld ?_
      case runZ29 => (intro w9 hS9; obtain ⟨⟨a0, a1, a2, a3⟩, b0, b1, b2, b3⟩ := HSS.out w9 (HL8.out.trans hS9 (by simp)); go_simp; first | done | exact rfl | (simp [*]; done) | (simp; omega))
      try simp only [Act.put, List.setIfInBounds_toArray, List.set_cons_zero, List.set_cons_succ]
      refine wpAnyH_ready (rs := [30]) (by kernel_rfl) (by simp) ?_
      refine AllReadyH.consL rfl (fun K hK => ?_) AllReadyH.nil
      go_simp
      refine hK.out _ _ HC6.out (fun hHeld => ?_)
      clear hK K
      try simp only [Act.put, List.setIfInBounds_toArray, List.set_cons_zero, List.set_cons_succ]
      refine wpAnyH_done (by kernel_rfl) ?_ _
      go_wp2_with fail
      go_ret
      exact ⟨rfl, HK8.out.trans HC6.out (by simp)⟩
end Go.Proofs.YtcegdomfmamonaaDoor
