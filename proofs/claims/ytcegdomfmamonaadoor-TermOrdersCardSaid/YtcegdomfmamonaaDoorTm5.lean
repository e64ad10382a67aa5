/- Terms: what is a term (the program's is). Printed by gen-tm5.py. -/
import Derived.Test.YtcegdomfmamonaaDoorTm3
import Derived.Test.YtcegdomfmamonaaDoorBaseCut
import Derived.Deep.CutBlock
import Derived.Deep.Light
import Derived.Deep.RegionHeld3
import Derived.RegionTactic
import Derived.Shelf.Abstract
namespace Go.Proofs.YtcegdomfmamonaaDoor
open Go.RowKit Go.Emb Go.Lib

theorem wpAnyH_takeL {P : Program} {l : List Oper} {Q : Exit → Act → World → Prop} {md : Region.Mode} {S : World → Prop} {i : Nat} {oi : Oper} {v : Value} {fuel : Nat} {listed : Array Bool} {a : Act} {w : World} (hi : l[i]? = some oi)
    (hs : Region.noSelect l.toArray = true) (hf : Region.free md l.toArray listed i = true) (hr : (Region.ready md l.toArray listed).contains i = true)
    (hQ : ∀ c a w, Q (.panic c) (a.put oi.dst v) w → Q (.panic c) a w) (hy : YieldsIf P l.toArray S oi v a) (hS : S w)
    (h : wpAnyH P md l.toArray Q S fuel (listed.setIfInBounds i true) (a.put oi.dst v) w) : wpAnyH P md l.toArray Q S (fuel + 1) listed a w :=
  wpAnyH_take (by simpa using hi) hs hf hr hQ hy hS h

theorem cells4 {w : World} {q : Nat} {x y z u : Value} {t : TypeId} (h : w.heap[q]? = some (.cells #[x, y, z, u] t (0, 0))) :
    w.cell? ⟨q, 0, none⟩ = some x ∧ w.cell? ⟨q, 1, none⟩ = some y ∧ w.cell? ⟨q, 2, none⟩ = some z ∧ w.cell? ⟨q, 3, none⟩ = some u ∧ ∀ i, w.frozen? ⟨q, i, none⟩ = false := by
  refine ⟨?_, ?_, ?_, ?_, ?_⟩ <;> simp [World.cell?, World.frozen?, h]

/-- behind the switch -/
def IsCut (w : World) (tk tn : Int) (ts : ByteArray) (iv : Value) (len : Nat) (f : Nat → Value) (wx : World) : Prop :=
  ∃ (ok : Bool) (i2 : Int) (n2 : ByteArray), f 4 = .bool ok ∧ f 1 = .pointer (some ⟨w.heap.size, 0, none⟩) ∧ f 3 = .pointer (some ⟨w.heap.size + 1, 0, none⟩) ∧
    wx.heap[w.heap.size]? = some (.cells #[.int .i64 tk, .int .i64 tn, .string ts, iv] 31) ∧ wx.heap[w.heap.size + 1]? = some (.cells #[.int .i64 tk, .int .i64 i2, .string n2, iv] 31) ∧ Keep [] w wx ∧
    ((n2 = ⟨#[]⟩ ∧ headOk tk tn ts len = (ok && (tn == i2) && decide (ts.toList = []))) ∨ (n2 = ts ∧ headOk tk tn ts len = (ok && (tn == i2))))
theorem two_blocks (w : World) (X Y : Obj) : ((w.alloc X).alloc Y).heap[w.heap.size]? = some X ∧ ((w.alloc X).alloc Y).heap[w.heap.size + 1]? = some Y := by
  refine ⟨(((Keep.refl [] _).alloc Y).block _ (by simp) (by simp)).trans (heap_alloc_new w X), ?_⟩
  have := heap_alloc_new (w.alloc X) Y
  simpa using this
/-- a store into the second box -/
theorem st_box {w wc W : World} {b : Nat} {i : Nat} {x0 x1 x2 x3 y0 y1 y2 y3 v : Value} {t : TypeId} (h1 : wc.heap[b]? = some (.cells #[x0, x1, x2, x3] t)) (h2 : wc.heap[b + 1]? = some (.cells #[y0, y1, y2, y3] t)) (hk : Keep [] w wc) (hb : w.heap.size ≤ b) (hW : W = wc.drew.setCell ⟨b + 1, i, none⟩ v) :
    W.heap[b]? = some (.cells #[x0, x1, x2, x3] t) ∧ W.heap[b + 1]? = some (.cells (#[y0, y1, y2, y3].setIfInBounds i v) t) ∧ Keep [] w W := by
  subst hW
  refine ⟨?_, heap_setCell_at (w := wc.drew) h2 v, hk.drew.setCell (.inr (by simp; omega)) _⟩
  exact (((Keep.refl [b + 1] wc).drew.setCell (p := ⟨b + 1, i, none⟩) (.inl (by simp)) v).block b (Array.getElem?_eq_some_iff.1 h1).1 (by simp)).trans h1
theorem isTms_any (l : List Tm) : (!l.any (fun x => !isTm x)) = isTms l := by rw [isTms_iff]; simp [List.all_eq_not_any_not]

def idxP (l : List Tm) (p : Tm → Bool) : Int := match l.findIdx? p with | some i => i | none => -1
theorem idxP_at {l : List Tm} {p : Tm → Bool} {k : Nat} (hk : k < l.length) (h : p l[k] = true) (hb : ∀ j (hj : j < k), p (l[j]'(by omega)) = false) : idxP l p = k := by
  have : l.findIdx? p = some k := by
    rw [List.findIdx?_eq_some_iff_getElem]
    exact ⟨hk, h, fun j hj => by simp [hb j hj]⟩
  simp [idxP, this]
theorem idxP_none {l : List Tm} {p : Tm → Bool} (h : ∀ j (hj : j < l.length), p l[j] = false) : idxP l p = -1 := by
  have : l.findIdx? p = none := by
    rw [List.findIdx?_eq_none_iff]
    intro x hx
    obtain ⟨j, hj, rfl⟩ := List.mem_iff_getElem.1 hx
    exact h j hj
  simp [idxP, this]
theorem idxP_any (l : List Tm) (p : Tm → Bool) : decide (0 ≤ idxP l p) = l.any p := by
  unfold idxP
  cases h : l.findIdx? p with
  | none =>
    rw [List.findIdx?_eq_none_iff] at h
    have : l.any p = false := by rw [List.any_eq_false]; intro x hx; simp [h x hx]
    simp [this]
  | some i =>
    obtain ⟨hi, hp, -⟩ := List.findIdx?_eq_some_iff_getElem.1 h
    rw [List.any_eq_true.2 ⟨_, List.getElem_mem hi, hp⟩]
    simp
def NoBefore (l : List Tm) (p : Tm → Bool) (k : Nat) : Prop := ∀ j, j < k → ∀ x, l[j]? = some x → p x = false

set_option maxHeartbeats 400000 in
theorem indexFuncT {B : Nat} {w : World} {v : Value} {l : List Tm} (hr : HasT B w v l) (g : Nat) (p : Tm → Bool) (eg : ∀ args w, (callFunc g args).run Tryd.prog w = .ok (.enter g args) w)
    (hf : ∀ x ∈ l, ∀ W, Keep [] w W → Calls Tryd.prog g #[aggTm x] W fun e w' => e = .returned (.bool (p x)) ∧ Keep [] W w') :
    Calls Tryd.prog 67 #[v, .func (.func g) #[] #[]] w fun e w' => e = .returned (.int .i64 (idxP l p)) ∧ Keep [] w w' := by
  obtain ⟨a, c, rfl, hc1, hc2⟩ := hr.form
  unfold maxLen at hc2
  unfold aggTm at hf
  have HF := Lib.hid hf
  have HR := Lib.hid hr
  clear hf hr
  go_enter Tryd.func67, Tryd.ntmps67
  go_wp2_with fail
  go_loopw [5, 8] (fun _ i wr => ∃ k : Nat, k ≤ l.length ∧ i = .int .i64 k ∧ Keep [] w wr ∧ NoBefore l p k) (fun _ i _ => l.length - (intOf i).toNat)
  case atStart => exact ⟨0, Nat.zero_le _, rfl, Keep.refl _ _, fun j hj => absurd hj (Nat.not_lt_zero _)⟩
  case round =>
    obtain ⟨k, hk, rfl, hK, hno⟩ := hrel
    have HK := Lib.hid hK
    have HNO := Lib.hid hno
    clear hK hno
    by_cases hlt : k < l.length
    · obtain ⟨b, off, rfl, c0, c1, c2, c3, -⟩ := HR.out.at HK.out hlt
      have hcall := HF.out l[k] (List.getElem_mem hlt) wr HK.out
      have hx : l[k]? = some l[k] := List.getElem?_eq_getElem hlt
      generalize l[k] = x at *
      have HX := Lib.hid hx
      clear hx
      have i0 : (0 : Int) ≤ (k : Int) := by omega
      have i1 : (k : Int) < (l.length : Int) := by omega
      cases hq : p x with
      | true =>
        rw [hq] at hcall
        have HQ := Lib.hid hq
        clear hq
        go_wp2_with (go_at_fn g; refine hcall.mono ?_; rintro e w' ⟨rfl, hk'⟩)
        go_ret
        refine ⟨?_, HK.out.trans hk' (by simp)⟩
        have := HX.out
        rw [idxP_at hlt (by rw [List.getElem?_eq_getElem hlt] at this; cases this; exact HQ.out) (fun j hj => HNO.out j hj _ (List.getElem?_eq_getElem (by omega)))]
        rfl
      | false =>
        rw [hq] at hcall
        have HQ := Lib.hid hq
        clear hq
        go_wp2_with (go_at_fn g; refine hcall.mono ?_; rintro e w' ⟨rfl, hk'⟩)
        go_roundw
        case rel =>
          refine ⟨k + 1, by omega, by go_num, HK.out.trans hk' (by simp), fun j hj y hy => ?_⟩
          by_cases e : j = k
          · subst e; rw [HX.out] at hy; cases hy; exact HQ.out
          · exact HNO.out j (by omega) y hy
        case measure => simp [intOf]; omega
    · go_wp2_with fail
      go_ret
      refine ⟨?_, HK.out⟩
      rw [idxP_none (fun j hj => HNO.out j (by omega) _ (List.getElem?_eq_getElem hj))]
      rfl
theorem containsFuncT {B : Nat} {w : World} {v : Value} {l : List Tm} (hr : HasT B w v l) (g : Nat) (p : Tm → Bool) (eg : ∀ args w, (callFunc g args).run Tryd.prog w = .ok (.enter g args) w)
    (hf : ∀ x ∈ l, ∀ W, Keep [] w W → Calls Tryd.prog g #[aggTm x] W fun e w' => e = .returned (.bool (p x)) ∧ Keep [] W w') :
    Calls Tryd.prog 46 #[v, .func (.func g) #[] #[]] w fun e w' => e = .returned (.bool (l.any p)) ∧ Keep [] w w' := by
  have h := indexFuncT hr g p eg hf
  have hd := idxP_any l p
  have HD := Lib.hid hd
  clear hd hf hr
  generalize idxP l p = i at *
  go_enter Tryd.func46, Tryd.ntmps46
  go_wp2_with (go_at_call 67; refine h.mono ?_; rintro e w' ⟨rfl, hk⟩)
  go_ret
  exact ⟨by rw [← HD.out]; rfl, hk⟩

theorem is_closure {x : Tm} {b : Bool} {W : World} (h : ∀ ob, Calls Tryd.prog 48 #[aggTm x] (W.alloc ob) fun e w' => e = .returned (.bool b) ∧ Keep [] (W.alloc ob) w') :
    Calls Tryd.prog 68 #[aggTm x] W fun e w' => e = .returned (.bool (!b)) ∧ Keep [] W w' := by
  unfold aggTm at *
  have H := Lib.hid h
  clear h
  generalize x.iv = xv at *
  go_enter Tryd.func68, Tryd.ntmps68
  go_wp2_with fail
  refine (H.out _).mono ?_
  rintro e w2 ⟨rfl, hk2⟩
  go_wp2_with fail
  go_ret
  exact ⟨rfl, ((Keep.refl [] W).alloc _).trans hk2 (by simp)⟩
theorem check_closure {x : Tm} {b : Bool} {W : World} (h : ∀ ob, Calls Tryd.prog 48 #[aggTm x] (W.alloc ob) fun e w' => e = .returned (.bool b) ∧ Keep [] (W.alloc ob) w') :
    Calls Tryd.prog 47 #[aggTm x] W fun e w' => e = .returned (.bool (!b)) ∧ Keep [] W w' := by
  unfold aggTm at *
  have H := Lib.hid h
  clear h
  generalize x.iv = xv at *
  go_enter Tryd.func47, Tryd.ntmps47
  go_wp2_with fail
  refine (H.out _).mono ?_
  rintro e w2 ⟨rfl, hk2⟩
  go_wp2_with fail
  go_ret
  exact ⟨rfl, ((Keep.refl [] W).alloc _).trans hk2 (by simp)⟩

set_option maxRecDepth 100000 in
set_option maxHeartbeats 8000000 in
theorem p_isN : ∀ (N : Nat) (t : Tm), t.sz ≤ N → ∀ (B : Nat) (w : World), RdTm B w t → Calls Tryd.prog 48 #[aggTm t] w fun e w' => e = .returned (.bool (isTm t)) ∧ Keep [] w w'
  | 0, t, hN, _, _, _ => by have := t.sz_pos; omega
  | N + 1, t, hN, B, w, hr => by
    have IH := p_isN N
    have hh := hr.has
    have hmem := fun (x : Tm) (hx : x ∈ t.items) => sz_mem_lt hx
    have his : isTm t = (headOk t.kind t.num t.name t.items.length && isTms t.items) := by cases t; simp only [isTm, Tm.items, Tm.kind, Tm.num, Tm.name]
    obtain ⟨a, c, hiv, hc1, hc2⟩ := hh.form
    have HIS := Lib.hid his
    have HMEM := Lib.hid hmem
    have HIH := Lib.hid IH
    unfold maxLen at hc2
    unfold aggTm
    rw [hiv] at hh ⊢
    have HH := Lib.hid hh
    clear hh hr hmem his IH hiv
    generalize t.items = l at *
    generalize t.kind = tk at *
    generalize t.num = tn at *
    generalize t.name = ts at *
    go_enter Tryd.func48, Tryd.ntmps48
    go_upto_region 2 with fail
    refine wp_cut (CutF 120 (fun f wx => f 1 = .pointer (some ⟨w.heap.size, 0, none⟩) ∧ f 3 = .pointer (some ⟨w.heap.size + 1, 0, none⟩) ∧ wx.heap[w.heap.size]? = some (.cells #[.int .i64 tk, .int .i64 tn, .string ts, .slice a l.length c] 31) ∧ wx.heap[w.heap.size + 1]? = some (.cells #[.int .i64 tk, .int .i64 0, .string ⟨#[]⟩, .slice a l.length c] 31) ∧ Keep [] w wx)) ?rest1 ?first1
    case first1 =>
      intro J K' hJ hK'
      have HJ := Lib.hid hJ
      clear HIS HMEM HIH HH hJ
      go_region
      all_goals
        go_wp2_with fail
        refine Met.intro (HJ.out _ _ (CutF.mk rfl ⟨rfl, rfl, (two_blocks w _ _).1, (two_blocks w _ _).2, ((Keep.refl [] w).alloc _).alloc _ |>.drew⟩))
    case rest1 =>
      intro a' wc hc
      obtain ⟨f, rfl, h1, h3, hb1, hb2, hK⟩ := hc.lit
      rw [show ((List.range 120).map f).toArray = #[f 0, f 1, f 2, f 3, f 4, f 5, f 6, f 7, f 8, f 9, f 10, f 11, f 12, f 13, f 14, f 15, f 16, f 17, f 18, f 19, f 20, f 21, f 22, f 23, f 24, f 25, f 26, f 27, f 28, f 29, f 30, f 31, f 32, f 33, f 34, f 35, f 36, f 37, f 38, f 39, f 40, f 41, f 42, f 43, f 44, f 45, f 46, f 47, f 48, f 49, f 50, f 51, f 52, f 53, f 54, f 55, f 56, f 57, f 58, f 59, f 60, f 61, f 62, f 63, f 64, f 65, f 66, f 67, f 68, f 69, f 70, f 71, f 72, f 73, f 74, f 75, f 76, f 77, f 78, f 79, f 80, f 81, f 82, f 83, f 84, f 85, f 86, f 87, f 88, f 89, f 90, f 91, f 92, f 93, f 94, f 95, f 96, f 97, f 98, f 99, f 100, f 101, f 102, f 103, f 104, f 105, f 106, f 107, f 108, f 109, f 110, f 111, f 112, f 113, f 114, f 115, f 116, f 117, f 118, f 119] from rfl]
      rw [h1, h3]
      clear h1 h3 hc
      have HB1 := Lib.hid hb1
      have HB2 := Lib.hid hb2
      have HK := Lib.hid hK
      obtain ⟨c0, c1, c2, c3, -⟩ := cells4 hb1
      obtain ⟨d0, d1, d2, d3, df⟩ := cells4 hb2
      have df1 := df 1
      have df2 := df 2
      have hsb : ∀ w', Keep [w.heap.size + 1] wc w' → w'.cell? ⟨w.heap.size, 1, none⟩ = some (.int .i64 tn) ∧ w'.cell? ⟨w.heap.size, 2, none⟩ = some (.string ts) ∧ w'.cell? ⟨w.heap.size, 3, none⟩ = some (.slice a l.length c) := fun w' hk => ⟨hk.cellOf c1 (by simp), hk.cellOf c2 (by simp), hk.cellOf c3 (by simp)⟩
      have SB := Lib.hid hsb
      clear hb1 hb2 hK df hsb
      go_upto_block 0 with fail
      refine wp_cut (CutF 120 (IsCut w tk tn ts (.slice a l.length c) l.length)) ?rest2 ?first2
      case first2 =>
        intro J K' hJ hK'
        have HJ := Lib.hid hJ
        clear HIS HMEM HIH HH hJ
        by_cases k1 : tk = 1
        · as_aux_lemma =>
          subst k1
          by_cases t1 : -576460752303423488 ≤ tn
          · have q1 : decide (-576460752303423488 ≤ tn) = true := by simpa using t1
            by_cases t2 : tn ≤ 576460752303423487
            · have q2 : decide (tn ≤ 576460752303423487) = true := by simpa using t2
              go_wp2_with fail
              refine wp_region_held_drew (S := fun w' => w'.cell? ⟨w.heap.size, 1, none⟩ = some (.int .i64 tn) ∧ w'.cell? ⟨w.heap.size, 2, none⟩ = some (.string ts) ∧ w'.cell? ⟨w.heap.size, 3, none⟩ = some (.slice a l.length c)) (by kernel_rfl) (SB.out _ (Keep.refl [w.heap.size + 1] wc).drew) (fun hHeld => ?_)
              refine wpAnyH_takeL (i := 0) (v := ?vk1a0) rfl (by kernel_rfl) (by kernel_rfl) (by kernel_rfl) (fun _ _ _ h => h) (Or.inl ⟨by kernel_rfl, ?runk1a0⟩) hHeld ?_
              case runk1a0 => (intro w9 hS9; obtain ⟨e1, e2, e3⟩ := hS9; go_simp; try exact rfl)
              try simp only [Act.put, List.setIfInBounds_toArray, List.set_cons_zero, List.set_cons_succ]
              refine wpAnyH_takeL (i := 1) (v := ?vk1a1) rfl (by kernel_rfl) (by kernel_rfl) (by kernel_rfl) (fun _ _ _ h => h) (Or.inl ⟨by kernel_rfl, ?runk1a1⟩) hHeld ?_
              case runk1a1 => (intro w9 hS9; obtain ⟨e1, e2, e3⟩ := hS9; go_simp; try exact rfl)
              try simp only [Act.put, List.setIfInBounds_toArray, List.set_cons_zero, List.set_cons_succ]
              refine wpAnyH_takeL (i := 2) (v := ?vk1a2) rfl (by kernel_rfl) (by kernel_rfl) (by kernel_rfl) (fun _ _ _ h => h) (Or.inl ⟨by kernel_rfl, ?runk1a2⟩) hHeld ?_
              case runk1a2 => (intro w9 hS9; obtain ⟨e1, e2, e3⟩ := hS9; go_simp; try exact rfl)
              try simp only [Act.put, List.setIfInBounds_toArray, List.set_cons_zero, List.set_cons_succ]
              refine wpAnyH_takeL (i := 3) (v := ?vk1a3) rfl (by kernel_rfl) (by kernel_rfl) (by kernel_rfl) (fun _ _ _ h => h) (Or.inl ⟨by kernel_rfl, ?runk1a3⟩) hHeld ?_
              case runk1a3 => (intro w9 hS9; obtain ⟨e1, e2, e3⟩ := hS9; go_simp; try exact rfl)
              try simp only [Act.put, List.setIfInBounds_toArray, List.set_cons_zero, List.set_cons_succ]
              refine wpAnyH_takeL (i := 4) (v := .bool true) rfl (by kernel_rfl) (by kernel_rfl) (by kernel_rfl) (fun _ _ _ h => h) (Or.inl ⟨by kernel_rfl, ?runk1a4⟩) hHeld ?_
              case runk1a4 => (intro w9 hS9; obtain ⟨e1, e2, e3⟩ := hS9; go_simp; first | done | exact rfl | (simp [*]; done) | (simp; omega))
              try simp only [Act.put, List.setIfInBounds_toArray, List.set_cons_zero, List.set_cons_succ]
              refine wpAnyH_takeL (i := 5) (v := ?vk1a5) rfl (by kernel_rfl) (by kernel_rfl) (by kernel_rfl) (fun _ _ _ h => h) (Or.inl ⟨by kernel_rfl, ?runk1a5⟩) hHeld ?_
              case runk1a5 => (intro w9 hS9; obtain ⟨e1, e2, e3⟩ := hS9; go_simp; try exact rfl)
              try simp only [Act.put, List.setIfInBounds_toArray, List.set_cons_zero, List.set_cons_succ]
              refine wpAnyH_takeL (i := 6) (v := ?vk1a6) rfl (by kernel_rfl) (by kernel_rfl) (by kernel_rfl) (fun _ _ _ h => h) (Or.inl ⟨by kernel_rfl, ?runk1a6⟩) hHeld ?_
              case runk1a6 => (intro w9 hS9; obtain ⟨e1, e2, e3⟩ := hS9; go_simp; try exact rfl)
              try simp only [Act.put, List.setIfInBounds_toArray, List.set_cons_zero, List.set_cons_succ]
              refine wpAnyH_takeL (i := 7) (v := ?vk1a7) rfl (by kernel_rfl) (by kernel_rfl) (by kernel_rfl) (fun _ _ _ h => h) (Or.inl ⟨by kernel_rfl, ?runk1a7⟩) hHeld ?_
              case runk1a7 => (intro w9 hS9; obtain ⟨e1, e2, e3⟩ := hS9; go_simp; try exact rfl)
              try simp only [Act.put, List.setIfInBounds_toArray, List.set_cons_zero, List.set_cons_succ]
              refine wpAnyH_takeL (i := 8) (v := .bool true) rfl (by kernel_rfl) (by kernel_rfl) (by kernel_rfl) (fun _ _ _ h => h) (Or.inl ⟨by kernel_rfl, ?runk1a8⟩) hHeld ?_
              case runk1a8 => (intro w9 hS9; obtain ⟨e1, e2, e3⟩ := hS9; go_simp; first | done | exact rfl | (simp [*]; done) | (simp; omega))
              try simp only [Act.put, List.setIfInBounds_toArray, List.set_cons_zero, List.set_cons_succ]
              refine wpAnyH_takeL (i := 9) (v := ?vk1a9) rfl (by kernel_rfl) (by kernel_rfl) (by kernel_rfl) (fun _ _ _ h => h) (Or.inl ⟨by kernel_rfl, ?runk1a9⟩) hHeld ?_
              case runk1a9 => (intro w9 hS9; obtain ⟨e1, e2, e3⟩ := hS9; go_simp; try exact rfl)
              try simp only [Act.put, List.setIfInBounds_toArray, List.set_cons_zero, List.set_cons_succ]
              refine wpAnyH_takeL (i := 10) (v := ?vk1a10) rfl (by kernel_rfl) (by kernel_rfl) (by kernel_rfl) (fun _ _ _ h => h) (Or.inl ⟨by kernel_rfl, ?runk1a10⟩) hHeld ?_
              case runk1a10 => (intro w9 hS9; obtain ⟨e1, e2, e3⟩ := hS9; go_simp; try exact rfl)
              try simp only [Act.put, List.setIfInBounds_toArray, List.set_cons_zero, List.set_cons_succ]
              refine wpAnyH_takeL (i := 11) (v := ?vk1a11) rfl (by kernel_rfl) (by kernel_rfl) (by kernel_rfl) (fun _ _ _ h => h) (Or.inl ⟨by kernel_rfl, ?runk1a11⟩) hHeld ?_
              case runk1a11 => (intro w9 hS9; obtain ⟨e1, e2, e3⟩ := hS9; go_simp; try exact rfl)
              try simp only [Act.put, List.setIfInBounds_toArray, List.set_cons_zero, List.set_cons_succ]
              refine wpAnyH_takeL (i := 12) (v := ?vk1a12) rfl (by kernel_rfl) (by kernel_rfl) (by kernel_rfl) (fun _ _ _ h => h) (Or.inl ⟨by kernel_rfl, ?runk1a12⟩) hHeld ?_
              case runk1a12 => (intro w9 hS9; obtain ⟨e1, e2, e3⟩ := hS9; go_simp; try exact rfl)
              try simp only [Act.put, List.setIfInBounds_toArray, List.set_cons_zero, List.set_cons_succ]
              refine wpAnyH_takeL (i := 13) (v := ?vk1a13) rfl (by kernel_rfl) (by kernel_rfl) (by kernel_rfl) (fun _ _ _ h => h) (Or.inl ⟨by kernel_rfl, ?runk1a13⟩) hHeld ?_
              case runk1a13 => (intro w9 hS9; obtain ⟨e1, e2, e3⟩ := hS9; go_simp; try exact rfl)
              try simp only [Act.put, List.setIfInBounds_toArray, List.set_cons_zero, List.set_cons_succ]
              refine wpAnyH_takeL (i := 14) (v := ?vk1a14) rfl (by kernel_rfl) (by kernel_rfl) (by kernel_rfl) (fun _ _ _ h => h) (Or.inl ⟨by kernel_rfl, ?runk1a14⟩) hHeld ?_
              case runk1a14 => (intro w9 hS9; obtain ⟨e1, e2, e3⟩ := hS9; go_simp; try exact rfl)
              try simp only [Act.put, List.setIfInBounds_toArray, List.set_cons_zero, List.set_cons_succ]
              refine wpAnyH_takeL (i := 15) (v := ?vk1a15) rfl (by kernel_rfl) (by kernel_rfl) (by kernel_rfl) (fun _ _ _ h => h) (Or.inl ⟨by kernel_rfl, ?runk1a15⟩) hHeld ?_
              case runk1a15 => (intro w9 hS9; obtain ⟨e1, e2, e3⟩ := hS9; go_simp; try exact rfl)
              try simp only [Act.put, List.setIfInBounds_toArray, List.set_cons_zero, List.set_cons_succ]
              refine wpAnyH_takeL (i := 16) (v := ?vk1a16) rfl (by kernel_rfl) (by kernel_rfl) (by kernel_rfl) (fun _ _ _ h => h) (Or.inl ⟨by kernel_rfl, ?runk1a16⟩) hHeld ?_
              case runk1a16 => (intro w9 hS9; obtain ⟨e1, e2, e3⟩ := hS9; go_simp; try exact rfl)
              try simp only [Act.put, List.setIfInBounds_toArray, List.set_cons_zero, List.set_cons_succ]
              refine wpAnyH_ready (rs := [17]) (by kernel_rfl) (by simp) ?_
              refine AllReadyH.cons rfl (fun K hK => ?_) AllReadyH.nil
              go_simp
              refine hK.out _ _ (SB.out _ ((Keep.refl [w.heap.size + 1] wc).drew.setCell (.inl (by simp)) _)) (fun hHeld2 => ?_)
              clear hK K hHeld
              have hHeld := hHeld2
              clear hHeld2
              try simp only [Act.put, List.setIfInBounds_toArray, List.set_cons_zero, List.set_cons_succ]
              refine wpAnyH_takeL (i := 18) (v := ?vk1a18) rfl (by kernel_rfl) (by kernel_rfl) (by kernel_rfl) (fun _ _ _ h => h) (Or.inl ⟨by kernel_rfl, ?runk1a18⟩) hHeld ?_
              case runk1a18 => (intro w9 hS9; obtain ⟨e1, e2, e3⟩ := hS9; go_simp; try exact rfl)
              try simp only [Act.put, List.setIfInBounds_toArray, List.set_cons_zero, List.set_cons_succ]
              refine wpAnyH_done (by kernel_rfl) ?_ _
              go_wp2_with fail
              obtain ⟨g1, g2, g3⟩ := st_box HB1.out HB2.out HK.out (Nat.le_refl _) rfl
              refine Met.intro (HJ.out _ _ (CutF.mk rfl ⟨_, tn, ⟨#[]⟩, rfl, rfl, rfl, g1, g2, g3, Or.inl ⟨rfl, ?_⟩⟩))
              rw [headOk_1, Bool.eq_iff_iff]
              simp only [toList_nil_iff, Bool.and_eq_true, decide_eq_true_eq, beq_iff_eq, and_true, beq_self_eq_true]
              first | done | omega | (simp only [iff_false]; omega) | (simp only [iff_true]; omega)
            · have q2 : decide (tn ≤ 576460752303423487) = false := by simpa using t2
              go_wp2_with fail
              refine wp_region_held_drew (S := fun w' => w'.cell? ⟨w.heap.size, 1, none⟩ = some (.int .i64 tn) ∧ w'.cell? ⟨w.heap.size, 2, none⟩ = some (.string ts) ∧ w'.cell? ⟨w.heap.size, 3, none⟩ = some (.slice a l.length c)) (by kernel_rfl) (SB.out _ (Keep.refl [w.heap.size + 1] wc).drew) (fun hHeld => ?_)
              refine wpAnyH_takeL (i := 0) (v := ?vk1b0) rfl (by kernel_rfl) (by kernel_rfl) (by kernel_rfl) (fun _ _ _ h => h) (Or.inl ⟨by kernel_rfl, ?runk1b0⟩) hHeld ?_
              case runk1b0 => (intro w9 hS9; obtain ⟨e1, e2, e3⟩ := hS9; go_simp; try exact rfl)
              try simp only [Act.put, List.setIfInBounds_toArray, List.set_cons_zero, List.set_cons_succ]
              refine wpAnyH_takeL (i := 1) (v := ?vk1b1) rfl (by kernel_rfl) (by kernel_rfl) (by kernel_rfl) (fun _ _ _ h => h) (Or.inl ⟨by kernel_rfl, ?runk1b1⟩) hHeld ?_
              case runk1b1 => (intro w9 hS9; obtain ⟨e1, e2, e3⟩ := hS9; go_simp; try exact rfl)
              try simp only [Act.put, List.setIfInBounds_toArray, List.set_cons_zero, List.set_cons_succ]
              refine wpAnyH_takeL (i := 2) (v := ?vk1b2) rfl (by kernel_rfl) (by kernel_rfl) (by kernel_rfl) (fun _ _ _ h => h) (Or.inl ⟨by kernel_rfl, ?runk1b2⟩) hHeld ?_
              case runk1b2 => (intro w9 hS9; obtain ⟨e1, e2, e3⟩ := hS9; go_simp; try exact rfl)
              try simp only [Act.put, List.setIfInBounds_toArray, List.set_cons_zero, List.set_cons_succ]
              refine wpAnyH_takeL (i := 3) (v := ?vk1b3) rfl (by kernel_rfl) (by kernel_rfl) (by kernel_rfl) (fun _ _ _ h => h) (Or.inl ⟨by kernel_rfl, ?runk1b3⟩) hHeld ?_
              case runk1b3 => (intro w9 hS9; obtain ⟨e1, e2, e3⟩ := hS9; go_simp; try exact rfl)
              try simp only [Act.put, List.setIfInBounds_toArray, List.set_cons_zero, List.set_cons_succ]
              refine wpAnyH_takeL (i := 4) (v := .bool true) rfl (by kernel_rfl) (by kernel_rfl) (by kernel_rfl) (fun _ _ _ h => h) (Or.inl ⟨by kernel_rfl, ?runk1b4⟩) hHeld ?_
              case runk1b4 => (intro w9 hS9; obtain ⟨e1, e2, e3⟩ := hS9; go_simp; first | done | exact rfl | (simp [*]; done) | (simp; omega))
              try simp only [Act.put, List.setIfInBounds_toArray, List.set_cons_zero, List.set_cons_succ]
              refine wpAnyH_takeL (i := 5) (v := ?vk1b5) rfl (by kernel_rfl) (by kernel_rfl) (by kernel_rfl) (fun _ _ _ h => h) (Or.inl ⟨by kernel_rfl, ?runk1b5⟩) hHeld ?_
              case runk1b5 => (intro w9 hS9; obtain ⟨e1, e2, e3⟩ := hS9; go_simp; try exact rfl)
              try simp only [Act.put, List.setIfInBounds_toArray, List.set_cons_zero, List.set_cons_succ]
              refine wpAnyH_takeL (i := 6) (v := ?vk1b6) rfl (by kernel_rfl) (by kernel_rfl) (by kernel_rfl) (fun _ _ _ h => h) (Or.inl ⟨by kernel_rfl, ?runk1b6⟩) hHeld ?_
              case runk1b6 => (intro w9 hS9; obtain ⟨e1, e2, e3⟩ := hS9; go_simp; try exact rfl)
              try simp only [Act.put, List.setIfInBounds_toArray, List.set_cons_zero, List.set_cons_succ]
              refine wpAnyH_takeL (i := 7) (v := ?vk1b7) rfl (by kernel_rfl) (by kernel_rfl) (by kernel_rfl) (fun _ _ _ h => h) (Or.inl ⟨by kernel_rfl, ?runk1b7⟩) hHeld ?_
              case runk1b7 => (intro w9 hS9; obtain ⟨e1, e2, e3⟩ := hS9; go_simp; try exact rfl)
              try simp only [Act.put, List.setIfInBounds_toArray, List.set_cons_zero, List.set_cons_succ]
              refine wpAnyH_takeL (i := 8) (v := .bool false) rfl (by kernel_rfl) (by kernel_rfl) (by kernel_rfl) (fun _ _ _ h => h) (Or.inl ⟨by kernel_rfl, ?runk1b8⟩) hHeld ?_
              case runk1b8 => (intro w9 hS9; obtain ⟨e1, e2, e3⟩ := hS9; go_simp; first | done | exact rfl | (simp [*]; done) | (simp; omega))
              try simp only [Act.put, List.setIfInBounds_toArray, List.set_cons_zero, List.set_cons_succ]
              refine wpAnyH_takeL (i := 9) (v := .bool false) rfl (by kernel_rfl) (by kernel_rfl) (by kernel_rfl) (fun _ _ _ h => h) (Or.inl ⟨by kernel_rfl, ?runk1b9⟩) hHeld ?_
              case runk1b9 => (intro w9 hS9; obtain ⟨e1, e2, e3⟩ := hS9; go_simp; first | done | exact rfl | (simp [*]; done) | (simp; omega))
              try simp only [Act.put, List.setIfInBounds_toArray, List.set_cons_zero, List.set_cons_succ]
              refine wpAnyH_takeL (i := 10) (v := ?vk1b10) rfl (by kernel_rfl) (by kernel_rfl) (by kernel_rfl) (fun _ _ _ h => h) (Or.inl ⟨by kernel_rfl, ?runk1b10⟩) hHeld ?_
              case runk1b10 => (intro w9 hS9; obtain ⟨e1, e2, e3⟩ := hS9; go_simp; try exact rfl)
              try simp only [Act.put, List.setIfInBounds_toArray, List.set_cons_zero, List.set_cons_succ]
              refine wpAnyH_takeL (i := 11) (v := undef) rfl (by kernel_rfl) (by kernel_rfl) (by kernel_rfl) (fun _ _ _ h => h) (Or.inr ⟨by kernel_rfl, rfl⟩) hHeld ?_
              try simp only [Act.put, List.setIfInBounds_toArray, List.set_cons_zero, List.set_cons_succ]
              refine wpAnyH_takeL (i := 12) (v := undef) rfl (by kernel_rfl) (by kernel_rfl) (by kernel_rfl) (fun _ _ _ h => h) (Or.inr ⟨by kernel_rfl, rfl⟩) hHeld ?_
              try simp only [Act.put, List.setIfInBounds_toArray, List.set_cons_zero, List.set_cons_succ]
              refine wpAnyH_takeL (i := 13) (v := undef) rfl (by kernel_rfl) (by kernel_rfl) (by kernel_rfl) (fun _ _ _ h => h) (Or.inr ⟨by kernel_rfl, rfl⟩) hHeld ?_
              try simp only [Act.put, List.setIfInBounds_toArray, List.set_cons_zero, List.set_cons_succ]
              refine wpAnyH_takeL (i := 14) (v := undef) rfl (by kernel_rfl) (by kernel_rfl) (by kernel_rfl) (fun _ _ _ h => h) (Or.inr ⟨by kernel_rfl, rfl⟩) hHeld ?_
              try simp only [Act.put, List.setIfInBounds_toArray, List.set_cons_zero, List.set_cons_succ]
              refine wpAnyH_takeL (i := 15) (v := .bool false) rfl (by kernel_rfl) (by kernel_rfl) (by kernel_rfl) (fun _ _ _ h => h) (Or.inl ⟨by kernel_rfl, ?runk1b15⟩) hHeld ?_
              case runk1b15 => (intro w9 hS9; obtain ⟨e1, e2, e3⟩ := hS9; go_simp; first | done | exact rfl | (simp [*]; done) | (simp; omega))
              try simp only [Act.put, List.setIfInBounds_toArray, List.set_cons_zero, List.set_cons_succ]
              refine wpAnyH_takeL (i := 16) (v := ?vk1b16) rfl (by kernel_rfl) (by kernel_rfl) (by kernel_rfl) (fun _ _ _ h => h) (Or.inl ⟨by kernel_rfl, ?runk1b16⟩) hHeld ?_
              case runk1b16 => (intro w9 hS9; obtain ⟨e1, e2, e3⟩ := hS9; go_simp; try exact rfl)
              try simp only [Act.put, List.setIfInBounds_toArray, List.set_cons_zero, List.set_cons_succ]
              refine wpAnyH_ready (rs := [17]) (by kernel_rfl) (by simp) ?_
              refine AllReadyH.cons rfl (fun K hK => ?_) AllReadyH.nil
              go_simp
              refine hK.out _ _ (SB.out _ ((Keep.refl [w.heap.size + 1] wc).drew.setCell (.inl (by simp)) _)) (fun hHeld2 => ?_)
              clear hK K hHeld
              have hHeld := hHeld2
              clear hHeld2
              try simp only [Act.put, List.setIfInBounds_toArray, List.set_cons_zero, List.set_cons_succ]
              refine wpAnyH_takeL (i := 18) (v := ?vk1b18) rfl (by kernel_rfl) (by kernel_rfl) (by kernel_rfl) (fun _ _ _ h => h) (Or.inl ⟨by kernel_rfl, ?runk1b18⟩) hHeld ?_
              case runk1b18 => (intro w9 hS9; obtain ⟨e1, e2, e3⟩ := hS9; go_simp; try exact rfl)
              try simp only [Act.put, List.setIfInBounds_toArray, List.set_cons_zero, List.set_cons_succ]
              refine wpAnyH_done (by kernel_rfl) ?_ _
              go_wp2_with fail
              obtain ⟨g1, g2, g3⟩ := st_box HB1.out HB2.out HK.out (Nat.le_refl _) rfl
              refine Met.intro (HJ.out _ _ (CutF.mk rfl ⟨_, tn, ⟨#[]⟩, rfl, rfl, rfl, g1, g2, g3, Or.inl ⟨rfl, ?_⟩⟩))
              rw [headOk_1, Bool.eq_iff_iff]
              simp only [toList_nil_iff, Bool.and_eq_true, decide_eq_true_eq, Bool.false_eq_true, false_and, and_true, beq_self_eq_true]
              first | done | omega | (simp only [iff_false]; omega) | (simp only [iff_true]; omega)
          · have q1 : decide (-576460752303423488 ≤ tn) = false := by simpa using t1
            go_wp2_with fail
            refine wp_region_held_drew (S := fun w' => w'.cell? ⟨w.heap.size, 1, none⟩ = some (.int .i64 tn) ∧ w'.cell? ⟨w.heap.size, 2, none⟩ = some (.string ts) ∧ w'.cell? ⟨w.heap.size, 3, none⟩ = some (.slice a l.length c)) (by kernel_rfl) (SB.out _ (Keep.refl [w.heap.size + 1] wc).drew) (fun hHeld => ?_)
            refine wpAnyH_takeL (i := 0) (v := ?vk1c0) rfl (by kernel_rfl) (by kernel_rfl) (by kernel_rfl) (fun _ _ _ h => h) (Or.inl ⟨by kernel_rfl, ?runk1c0⟩) hHeld ?_
            case runk1c0 => (intro w9 hS9; obtain ⟨e1, e2, e3⟩ := hS9; go_simp; try exact rfl)
            try simp only [Act.put, List.setIfInBounds_toArray, List.set_cons_zero, List.set_cons_succ]
            refine wpAnyH_takeL (i := 1) (v := ?vk1c1) rfl (by kernel_rfl) (by kernel_rfl) (by kernel_rfl) (fun _ _ _ h => h) (Or.inl ⟨by kernel_rfl, ?runk1c1⟩) hHeld ?_
            case runk1c1 => (intro w9 hS9; obtain ⟨e1, e2, e3⟩ := hS9; go_simp; try exact rfl)
            try simp only [Act.put, List.setIfInBounds_toArray, List.set_cons_zero, List.set_cons_succ]
            refine wpAnyH_takeL (i := 2) (v := ?vk1c2) rfl (by kernel_rfl) (by kernel_rfl) (by kernel_rfl) (fun _ _ _ h => h) (Or.inl ⟨by kernel_rfl, ?runk1c2⟩) hHeld ?_
            case runk1c2 => (intro w9 hS9; obtain ⟨e1, e2, e3⟩ := hS9; go_simp; try exact rfl)
            try simp only [Act.put, List.setIfInBounds_toArray, List.set_cons_zero, List.set_cons_succ]
            refine wpAnyH_takeL (i := 3) (v := ?vk1c3) rfl (by kernel_rfl) (by kernel_rfl) (by kernel_rfl) (fun _ _ _ h => h) (Or.inl ⟨by kernel_rfl, ?runk1c3⟩) hHeld ?_
            case runk1c3 => (intro w9 hS9; obtain ⟨e1, e2, e3⟩ := hS9; go_simp; try exact rfl)
            try simp only [Act.put, List.setIfInBounds_toArray, List.set_cons_zero, List.set_cons_succ]
            refine wpAnyH_takeL (i := 4) (v := .bool false) rfl (by kernel_rfl) (by kernel_rfl) (by kernel_rfl) (fun _ _ _ h => h) (Or.inl ⟨by kernel_rfl, ?runk1c4⟩) hHeld ?_
            case runk1c4 => (intro w9 hS9; obtain ⟨e1, e2, e3⟩ := hS9; go_simp; first | done | exact rfl | (simp [*]; done) | (simp; omega))
            try simp only [Act.put, List.setIfInBounds_toArray, List.set_cons_zero, List.set_cons_succ]
            refine wpAnyH_takeL (i := 5) (v := ?vk1c5) rfl (by kernel_rfl) (by kernel_rfl) (by kernel_rfl) (fun _ _ _ h => h) (Or.inl ⟨by kernel_rfl, ?runk1c5⟩) hHeld ?_
            case runk1c5 => (intro w9 hS9; obtain ⟨e1, e2, e3⟩ := hS9; go_simp; try exact rfl)
            try simp only [Act.put, List.setIfInBounds_toArray, List.set_cons_zero, List.set_cons_succ]
            refine wpAnyH_takeL (i := 6) (v := undef) rfl (by kernel_rfl) (by kernel_rfl) (by kernel_rfl) (fun _ _ _ h => h) (Or.inr ⟨by kernel_rfl, rfl⟩) hHeld ?_
            try simp only [Act.put, List.setIfInBounds_toArray, List.set_cons_zero, List.set_cons_succ]
            refine wpAnyH_takeL (i := 7) (v := undef) rfl (by kernel_rfl) (by kernel_rfl) (by kernel_rfl) (fun _ _ _ h => h) (Or.inr ⟨by kernel_rfl, rfl⟩) hHeld ?_
            try simp only [Act.put, List.setIfInBounds_toArray, List.set_cons_zero, List.set_cons_succ]
            refine wpAnyH_takeL (i := 8) (v := undef) rfl (by kernel_rfl) (by kernel_rfl) (by kernel_rfl) (fun _ _ _ h => h) (Or.inr ⟨by kernel_rfl, rfl⟩) hHeld ?_
            try simp only [Act.put, List.setIfInBounds_toArray, List.set_cons_zero, List.set_cons_succ]
            refine wpAnyH_takeL (i := 9) (v := .bool false) rfl (by kernel_rfl) (by kernel_rfl) (by kernel_rfl) (fun _ _ _ h => h) (Or.inl ⟨by kernel_rfl, ?runk1c9⟩) hHeld ?_
            case runk1c9 => (intro w9 hS9; obtain ⟨e1, e2, e3⟩ := hS9; go_simp; first | done | exact rfl | (simp [*]; done) | (simp; omega))
            try simp only [Act.put, List.setIfInBounds_toArray, List.set_cons_zero, List.set_cons_succ]
            refine wpAnyH_takeL (i := 10) (v := ?vk1c10) rfl (by kernel_rfl) (by kernel_rfl) (by kernel_rfl) (fun _ _ _ h => h) (Or.inl ⟨by kernel_rfl, ?runk1c10⟩) hHeld ?_
            case runk1c10 => (intro w9 hS9; obtain ⟨e1, e2, e3⟩ := hS9; go_simp; try exact rfl)
            try simp only [Act.put, List.setIfInBounds_toArray, List.set_cons_zero, List.set_cons_succ]
            refine wpAnyH_takeL (i := 11) (v := undef) rfl (by kernel_rfl) (by kernel_rfl) (by kernel_rfl) (fun _ _ _ h => h) (Or.inr ⟨by kernel_rfl, rfl⟩) hHeld ?_
            try simp only [Act.put, List.setIfInBounds_toArray, List.set_cons_zero, List.set_cons_succ]
            refine wpAnyH_takeL (i := 12) (v := undef) rfl (by kernel_rfl) (by kernel_rfl) (by kernel_rfl) (fun _ _ _ h => h) (Or.inr ⟨by kernel_rfl, rfl⟩) hHeld ?_
            try simp only [Act.put, List.setIfInBounds_toArray, List.set_cons_zero, List.set_cons_succ]
            refine wpAnyH_takeL (i := 13) (v := undef) rfl (by kernel_rfl) (by kernel_rfl) (by kernel_rfl) (fun _ _ _ h => h) (Or.inr ⟨by kernel_rfl, rfl⟩) hHeld ?_
            try simp only [Act.put, List.setIfInBounds_toArray, List.set_cons_zero, List.set_cons_succ]
            refine wpAnyH_takeL (i := 14) (v := undef) rfl (by kernel_rfl) (by kernel_rfl) (by kernel_rfl) (fun _ _ _ h => h) (Or.inr ⟨by kernel_rfl, rfl⟩) hHeld ?_
            try simp only [Act.put, List.setIfInBounds_toArray, List.set_cons_zero, List.set_cons_succ]
            refine wpAnyH_takeL (i := 15) (v := .bool false) rfl (by kernel_rfl) (by kernel_rfl) (by kernel_rfl) (fun _ _ _ h => h) (Or.inl ⟨by kernel_rfl, ?runk1c15⟩) hHeld ?_
            case runk1c15 => (intro w9 hS9; obtain ⟨e1, e2, e3⟩ := hS9; go_simp; first | done | exact rfl | (simp [*]; done) | (simp; omega))
            try simp only [Act.put, List.setIfInBounds_toArray, List.set_cons_zero, List.set_cons_succ]
            refine wpAnyH_takeL (i := 16) (v := ?vk1c16) rfl (by kernel_rfl) (by kernel_rfl) (by kernel_rfl) (fun _ _ _ h => h) (Or.inl ⟨by kernel_rfl, ?runk1c16⟩) hHeld ?_
            case runk1c16 => (intro w9 hS9; obtain ⟨e1, e2, e3⟩ := hS9; go_simp; try exact rfl)
            try simp only [Act.put, List.setIfInBounds_toArray, List.set_cons_zero, List.set_cons_succ]
            refine wpAnyH_ready (rs := [17]) (by kernel_rfl) (by simp) ?_
            refine AllReadyH.cons rfl (fun K hK => ?_) AllReadyH.nil
            go_simp
            refine hK.out _ _ (SB.out _ ((Keep.refl [w.heap.size + 1] wc).drew.setCell (.inl (by simp)) _)) (fun hHeld2 => ?_)
            clear hK K hHeld
            have hHeld := hHeld2
            clear hHeld2
            try simp only [Act.put, List.setIfInBounds_toArray, List.set_cons_zero, List.set_cons_succ]
            refine wpAnyH_takeL (i := 18) (v := ?vk1c18) rfl (by kernel_rfl) (by kernel_rfl) (by kernel_rfl) (fun _ _ _ h => h) (Or.inl ⟨by kernel_rfl, ?runk1c18⟩) hHeld ?_
            case runk1c18 => (intro w9 hS9; obtain ⟨e1, e2, e3⟩ := hS9; go_simp; try exact rfl)
            try simp only [Act.put, List.setIfInBounds_toArray, List.set_cons_zero, List.set_cons_succ]
            refine wpAnyH_done (by kernel_rfl) ?_ _
            go_wp2_with fail
            obtain ⟨g1, g2, g3⟩ := st_box HB1.out HB2.out HK.out (Nat.le_refl _) rfl
            refine Met.intro (HJ.out _ _ (CutF.mk rfl ⟨_, tn, ⟨#[]⟩, rfl, rfl, rfl, g1, g2, g3, Or.inl ⟨rfl, ?_⟩⟩))
            rw [headOk_1, Bool.eq_iff_iff]
            simp only [toList_nil_iff, Bool.and_eq_true, decide_eq_true_eq, Bool.false_eq_true, false_and, and_true, beq_self_eq_true]
            first | done | omega | (simp only [iff_false]; omega) | (simp only [iff_true]; omega)
        by_cases k3 : tk = 3
        · as_aux_lemma =>
          subst k3
          by_cases t1 : 0 ≤ tn
          · have q1 : decide (0 ≤ tn) = true := by simpa using t1
            by_cases t2 : tn ≤ 576460752303423487
            · have q2 : decide (tn ≤ 576460752303423487) = true := by simpa using t2
              go_wp2_with fail
              refine wp_region_held_drew (S := fun w' => w'.cell? ⟨w.heap.size, 1, none⟩ = some (.int .i64 tn) ∧ w'.cell? ⟨w.heap.size, 2, none⟩ = some (.string ts) ∧ w'.cell? ⟨w.heap.size, 3, none⟩ = some (.slice a l.length c)) (by kernel_rfl) (SB.out _ (Keep.refl [w.heap.size + 1] wc).drew) (fun hHeld => ?_)
              refine wpAnyH_takeL (i := 0) (v := ?vk3a0) rfl (by kernel_rfl) (by kernel_rfl) (by kernel_rfl) (fun _ _ _ h => h) (Or.inl ⟨by kernel_rfl, ?runk3a0⟩) hHeld ?_
              case runk3a0 => (intro w9 hS9; obtain ⟨e1, e2, e3⟩ := hS9; go_simp; try exact rfl)
              try simp only [Act.put, List.setIfInBounds_toArray, List.set_cons_zero, List.set_cons_succ]
              refine wpAnyH_takeL (i := 1) (v := ?vk3a1) rfl (by kernel_rfl) (by kernel_rfl) (by kernel_rfl) (fun _ _ _ h => h) (Or.inl ⟨by kernel_rfl, ?runk3a1⟩) hHeld ?_
              case runk3a1 => (intro w9 hS9; obtain ⟨e1, e2, e3⟩ := hS9; go_simp; try exact rfl)
              try simp only [Act.put, List.setIfInBounds_toArray, List.set_cons_zero, List.set_cons_succ]
              refine wpAnyH_takeL (i := 2) (v := ?vk3a2) rfl (by kernel_rfl) (by kernel_rfl) (by kernel_rfl) (fun _ _ _ h => h) (Or.inl ⟨by kernel_rfl, ?runk3a2⟩) hHeld ?_
              case runk3a2 => (intro w9 hS9; obtain ⟨e1, e2, e3⟩ := hS9; go_simp; try exact rfl)
              try simp only [Act.put, List.setIfInBounds_toArray, List.set_cons_zero, List.set_cons_succ]
              refine wpAnyH_takeL (i := 3) (v := ?vk3a3) rfl (by kernel_rfl) (by kernel_rfl) (by kernel_rfl) (fun _ _ _ h => h) (Or.inl ⟨by kernel_rfl, ?runk3a3⟩) hHeld ?_
              case runk3a3 => (intro w9 hS9; obtain ⟨e1, e2, e3⟩ := hS9; go_simp; try exact rfl)
              try simp only [Act.put, List.setIfInBounds_toArray, List.set_cons_zero, List.set_cons_succ]
              refine wpAnyH_takeL (i := 4) (v := .bool true) rfl (by kernel_rfl) (by kernel_rfl) (by kernel_rfl) (fun _ _ _ h => h) (Or.inl ⟨by kernel_rfl, ?runk3a4⟩) hHeld ?_
              case runk3a4 => (intro w9 hS9; obtain ⟨e1, e2, e3⟩ := hS9; go_simp; first | done | exact rfl | (simp [*]; done) | (simp; omega))
              try simp only [Act.put, List.setIfInBounds_toArray, List.set_cons_zero, List.set_cons_succ]
              refine wpAnyH_takeL (i := 5) (v := ?vk3a5) rfl (by kernel_rfl) (by kernel_rfl) (by kernel_rfl) (fun _ _ _ h => h) (Or.inl ⟨by kernel_rfl, ?runk3a5⟩) hHeld ?_
              case runk3a5 => (intro w9 hS9; obtain ⟨e1, e2, e3⟩ := hS9; go_simp; try exact rfl)
              try simp only [Act.put, List.setIfInBounds_toArray, List.set_cons_zero, List.set_cons_succ]
              refine wpAnyH_takeL (i := 6) (v := ?vk3a6) rfl (by kernel_rfl) (by kernel_rfl) (by kernel_rfl) (fun _ _ _ h => h) (Or.inl ⟨by kernel_rfl, ?runk3a6⟩) hHeld ?_
              case runk3a6 => (intro w9 hS9; obtain ⟨e1, e2, e3⟩ := hS9; go_simp; try exact rfl)
              try simp only [Act.put, List.setIfInBounds_toArray, List.set_cons_zero, List.set_cons_succ]
              refine wpAnyH_takeL (i := 7) (v := ?vk3a7) rfl (by kernel_rfl) (by kernel_rfl) (by kernel_rfl) (fun _ _ _ h => h) (Or.inl ⟨by kernel_rfl, ?runk3a7⟩) hHeld ?_
              case runk3a7 => (intro w9 hS9; obtain ⟨e1, e2, e3⟩ := hS9; go_simp; try exact rfl)
              try simp only [Act.put, List.setIfInBounds_toArray, List.set_cons_zero, List.set_cons_succ]
              refine wpAnyH_takeL (i := 8) (v := .bool true) rfl (by kernel_rfl) (by kernel_rfl) (by kernel_rfl) (fun _ _ _ h => h) (Or.inl ⟨by kernel_rfl, ?runk3a8⟩) hHeld ?_
              case runk3a8 => (intro w9 hS9; obtain ⟨e1, e2, e3⟩ := hS9; go_simp; first | done | exact rfl | (simp [*]; done) | (simp; omega))
              try simp only [Act.put, List.setIfInBounds_toArray, List.set_cons_zero, List.set_cons_succ]
              refine wpAnyH_takeL (i := 9) (v := ?vk3a9) rfl (by kernel_rfl) (by kernel_rfl) (by kernel_rfl) (fun _ _ _ h => h) (Or.inl ⟨by kernel_rfl, ?runk3a9⟩) hHeld ?_
              case runk3a9 => (intro w9 hS9; obtain ⟨e1, e2, e3⟩ := hS9; go_simp; try exact rfl)
              try simp only [Act.put, List.setIfInBounds_toArray, List.set_cons_zero, List.set_cons_succ]
              refine wpAnyH_takeL (i := 10) (v := ?vk3a10) rfl (by kernel_rfl) (by kernel_rfl) (by kernel_rfl) (fun _ _ _ h => h) (Or.inl ⟨by kernel_rfl, ?runk3a10⟩) hHeld ?_
              case runk3a10 => (intro w9 hS9; obtain ⟨e1, e2, e3⟩ := hS9; go_simp; try exact rfl)
              try simp only [Act.put, List.setIfInBounds_toArray, List.set_cons_zero, List.set_cons_succ]
              refine wpAnyH_takeL (i := 11) (v := ?vk3a11) rfl (by kernel_rfl) (by kernel_rfl) (by kernel_rfl) (fun _ _ _ h => h) (Or.inl ⟨by kernel_rfl, ?runk3a11⟩) hHeld ?_
              case runk3a11 => (intro w9 hS9; obtain ⟨e1, e2, e3⟩ := hS9; go_simp; try exact rfl)
              try simp only [Act.put, List.setIfInBounds_toArray, List.set_cons_zero, List.set_cons_succ]
              refine wpAnyH_takeL (i := 12) (v := ?vk3a12) rfl (by kernel_rfl) (by kernel_rfl) (by kernel_rfl) (fun _ _ _ h => h) (Or.inl ⟨by kernel_rfl, ?runk3a12⟩) hHeld ?_
              case runk3a12 => (intro w9 hS9; obtain ⟨e1, e2, e3⟩ := hS9; go_simp; try exact rfl)
              try simp only [Act.put, List.setIfInBounds_toArray, List.set_cons_zero, List.set_cons_succ]
              refine wpAnyH_takeL (i := 13) (v := ?vk3a13) rfl (by kernel_rfl) (by kernel_rfl) (by kernel_rfl) (fun _ _ _ h => h) (Or.inl ⟨by kernel_rfl, ?runk3a13⟩) hHeld ?_
              case runk3a13 => (intro w9 hS9; obtain ⟨e1, e2, e3⟩ := hS9; go_simp; try exact rfl)
              try simp only [Act.put, List.setIfInBounds_toArray, List.set_cons_zero, List.set_cons_succ]
              refine wpAnyH_takeL (i := 14) (v := ?vk3a14) rfl (by kernel_rfl) (by kernel_rfl) (by kernel_rfl) (fun _ _ _ h => h) (Or.inl ⟨by kernel_rfl, ?runk3a14⟩) hHeld ?_
              case runk3a14 => (intro w9 hS9; obtain ⟨e1, e2, e3⟩ := hS9; go_simp; try exact rfl)
              try simp only [Act.put, List.setIfInBounds_toArray, List.set_cons_zero, List.set_cons_succ]
              refine wpAnyH_takeL (i := 15) (v := ?vk3a15) rfl (by kernel_rfl) (by kernel_rfl) (by kernel_rfl) (fun _ _ _ h => h) (Or.inl ⟨by kernel_rfl, ?runk3a15⟩) hHeld ?_
              case runk3a15 => (intro w9 hS9; obtain ⟨e1, e2, e3⟩ := hS9; go_simp; try exact rfl)
              try simp only [Act.put, List.setIfInBounds_toArray, List.set_cons_zero, List.set_cons_succ]
              refine wpAnyH_takeL (i := 16) (v := ?vk3a16) rfl (by kernel_rfl) (by kernel_rfl) (by kernel_rfl) (fun _ _ _ h => h) (Or.inl ⟨by kernel_rfl, ?runk3a16⟩) hHeld ?_
              case runk3a16 => (intro w9 hS9; obtain ⟨e1, e2, e3⟩ := hS9; go_simp; try exact rfl)
              try simp only [Act.put, List.setIfInBounds_toArray, List.set_cons_zero, List.set_cons_succ]
              refine wpAnyH_ready (rs := [17]) (by kernel_rfl) (by simp) ?_
              refine AllReadyH.cons rfl (fun K hK => ?_) AllReadyH.nil
              go_simp
              refine hK.out _ _ (SB.out _ ((Keep.refl [w.heap.size + 1] wc).drew.setCell (.inl (by simp)) _)) (fun hHeld2 => ?_)
              clear hK K hHeld
              have hHeld := hHeld2
              clear hHeld2
              try simp only [Act.put, List.setIfInBounds_toArray, List.set_cons_zero, List.set_cons_succ]
              refine wpAnyH_takeL (i := 18) (v := ?vk3a18) rfl (by kernel_rfl) (by kernel_rfl) (by kernel_rfl) (fun _ _ _ h => h) (Or.inl ⟨by kernel_rfl, ?runk3a18⟩) hHeld ?_
              case runk3a18 => (intro w9 hS9; obtain ⟨e1, e2, e3⟩ := hS9; go_simp; try exact rfl)
              try simp only [Act.put, List.setIfInBounds_toArray, List.set_cons_zero, List.set_cons_succ]
              refine wpAnyH_done (by kernel_rfl) ?_ _
              go_wp2_with fail
              obtain ⟨g1, g2, g3⟩ := st_box HB1.out HB2.out HK.out (Nat.le_refl _) rfl
              refine Met.intro (HJ.out _ _ (CutF.mk rfl ⟨_, tn, ⟨#[]⟩, rfl, rfl, rfl, g1, g2, g3, Or.inl ⟨rfl, ?_⟩⟩))
              rw [headOk_3, Bool.eq_iff_iff]
              simp only [toList_nil_iff, Bool.and_eq_true, decide_eq_true_eq, beq_iff_eq, and_true, beq_self_eq_true]
              first | done | omega | (simp only [iff_false]; omega) | (simp only [iff_true]; omega)
            · have q2 : decide (tn ≤ 576460752303423487) = false := by simpa using t2
              go_wp2_with fail
              refine wp_region_held_drew (S := fun w' => w'.cell? ⟨w.heap.size, 1, none⟩ = some (.int .i64 tn) ∧ w'.cell? ⟨w.heap.size, 2, none⟩ = some (.string ts) ∧ w'.cell? ⟨w.heap.size, 3, none⟩ = some (.slice a l.length c)) (by kernel_rfl) (SB.out _ (Keep.refl [w.heap.size + 1] wc).drew) (fun hHeld => ?_)
              refine wpAnyH_takeL (i := 0) (v := ?vk3b0) rfl (by kernel_rfl) (by kernel_rfl) (by kernel_rfl) (fun _ _ _ h => h) (Or.inl ⟨by kernel_rfl, ?runk3b0⟩) hHeld ?_
              case runk3b0 => (intro w9 hS9; obtain ⟨e1, e2, e3⟩ := hS9; go_simp; try exact rfl)
              try simp only [Act.put, List.setIfInBounds_toArray, List.set_cons_zero, List.set_cons_succ]
              refine wpAnyH_takeL (i := 1) (v := ?vk3b1) rfl (by kernel_rfl) (by kernel_rfl) (by kernel_rfl) (fun _ _ _ h => h) (Or.inl ⟨by kernel_rfl, ?runk3b1⟩) hHeld ?_
              case runk3b1 => (intro w9 hS9; obtain ⟨e1, e2, e3⟩ := hS9; go_simp; try exact rfl)
              try simp only [Act.put, List.setIfInBounds_toArray, List.set_cons_zero, List.set_cons_succ]
              refine wpAnyH_takeL (i := 2) (v := ?vk3b2) rfl (by kernel_rfl) (by kernel_rfl) (by kernel_rfl) (fun _ _ _ h => h) (Or.inl ⟨by kernel_rfl, ?runk3b2⟩) hHeld ?_
              case runk3b2 => (intro w9 hS9; obtain ⟨e1, e2, e3⟩ := hS9; go_simp; try exact rfl)
              try simp only [Act.put, List.setIfInBounds_toArray, List.set_cons_zero, List.set_cons_succ]
              refine wpAnyH_takeL (i := 3) (v := ?vk3b3) rfl (by kernel_rfl) (by kernel_rfl) (by kernel_rfl) (fun _ _ _ h => h) (Or.inl ⟨by kernel_rfl, ?runk3b3⟩) hHeld ?_
              case runk3b3 => (intro w9 hS9; obtain ⟨e1, e2, e3⟩ := hS9; go_simp; try exact rfl)
              try simp only [Act.put, List.setIfInBounds_toArray, List.set_cons_zero, List.set_cons_succ]
              refine wpAnyH_takeL (i := 4) (v := .bool true) rfl (by kernel_rfl) (by kernel_rfl) (by kernel_rfl) (fun _ _ _ h => h) (Or.inl ⟨by kernel_rfl, ?runk3b4⟩) hHeld ?_
              case runk3b4 => (intro w9 hS9; obtain ⟨e1, e2, e3⟩ := hS9; go_simp; first | done | exact rfl | (simp [*]; done) | (simp; omega))
              try simp only [Act.put, List.setIfInBounds_toArray, List.set_cons_zero, List.set_cons_succ]
              refine wpAnyH_takeL (i := 5) (v := ?vk3b5) rfl (by kernel_rfl) (by kernel_rfl) (by kernel_rfl) (fun _ _ _ h => h) (Or.inl ⟨by kernel_rfl, ?runk3b5⟩) hHeld ?_
              case runk3b5 => (intro w9 hS9; obtain ⟨e1, e2, e3⟩ := hS9; go_simp; try exact rfl)
              try simp only [Act.put, List.setIfInBounds_toArray, List.set_cons_zero, List.set_cons_succ]
              refine wpAnyH_takeL (i := 6) (v := ?vk3b6) rfl (by kernel_rfl) (by kernel_rfl) (by kernel_rfl) (fun _ _ _ h => h) (Or.inl ⟨by kernel_rfl, ?runk3b6⟩) hHeld ?_
              case runk3b6 => (intro w9 hS9; obtain ⟨e1, e2, e3⟩ := hS9; go_simp; try exact rfl)
              try simp only [Act.put, List.setIfInBounds_toArray, List.set_cons_zero, List.set_cons_succ]
              refine wpAnyH_takeL (i := 7) (v := ?vk3b7) rfl (by kernel_rfl) (by kernel_rfl) (by kernel_rfl) (fun _ _ _ h => h) (Or.inl ⟨by kernel_rfl, ?runk3b7⟩) hHeld ?_
              case runk3b7 => (intro w9 hS9; obtain ⟨e1, e2, e3⟩ := hS9; go_simp; try exact rfl)
              try simp only [Act.put, List.setIfInBounds_toArray, List.set_cons_zero, List.set_cons_succ]
              refine wpAnyH_takeL (i := 8) (v := .bool false) rfl (by kernel_rfl) (by kernel_rfl) (by kernel_rfl) (fun _ _ _ h => h) (Or.inl ⟨by kernel_rfl, ?runk3b8⟩) hHeld ?_
              case runk3b8 => (intro w9 hS9; obtain ⟨e1, e2, e3⟩ := hS9; go_simp; first | done | exact rfl | (simp [*]; done) | (simp; omega))
              try simp only [Act.put, List.setIfInBounds_toArray, List.set_cons_zero, List.set_cons_succ]
              refine wpAnyH_takeL (i := 9) (v := .bool false) rfl (by kernel_rfl) (by kernel_rfl) (by kernel_rfl) (fun _ _ _ h => h) (Or.inl ⟨by kernel_rfl, ?runk3b9⟩) hHeld ?_
              case runk3b9 => (intro w9 hS9; obtain ⟨e1, e2, e3⟩ := hS9; go_simp; first | done | exact rfl | (simp [*]; done) | (simp; omega))
              try simp only [Act.put, List.setIfInBounds_toArray, List.set_cons_zero, List.set_cons_succ]
              refine wpAnyH_takeL (i := 10) (v := ?vk3b10) rfl (by kernel_rfl) (by kernel_rfl) (by kernel_rfl) (fun _ _ _ h => h) (Or.inl ⟨by kernel_rfl, ?runk3b10⟩) hHeld ?_
              case runk3b10 => (intro w9 hS9; obtain ⟨e1, e2, e3⟩ := hS9; go_simp; try exact rfl)
              try simp only [Act.put, List.setIfInBounds_toArray, List.set_cons_zero, List.set_cons_succ]
              refine wpAnyH_takeL (i := 11) (v := undef) rfl (by kernel_rfl) (by kernel_rfl) (by kernel_rfl) (fun _ _ _ h => h) (Or.inr ⟨by kernel_rfl, rfl⟩) hHeld ?_
              try simp only [Act.put, List.setIfInBounds_toArray, List.set_cons_zero, List.set_cons_succ]
              refine wpAnyH_takeL (i := 12) (v := undef) rfl (by kernel_rfl) (by kernel_rfl) (by kernel_rfl) (fun _ _ _ h => h) (Or.inr ⟨by kernel_rfl, rfl⟩) hHeld ?_
              try simp only [Act.put, List.setIfInBounds_toArray, List.set_cons_zero, List.set_cons_succ]
              refine wpAnyH_takeL (i := 13) (v := undef) rfl (by kernel_rfl) (by kernel_rfl) (by kernel_rfl) (fun _ _ _ h => h) (Or.inr ⟨by kernel_rfl, rfl⟩) hHeld ?_
              try simp only [Act.put, List.setIfInBounds_toArray, List.set_cons_zero, List.set_cons_succ]
              refine wpAnyH_takeL (i := 14) (v := undef) rfl (by kernel_rfl) (by kernel_rfl) (by kernel_rfl) (fun _ _ _ h => h) (Or.inr ⟨by kernel_rfl, rfl⟩) hHeld ?_
              try simp only [Act.put, List.setIfInBounds_toArray, List.set_cons_zero, List.set_cons_succ]
              refine wpAnyH_takeL (i := 15) (v := .bool false) rfl (by kernel_rfl) (by kernel_rfl) (by kernel_rfl) (fun _ _ _ h => h) (Or.inl ⟨by kernel_rfl, ?runk3b15⟩) hHeld ?_
              case runk3b15 => (intro w9 hS9; obtain ⟨e1, e2, e3⟩ := hS9; go_simp; first | done | exact rfl | (simp [*]; done) | (simp; omega))
              try simp only [Act.put, List.setIfInBounds_toArray, List.set_cons_zero, List.set_cons_succ]
              refine wpAnyH_takeL (i := 16) (v := ?vk3b16) rfl (by kernel_rfl) (by kernel_rfl) (by kernel_rfl) (fun _ _ _ h => h) (Or.inl ⟨by kernel_rfl, ?runk3b16⟩) hHeld ?_
              case runk3b16 => (intro w9 hS9; obtain ⟨e1, e2, e3⟩ := hS9; go_simp; try exact rfl)
              try simp only [Act.put, List.setIfInBounds_toArray, List.set_cons_zero, List.set_cons_succ]
              refine wpAnyH_ready (rs := [17]) (by kernel_rfl) (by simp) ?_
              refine AllReadyH.cons rfl (fun K hK => ?_) AllReadyH.nil
              go_simp
              refine hK.out _ _ (SB.out _ ((Keep.refl [w.heap.size + 1] wc).drew.setCell (.inl (by simp)) _)) (fun hHeld2 => ?_)
              clear hK K hHeld
              have hHeld := hHeld2
              clear hHeld2
              try simp only [Act.put, List.setIfInBounds_toArray, List.set_cons_zero, List.set_cons_succ]
              refine wpAnyH_takeL (i := 18) (v := ?vk3b18) rfl (by kernel_rfl) (by kernel_rfl) (by kernel_rfl) (fun _ _ _ h => h) (Or.inl ⟨by kernel_rfl, ?runk3b18⟩) hHeld ?_
              case runk3b18 => (intro w9 hS9; obtain ⟨e1, e2, e3⟩ := hS9; go_simp; try exact rfl)
              try simp only [Act.put, List.setIfInBounds_toArray, List.set_cons_zero, List.set_cons_succ]
              refine wpAnyH_done (by kernel_rfl) ?_ _
              go_wp2_with fail
              obtain ⟨g1, g2, g3⟩ := st_box HB1.out HB2.out HK.out (Nat.le_refl _) rfl
              refine Met.intro (HJ.out _ _ (CutF.mk rfl ⟨_, tn, ⟨#[]⟩, rfl, rfl, rfl, g1, g2, g3, Or.inl ⟨rfl, ?_⟩⟩))
              rw [headOk_3, Bool.eq_iff_iff]
              simp only [toList_nil_iff, Bool.and_eq_true, decide_eq_true_eq, Bool.false_eq_true, false_and, and_true, beq_self_eq_true]
              first | done | omega | (simp only [iff_false]; omega) | (simp only [iff_true]; omega)
          · have q1 : decide (0 ≤ tn) = false := by simpa using t1
            go_wp2_with fail
            refine wp_region_held_drew (S := fun w' => w'.cell? ⟨w.heap.size, 1, none⟩ = some (.int .i64 tn) ∧ w'.cell? ⟨w.heap.size, 2, none⟩ = some (.string ts) ∧ w'.cell? ⟨w.heap.size, 3, none⟩ = some (.slice a l.length c)) (by kernel_rfl) (SB.out _ (Keep.refl [w.heap.size + 1] wc).drew) (fun hHeld => ?_)
            refine wpAnyH_takeL (i := 0) (v := ?vk3c0) rfl (by kernel_rfl) (by kernel_rfl) (by kernel_rfl) (fun _ _ _ h => h) (Or.inl ⟨by kernel_rfl, ?runk3c0⟩) hHeld ?_
            case runk3c0 => (intro w9 hS9; obtain ⟨e1, e2, e3⟩ := hS9; go_simp; try exact rfl)
            try simp only [Act.put, List.setIfInBounds_toArray, List.set_cons_zero, List.set_cons_succ]
            refine wpAnyH_takeL (i := 1) (v := ?vk3c1) rfl (by kernel_rfl) (by kernel_rfl) (by kernel_rfl) (fun _ _ _ h => h) (Or.inl ⟨by kernel_rfl, ?runk3c1⟩) hHeld ?_
            case runk3c1 => (intro w9 hS9; obtain ⟨e1, e2, e3⟩ := hS9; go_simp; try exact rfl)
            try simp only [Act.put, List.setIfInBounds_toArray, List.set_cons_zero, List.set_cons_succ]
            refine wpAnyH_takeL (i := 2) (v := ?vk3c2) rfl (by kernel_rfl) (by kernel_rfl) (by kernel_rfl) (fun _ _ _ h => h) (Or.inl ⟨by kernel_rfl, ?runk3c2⟩) hHeld ?_
            case runk3c2 => (intro w9 hS9; obtain ⟨e1, e2, e3⟩ := hS9; go_simp; try exact rfl)
            try simp only [Act.put, List.setIfInBounds_toArray, List.set_cons_zero, List.set_cons_succ]
            refine wpAnyH_takeL (i := 3) (v := ?vk3c3) rfl (by kernel_rfl) (by kernel_rfl) (by kernel_rfl) (fun _ _ _ h => h) (Or.inl ⟨by kernel_rfl, ?runk3c3⟩) hHeld ?_
            case runk3c3 => (intro w9 hS9; obtain ⟨e1, e2, e3⟩ := hS9; go_simp; try exact rfl)
            try simp only [Act.put, List.setIfInBounds_toArray, List.set_cons_zero, List.set_cons_succ]
            refine wpAnyH_takeL (i := 4) (v := .bool false) rfl (by kernel_rfl) (by kernel_rfl) (by kernel_rfl) (fun _ _ _ h => h) (Or.inl ⟨by kernel_rfl, ?runk3c4⟩) hHeld ?_
            case runk3c4 => (intro w9 hS9; obtain ⟨e1, e2, e3⟩ := hS9; go_simp; first | done | exact rfl | (simp [*]; done) | (simp; omega))
            try simp only [Act.put, List.setIfInBounds_toArray, List.set_cons_zero, List.set_cons_succ]
            refine wpAnyH_takeL (i := 5) (v := ?vk3c5) rfl (by kernel_rfl) (by kernel_rfl) (by kernel_rfl) (fun _ _ _ h => h) (Or.inl ⟨by kernel_rfl, ?runk3c5⟩) hHeld ?_
            case runk3c5 => (intro w9 hS9; obtain ⟨e1, e2, e3⟩ := hS9; go_simp; try exact rfl)
            try simp only [Act.put, List.setIfInBounds_toArray, List.set_cons_zero, List.set_cons_succ]
            refine wpAnyH_takeL (i := 6) (v := undef) rfl (by kernel_rfl) (by kernel_rfl) (by kernel_rfl) (fun _ _ _ h => h) (Or.inr ⟨by kernel_rfl, rfl⟩) hHeld ?_
            try simp only [Act.put, List.setIfInBounds_toArray, List.set_cons_zero, List.set_cons_succ]
            refine wpAnyH_takeL (i := 7) (v := undef) rfl (by kernel_rfl) (by kernel_rfl) (by kernel_rfl) (fun _ _ _ h => h) (Or.inr ⟨by kernel_rfl, rfl⟩) hHeld ?_
            try simp only [Act.put, List.setIfInBounds_toArray, List.set_cons_zero, List.set_cons_succ]
            refine wpAnyH_takeL (i := 8) (v := undef) rfl (by kernel_rfl) (by kernel_rfl) (by kernel_rfl) (fun _ _ _ h => h) (Or.inr ⟨by kernel_rfl, rfl⟩) hHeld ?_
            try simp only [Act.put, List.setIfInBounds_toArray, List.set_cons_zero, List.set_cons_succ]
            refine wpAnyH_takeL (i := 9) (v := .bool false) rfl (by kernel_rfl) (by kernel_rfl) (by kernel_rfl) (fun _ _ _ h => h) (Or.inl ⟨by kernel_rfl, ?runk3c9⟩) hHeld ?_
            case runk3c9 => (intro w9 hS9; obtain ⟨e1, e2, e3⟩ := hS9; go_simp; first | done | exact rfl | (simp [*]; done) | (simp; omega))
            try simp only [Act.put, List.setIfInBounds_toArray, List.set_cons_zero, List.set_cons_succ]
            refine wpAnyH_takeL (i := 10) (v := ?vk3c10) rfl (by kernel_rfl) (by kernel_rfl) (by kernel_rfl) (fun _ _ _ h => h) (Or.inl ⟨by kernel_rfl, ?runk3c10⟩) hHeld ?_
            case runk3c10 => (intro w9 hS9; obtain ⟨e1, e2, e3⟩ := hS9; go_simp; try exact rfl)
            try simp only [Act.put, List.setIfInBounds_toArray, List.set_cons_zero, List.set_cons_succ]
            refine wpAnyH_takeL (i := 11) (v := undef) rfl (by kernel_rfl) (by kernel_rfl) (by kernel_rfl) (fun _ _ _ h => h) (Or.inr ⟨by kernel_rfl, rfl⟩) hHeld ?_
            try simp only [Act.put, List.setIfInBounds_toArray, List.set_cons_zero, List.set_cons_succ]
            refine wpAnyH_takeL (i := 12) (v := undef) rfl (by kernel_rfl) (by kernel_rfl) (by kernel_rfl) (fun _ _ _ h => h) (Or.inr ⟨by kernel_rfl, rfl⟩) hHeld ?_
            try simp only [Act.put, List.setIfInBounds_toArray, List.set_cons_zero, List.set_cons_succ]
            refine wpAnyH_takeL (i := 13) (v := undef) rfl (by kernel_rfl) (by kernel_rfl) (by kernel_rfl) (fun _ _ _ h => h) (Or.inr ⟨by kernel_rfl, rfl⟩) hHeld ?_
            try simp only [Act.put, List.setIfInBounds_toArray, List.set_cons_zero, List.set_cons_succ]
            refine wpAnyH_takeL (i := 14) (v := undef) rfl (by kernel_rfl) (by kernel_rfl) (by kernel_rfl) (fun _ _ _ h => h) (Or.inr ⟨by kernel_rfl, rfl⟩) hHeld ?_
            try simp only [Act.put, List.setIfInBounds_toArray, List.set_cons_zero, List.set_cons_succ]
            refine wpAnyH_takeL (i := 15) (v := .bool false) rfl (by kernel_rfl) (by kernel_rfl) (by kernel_rfl) (fun _ _ _ h => h) (Or.inl ⟨by kernel_rfl, ?runk3c15⟩) hHeld ?_
            case runk3c15 => (intro w9 hS9; obtain ⟨e1, e2, e3⟩ := hS9; go_simp; first | done | exact rfl | (simp [*]; done) | (simp; omega))
            try simp only [Act.put, List.setIfInBounds_toArray, List.set_cons_zero, List.set_cons_succ]
            refine wpAnyH_takeL (i := 16) (v := ?vk3c16) rfl (by kernel_rfl) (by kernel_rfl) (by kernel_rfl) (fun _ _ _ h => h) (Or.inl ⟨by kernel_rfl, ?runk3c16⟩) hHeld ?_
            case runk3c16 => (intro w9 hS9; obtain ⟨e1, e2, e3⟩ := hS9; go_simp; try exact rfl)
            try simp only [Act.put, List.setIfInBounds_toArray, List.set_cons_zero, List.set_cons_succ]
            refine wpAnyH_ready (rs := [17]) (by kernel_rfl) (by simp) ?_
            refine AllReadyH.cons rfl (fun K hK => ?_) AllReadyH.nil
            go_simp
            refine hK.out _ _ (SB.out _ ((Keep.refl [w.heap.size + 1] wc).drew.setCell (.inl (by simp)) _)) (fun hHeld2 => ?_)
            clear hK K hHeld
            have hHeld := hHeld2
            clear hHeld2
            try simp only [Act.put, List.setIfInBounds_toArray, List.set_cons_zero, List.set_cons_succ]
            refine wpAnyH_takeL (i := 18) (v := ?vk3c18) rfl (by kernel_rfl) (by kernel_rfl) (by kernel_rfl) (fun _ _ _ h => h) (Or.inl ⟨by kernel_rfl, ?runk3c18⟩) hHeld ?_
            case runk3c18 => (intro w9 hS9; obtain ⟨e1, e2, e3⟩ := hS9; go_simp; try exact rfl)
            try simp only [Act.put, List.setIfInBounds_toArray, List.set_cons_zero, List.set_cons_succ]
            refine wpAnyH_done (by kernel_rfl) ?_ _
            go_wp2_with fail
            obtain ⟨g1, g2, g3⟩ := st_box HB1.out HB2.out HK.out (Nat.le_refl _) rfl
            refine Met.intro (HJ.out _ _ (CutF.mk rfl ⟨_, tn, ⟨#[]⟩, rfl, rfl, rfl, g1, g2, g3, Or.inl ⟨rfl, ?_⟩⟩))
            rw [headOk_3, Bool.eq_iff_iff]
            simp only [toList_nil_iff, Bool.and_eq_true, decide_eq_true_eq, Bool.false_eq_true, false_and, and_true, beq_self_eq_true]
            first | done | omega | (simp only [iff_false]; omega) | (simp only [iff_true]; omega)
        by_cases k5 : tk = 5
        · as_aux_lemma =>
          subst k5
          by_cases t1 : 0 ≤ tn
          · have q1 : decide (0 ≤ tn) = true := by simpa using t1
            by_cases t2 : tn ≤ 576460752303423487
            · have q2 : decide (tn ≤ 576460752303423487) = true := by simpa using t2
              go_wp2_with fail
              refine wp_region_held_drew (S := fun w' => w'.cell? ⟨w.heap.size, 1, none⟩ = some (.int .i64 tn) ∧ w'.cell? ⟨w.heap.size, 2, none⟩ = some (.string ts) ∧ w'.cell? ⟨w.heap.size, 3, none⟩ = some (.slice a l.length c)) (by kernel_rfl) (SB.out _ (Keep.refl [w.heap.size + 1] wc).drew) (fun hHeld => ?_)
              refine wpAnyH_takeL (i := 0) (v := ?vk5a0) rfl (by kernel_rfl) (by kernel_rfl) (by kernel_rfl) (fun _ _ _ h => h) (Or.inl ⟨by kernel_rfl, ?runk5a0⟩) hHeld ?_
              case runk5a0 => (intro w9 hS9; obtain ⟨e1, e2, e3⟩ := hS9; go_simp; try exact rfl)
              try simp only [Act.put, List.setIfInBounds_toArray, List.set_cons_zero, List.set_cons_succ]
              refine wpAnyH_takeL (i := 1) (v := ?vk5a1) rfl (by kernel_rfl) (by kernel_rfl) (by kernel_rfl) (fun _ _ _ h => h) (Or.inl ⟨by kernel_rfl, ?runk5a1⟩) hHeld ?_
              case runk5a1 => (intro w9 hS9; obtain ⟨e1, e2, e3⟩ := hS9; go_simp; try exact rfl)
              try simp only [Act.put, List.setIfInBounds_toArray, List.set_cons_zero, List.set_cons_succ]
              refine wpAnyH_takeL (i := 2) (v := ?vk5a2) rfl (by kernel_rfl) (by kernel_rfl) (by kernel_rfl) (fun _ _ _ h => h) (Or.inl ⟨by kernel_rfl, ?runk5a2⟩) hHeld ?_
              case runk5a2 => (intro w9 hS9; obtain ⟨e1, e2, e3⟩ := hS9; go_simp; try exact rfl)
              try simp only [Act.put, List.setIfInBounds_toArray, List.set_cons_zero, List.set_cons_succ]
              refine wpAnyH_takeL (i := 3) (v := ?vk5a3) rfl (by kernel_rfl) (by kernel_rfl) (by kernel_rfl) (fun _ _ _ h => h) (Or.inl ⟨by kernel_rfl, ?runk5a3⟩) hHeld ?_
              case runk5a3 => (intro w9 hS9; obtain ⟨e1, e2, e3⟩ := hS9; go_simp; try exact rfl)
              try simp only [Act.put, List.setIfInBounds_toArray, List.set_cons_zero, List.set_cons_succ]
              refine wpAnyH_takeL (i := 4) (v := .bool true) rfl (by kernel_rfl) (by kernel_rfl) (by kernel_rfl) (fun _ _ _ h => h) (Or.inl ⟨by kernel_rfl, ?runk5a4⟩) hHeld ?_
              case runk5a4 => (intro w9 hS9; obtain ⟨e1, e2, e3⟩ := hS9; go_simp; first | done | exact rfl | (simp [*]; done) | (simp; omega))
              try simp only [Act.put, List.setIfInBounds_toArray, List.set_cons_zero, List.set_cons_succ]
              refine wpAnyH_takeL (i := 5) (v := ?vk5a5) rfl (by kernel_rfl) (by kernel_rfl) (by kernel_rfl) (fun _ _ _ h => h) (Or.inl ⟨by kernel_rfl, ?runk5a5⟩) hHeld ?_
              case runk5a5 => (intro w9 hS9; obtain ⟨e1, e2, e3⟩ := hS9; go_simp; try exact rfl)
              try simp only [Act.put, List.setIfInBounds_toArray, List.set_cons_zero, List.set_cons_succ]
              refine wpAnyH_takeL (i := 6) (v := ?vk5a6) rfl (by kernel_rfl) (by kernel_rfl) (by kernel_rfl) (fun _ _ _ h => h) (Or.inl ⟨by kernel_rfl, ?runk5a6⟩) hHeld ?_
              case runk5a6 => (intro w9 hS9; obtain ⟨e1, e2, e3⟩ := hS9; go_simp; try exact rfl)
              try simp only [Act.put, List.setIfInBounds_toArray, List.set_cons_zero, List.set_cons_succ]
              refine wpAnyH_takeL (i := 7) (v := ?vk5a7) rfl (by kernel_rfl) (by kernel_rfl) (by kernel_rfl) (fun _ _ _ h => h) (Or.inl ⟨by kernel_rfl, ?runk5a7⟩) hHeld ?_
              case runk5a7 => (intro w9 hS9; obtain ⟨e1, e2, e3⟩ := hS9; go_simp; try exact rfl)
              try simp only [Act.put, List.setIfInBounds_toArray, List.set_cons_zero, List.set_cons_succ]
              refine wpAnyH_takeL (i := 8) (v := .bool true) rfl (by kernel_rfl) (by kernel_rfl) (by kernel_rfl) (fun _ _ _ h => h) (Or.inl ⟨by kernel_rfl, ?runk5a8⟩) hHeld ?_
              case runk5a8 => (intro w9 hS9; obtain ⟨e1, e2, e3⟩ := hS9; go_simp; first | done | exact rfl | (simp [*]; done) | (simp; omega))
              try simp only [Act.put, List.setIfInBounds_toArray, List.set_cons_zero, List.set_cons_succ]
              refine wpAnyH_takeL (i := 9) (v := ?vk5a9) rfl (by kernel_rfl) (by kernel_rfl) (by kernel_rfl) (fun _ _ _ h => h) (Or.inl ⟨by kernel_rfl, ?runk5a9⟩) hHeld ?_
              case runk5a9 => (intro w9 hS9; obtain ⟨e1, e2, e3⟩ := hS9; go_simp; try exact rfl)
              try simp only [Act.put, List.setIfInBounds_toArray, List.set_cons_zero, List.set_cons_succ]
              refine wpAnyH_takeL (i := 10) (v := ?vk5a10) rfl (by kernel_rfl) (by kernel_rfl) (by kernel_rfl) (fun _ _ _ h => h) (Or.inl ⟨by kernel_rfl, ?runk5a10⟩) hHeld ?_
              case runk5a10 => (intro w9 hS9; obtain ⟨e1, e2, e3⟩ := hS9; go_simp; try exact rfl)
              try simp only [Act.put, List.setIfInBounds_toArray, List.set_cons_zero, List.set_cons_succ]
              refine wpAnyH_takeL (i := 11) (v := ?vk5a11) rfl (by kernel_rfl) (by kernel_rfl) (by kernel_rfl) (fun _ _ _ h => h) (Or.inl ⟨by kernel_rfl, ?runk5a11⟩) hHeld ?_
              case runk5a11 => (intro w9 hS9; obtain ⟨e1, e2, e3⟩ := hS9; go_simp; try exact rfl)
              try simp only [Act.put, List.setIfInBounds_toArray, List.set_cons_zero, List.set_cons_succ]
              refine wpAnyH_takeL (i := 12) (v := ?vk5a12) rfl (by kernel_rfl) (by kernel_rfl) (by kernel_rfl) (fun _ _ _ h => h) (Or.inl ⟨by kernel_rfl, ?runk5a12⟩) hHeld ?_
              case runk5a12 => (intro w9 hS9; obtain ⟨e1, e2, e3⟩ := hS9; go_simp; try exact rfl)
              try simp only [Act.put, List.setIfInBounds_toArray, List.set_cons_zero, List.set_cons_succ]
              refine wpAnyH_takeL (i := 13) (v := ?vk5a13) rfl (by kernel_rfl) (by kernel_rfl) (by kernel_rfl) (fun _ _ _ h => h) (Or.inl ⟨by kernel_rfl, ?runk5a13⟩) hHeld ?_
              case runk5a13 => (intro w9 hS9; obtain ⟨e1, e2, e3⟩ := hS9; go_simp; try exact rfl)
              try simp only [Act.put, List.setIfInBounds_toArray, List.set_cons_zero, List.set_cons_succ]
              refine wpAnyH_takeL (i := 14) (v := ?vk5a14) rfl (by kernel_rfl) (by kernel_rfl) (by kernel_rfl) (fun _ _ _ h => h) (Or.inl ⟨by kernel_rfl, ?runk5a14⟩) hHeld ?_
              case runk5a14 => (intro w9 hS9; obtain ⟨e1, e2, e3⟩ := hS9; go_simp; try exact rfl)
              try simp only [Act.put, List.setIfInBounds_toArray, List.set_cons_zero, List.set_cons_succ]
              refine wpAnyH_takeL (i := 15) (v := ?vk5a15) rfl (by kernel_rfl) (by kernel_rfl) (by kernel_rfl) (fun _ _ _ h => h) (Or.inl ⟨by kernel_rfl, ?runk5a15⟩) hHeld ?_
              case runk5a15 => (intro w9 hS9; obtain ⟨e1, e2, e3⟩ := hS9; go_simp; try exact rfl)
              try simp only [Act.put, List.setIfInBounds_toArray, List.set_cons_zero, List.set_cons_succ]
              refine wpAnyH_takeL (i := 16) (v := ?vk5a16) rfl (by kernel_rfl) (by kernel_rfl) (by kernel_rfl) (fun _ _ _ h => h) (Or.inl ⟨by kernel_rfl, ?runk5a16⟩) hHeld ?_
              case runk5a16 => (intro w9 hS9; obtain ⟨e1, e2, e3⟩ := hS9; go_simp; try exact rfl)
              try simp only [Act.put, List.setIfInBounds_toArray, List.set_cons_zero, List.set_cons_succ]
              refine wpAnyH_ready (rs := [17]) (by kernel_rfl) (by simp) ?_
              refine AllReadyH.cons rfl (fun K hK => ?_) AllReadyH.nil
              go_simp
              refine hK.out _ _ (SB.out _ ((Keep.refl [w.heap.size + 1] wc).drew.setCell (.inl (by simp)) _)) (fun hHeld2 => ?_)
              clear hK K hHeld
              have hHeld := hHeld2
              clear hHeld2
              try simp only [Act.put, List.setIfInBounds_toArray, List.set_cons_zero, List.set_cons_succ]
              refine wpAnyH_takeL (i := 18) (v := ?vk5a18) rfl (by kernel_rfl) (by kernel_rfl) (by kernel_rfl) (fun _ _ _ h => h) (Or.inl ⟨by kernel_rfl, ?runk5a18⟩) hHeld ?_
              case runk5a18 => (intro w9 hS9; obtain ⟨e1, e2, e3⟩ := hS9; go_simp; try exact rfl)
              try simp only [Act.put, List.setIfInBounds_toArray, List.set_cons_zero, List.set_cons_succ]
              refine wpAnyH_done (by kernel_rfl) ?_ _
              go_wp2_with fail
              obtain ⟨g1, g2, g3⟩ := st_box HB1.out HB2.out HK.out (Nat.le_refl _) rfl
              refine Met.intro (HJ.out _ _ (CutF.mk rfl ⟨_, tn, ⟨#[]⟩, rfl, rfl, rfl, g1, g2, g3, Or.inl ⟨rfl, ?_⟩⟩))
              rw [headOk_5, Bool.eq_iff_iff]
              simp only [toList_nil_iff, Bool.and_eq_true, decide_eq_true_eq, beq_iff_eq, and_true, beq_self_eq_true]
              first | done | omega | (simp only [iff_false]; omega) | (simp only [iff_true]; omega)
            · have q2 : decide (tn ≤ 576460752303423487) = false := by simpa using t2
              go_wp2_with fail
              refine wp_region_held_drew (S := fun w' => w'.cell? ⟨w.heap.size, 1, none⟩ = some (.int .i64 tn) ∧ w'.cell? ⟨w.heap.size, 2, none⟩ = some (.string ts) ∧ w'.cell? ⟨w.heap.size, 3, none⟩ = some (.slice a l.length c)) (by kernel_rfl) (SB.out _ (Keep.refl [w.heap.size + 1] wc).drew) (fun hHeld => ?_)
              refine wpAnyH_takeL (i := 0) (v := ?vk5b0) rfl (by kernel_rfl) (by kernel_rfl) (by kernel_rfl) (fun _ _ _ h => h) (Or.inl ⟨by kernel_rfl, ?runk5b0⟩) hHeld ?_
              case runk5b0 => (intro w9 hS9; obtain ⟨e1, e2, e3⟩ := hS9; go_simp; try exact rfl)
              try simp only [Act.put, List.setIfInBounds_toArray, List.set_cons_zero, List.set_cons_succ]
              refine wpAnyH_takeL (i := 1) (v := ?vk5b1) rfl (by kernel_rfl) (by kernel_rfl) (by kernel_rfl) (fun _ _ _ h => h) (Or.inl ⟨by kernel_rfl, ?runk5b1⟩) hHeld ?_
              case runk5b1 => (intro w9 hS9; obtain ⟨e1, e2, e3⟩ := hS9; go_simp; try exact rfl)
              try simp only [Act.put, List.setIfInBounds_toArray, List.set_cons_zero, List.set_cons_succ]
              refine wpAnyH_takeL (i := 2) (v := ?vk5b2) rfl (by kernel_rfl) (by kernel_rfl) (by kernel_rfl) (fun _ _ _ h => h) (Or.inl ⟨by kernel_rfl, ?runk5b2⟩) hHeld ?_
              case runk5b2 => (intro w9 hS9; obtain ⟨e1, e2, e3⟩ := hS9; go_simp; try exact rfl)
              try simp only [Act.put, List.setIfInBounds_toArray, List.set_cons_zero, List.set_cons_succ]
              refine wpAnyH_takeL (i := 3) (v := ?vk5b3) rfl (by kernel_rfl) (by kernel_rfl) (by kernel_rfl) (fun _ _ _ h => h) (Or.inl ⟨by kernel_rfl, ?runk5b3⟩) hHeld ?_
              case runk5b3 => (intro w9 hS9; obtain ⟨e1, e2, e3⟩ := hS9; go_simp; try exact rfl)
              try simp only [Act.put, List.setIfInBounds_toArray, List.set_cons_zero, List.set_cons_succ]
              refine wpAnyH_takeL (i := 4) (v := .bool true) rfl (by kernel_rfl) (by kernel_rfl) (by kernel_rfl) (fun _ _ _ h => h) (Or.inl ⟨by kernel_rfl, ?runk5b4⟩) hHeld ?_
              case runk5b4 => (intro w9 hS9; obtain ⟨e1, e2, e3⟩ := hS9; go_simp; first | done | exact rfl | (simp [*]; done) | (simp; omega))
              try simp only [Act.put, List.setIfInBounds_toArray, List.set_cons_zero, List.set_cons_succ]
              refine wpAnyH_takeL (i := 5) (v := ?vk5b5) rfl (by kernel_rfl) (by kernel_rfl) (by kernel_rfl) (fun _ _ _ h => h) (Or.inl ⟨by kernel_rfl, ?runk5b5⟩) hHeld ?_
              case runk5b5 => (intro w9 hS9; obtain ⟨e1, e2, e3⟩ := hS9; go_simp; try exact rfl)
              try simp only [Act.put, List.setIfInBounds_toArray, List.set_cons_zero, List.set_cons_succ]
              refine wpAnyH_takeL (i := 6) (v := ?vk5b6) rfl (by kernel_rfl) (by kernel_rfl) (by kernel_rfl) (fun _ _ _ h => h) (Or.inl ⟨by kernel_rfl, ?runk5b6⟩) hHeld ?_
              case runk5b6 => (intro w9 hS9; obtain ⟨e1, e2, e3⟩ := hS9; go_simp; try exact rfl)
              try simp only [Act.put, List.setIfInBounds_toArray, List.set_cons_zero, List.set_cons_succ]
              refine wpAnyH_takeL (i := 7) (v := ?vk5b7) rfl (by kernel_rfl) (by kernel_rfl) (by kernel_rfl) (fun _ _ _ h => h) (Or.inl ⟨by kernel_rfl, ?runk5b7⟩) hHeld ?_
              case runk5b7 => (intro w9 hS9; obtain ⟨e1, e2, e3⟩ := hS9; go_simp; try exact rfl)
              try simp only [Act.put, List.setIfInBounds_toArray, List.set_cons_zero, List.set_cons_succ]
              refine wpAnyH_takeL (i := 8) (v := .bool false) rfl (by kernel_rfl) (by kernel_rfl) (by kernel_rfl) (fun _ _ _ h => h) (Or.inl ⟨by kernel_rfl, ?runk5b8⟩) hHeld ?_
              case runk5b8 => (intro w9 hS9; obtain ⟨e1, e2, e3⟩ := hS9; go_simp; first | done | exact rfl | (simp [*]; done) | (simp; omega))
              try simp only [Act.put, List.setIfInBounds_toArray, List.set_cons_zero, List.set_cons_succ]
              refine wpAnyH_takeL (i := 9) (v := .bool false) rfl (by kernel_rfl) (by kernel_rfl) (by kernel_rfl) (fun _ _ _ h => h) (Or.inl ⟨by kernel_rfl, ?runk5b9⟩) hHeld ?_
              case runk5b9 => (intro w9 hS9; obtain ⟨e1, e2, e3⟩ := hS9; go_simp; first | done | exact rfl | (simp [*]; done) | (simp; omega))
              try simp only [Act.put, List.setIfInBounds_toArray, List.set_cons_zero, List.set_cons_succ]
              refine wpAnyH_takeL (i := 10) (v := ?vk5b10) rfl (by kernel_rfl) (by kernel_rfl) (by kernel_rfl) (fun _ _ _ h => h) (Or.inl ⟨by kernel_rfl, ?runk5b10⟩) hHeld ?_
              case runk5b10 => (intro w9 hS9; obtain ⟨e1, e2, e3⟩ := hS9; go_simp; try exact rfl)
              try simp only [Act.put, List.setIfInBounds_toArray, List.set_cons_zero, List.set_cons_succ]
              refine wpAnyH_takeL (i := 11) (v := undef) rfl (by kernel_rfl) (by kernel_rfl) (by kernel_rfl) (fun _ _ _ h => h) (Or.inr ⟨by kernel_rfl, rfl⟩) hHeld ?_
              try simp only [Act.put, List.setIfInBounds_toArray, List.set_cons_zero, List.set_cons_succ]
              refine wpAnyH_takeL (i := 12) (v := undef) rfl (by kernel_rfl) (by kernel_rfl) (by kernel_rfl) (fun _ _ _ h => h) (Or.inr ⟨by kernel_rfl, rfl⟩) hHeld ?_
              try simp only [Act.put, List.setIfInBounds_toArray, List.set_cons_zero, List.set_cons_succ]
              refine wpAnyH_takeL (i := 13) (v := undef) rfl (by kernel_rfl) (by kernel_rfl) (by kernel_rfl) (fun _ _ _ h => h) (Or.inr ⟨by kernel_rfl, rfl⟩) hHeld ?_
              try simp only [Act.put, List.setIfInBounds_toArray, List.set_cons_zero, List.set_cons_succ]
              refine wpAnyH_takeL (i := 14) (v := undef) rfl (by kernel_rfl) (by kernel_rfl) (by kernel_rfl) (fun _ _ _ h => h) (Or.inr ⟨by kernel_rfl, rfl⟩) hHeld ?_
              try simp only [Act.put, List.setIfInBounds_toArray, List.set_cons_zero, List.set_cons_succ]
              refine wpAnyH_takeL (i := 15) (v := .bool false) rfl (by kernel_rfl) (by kernel_rfl) (by kernel_rfl) (fun _ _ _ h => h) (Or.inl ⟨by kernel_rfl, ?runk5b15⟩) hHeld ?_
              case runk5b15 => (intro w9 hS9; obtain ⟨e1, e2, e3⟩ := hS9; go_simp; first | done | exact rfl | (simp [*]; done) | (simp; omega))
              try simp only [Act.put, List.setIfInBounds_toArray, List.set_cons_zero, List.set_cons_succ]
              refine wpAnyH_takeL (i := 16) (v := ?vk5b16) rfl (by kernel_rfl) (by kernel_rfl) (by kernel_rfl) (fun _ _ _ h => h) (Or.inl ⟨by kernel_rfl, ?runk5b16⟩) hHeld ?_
              case runk5b16 => (intro w9 hS9; obtain ⟨e1, e2, e3⟩ := hS9; go_simp; try exact rfl)
              try simp only [Act.put, List.setIfInBounds_toArray, List.set_cons_zero, List.set_cons_succ]
              refine wpAnyH_ready (rs := [17]) (by kernel_rfl) (by simp) ?_
              refine AllReadyH.cons rfl (fun K hK => ?_) AllReadyH.nil
              go_simp
              refine hK.out _ _ (SB.out _ ((Keep.refl [w.heap.size + 1] wc).drew.setCell (.inl (by simp)) _)) (fun hHeld2 => ?_)
              clear hK K hHeld
              have hHeld := hHeld2
              clear hHeld2
              try simp only [Act.put, List.setIfInBounds_toArray, List.set_cons_zero, List.set_cons_succ]
              refine wpAnyH_takeL (i := 18) (v := ?vk5b18) rfl (by kernel_rfl) (by kernel_rfl) (by kernel_rfl) (fun _ _ _ h => h) (Or.inl ⟨by kernel_rfl, ?runk5b18⟩) hHeld ?_
              case runk5b18 => (intro w9 hS9; obtain ⟨e1, e2, e3⟩ := hS9; go_simp; try exact rfl)
              try simp only [Act.put, List.setIfInBounds_toArray, List.set_cons_zero, List.set_cons_succ]
              refine wpAnyH_done (by kernel_rfl) ?_ _
              go_wp2_with fail
              obtain ⟨g1, g2, g3⟩ := st_box HB1.out HB2.out HK.out (Nat.le_refl _) rfl
              refine Met.intro (HJ.out _ _ (CutF.mk rfl ⟨_, tn, ⟨#[]⟩, rfl, rfl, rfl, g1, g2, g3, Or.inl ⟨rfl, ?_⟩⟩))
              rw [headOk_5, Bool.eq_iff_iff]
              simp only [toList_nil_iff, Bool.and_eq_true, decide_eq_true_eq, Bool.false_eq_true, false_and, and_true, beq_self_eq_true]
              first | done | omega | (simp only [iff_false]; omega) | (simp only [iff_true]; omega)
          · have q1 : decide (0 ≤ tn) = false := by simpa using t1
            go_wp2_with fail
            refine wp_region_held_drew (S := fun w' => w'.cell? ⟨w.heap.size, 1, none⟩ = some (.int .i64 tn) ∧ w'.cell? ⟨w.heap.size, 2, none⟩ = some (.string ts) ∧ w'.cell? ⟨w.heap.size, 3, none⟩ = some (.slice a l.length c)) (by kernel_rfl) (SB.out _ (Keep.refl [w.heap.size + 1] wc).drew) (fun hHeld => ?_)
            refine wpAnyH_takeL (i := 0) (v := ?vk5c0) rfl (by kernel_rfl) (by kernel_rfl) (by kernel_rfl) (fun _ _ _ h => h) (Or.inl ⟨by kernel_rfl, ?runk5c0⟩) hHeld ?_
            case runk5c0 => (intro w9 hS9; obtain ⟨e1, e2, e3⟩ := hS9; go_simp; try exact rfl)
            try simp only [Act.put, List.setIfInBounds_toArray, List.set_cons_zero, List.set_cons_succ]
            refine wpAnyH_takeL (i := 1) (v := ?vk5c1) rfl (by kernel_rfl) (by kernel_rfl) (by kernel_rfl) (fun _ _ _ h => h) (Or.inl ⟨by kernel_rfl, ?runk5c1⟩) hHeld ?_
            case runk5c1 => (intro w9 hS9; obtain ⟨e1, e2, e3⟩ := hS9; go_simp; try exact rfl)
            try simp only [Act.put, List.setIfInBounds_toArray, List.set_cons_zero, List.set_cons_succ]
            refine wpAnyH_takeL (i := 2) (v := ?vk5c2) rfl (by kernel_rfl) (by kernel_rfl) (by kernel_rfl) (fun _ _ _ h => h) (Or.inl ⟨by kernel_rfl, ?runk5c2⟩) hHeld ?_
            case runk5c2 => (intro w9 hS9; obtain ⟨e1, e2, e3⟩ := hS9; go_simp; try exact rfl)
            try simp only [Act.put, List.setIfInBounds_toArray, List.set_cons_zero, List.set_cons_succ]
            refine wpAnyH_takeL (i := 3) (v := ?vk5c3) rfl (by kernel_rfl) (by kernel_rfl) (by kernel_rfl) (fun _ _ _ h => h) (Or.inl ⟨by kernel_rfl, ?runk5c3⟩) hHeld ?_
            case runk5c3 => (intro w9 hS9; obtain ⟨e1, e2, e3⟩ := hS9; go_simp; try exact rfl)
            try simp only [Act.put, List.setIfInBounds_toArray, List.set_cons_zero, List.set_cons_succ]
            refine wpAnyH_takeL (i := 4) (v := .bool false) rfl (by kernel_rfl) (by kernel_rfl) (by kernel_rfl) (fun _ _ _ h => h) (Or.inl ⟨by kernel_rfl, ?runk5c4⟩) hHeld ?_
            case runk5c4 => (intro w9 hS9; obtain ⟨e1, e2, e3⟩ := hS9; go_simp; first | done | exact rfl | (simp [*]; done) | (simp; omega))
            try simp only [Act.put, List.setIfInBounds_toArray, List.set_cons_zero, List.set_cons_succ]
            refine wpAnyH_takeL (i := 5) (v := ?vk5c5) rfl (by kernel_rfl) (by kernel_rfl) (by kernel_rfl) (fun _ _ _ h => h) (Or.inl ⟨by kernel_rfl, ?runk5c5⟩) hHeld ?_
            case runk5c5 => (intro w9 hS9; obtain ⟨e1, e2, e3⟩ := hS9; go_simp; try exact rfl)
            try simp only [Act.put, List.setIfInBounds_toArray, List.set_cons_zero, List.set_cons_succ]
            refine wpAnyH_takeL (i := 6) (v := undef) rfl (by kernel_rfl) (by kernel_rfl) (by kernel_rfl) (fun _ _ _ h => h) (Or.inr ⟨by kernel_rfl, rfl⟩) hHeld ?_
            try simp only [Act.put, List.setIfInBounds_toArray, List.set_cons_zero, List.set_cons_succ]
            refine wpAnyH_takeL (i := 7) (v := undef) rfl (by kernel_rfl) (by kernel_rfl) (by kernel_rfl) (fun _ _ _ h => h) (Or.inr ⟨by kernel_rfl, rfl⟩) hHeld ?_
            try simp only [Act.put, List.setIfInBounds_toArray, List.set_cons_zero, List.set_cons_succ]
            refine wpAnyH_takeL (i := 8) (v := undef) rfl (by kernel_rfl) (by kernel_rfl) (by kernel_rfl) (fun _ _ _ h => h) (Or.inr ⟨by kernel_rfl, rfl⟩) hHeld ?_
            try simp only [Act.put, List.setIfInBounds_toArray, List.set_cons_zero, List.set_cons_succ]
            refine wpAnyH_takeL (i := 9) (v := .bool false) rfl (by kernel_rfl) (by kernel_rfl) (by kernel_rfl) (fun _ _ _ h => h) (Or.inl ⟨by kernel_rfl, ?runk5c9⟩) hHeld ?_
            case runk5c9 => (intro w9 hS9; obtain ⟨e1, e2, e3⟩ := hS9; go_simp; first | done | exact rfl | (simp [*]; done) | (simp; omega))
            try simp only [Act.put, List.setIfInBounds_toArray, List.set_cons_zero, List.set_cons_succ]
            refine wpAnyH_takeL (i := 10) (v := ?vk5c10) rfl (by kernel_rfl) (by kernel_rfl) (by kernel_rfl) (fun _ _ _ h => h) (Or.inl ⟨by kernel_rfl, ?runk5c10⟩) hHeld ?_
            case runk5c10 => (intro w9 hS9; obtain ⟨e1, e2, e3⟩ := hS9; go_simp; try exact rfl)
            try simp only [Act.put, List.setIfInBounds_toArray, List.set_cons_zero, List.set_cons_succ]
            refine wpAnyH_takeL (i := 11) (v := undef) rfl (by kernel_rfl) (by kernel_rfl) (by kernel_rfl) (fun _ _ _ h => h) (Or.inr ⟨by kernel_rfl, rfl⟩) hHeld ?_
            try simp only [Act.put, List.setIfInBounds_toArray, List.set_cons_zero, List.set_cons_succ]
            refine wpAnyH_takeL (i := 12) (v := undef) rfl (by kernel_rfl) (by kernel_rfl) (by kernel_rfl) (fun _ _ _ h => h) (Or.inr ⟨by kernel_rfl, rfl⟩) hHeld ?_
            try simp only [Act.put, List.setIfInBounds_toArray, List.set_cons_zero, List.set_cons_succ]
            refine wpAnyH_takeL (i := 13) (v := undef) rfl (by kernel_rfl) (by kernel_rfl) (by kernel_rfl) (fun _ _ _ h => h) (Or.inr ⟨by kernel_rfl, rfl⟩) hHeld ?_
            try simp only [Act.put, List.setIfInBounds_toArray, List.set_cons_zero, List.set_cons_succ]
            refine wpAnyH_takeL (i := 14) (v := undef) rfl (by kernel_rfl) (by kernel_rfl) (by kernel_rfl) (fun _ _ _ h => h) (Or.inr ⟨by kernel_rfl, rfl⟩) hHeld ?_
            try simp only [Act.put, List.setIfInBounds_toArray, List.set_cons_zero, List.set_cons_succ]
            refine wpAnyH_takeL (i := 15) (v := .bool false) rfl (by kernel_rfl) (by kernel_rfl) (by kernel_rfl) (fun _ _ _ h => h) (Or.inl ⟨by kernel_rfl, ?runk5c15⟩) hHeld ?_
            case runk5c15 => (intro w9 hS9; obtain ⟨e1, e2, e3⟩ := hS9; go_simp; first | done | exact rfl | (simp [*]; done) | (simp; omega))
            try simp only [Act.put, List.setIfInBounds_toArray, List.set_cons_zero, List.set_cons_succ]
            refine wpAnyH_takeL (i := 16) (v := ?vk5c16) rfl (by kernel_rfl) (by kernel_rfl) (by kernel_rfl) (fun _ _ _ h => h) (Or.inl ⟨by kernel_rfl, ?runk5c16⟩) hHeld ?_
            case runk5c16 => (intro w9 hS9; obtain ⟨e1, e2, e3⟩ := hS9; go_simp; try exact rfl)
            try simp only [Act.put, List.setIfInBounds_toArray, List.set_cons_zero, List.set_cons_succ]
            refine wpAnyH_ready (rs := [17]) (by kernel_rfl) (by simp) ?_
            refine AllReadyH.cons rfl (fun K hK => ?_) AllReadyH.nil
            go_simp
            refine hK.out _ _ (SB.out _ ((Keep.refl [w.heap.size + 1] wc).drew.setCell (.inl (by simp)) _)) (fun hHeld2 => ?_)
            clear hK K hHeld
            have hHeld := hHeld2
            clear hHeld2
            try simp only [Act.put, List.setIfInBounds_toArray, List.set_cons_zero, List.set_cons_succ]
            refine wpAnyH_takeL (i := 18) (v := ?vk5c18) rfl (by kernel_rfl) (by kernel_rfl) (by kernel_rfl) (fun _ _ _ h => h) (Or.inl ⟨by kernel_rfl, ?runk5c18⟩) hHeld ?_
            case runk5c18 => (intro w9 hS9; obtain ⟨e1, e2, e3⟩ := hS9; go_simp; try exact rfl)
            try simp only [Act.put, List.setIfInBounds_toArray, List.set_cons_zero, List.set_cons_succ]
            refine wpAnyH_done (by kernel_rfl) ?_ _
            go_wp2_with fail
            obtain ⟨g1, g2, g3⟩ := st_box HB1.out HB2.out HK.out (Nat.le_refl _) rfl
            refine Met.intro (HJ.out _ _ (CutF.mk rfl ⟨_, tn, ⟨#[]⟩, rfl, rfl, rfl, g1, g2, g3, Or.inl ⟨rfl, ?_⟩⟩))
            rw [headOk_5, Bool.eq_iff_iff]
            simp only [toList_nil_iff, Bool.and_eq_true, decide_eq_true_eq, Bool.false_eq_true, false_and, and_true, beq_self_eq_true]
            first | done | omega | (simp only [iff_false]; omega) | (simp only [iff_true]; omega)
        by_cases k4 : tk = 4
        · as_aux_lemma =>
          subst k4
          by_cases t1 : 0 ≤ tn
          · have q1 : decide (0 ≤ tn) = true := by simpa using t1
            by_cases t2 : tn ≤ 576460752303423487
            · have q2 : decide (tn ≤ 576460752303423487) = true := by simpa using t2
              go_wp2_with fail
              refine wp_region_held_drew (S := fun w' => w'.cell? ⟨w.heap.size, 1, none⟩ = some (.int .i64 tn) ∧ w'.cell? ⟨w.heap.size, 2, none⟩ = some (.string ts) ∧ w'.cell? ⟨w.heap.size, 3, none⟩ = some (.slice a l.length c)) (by kernel_rfl) (SB.out _ (Keep.refl [w.heap.size + 1] wc).drew) (fun hHeld => ?_)
              refine wpAnyH_takeL (i := 0) (v := ?vk4a0) rfl (by kernel_rfl) (by kernel_rfl) (by kernel_rfl) (fun _ _ _ h => h) (Or.inl ⟨by kernel_rfl, ?runk4a0⟩) hHeld ?_
              case runk4a0 => (intro w9 hS9; obtain ⟨e1, e2, e3⟩ := hS9; go_simp; try exact rfl)
              try simp only [Act.put, List.setIfInBounds_toArray, List.set_cons_zero, List.set_cons_succ]
              refine wpAnyH_takeL (i := 1) (v := ?vk4a1) rfl (by kernel_rfl) (by kernel_rfl) (by kernel_rfl) (fun _ _ _ h => h) (Or.inl ⟨by kernel_rfl, ?runk4a1⟩) hHeld ?_
              case runk4a1 => (intro w9 hS9; obtain ⟨e1, e2, e3⟩ := hS9; go_simp; try exact rfl)
              try simp only [Act.put, List.setIfInBounds_toArray, List.set_cons_zero, List.set_cons_succ]
              refine wpAnyH_takeL (i := 2) (v := ?vk4a2) rfl (by kernel_rfl) (by kernel_rfl) (by kernel_rfl) (fun _ _ _ h => h) (Or.inl ⟨by kernel_rfl, ?runk4a2⟩) hHeld ?_
              case runk4a2 => (intro w9 hS9; obtain ⟨e1, e2, e3⟩ := hS9; go_simp; try exact rfl)
              try simp only [Act.put, List.setIfInBounds_toArray, List.set_cons_zero, List.set_cons_succ]
              refine wpAnyH_takeL (i := 3) (v := ?vk4a3) rfl (by kernel_rfl) (by kernel_rfl) (by kernel_rfl) (fun _ _ _ h => h) (Or.inl ⟨by kernel_rfl, ?runk4a3⟩) hHeld ?_
              case runk4a3 => (intro w9 hS9; obtain ⟨e1, e2, e3⟩ := hS9; go_simp; try exact rfl)
              try simp only [Act.put, List.setIfInBounds_toArray, List.set_cons_zero, List.set_cons_succ]
              refine wpAnyH_takeL (i := 4) (v := .bool true) rfl (by kernel_rfl) (by kernel_rfl) (by kernel_rfl) (fun _ _ _ h => h) (Or.inl ⟨by kernel_rfl, ?runk4a4⟩) hHeld ?_
              case runk4a4 => (intro w9 hS9; obtain ⟨e1, e2, e3⟩ := hS9; go_simp; first | done | exact rfl | (simp [*]; done) | (simp; omega))
              try simp only [Act.put, List.setIfInBounds_toArray, List.set_cons_zero, List.set_cons_succ]
              refine wpAnyH_takeL (i := 5) (v := ?vk4a5) rfl (by kernel_rfl) (by kernel_rfl) (by kernel_rfl) (fun _ _ _ h => h) (Or.inl ⟨by kernel_rfl, ?runk4a5⟩) hHeld ?_
              case runk4a5 => (intro w9 hS9; obtain ⟨e1, e2, e3⟩ := hS9; go_simp; try exact rfl)
              try simp only [Act.put, List.setIfInBounds_toArray, List.set_cons_zero, List.set_cons_succ]
              refine wpAnyH_takeL (i := 6) (v := ?vk4a6) rfl (by kernel_rfl) (by kernel_rfl) (by kernel_rfl) (fun _ _ _ h => h) (Or.inl ⟨by kernel_rfl, ?runk4a6⟩) hHeld ?_
              case runk4a6 => (intro w9 hS9; obtain ⟨e1, e2, e3⟩ := hS9; go_simp; try exact rfl)
              try simp only [Act.put, List.setIfInBounds_toArray, List.set_cons_zero, List.set_cons_succ]
              refine wpAnyH_takeL (i := 7) (v := ?vk4a7) rfl (by kernel_rfl) (by kernel_rfl) (by kernel_rfl) (fun _ _ _ h => h) (Or.inl ⟨by kernel_rfl, ?runk4a7⟩) hHeld ?_
              case runk4a7 => (intro w9 hS9; obtain ⟨e1, e2, e3⟩ := hS9; go_simp; try exact rfl)
              try simp only [Act.put, List.setIfInBounds_toArray, List.set_cons_zero, List.set_cons_succ]
              refine wpAnyH_takeL (i := 8) (v := .bool true) rfl (by kernel_rfl) (by kernel_rfl) (by kernel_rfl) (fun _ _ _ h => h) (Or.inl ⟨by kernel_rfl, ?runk4a8⟩) hHeld ?_
              case runk4a8 => (intro w9 hS9; obtain ⟨e1, e2, e3⟩ := hS9; go_simp; first | done | exact rfl | (simp [*]; done) | (simp; omega))
              try simp only [Act.put, List.setIfInBounds_toArray, List.set_cons_zero, List.set_cons_succ]
              refine wpAnyH_takeL (i := 9) (v := ?vk4a9) rfl (by kernel_rfl) (by kernel_rfl) (by kernel_rfl) (fun _ _ _ h => h) (Or.inl ⟨by kernel_rfl, ?runk4a9⟩) hHeld ?_
              case runk4a9 => (intro w9 hS9; obtain ⟨e1, e2, e3⟩ := hS9; go_simp; try exact rfl)
              try simp only [Act.put, List.setIfInBounds_toArray, List.set_cons_zero, List.set_cons_succ]
              refine wpAnyH_takeL (i := 10) (v := ?vk4a10) rfl (by kernel_rfl) (by kernel_rfl) (by kernel_rfl) (fun _ _ _ h => h) (Or.inl ⟨by kernel_rfl, ?runk4a10⟩) hHeld ?_
              case runk4a10 => (intro w9 hS9; obtain ⟨e1, e2, e3⟩ := hS9; go_simp; try exact rfl)
              try simp only [Act.put, List.setIfInBounds_toArray, List.set_cons_zero, List.set_cons_succ]
              refine wpAnyH_ready (rs := [11]) (by kernel_rfl) (by simp) ?_
              refine AllReadyH.cons rfl (fun K hK => ?_) AllReadyH.nil
              go_simp
              refine hK.out _ _ (SB.out _ ((Keep.refl [w.heap.size + 1] wc).drew.setCell (.inl (by simp)) _)) (fun hHeld2 => ?_)
              clear hK K hHeld
              have hHeld := hHeld2
              clear hHeld2
              try simp only [Act.put, List.setIfInBounds_toArray, List.set_cons_zero, List.set_cons_succ]
              refine wpAnyH_takeL (i := 12) (v := ?vk4a12) rfl (by kernel_rfl) (by kernel_rfl) (by kernel_rfl) (fun _ _ _ h => h) (Or.inl ⟨by kernel_rfl, ?runk4a12⟩) hHeld ?_
              case runk4a12 => (intro w9 hS9; obtain ⟨e1, e2, e3⟩ := hS9; go_simp; try exact rfl)
              try simp only [Act.put, List.setIfInBounds_toArray, List.set_cons_zero, List.set_cons_succ]
              refine wpAnyH_done (by kernel_rfl) ?_ _
              go_wp2_with fail
              obtain ⟨g1, g2, g3⟩ := st_box HB1.out HB2.out HK.out (Nat.le_refl _) rfl
              refine Met.intro (HJ.out _ _ (CutF.mk rfl ⟨_, tn, ⟨#[]⟩, rfl, rfl, rfl, g1, g2, g3, Or.inl ⟨rfl, ?_⟩⟩))
              rw [headOk_4, Bool.eq_iff_iff]
              simp only [toList_nil_iff, Bool.and_eq_true, decide_eq_true_eq, true_and, and_true, beq_self_eq_true]
              first | done | omega | (simp only [iff_false]; omega) | (simp only [iff_true]; omega)
            · have q2 : decide (tn ≤ 576460752303423487) = false := by simpa using t2
              go_wp2_with fail
              refine wp_region_held_drew (S := fun w' => w'.cell? ⟨w.heap.size, 1, none⟩ = some (.int .i64 tn) ∧ w'.cell? ⟨w.heap.size, 2, none⟩ = some (.string ts) ∧ w'.cell? ⟨w.heap.size, 3, none⟩ = some (.slice a l.length c)) (by kernel_rfl) (SB.out _ (Keep.refl [w.heap.size + 1] wc).drew) (fun hHeld => ?_)
              refine wpAnyH_takeL (i := 0) (v := ?vk4b0) rfl (by kernel_rfl) (by kernel_rfl) (by kernel_rfl) (fun _ _ _ h => h) (Or.inl ⟨by kernel_rfl, ?runk4b0⟩) hHeld ?_
              case runk4b0 => (intro w9 hS9; obtain ⟨e1, e2, e3⟩ := hS9; go_simp; try exact rfl)
              try simp only [Act.put, List.setIfInBounds_toArray, List.set_cons_zero, List.set_cons_succ]
              refine wpAnyH_takeL (i := 1) (v := ?vk4b1) rfl (by kernel_rfl) (by kernel_rfl) (by kernel_rfl) (fun _ _ _ h => h) (Or.inl ⟨by kernel_rfl, ?runk4b1⟩) hHeld ?_
              case runk4b1 => (intro w9 hS9; obtain ⟨e1, e2, e3⟩ := hS9; go_simp; try exact rfl)
              try simp only [Act.put, List.setIfInBounds_toArray, List.set_cons_zero, List.set_cons_succ]
              refine wpAnyH_takeL (i := 2) (v := ?vk4b2) rfl (by kernel_rfl) (by kernel_rfl) (by kernel_rfl) (fun _ _ _ h => h) (Or.inl ⟨by kernel_rfl, ?runk4b2⟩) hHeld ?_
              case runk4b2 => (intro w9 hS9; obtain ⟨e1, e2, e3⟩ := hS9; go_simp; try exact rfl)
              try simp only [Act.put, List.setIfInBounds_toArray, List.set_cons_zero, List.set_cons_succ]
              refine wpAnyH_takeL (i := 3) (v := ?vk4b3) rfl (by kernel_rfl) (by kernel_rfl) (by kernel_rfl) (fun _ _ _ h => h) (Or.inl ⟨by kernel_rfl, ?runk4b3⟩) hHeld ?_
              case runk4b3 => (intro w9 hS9; obtain ⟨e1, e2, e3⟩ := hS9; go_simp; try exact rfl)
              try simp only [Act.put, List.setIfInBounds_toArray, List.set_cons_zero, List.set_cons_succ]
              refine wpAnyH_takeL (i := 4) (v := .bool true) rfl (by kernel_rfl) (by kernel_rfl) (by kernel_rfl) (fun _ _ _ h => h) (Or.inl ⟨by kernel_rfl, ?runk4b4⟩) hHeld ?_
              case runk4b4 => (intro w9 hS9; obtain ⟨e1, e2, e3⟩ := hS9; go_simp; first | done | exact rfl | (simp [*]; done) | (simp; omega))
              try simp only [Act.put, List.setIfInBounds_toArray, List.set_cons_zero, List.set_cons_succ]
              refine wpAnyH_takeL (i := 5) (v := ?vk4b5) rfl (by kernel_rfl) (by kernel_rfl) (by kernel_rfl) (fun _ _ _ h => h) (Or.inl ⟨by kernel_rfl, ?runk4b5⟩) hHeld ?_
              case runk4b5 => (intro w9 hS9; obtain ⟨e1, e2, e3⟩ := hS9; go_simp; try exact rfl)
              try simp only [Act.put, List.setIfInBounds_toArray, List.set_cons_zero, List.set_cons_succ]
              refine wpAnyH_takeL (i := 6) (v := ?vk4b6) rfl (by kernel_rfl) (by kernel_rfl) (by kernel_rfl) (fun _ _ _ h => h) (Or.inl ⟨by kernel_rfl, ?runk4b6⟩) hHeld ?_
              case runk4b6 => (intro w9 hS9; obtain ⟨e1, e2, e3⟩ := hS9; go_simp; try exact rfl)
              try simp only [Act.put, List.setIfInBounds_toArray, List.set_cons_zero, List.set_cons_succ]
              refine wpAnyH_takeL (i := 7) (v := ?vk4b7) rfl (by kernel_rfl) (by kernel_rfl) (by kernel_rfl) (fun _ _ _ h => h) (Or.inl ⟨by kernel_rfl, ?runk4b7⟩) hHeld ?_
              case runk4b7 => (intro w9 hS9; obtain ⟨e1, e2, e3⟩ := hS9; go_simp; try exact rfl)
              try simp only [Act.put, List.setIfInBounds_toArray, List.set_cons_zero, List.set_cons_succ]
              refine wpAnyH_takeL (i := 8) (v := .bool false) rfl (by kernel_rfl) (by kernel_rfl) (by kernel_rfl) (fun _ _ _ h => h) (Or.inl ⟨by kernel_rfl, ?runk4b8⟩) hHeld ?_
              case runk4b8 => (intro w9 hS9; obtain ⟨e1, e2, e3⟩ := hS9; go_simp; first | done | exact rfl | (simp [*]; done) | (simp; omega))
              try simp only [Act.put, List.setIfInBounds_toArray, List.set_cons_zero, List.set_cons_succ]
              refine wpAnyH_takeL (i := 9) (v := ?vk4b9) rfl (by kernel_rfl) (by kernel_rfl) (by kernel_rfl) (fun _ _ _ h => h) (Or.inl ⟨by kernel_rfl, ?runk4b9⟩) hHeld ?_
              case runk4b9 => (intro w9 hS9; obtain ⟨e1, e2, e3⟩ := hS9; go_simp; try exact rfl)
              try simp only [Act.put, List.setIfInBounds_toArray, List.set_cons_zero, List.set_cons_succ]
              refine wpAnyH_takeL (i := 10) (v := ?vk4b10) rfl (by kernel_rfl) (by kernel_rfl) (by kernel_rfl) (fun _ _ _ h => h) (Or.inl ⟨by kernel_rfl, ?runk4b10⟩) hHeld ?_
              case runk4b10 => (intro w9 hS9; obtain ⟨e1, e2, e3⟩ := hS9; go_simp; try exact rfl)
              try simp only [Act.put, List.setIfInBounds_toArray, List.set_cons_zero, List.set_cons_succ]
              refine wpAnyH_ready (rs := [11]) (by kernel_rfl) (by simp) ?_
              refine AllReadyH.cons rfl (fun K hK => ?_) AllReadyH.nil
              go_simp
              refine hK.out _ _ (SB.out _ ((Keep.refl [w.heap.size + 1] wc).drew.setCell (.inl (by simp)) _)) (fun hHeld2 => ?_)
              clear hK K hHeld
              have hHeld := hHeld2
              clear hHeld2
              try simp only [Act.put, List.setIfInBounds_toArray, List.set_cons_zero, List.set_cons_succ]
              refine wpAnyH_takeL (i := 12) (v := ?vk4b12) rfl (by kernel_rfl) (by kernel_rfl) (by kernel_rfl) (fun _ _ _ h => h) (Or.inl ⟨by kernel_rfl, ?runk4b12⟩) hHeld ?_
              case runk4b12 => (intro w9 hS9; obtain ⟨e1, e2, e3⟩ := hS9; go_simp; try exact rfl)
              try simp only [Act.put, List.setIfInBounds_toArray, List.set_cons_zero, List.set_cons_succ]
              refine wpAnyH_done (by kernel_rfl) ?_ _
              go_wp2_with fail
              obtain ⟨g1, g2, g3⟩ := st_box HB1.out HB2.out HK.out (Nat.le_refl _) rfl
              refine Met.intro (HJ.out _ _ (CutF.mk rfl ⟨_, tn, ⟨#[]⟩, rfl, rfl, rfl, g1, g2, g3, Or.inl ⟨rfl, ?_⟩⟩))
              rw [headOk_4, Bool.eq_iff_iff]
              simp only [toList_nil_iff, Bool.and_eq_true, decide_eq_true_eq, Bool.false_eq_true, false_and, and_true, beq_self_eq_true]
              first | done | omega | (simp only [iff_false]; omega) | (simp only [iff_true]; omega)
          · have q1 : decide (0 ≤ tn) = false := by simpa using t1
            go_wp2_with fail
            refine wp_region_held_drew (S := fun w' => w'.cell? ⟨w.heap.size, 1, none⟩ = some (.int .i64 tn) ∧ w'.cell? ⟨w.heap.size, 2, none⟩ = some (.string ts) ∧ w'.cell? ⟨w.heap.size, 3, none⟩ = some (.slice a l.length c)) (by kernel_rfl) (SB.out _ (Keep.refl [w.heap.size + 1] wc).drew) (fun hHeld => ?_)
            refine wpAnyH_takeL (i := 0) (v := ?vk4c0) rfl (by kernel_rfl) (by kernel_rfl) (by kernel_rfl) (fun _ _ _ h => h) (Or.inl ⟨by kernel_rfl, ?runk4c0⟩) hHeld ?_
            case runk4c0 => (intro w9 hS9; obtain ⟨e1, e2, e3⟩ := hS9; go_simp; try exact rfl)
            try simp only [Act.put, List.setIfInBounds_toArray, List.set_cons_zero, List.set_cons_succ]
            refine wpAnyH_takeL (i := 1) (v := ?vk4c1) rfl (by kernel_rfl) (by kernel_rfl) (by kernel_rfl) (fun _ _ _ h => h) (Or.inl ⟨by kernel_rfl, ?runk4c1⟩) hHeld ?_
            case runk4c1 => (intro w9 hS9; obtain ⟨e1, e2, e3⟩ := hS9; go_simp; try exact rfl)
            try simp only [Act.put, List.setIfInBounds_toArray, List.set_cons_zero, List.set_cons_succ]
            refine wpAnyH_takeL (i := 2) (v := ?vk4c2) rfl (by kernel_rfl) (by kernel_rfl) (by kernel_rfl) (fun _ _ _ h => h) (Or.inl ⟨by kernel_rfl, ?runk4c2⟩) hHeld ?_
            case runk4c2 => (intro w9 hS9; obtain ⟨e1, e2, e3⟩ := hS9; go_simp; try exact rfl)
            try simp only [Act.put, List.setIfInBounds_toArray, List.set_cons_zero, List.set_cons_succ]
            refine wpAnyH_takeL (i := 3) (v := ?vk4c3) rfl (by kernel_rfl) (by kernel_rfl) (by kernel_rfl) (fun _ _ _ h => h) (Or.inl ⟨by kernel_rfl, ?runk4c3⟩) hHeld ?_
            case runk4c3 => (intro w9 hS9; obtain ⟨e1, e2, e3⟩ := hS9; go_simp; try exact rfl)
            try simp only [Act.put, List.setIfInBounds_toArray, List.set_cons_zero, List.set_cons_succ]
            refine wpAnyH_takeL (i := 4) (v := .bool false) rfl (by kernel_rfl) (by kernel_rfl) (by kernel_rfl) (fun _ _ _ h => h) (Or.inl ⟨by kernel_rfl, ?runk4c4⟩) hHeld ?_
            case runk4c4 => (intro w9 hS9; obtain ⟨e1, e2, e3⟩ := hS9; go_simp; first | done | exact rfl | (simp [*]; done) | (simp; omega))
            try simp only [Act.put, List.setIfInBounds_toArray, List.set_cons_zero, List.set_cons_succ]
            refine wpAnyH_takeL (i := 5) (v := ?vk4c5) rfl (by kernel_rfl) (by kernel_rfl) (by kernel_rfl) (fun _ _ _ h => h) (Or.inl ⟨by kernel_rfl, ?runk4c5⟩) hHeld ?_
            case runk4c5 => (intro w9 hS9; obtain ⟨e1, e2, e3⟩ := hS9; go_simp; try exact rfl)
            try simp only [Act.put, List.setIfInBounds_toArray, List.set_cons_zero, List.set_cons_succ]
            refine wpAnyH_takeL (i := 6) (v := undef) rfl (by kernel_rfl) (by kernel_rfl) (by kernel_rfl) (fun _ _ _ h => h) (Or.inr ⟨by kernel_rfl, rfl⟩) hHeld ?_
            try simp only [Act.put, List.setIfInBounds_toArray, List.set_cons_zero, List.set_cons_succ]
            refine wpAnyH_takeL (i := 7) (v := undef) rfl (by kernel_rfl) (by kernel_rfl) (by kernel_rfl) (fun _ _ _ h => h) (Or.inr ⟨by kernel_rfl, rfl⟩) hHeld ?_
            try simp only [Act.put, List.setIfInBounds_toArray, List.set_cons_zero, List.set_cons_succ]
            refine wpAnyH_takeL (i := 8) (v := undef) rfl (by kernel_rfl) (by kernel_rfl) (by kernel_rfl) (fun _ _ _ h => h) (Or.inr ⟨by kernel_rfl, rfl⟩) hHeld ?_
            try simp only [Act.put, List.setIfInBounds_toArray, List.set_cons_zero, List.set_cons_succ]
            refine wpAnyH_takeL (i := 9) (v := .bool false) rfl (by kernel_rfl) (by kernel_rfl) (by kernel_rfl) (fun _ _ _ h => h) (Or.inl ⟨by kernel_rfl, ?runk4c9⟩) hHeld ?_
            case runk4c9 => (intro w9 hS9; obtain ⟨e1, e2, e3⟩ := hS9; go_simp; first | done | exact rfl | (simp [*]; done) | (simp; omega))
            try simp only [Act.put, List.setIfInBounds_toArray, List.set_cons_zero, List.set_cons_succ]
            refine wpAnyH_takeL (i := 10) (v := ?vk4c10) rfl (by kernel_rfl) (by kernel_rfl) (by kernel_rfl) (fun _ _ _ h => h) (Or.inl ⟨by kernel_rfl, ?runk4c10⟩) hHeld ?_
            case runk4c10 => (intro w9 hS9; obtain ⟨e1, e2, e3⟩ := hS9; go_simp; try exact rfl)
            try simp only [Act.put, List.setIfInBounds_toArray, List.set_cons_zero, List.set_cons_succ]
            refine wpAnyH_ready (rs := [11]) (by kernel_rfl) (by simp) ?_
            refine AllReadyH.cons rfl (fun K hK => ?_) AllReadyH.nil
            go_simp
            refine hK.out _ _ (SB.out _ ((Keep.refl [w.heap.size + 1] wc).drew.setCell (.inl (by simp)) _)) (fun hHeld2 => ?_)
            clear hK K hHeld
            have hHeld := hHeld2
            clear hHeld2
            try simp only [Act.put, List.setIfInBounds_toArray, List.set_cons_zero, List.set_cons_succ]
            refine wpAnyH_takeL (i := 12) (v := ?vk4c12) rfl (by kernel_rfl) (by kernel_rfl) (by kernel_rfl) (fun _ _ _ h => h) (Or.inl ⟨by kernel_rfl, ?runk4c12⟩) hHeld ?_
            case runk4c12 => (intro w9 hS9; obtain ⟨e1, e2, e3⟩ := hS9; go_simp; try exact rfl)
            try simp only [Act.put, List.setIfInBounds_toArray, List.set_cons_zero, List.set_cons_succ]
            refine wpAnyH_done (by kernel_rfl) ?_ _
            go_wp2_with fail
            obtain ⟨g1, g2, g3⟩ := st_box HB1.out HB2.out HK.out (Nat.le_refl _) rfl
            refine Met.intro (HJ.out _ _ (CutF.mk rfl ⟨_, tn, ⟨#[]⟩, rfl, rfl, rfl, g1, g2, g3, Or.inl ⟨rfl, ?_⟩⟩))
            rw [headOk_4, Bool.eq_iff_iff]
            simp only [toList_nil_iff, Bool.and_eq_true, decide_eq_true_eq, Bool.false_eq_true, false_and, and_true, beq_self_eq_true]
            first | done | omega | (simp only [iff_false]; omega) | (simp only [iff_true]; omega)
        by_cases k2 : tk = 2
        · as_aux_lemma =>
          subst k2
          by_cases t1 : ts.toList = []
          · have t1' : ts.toList.isEmpty = true := by simp [t1]
            go_wp2_with fail
            refine wp_region_held_drew (S := fun w' => w'.cell? ⟨w.heap.size, 1, none⟩ = some (.int .i64 tn) ∧ w'.cell? ⟨w.heap.size, 2, none⟩ = some (.string ts) ∧ w'.cell? ⟨w.heap.size, 3, none⟩ = some (.slice a l.length c)) (by kernel_rfl) (SB.out _ (Keep.refl [w.heap.size + 1] wc).drew) (fun hHeld => ?_)
            refine wpAnyH_takeL (i := 0) (v := ?vk2a0) rfl (by kernel_rfl) (by kernel_rfl) (by kernel_rfl) (fun _ _ _ h => h) (Or.inl ⟨by kernel_rfl, ?runk2a0⟩) hHeld ?_
            case runk2a0 => (intro w9 hS9; obtain ⟨e1, e2, e3⟩ := hS9; go_simp; try exact rfl)
            try simp only [Act.put, List.setIfInBounds_toArray, List.set_cons_zero, List.set_cons_succ]
            refine wpAnyH_takeL (i := 1) (v := ?vk2a1) rfl (by kernel_rfl) (by kernel_rfl) (by kernel_rfl) (fun _ _ _ h => h) (Or.inl ⟨by kernel_rfl, ?runk2a1⟩) hHeld ?_
            case runk2a1 => (intro w9 hS9; obtain ⟨e1, e2, e3⟩ := hS9; go_simp; try exact rfl)
            try simp only [Act.put, List.setIfInBounds_toArray, List.set_cons_zero, List.set_cons_succ]
            refine wpAnyH_takeL (i := 2) (v := ?vk2a2) rfl (by kernel_rfl) (by kernel_rfl) (by kernel_rfl) (fun _ _ _ h => h) (Or.inl ⟨by kernel_rfl, ?runk2a2⟩) hHeld ?_
            case runk2a2 => (intro w9 hS9; obtain ⟨e1, e2, e3⟩ := hS9; go_simp; try exact rfl)
            try simp only [Act.put, List.setIfInBounds_toArray, List.set_cons_zero, List.set_cons_succ]
            refine wpAnyH_takeL (i := 3) (v := ?vk2a3) rfl (by kernel_rfl) (by kernel_rfl) (by kernel_rfl) (fun _ _ _ h => h) (Or.inl ⟨by kernel_rfl, ?runk2a3⟩) hHeld ?_
            case runk2a3 => (intro w9 hS9; obtain ⟨e1, e2, e3⟩ := hS9; go_simp; try exact rfl)
            try simp only [Act.put, List.setIfInBounds_toArray, List.set_cons_zero, List.set_cons_succ]
            refine wpAnyH_takeL (i := 4) (v := .bool false) rfl (by kernel_rfl) (by kernel_rfl) (by kernel_rfl) (fun _ _ _ h => h) (Or.inl ⟨by kernel_rfl, ?runk2a4⟩) hHeld ?_
            case runk2a4 => (intro w9 hS9; obtain ⟨e1, e2, e3⟩ := hS9; go_simp; first | done | exact rfl | (simp [*]; done) | (simp; omega))
            try simp only [Act.put, List.setIfInBounds_toArray, List.set_cons_zero, List.set_cons_succ]
            refine wpAnyH_takeL (i := 5) (v := ?vk2a5) rfl (by kernel_rfl) (by kernel_rfl) (by kernel_rfl) (fun _ _ _ h => h) (Or.inl ⟨by kernel_rfl, ?runk2a5⟩) hHeld ?_
            case runk2a5 => (intro w9 hS9; obtain ⟨e1, e2, e3⟩ := hS9; go_simp; try exact rfl)
            try simp only [Act.put, List.setIfInBounds_toArray, List.set_cons_zero, List.set_cons_succ]
            refine wpAnyH_takeL (i := 6) (v := undef) rfl (by kernel_rfl) (by kernel_rfl) (by kernel_rfl) (fun _ _ _ h => h) (Or.inr ⟨by kernel_rfl, rfl⟩) hHeld ?_
            try simp only [Act.put, List.setIfInBounds_toArray, List.set_cons_zero, List.set_cons_succ]
            refine wpAnyH_takeL (i := 7) (v := undef) rfl (by kernel_rfl) (by kernel_rfl) (by kernel_rfl) (fun _ _ _ h => h) (Or.inr ⟨by kernel_rfl, rfl⟩) hHeld ?_
            try simp only [Act.put, List.setIfInBounds_toArray, List.set_cons_zero, List.set_cons_succ]
            refine wpAnyH_takeL (i := 8) (v := undef) rfl (by kernel_rfl) (by kernel_rfl) (by kernel_rfl) (fun _ _ _ h => h) (Or.inr ⟨by kernel_rfl, rfl⟩) hHeld ?_
            try simp only [Act.put, List.setIfInBounds_toArray, List.set_cons_zero, List.set_cons_succ]
            refine wpAnyH_takeL (i := 9) (v := undef) rfl (by kernel_rfl) (by kernel_rfl) (by kernel_rfl) (fun _ _ _ h => h) (Or.inr ⟨by kernel_rfl, rfl⟩) hHeld ?_
            try simp only [Act.put, List.setIfInBounds_toArray, List.set_cons_zero, List.set_cons_succ]
            refine wpAnyH_takeL (i := 10) (v := .bool false) rfl (by kernel_rfl) (by kernel_rfl) (by kernel_rfl) (fun _ _ _ h => h) (Or.inl ⟨by kernel_rfl, ?runk2a10⟩) hHeld ?_
            case runk2a10 => (intro w9 hS9; obtain ⟨e1, e2, e3⟩ := hS9; go_simp; first | done | exact rfl | (simp [*]; done) | (simp; omega))
            try simp only [Act.put, List.setIfInBounds_toArray, List.set_cons_zero, List.set_cons_succ]
            refine wpAnyH_takeL (i := 11) (v := ?vk2a11) rfl (by kernel_rfl) (by kernel_rfl) (by kernel_rfl) (fun _ _ _ h => h) (Or.inl ⟨by kernel_rfl, ?runk2a11⟩) hHeld ?_
            case runk2a11 => (intro w9 hS9; obtain ⟨e1, e2, e3⟩ := hS9; go_simp; try exact rfl)
            try simp only [Act.put, List.setIfInBounds_toArray, List.set_cons_zero, List.set_cons_succ]
            refine wpAnyH_takeL (i := 12) (v := undef) rfl (by kernel_rfl) (by kernel_rfl) (by kernel_rfl) (fun _ _ _ h => h) (Or.inr ⟨by kernel_rfl, rfl⟩) hHeld ?_
            try simp only [Act.put, List.setIfInBounds_toArray, List.set_cons_zero, List.set_cons_succ]
            refine wpAnyH_takeL (i := 13) (v := undef) rfl (by kernel_rfl) (by kernel_rfl) (by kernel_rfl) (fun _ _ _ h => h) (Or.inr ⟨by kernel_rfl, rfl⟩) hHeld ?_
            try simp only [Act.put, List.setIfInBounds_toArray, List.set_cons_zero, List.set_cons_succ]
            refine wpAnyH_takeL (i := 14) (v := undef) rfl (by kernel_rfl) (by kernel_rfl) (by kernel_rfl) (fun _ _ _ h => h) (Or.inr ⟨by kernel_rfl, rfl⟩) hHeld ?_
            try simp only [Act.put, List.setIfInBounds_toArray, List.set_cons_zero, List.set_cons_succ]
            refine wpAnyH_takeL (i := 15) (v := undef) rfl (by kernel_rfl) (by kernel_rfl) (by kernel_rfl) (fun _ _ _ h => h) (Or.inr ⟨by kernel_rfl, rfl⟩) hHeld ?_
            try simp only [Act.put, List.setIfInBounds_toArray, List.set_cons_zero, List.set_cons_succ]
            refine wpAnyH_takeL (i := 16) (v := .bool false) rfl (by kernel_rfl) (by kernel_rfl) (by kernel_rfl) (fun _ _ _ h => h) (Or.inl ⟨by kernel_rfl, ?runk2a16⟩) hHeld ?_
            case runk2a16 => (intro w9 hS9; obtain ⟨e1, e2, e3⟩ := hS9; go_simp; first | done | exact rfl | (simp [*]; done) | (simp; omega))
            try simp only [Act.put, List.setIfInBounds_toArray, List.set_cons_zero, List.set_cons_succ]
            refine wpAnyH_takeL (i := 17) (v := ?vk2a17) rfl (by kernel_rfl) (by kernel_rfl) (by kernel_rfl) (fun _ _ _ h => h) (Or.inl ⟨by kernel_rfl, ?runk2a17⟩) hHeld ?_
            case runk2a17 => (intro w9 hS9; obtain ⟨e1, e2, e3⟩ := hS9; go_simp; try exact rfl)
            try simp only [Act.put, List.setIfInBounds_toArray, List.set_cons_zero, List.set_cons_succ]
            refine wpAnyH_ready (rs := [18]) (by kernel_rfl) (by simp) ?_
            refine AllReadyH.cons rfl (fun K hK => ?_) AllReadyH.nil
            go_simp
            refine hK.out _ _ (SB.out _ ((Keep.refl [w.heap.size + 1] wc).drew.setCell (.inl (by simp)) _)) (fun hHeld2 => ?_)
            clear hK K hHeld
            have hHeld := hHeld2
            clear hHeld2
            try simp only [Act.put, List.setIfInBounds_toArray, List.set_cons_zero, List.set_cons_succ]
            refine wpAnyH_takeL (i := 19) (v := ?vk2a19) rfl (by kernel_rfl) (by kernel_rfl) (by kernel_rfl) (fun _ _ _ h => h) (Or.inl ⟨by kernel_rfl, ?runk2a19⟩) hHeld ?_
            case runk2a19 => (intro w9 hS9; obtain ⟨e1, e2, e3⟩ := hS9; go_simp; try exact rfl)
            try simp only [Act.put, List.setIfInBounds_toArray, List.set_cons_zero, List.set_cons_succ]
            refine wpAnyH_done (by kernel_rfl) ?_ _
            go_wp2_with fail
            rw [toList_nil_iff] at t1
            obtain ⟨g1, g2, g3⟩ := st_box HB1.out HB2.out HK.out (Nat.le_refl _) rfl
            refine Met.intro (HJ.out _ _ (CutF.mk rfl ⟨_, 0, ts, rfl, rfl, rfl, g1, g2, g3, Or.inr ⟨rfl, ?_⟩⟩))
            rw [headOk_2, Bool.eq_iff_iff]
            simp only [Bool.and_eq_true, decide_eq_true_eq, beq_iff_eq, Bool.false_eq_true, false_and]
            first | done | omega | (simp only [iff_false]; omega) | (simp only [iff_true]; omega)
          · have t1' : ts.toList.isEmpty = false := by simpa using t1
            by_cases t2 : (ts.size : Int) ≤ 255
            · have q2 : decide ((ts.size : Int) ≤ 255) = true := by simpa using t2
              go_wp2_with fail
              refine wp_region_held_drew (S := fun w' => w'.cell? ⟨w.heap.size, 1, none⟩ = some (.int .i64 tn) ∧ w'.cell? ⟨w.heap.size, 2, none⟩ = some (.string ts) ∧ w'.cell? ⟨w.heap.size, 3, none⟩ = some (.slice a l.length c)) (by kernel_rfl) (SB.out _ (Keep.refl [w.heap.size + 1] wc).drew) (fun hHeld => ?_)
              refine wpAnyH_takeL (i := 0) (v := ?vk2b0) rfl (by kernel_rfl) (by kernel_rfl) (by kernel_rfl) (fun _ _ _ h => h) (Or.inl ⟨by kernel_rfl, ?runk2b0⟩) hHeld ?_
              case runk2b0 => (intro w9 hS9; obtain ⟨e1, e2, e3⟩ := hS9; go_simp; try exact rfl)
              try simp only [Act.put, List.setIfInBounds_toArray, List.set_cons_zero, List.set_cons_succ]
              refine wpAnyH_takeL (i := 1) (v := ?vk2b1) rfl (by kernel_rfl) (by kernel_rfl) (by kernel_rfl) (fun _ _ _ h => h) (Or.inl ⟨by kernel_rfl, ?runk2b1⟩) hHeld ?_
              case runk2b1 => (intro w9 hS9; obtain ⟨e1, e2, e3⟩ := hS9; go_simp; try exact rfl)
              try simp only [Act.put, List.setIfInBounds_toArray, List.set_cons_zero, List.set_cons_succ]
              refine wpAnyH_takeL (i := 2) (v := ?vk2b2) rfl (by kernel_rfl) (by kernel_rfl) (by kernel_rfl) (fun _ _ _ h => h) (Or.inl ⟨by kernel_rfl, ?runk2b2⟩) hHeld ?_
              case runk2b2 => (intro w9 hS9; obtain ⟨e1, e2, e3⟩ := hS9; go_simp; try exact rfl)
              try simp only [Act.put, List.setIfInBounds_toArray, List.set_cons_zero, List.set_cons_succ]
              refine wpAnyH_takeL (i := 3) (v := ?vk2b3) rfl (by kernel_rfl) (by kernel_rfl) (by kernel_rfl) (fun _ _ _ h => h) (Or.inl ⟨by kernel_rfl, ?runk2b3⟩) hHeld ?_
              case runk2b3 => (intro w9 hS9; obtain ⟨e1, e2, e3⟩ := hS9; go_simp; try exact rfl)
              try simp only [Act.put, List.setIfInBounds_toArray, List.set_cons_zero, List.set_cons_succ]
              refine wpAnyH_takeL (i := 4) (v := .bool true) rfl (by kernel_rfl) (by kernel_rfl) (by kernel_rfl) (fun _ _ _ h => h) (Or.inl ⟨by kernel_rfl, ?runk2b4⟩) hHeld ?_
              case runk2b4 => (intro w9 hS9; obtain ⟨e1, e2, e3⟩ := hS9; go_simp; first | done | exact rfl | (simp [*]; done) | (simp; omega))
              try simp only [Act.put, List.setIfInBounds_toArray, List.set_cons_zero, List.set_cons_succ]
              refine wpAnyH_takeL (i := 5) (v := ?vk2b5) rfl (by kernel_rfl) (by kernel_rfl) (by kernel_rfl) (fun _ _ _ h => h) (Or.inl ⟨by kernel_rfl, ?runk2b5⟩) hHeld ?_
              case runk2b5 => (intro w9 hS9; obtain ⟨e1, e2, e3⟩ := hS9; go_simp; try exact rfl)
              try simp only [Act.put, List.setIfInBounds_toArray, List.set_cons_zero, List.set_cons_succ]
              refine wpAnyH_takeL (i := 6) (v := ?vk2b6) rfl (by kernel_rfl) (by kernel_rfl) (by kernel_rfl) (fun _ _ _ h => h) (Or.inl ⟨by kernel_rfl, ?runk2b6⟩) hHeld ?_
              case runk2b6 => (intro w9 hS9; obtain ⟨e1, e2, e3⟩ := hS9; go_simp; try exact rfl)
              try simp only [Act.put, List.setIfInBounds_toArray, List.set_cons_zero, List.set_cons_succ]
              refine wpAnyH_takeL (i := 7) (v := ?vk2b7) rfl (by kernel_rfl) (by kernel_rfl) (by kernel_rfl) (fun _ _ _ h => h) (Or.inl ⟨by kernel_rfl, ?runk2b7⟩) hHeld ?_
              case runk2b7 => (intro w9 hS9; obtain ⟨e1, e2, e3⟩ := hS9; go_simp; try exact rfl)
              try simp only [Act.put, List.setIfInBounds_toArray, List.set_cons_zero, List.set_cons_succ]
              refine wpAnyH_takeL (i := 8) (v := ?vk2b8) rfl (by kernel_rfl) (by kernel_rfl) (by kernel_rfl) (fun _ _ _ h => h) (Or.inl ⟨by kernel_rfl, ?runk2b8⟩) hHeld ?_
              case runk2b8 => (intro w9 hS9; obtain ⟨e1, e2, e3⟩ := hS9; go_simp; try exact rfl)
              try simp only [Act.put, List.setIfInBounds_toArray, List.set_cons_zero, List.set_cons_succ]
              refine wpAnyH_takeL (i := 9) (v := .bool true) rfl (by kernel_rfl) (by kernel_rfl) (by kernel_rfl) (fun _ _ _ h => h) (Or.inl ⟨by kernel_rfl, ?runk2b9⟩) hHeld ?_
              case runk2b9 => (intro w9 hS9; obtain ⟨e1, e2, e3⟩ := hS9; go_simp; first | done | exact rfl | (simp [*]; done) | (simp; omega))
              try simp only [Act.put, List.setIfInBounds_toArray, List.set_cons_zero, List.set_cons_succ]
              refine wpAnyH_takeL (i := 10) (v := ?vk2b10) rfl (by kernel_rfl) (by kernel_rfl) (by kernel_rfl) (fun _ _ _ h => h) (Or.inl ⟨by kernel_rfl, ?runk2b10⟩) hHeld ?_
              case runk2b10 => (intro w9 hS9; obtain ⟨e1, e2, e3⟩ := hS9; go_simp; try exact rfl)
              try simp only [Act.put, List.setIfInBounds_toArray, List.set_cons_zero, List.set_cons_succ]
              refine wpAnyH_takeL (i := 11) (v := ?vk2b11) rfl (by kernel_rfl) (by kernel_rfl) (by kernel_rfl) (fun _ _ _ h => h) (Or.inl ⟨by kernel_rfl, ?runk2b11⟩) hHeld ?_
              case runk2b11 => (intro w9 hS9; obtain ⟨e1, e2, e3⟩ := hS9; go_simp; try exact rfl)
              try simp only [Act.put, List.setIfInBounds_toArray, List.set_cons_zero, List.set_cons_succ]
              refine wpAnyH_takeL (i := 12) (v := ?vk2b12) rfl (by kernel_rfl) (by kernel_rfl) (by kernel_rfl) (fun _ _ _ h => h) (Or.inl ⟨by kernel_rfl, ?runk2b12⟩) hHeld ?_
              case runk2b12 => (intro w9 hS9; obtain ⟨e1, e2, e3⟩ := hS9; go_simp; try exact rfl)
              try simp only [Act.put, List.setIfInBounds_toArray, List.set_cons_zero, List.set_cons_succ]
              refine wpAnyH_takeL (i := 13) (v := ?vk2b13) rfl (by kernel_rfl) (by kernel_rfl) (by kernel_rfl) (fun _ _ _ h => h) (Or.inl ⟨by kernel_rfl, ?runk2b13⟩) hHeld ?_
              case runk2b13 => (intro w9 hS9; obtain ⟨e1, e2, e3⟩ := hS9; go_simp; try exact rfl)
              try simp only [Act.put, List.setIfInBounds_toArray, List.set_cons_zero, List.set_cons_succ]
              refine wpAnyH_takeL (i := 14) (v := ?vk2b14) rfl (by kernel_rfl) (by kernel_rfl) (by kernel_rfl) (fun _ _ _ h => h) (Or.inl ⟨by kernel_rfl, ?runk2b14⟩) hHeld ?_
              case runk2b14 => (intro w9 hS9; obtain ⟨e1, e2, e3⟩ := hS9; go_simp; try exact rfl)
              try simp only [Act.put, List.setIfInBounds_toArray, List.set_cons_zero, List.set_cons_succ]
              refine wpAnyH_takeL (i := 15) (v := ?vk2b15) rfl (by kernel_rfl) (by kernel_rfl) (by kernel_rfl) (fun _ _ _ h => h) (Or.inl ⟨by kernel_rfl, ?runk2b15⟩) hHeld ?_
              case runk2b15 => (intro w9 hS9; obtain ⟨e1, e2, e3⟩ := hS9; go_simp; try exact rfl)
              try simp only [Act.put, List.setIfInBounds_toArray, List.set_cons_zero, List.set_cons_succ]
              refine wpAnyH_takeL (i := 16) (v := ?vk2b16) rfl (by kernel_rfl) (by kernel_rfl) (by kernel_rfl) (fun _ _ _ h => h) (Or.inl ⟨by kernel_rfl, ?runk2b16⟩) hHeld ?_
              case runk2b16 => (intro w9 hS9; obtain ⟨e1, e2, e3⟩ := hS9; go_simp; try exact rfl)
              try simp only [Act.put, List.setIfInBounds_toArray, List.set_cons_zero, List.set_cons_succ]
              refine wpAnyH_takeL (i := 17) (v := ?vk2b17) rfl (by kernel_rfl) (by kernel_rfl) (by kernel_rfl) (fun _ _ _ h => h) (Or.inl ⟨by kernel_rfl, ?runk2b17⟩) hHeld ?_
              case runk2b17 => (intro w9 hS9; obtain ⟨e1, e2, e3⟩ := hS9; go_simp; try exact rfl)
              try simp only [Act.put, List.setIfInBounds_toArray, List.set_cons_zero, List.set_cons_succ]
              refine wpAnyH_ready (rs := [18]) (by kernel_rfl) (by simp) ?_
              refine AllReadyH.cons rfl (fun K hK => ?_) AllReadyH.nil
              go_simp
              refine hK.out _ _ (SB.out _ ((Keep.refl [w.heap.size + 1] wc).drew.setCell (.inl (by simp)) _)) (fun hHeld2 => ?_)
              clear hK K hHeld
              have hHeld := hHeld2
              clear hHeld2
              try simp only [Act.put, List.setIfInBounds_toArray, List.set_cons_zero, List.set_cons_succ]
              refine wpAnyH_takeL (i := 19) (v := ?vk2b19) rfl (by kernel_rfl) (by kernel_rfl) (by kernel_rfl) (fun _ _ _ h => h) (Or.inl ⟨by kernel_rfl, ?runk2b19⟩) hHeld ?_
              case runk2b19 => (intro w9 hS9; obtain ⟨e1, e2, e3⟩ := hS9; go_simp; try exact rfl)
              try simp only [Act.put, List.setIfInBounds_toArray, List.set_cons_zero, List.set_cons_succ]
              refine wpAnyH_done (by kernel_rfl) ?_ _
              go_wp2_with fail
              rw [toList_nil_iff] at t1
              obtain ⟨g1, g2, g3⟩ := st_box HB1.out HB2.out HK.out (Nat.le_refl _) rfl
              refine Met.intro (HJ.out _ _ (CutF.mk rfl ⟨_, 0, ts, rfl, rfl, rfl, g1, g2, g3, Or.inr ⟨rfl, ?_⟩⟩))
              rw [headOk_2, Bool.eq_iff_iff]
              simp only [Bool.and_eq_true, decide_eq_true_eq, beq_iff_eq]
              first | done | omega | (simp only [iff_false]; omega) | (simp only [iff_true]; omega)
            · have q2 : decide ((ts.size : Int) ≤ 255) = false := by simpa using t2
              go_wp2_with fail
              refine wp_region_held_drew (S := fun w' => w'.cell? ⟨w.heap.size, 1, none⟩ = some (.int .i64 tn) ∧ w'.cell? ⟨w.heap.size, 2, none⟩ = some (.string ts) ∧ w'.cell? ⟨w.heap.size, 3, none⟩ = some (.slice a l.length c)) (by kernel_rfl) (SB.out _ (Keep.refl [w.heap.size + 1] wc).drew) (fun hHeld => ?_)
              refine wpAnyH_takeL (i := 0) (v := ?vk2c0) rfl (by kernel_rfl) (by kernel_rfl) (by kernel_rfl) (fun _ _ _ h => h) (Or.inl ⟨by kernel_rfl, ?runk2c0⟩) hHeld ?_
              case runk2c0 => (intro w9 hS9; obtain ⟨e1, e2, e3⟩ := hS9; go_simp; try exact rfl)
              try simp only [Act.put, List.setIfInBounds_toArray, List.set_cons_zero, List.set_cons_succ]
              refine wpAnyH_takeL (i := 1) (v := ?vk2c1) rfl (by kernel_rfl) (by kernel_rfl) (by kernel_rfl) (fun _ _ _ h => h) (Or.inl ⟨by kernel_rfl, ?runk2c1⟩) hHeld ?_
              case runk2c1 => (intro w9 hS9; obtain ⟨e1, e2, e3⟩ := hS9; go_simp; try exact rfl)
              try simp only [Act.put, List.setIfInBounds_toArray, List.set_cons_zero, List.set_cons_succ]
              refine wpAnyH_takeL (i := 2) (v := ?vk2c2) rfl (by kernel_rfl) (by kernel_rfl) (by kernel_rfl) (fun _ _ _ h => h) (Or.inl ⟨by kernel_rfl, ?runk2c2⟩) hHeld ?_
              case runk2c2 => (intro w9 hS9; obtain ⟨e1, e2, e3⟩ := hS9; go_simp; try exact rfl)
              try simp only [Act.put, List.setIfInBounds_toArray, List.set_cons_zero, List.set_cons_succ]
              refine wpAnyH_takeL (i := 3) (v := ?vk2c3) rfl (by kernel_rfl) (by kernel_rfl) (by kernel_rfl) (fun _ _ _ h => h) (Or.inl ⟨by kernel_rfl, ?runk2c3⟩) hHeld ?_
              case runk2c3 => (intro w9 hS9; obtain ⟨e1, e2, e3⟩ := hS9; go_simp; try exact rfl)
              try simp only [Act.put, List.setIfInBounds_toArray, List.set_cons_zero, List.set_cons_succ]
              refine wpAnyH_takeL (i := 4) (v := .bool true) rfl (by kernel_rfl) (by kernel_rfl) (by kernel_rfl) (fun _ _ _ h => h) (Or.inl ⟨by kernel_rfl, ?runk2c4⟩) hHeld ?_
              case runk2c4 => (intro w9 hS9; obtain ⟨e1, e2, e3⟩ := hS9; go_simp; first | done | exact rfl | (simp [*]; done) | (simp; omega))
              try simp only [Act.put, List.setIfInBounds_toArray, List.set_cons_zero, List.set_cons_succ]
              refine wpAnyH_takeL (i := 5) (v := ?vk2c5) rfl (by kernel_rfl) (by kernel_rfl) (by kernel_rfl) (fun _ _ _ h => h) (Or.inl ⟨by kernel_rfl, ?runk2c5⟩) hHeld ?_
              case runk2c5 => (intro w9 hS9; obtain ⟨e1, e2, e3⟩ := hS9; go_simp; try exact rfl)
              try simp only [Act.put, List.setIfInBounds_toArray, List.set_cons_zero, List.set_cons_succ]
              refine wpAnyH_takeL (i := 6) (v := ?vk2c6) rfl (by kernel_rfl) (by kernel_rfl) (by kernel_rfl) (fun _ _ _ h => h) (Or.inl ⟨by kernel_rfl, ?runk2c6⟩) hHeld ?_
              case runk2c6 => (intro w9 hS9; obtain ⟨e1, e2, e3⟩ := hS9; go_simp; try exact rfl)
              try simp only [Act.put, List.setIfInBounds_toArray, List.set_cons_zero, List.set_cons_succ]
              refine wpAnyH_takeL (i := 7) (v := ?vk2c7) rfl (by kernel_rfl) (by kernel_rfl) (by kernel_rfl) (fun _ _ _ h => h) (Or.inl ⟨by kernel_rfl, ?runk2c7⟩) hHeld ?_
              case runk2c7 => (intro w9 hS9; obtain ⟨e1, e2, e3⟩ := hS9; go_simp; try exact rfl)
              try simp only [Act.put, List.setIfInBounds_toArray, List.set_cons_zero, List.set_cons_succ]
              refine wpAnyH_takeL (i := 8) (v := ?vk2c8) rfl (by kernel_rfl) (by kernel_rfl) (by kernel_rfl) (fun _ _ _ h => h) (Or.inl ⟨by kernel_rfl, ?runk2c8⟩) hHeld ?_
              case runk2c8 => (intro w9 hS9; obtain ⟨e1, e2, e3⟩ := hS9; go_simp; try exact rfl)
              try simp only [Act.put, List.setIfInBounds_toArray, List.set_cons_zero, List.set_cons_succ]
              refine wpAnyH_takeL (i := 9) (v := .bool false) rfl (by kernel_rfl) (by kernel_rfl) (by kernel_rfl) (fun _ _ _ h => h) (Or.inl ⟨by kernel_rfl, ?runk2c9⟩) hHeld ?_
              case runk2c9 => (intro w9 hS9; obtain ⟨e1, e2, e3⟩ := hS9; go_simp; first | done | exact rfl | (simp [*]; done) | (simp; omega))
              try simp only [Act.put, List.setIfInBounds_toArray, List.set_cons_zero, List.set_cons_succ]
              refine wpAnyH_takeL (i := 10) (v := .bool false) rfl (by kernel_rfl) (by kernel_rfl) (by kernel_rfl) (fun _ _ _ h => h) (Or.inl ⟨by kernel_rfl, ?runk2c10⟩) hHeld ?_
              case runk2c10 => (intro w9 hS9; obtain ⟨e1, e2, e3⟩ := hS9; go_simp; first | done | exact rfl | (simp [*]; done) | (simp; omega))
              try simp only [Act.put, List.setIfInBounds_toArray, List.set_cons_zero, List.set_cons_succ]
              refine wpAnyH_takeL (i := 11) (v := ?vk2c11) rfl (by kernel_rfl) (by kernel_rfl) (by kernel_rfl) (fun _ _ _ h => h) (Or.inl ⟨by kernel_rfl, ?runk2c11⟩) hHeld ?_
              case runk2c11 => (intro w9 hS9; obtain ⟨e1, e2, e3⟩ := hS9; go_simp; try exact rfl)
              try simp only [Act.put, List.setIfInBounds_toArray, List.set_cons_zero, List.set_cons_succ]
              refine wpAnyH_takeL (i := 12) (v := undef) rfl (by kernel_rfl) (by kernel_rfl) (by kernel_rfl) (fun _ _ _ h => h) (Or.inr ⟨by kernel_rfl, rfl⟩) hHeld ?_
              try simp only [Act.put, List.setIfInBounds_toArray, List.set_cons_zero, List.set_cons_succ]
              refine wpAnyH_takeL (i := 13) (v := undef) rfl (by kernel_rfl) (by kernel_rfl) (by kernel_rfl) (fun _ _ _ h => h) (Or.inr ⟨by kernel_rfl, rfl⟩) hHeld ?_
              try simp only [Act.put, List.setIfInBounds_toArray, List.set_cons_zero, List.set_cons_succ]
              refine wpAnyH_takeL (i := 14) (v := undef) rfl (by kernel_rfl) (by kernel_rfl) (by kernel_rfl) (fun _ _ _ h => h) (Or.inr ⟨by kernel_rfl, rfl⟩) hHeld ?_
              try simp only [Act.put, List.setIfInBounds_toArray, List.set_cons_zero, List.set_cons_succ]
              refine wpAnyH_takeL (i := 15) (v := undef) rfl (by kernel_rfl) (by kernel_rfl) (by kernel_rfl) (fun _ _ _ h => h) (Or.inr ⟨by kernel_rfl, rfl⟩) hHeld ?_
              try simp only [Act.put, List.setIfInBounds_toArray, List.set_cons_zero, List.set_cons_succ]
              refine wpAnyH_takeL (i := 16) (v := .bool false) rfl (by kernel_rfl) (by kernel_rfl) (by kernel_rfl) (fun _ _ _ h => h) (Or.inl ⟨by kernel_rfl, ?runk2c16⟩) hHeld ?_
              case runk2c16 => (intro w9 hS9; obtain ⟨e1, e2, e3⟩ := hS9; go_simp; first | done | exact rfl | (simp [*]; done) | (simp; omega))
              try simp only [Act.put, List.setIfInBounds_toArray, List.set_cons_zero, List.set_cons_succ]
              refine wpAnyH_takeL (i := 17) (v := ?vk2c17) rfl (by kernel_rfl) (by kernel_rfl) (by kernel_rfl) (fun _ _ _ h => h) (Or.inl ⟨by kernel_rfl, ?runk2c17⟩) hHeld ?_
              case runk2c17 => (intro w9 hS9; obtain ⟨e1, e2, e3⟩ := hS9; go_simp; try exact rfl)
              try simp only [Act.put, List.setIfInBounds_toArray, List.set_cons_zero, List.set_cons_succ]
              refine wpAnyH_ready (rs := [18]) (by kernel_rfl) (by simp) ?_
              refine AllReadyH.cons rfl (fun K hK => ?_) AllReadyH.nil
              go_simp
              refine hK.out _ _ (SB.out _ ((Keep.refl [w.heap.size + 1] wc).drew.setCell (.inl (by simp)) _)) (fun hHeld2 => ?_)
              clear hK K hHeld
              have hHeld := hHeld2
              clear hHeld2
              try simp only [Act.put, List.setIfInBounds_toArray, List.set_cons_zero, List.set_cons_succ]
              refine wpAnyH_takeL (i := 19) (v := ?vk2c19) rfl (by kernel_rfl) (by kernel_rfl) (by kernel_rfl) (fun _ _ _ h => h) (Or.inl ⟨by kernel_rfl, ?runk2c19⟩) hHeld ?_
              case runk2c19 => (intro w9 hS9; obtain ⟨e1, e2, e3⟩ := hS9; go_simp; try exact rfl)
              try simp only [Act.put, List.setIfInBounds_toArray, List.set_cons_zero, List.set_cons_succ]
              refine wpAnyH_done (by kernel_rfl) ?_ _
              go_wp2_with fail
              rw [toList_nil_iff] at t1
              obtain ⟨g1, g2, g3⟩ := st_box HB1.out HB2.out HK.out (Nat.le_refl _) rfl
              refine Met.intro (HJ.out _ _ (CutF.mk rfl ⟨_, 0, ts, rfl, rfl, rfl, g1, g2, g3, Or.inr ⟨rfl, ?_⟩⟩))
              rw [headOk_2, Bool.eq_iff_iff]
              simp only [Bool.and_eq_true, decide_eq_true_eq, beq_iff_eq, Bool.false_eq_true, false_and]
              first | done | omega | (simp only [iff_false]; omega) | (simp only [iff_true]; omega)
        by_cases k6 : tk = 6
        · as_aux_lemma =>
          subst k6
          go_wp2_with fail
          have g1 := HB1.out
          have g2 := HB2.out
          have g3 := HK.out
          refine Met.intro (HJ.out _ _ (CutF.mk rfl ⟨_, 0, ⟨#[]⟩, rfl, rfl, rfl, g1, g2, g3, Or.inl ⟨rfl, ?_⟩⟩))
          rw [headOk_6, Bool.eq_iff_iff]
          simp only [toList_nil_iff, Bool.and_eq_true, decide_eq_true_eq, beq_iff_eq, true_and]
          first | done | omega | (simp only [iff_false]; omega) | (simp only [iff_true]; omega)
        by_cases k7 : tk = 7
        · as_aux_lemma =>
          subst k7
          go_wp2_with fail
          have g1 := HB1.out
          have g2 := HB2.out
          have g3 := HK.out
          refine Met.intro (HJ.out _ _ (CutF.mk rfl ⟨_, 0, ⟨#[]⟩, rfl, rfl, rfl, g1, g2, g3, Or.inl ⟨rfl, ?_⟩⟩))
          rw [headOk_7, Bool.eq_iff_iff]
          simp only [toList_nil_iff, Bool.and_eq_true, decide_eq_true_eq, beq_iff_eq]
          first | done | omega | (simp only [iff_false]; omega) | (simp only [iff_true]; omega)
        by_cases k8 : tk = 8
        · as_aux_lemma =>
          subst k8
          go_wp2_with fail
          have g1 := HB1.out
          have g2 := HB2.out
          have g3 := HK.out
          refine Met.intro (HJ.out _ _ (CutF.mk rfl ⟨_, 0, ⟨#[]⟩, rfl, rfl, rfl, g1, g2, g3, Or.inl ⟨rfl, ?_⟩⟩))
          rw [headOk_8, Bool.eq_iff_iff]
          simp only [toList_nil_iff, Bool.and_eq_true, decide_eq_true_eq, beq_iff_eq]
          first | done | omega | (simp only [iff_false]; omega) | (simp only [iff_true]; omega)
        have q1 : (tk == 1) = false := by simpa using k1
        have q2 : (tk == 2) = false := by simpa using k2
        have q3 : (tk == 3) = false := by simpa using k3
        have q4 : (tk == 4) = false := by simpa using k4
        have q5 : (tk == 5) = false := by simpa using k5
        have q6 : (tk == 6) = false := by simpa using k6
        have q7 : (tk == 7) = false := by simpa using k7
        have q8 : (tk == 8) = false := by simpa using k8
        go_wp2_with fail
        have g1 := HB1.out
        have g2 := HB2.out
        have g3 := HK.out
        refine Met.intro (HJ.out _ _ (CutF.mk rfl ⟨_, 0, ⟨#[]⟩, rfl, rfl, rfl, g1, g2, g3, Or.inl ⟨rfl, ?_⟩⟩))
        rw [headOk_no _ _ _ k1 k2 k3 k4 k5 k6 k7 k8]
        simp
      case rest2 =>
        clear HB1 HB2 HK SB c0 c1 c2 c3 d0 d1 d2 d3 df1 df2
        intro a' wd hc
        obtain ⟨f2, rfl, ok, i2, n2, h4, h1, h3, hb1, hb2, hK, hcase⟩ := hc.lit
        rw [show ((List.range 120).map f2).toArray = #[f2 0, f2 1, f2 2, f2 3, f2 4, f2 5, f2 6, f2 7, f2 8, f2 9, f2 10, f2 11, f2 12, f2 13, f2 14, f2 15, f2 16, f2 17, f2 18, f2 19, f2 20, f2 21, f2 22, f2 23, f2 24, f2 25, f2 26, f2 27, f2 28, f2 29, f2 30, f2 31, f2 32, f2 33, f2 34, f2 35, f2 36, f2 37, f2 38, f2 39, f2 40, f2 41, f2 42, f2 43, f2 44, f2 45, f2 46, f2 47, f2 48, f2 49, f2 50, f2 51, f2 52, f2 53, f2 54, f2 55, f2 56, f2 57, f2 58, f2 59, f2 60, f2 61, f2 62, f2 63, f2 64, f2 65, f2 66, f2 67, f2 68, f2 69, f2 70, f2 71, f2 72, f2 73, f2 74, f2 75, f2 76, f2 77, f2 78, f2 79, f2 80, f2 81, f2 82, f2 83, f2 84, f2 85, f2 86, f2 87, f2 88, f2 89, f2 90, f2 91, f2 92, f2 93, f2 94, f2 95, f2 96, f2 97, f2 98, f2 99, f2 100, f2 101, f2 102, f2 103, f2 104, f2 105, f2 106, f2 107, f2 108, f2 109, f2 110, f2 111, f2 112, f2 113, f2 114, f2 115, f2 116, f2 117, f2 118, f2 119] from rfl]
        rw [h4, h1, h3]
        clear h4 h1 h3 hc
        obtain ⟨-, c1, c2, c3, -⟩ := cells4 hb1
        obtain ⟨-, d1, d2, -, -⟩ := cells4 hb2
        have HK := Lib.hid hK
        have hcall := containsFuncT (HH.out.keep0 hK) 68 (fun x => !isTm x) (enters_of Tryd.func68 (by kernel_rfl) rfl) (fun x hx W hW => is_closure (fun ob => HIH.out x (by have := HMEM.out x hx; omega) B (W.alloc ob) ((((RdTms_iff _).1 HH.out.2.2 x hx).keep0 hK).keep0 (hW.alloc ob))))
        have hany := isTms_any l
        generalize l.any (fun x => !isTm x) = an at *
        have HAN := Lib.hid hany
        have HC := Lib.hid hcall
        have HCASE := Lib.hid hcase
        clear hb1 hb2 hK hcall hany hcase
        cases ok with
        | false =>
          have hres : isTm t = false := by
            rw [HIS.out]
            rcases HCASE.out with ⟨-, h⟩ | ⟨-, h⟩ <;> rw [h] <;> rfl
          have HRES := Lib.hid hres
          clear hres
          go_wp2_with fail
          go_ret
          exact ⟨by rw [HRES.out]; rfl, HK.out⟩
        | true =>
          by_cases hi2 : tn = i2
          · subst hi2
            rcases HCASE.out with ⟨rfl, h⟩ | ⟨rfl, h⟩
            · by_cases hts : ts.toList = []
              · have hres : isTm t = !an := by rw [HIS.out, h, ← HAN.out]; simp [hts]
                have HRES := Lib.hid hres
                clear hres h HCASE HIS HAN
                go_wp2_with fail
                refine HC.out.mono ?_
                rintro e w2 ⟨rfl, hk2⟩
                go_wp2_with fail
                go_ret
                exact ⟨by rw [HRES.out]; rfl, HK.out.trans hk2 (by simp)⟩
              · have hres : isTm t = false := by rw [HIS.out, h]; simp [hts]
                have HRES := Lib.hid hres
                clear hres h HCASE HIS HAN
                go_wp2_with fail
                go_ret
                exact ⟨by rw [HRES.out]; rfl, HK.out⟩
            · have hres : isTm t = !an := by rw [HIS.out, h, ← HAN.out]; simp
              have HRES := Lib.hid hres
              clear hres h HCASE HIS HAN
              go_wp2_with fail
              refine HC.out.mono ?_
              rintro e w2 ⟨rfl, hk2⟩
              go_wp2_with fail
              go_ret
              exact ⟨by rw [HRES.out]; rfl, HK.out.trans hk2 (by simp)⟩
          · have hq : (tn == i2) = false := by simpa using hi2
            have hres : isTm t = false := by
              rw [HIS.out]
              rcases HCASE.out with ⟨-, h⟩ | ⟨-, h⟩ <;> rw [h, hq] <;> rfl
            have HRES := Lib.hid hres
            clear hres
            go_wp2_with fail
            go_ret
            exact ⟨by rw [HRES.out]; rfl, HK.out⟩
theorem p_is {t : Tm} {B : Nat} {w : World} (h : RdTm B w t) : Calls Tryd.prog 48 #[aggTm t] w fun e w' => e = .returned (.bool (isTm t)) ∧ Keep [] w w' := p_isN t.sz t (Nat.le_refl _) B w h
end Go.Proofs.YtcegdomfmamonaaDoor
