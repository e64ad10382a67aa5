/- Terms: the program's Compare. -/
import Derived.Test.YtcegdomfmamonaaDoorTm5
import Derived.Test.YtcegdomfmamonaaDoorShelf
import Derived.Deep.DrawnRows
namespace Go.Proofs.YtcegdomfmamonaaDoor
open Go.RowKit Go.Emb Go.Lib

theorem cmpI_any (x y : Int) (w : World) : Calls Tryd.prog 52 #[.int .i64 x, .int .i64 y] w fun e w' => e = .returned (.int .i64 (Lib.compareInt x y)) ∧ w = w' :=
  (Tryd.cmp_Compare_int x y w).mono fun _ _ ⟨h1, h2⟩ => ⟨h1, h2.symm⟩
theorem cmpS_any (x y : ByteArray) (w : World) : Calls Tryd.prog 54 #[.string x, .string y] w fun e w' => e = .returned (.int .i64 (Lib.compareBytes x.data.toList y.data.toList)) ∧ w = w' :=
  (Tryd.strings_Compare x y w).mono fun _ _ ⟨h1, h2⟩ => ⟨h1, h2.symm⟩
theorem isNaN64 (x : Int) (w : World) : Calls Tryd.prog 70 #[.int .i64 x] w fun e w' => e = .returned (.bool false) ∧ w = w' := by
  go_enter Tryd.func70, Tryd.ntmps70
  go_wp2_with fail
  go_ret
  exact ⟨by simp, rfl⟩
theorem cmp64_any (x y : Int) (w : World) : Calls Tryd.prog 53 #[.int .i64 x, .int .i64 y] w fun e w' => e = .returned (.int .i64 (Lib.compareInt x y)) ∧ w = w' := by
  unfold Lib.compareInt
  by_cases h1 : x < y
  · rw [if_pos h1]
    go_enter Tryd.func53, Tryd.ntmps53
    go_wp2_with (go_at_call 70; refine (isNaN64 _ _).mono ?_; rintro e w' ⟨rfl, rfl⟩)
    go_ret
    exact ⟨rfl, rfl⟩
  · by_cases h2 : y < x
    · rw [if_neg h1, if_pos h2]
      go_enter Tryd.func53, Tryd.ntmps53
      go_wp2_with (go_at_call 70; refine (isNaN64 _ _).mono ?_; rintro e w' ⟨rfl, rfl⟩)
      go_ret
      exact ⟨rfl, rfl⟩
    · rw [if_neg h1, if_neg h2]
      go_enter Tryd.func53, Tryd.ntmps53
      go_wp2_with (go_at_call 70; refine (isNaN64 _ _).mono ?_; rintro e w' ⟨rfl, rfl⟩)
      go_ret
      exact ⟨rfl, rfl⟩

/-- the first that is not 0 -/
def orL : List Int → Int | [] => 0 | x :: r => or0 x (orL r)
theorem orL_at {l : List Int} {k : Nat} (hk : k < l.length) (h0 : ∀ j (hj : j < k), l[j]'(by omega) = 0) (h : l[k] ≠ 0) : orL l = l[k] := by
  induction l generalizing k with
  | nil => simp at hk
  | cons x r ih =>
    cases k with
    | zero => simp only [List.getElem_cons_zero] at h ⊢; simp [orL, or0, h]
    | succ k =>
      have hx : x = 0 := h0 0 (by omega)
      simp only [orL, or0, hx, if_true, List.getElem_cons_succ]
      exact ih (by simpa using hk) (fun j hj => by have := h0 (j + 1) (by omega); exact this) h
theorem orL_zero {l : List Int} (h0 : ∀ j (hj : j < l.length), l[j] = 0) : orL l = 0 := by
  induction l with
  | nil => rfl
  | cons x r ih =>
    have hx : x = 0 := h0 0 (by simp)
    simp only [orL, or0, hx, if_true]
    exact ih (fun j hj => by have := h0 (j + 1) (by simpa using hj); exact this)
theorem or_any {w : World} {v : Value} {l : List Int} {o : Option Nat} (h : Rd w 1 v l.length (l.map (Value.int .i64)) o) : Calls Tryd.prog 51 #[v] w fun e w' => e = .returned (.int .i64 (orL l)) ∧ w = w' := by
  obtain ⟨hlen, a, c, rfl, hc1, hc2, hcells⟩ := h
  unfold maxLen at hc2
  have HC := Lib.hid hcells
  clear hcells hlen
  go_enter Tryd.func51, Tryd.ntmps51
  go_wp2_with fail
  go_loop [5, 8] (fun _ i => ∃ k : Nat, k ≤ l.length ∧ i = .int .i64 k ∧ ∀ j, j < k → l[j]? = some 0) (fun _ i => l.length - (RowKit.intOf i).toNat)
  case atStart => exact ⟨0, Nat.zero_le _, rfl, fun j hj => absurd hj (Nat.not_lt_zero _)⟩
  case round =>
    obtain ⟨k, hk, rfl, hz⟩ := hrel
    have HZ := Lib.hid hz
    clear hz
    by_cases hlt : k < l.length
    · rcases HC.out with ⟨h0, -⟩ | ⟨b, off, rfl, rfl, hcs⟩
      · omega
      have c0 : w.cell? ⟨b, off + k, none⟩ = some (.int .i64 l[k]) := by rw [hcs k (by omega), List.getElem?_map, List.getElem?_eq_getElem hlt]; rfl
      have i0 : (0 : Int) ≤ (k : Int) := by omega
      have i1 : (k : Int) < (l.length : Int) := by omega
      clear hcs
      by_cases hx : l[k] = 0
      · rw [hx] at c0
        have hn : ∀ j, j < k + 1 → l[j]? = some 0 := fun j hj => by
          by_cases e : j = k
          · subst e; rw [List.getElem?_eq_getElem hlt, hx]
          · exact HZ.out j (by omega)
        have HN := Lib.hid hn
        clear hn hx
        go_wp2_with fail
        go_round
        case rel => exact ⟨k + 1, by omega, by go_num, HN.out⟩
        case measure => simp [RowKit.intOf]; omega
      · have hres := orL_at hlt (fun j hj => by have := HZ.out j hj; rw [List.getElem?_eq_getElem (by omega)] at this; simpa using this) hx
        have HRES := Lib.hid hres
        clear hres
        have hq : (l[k] != 0) = true := by simpa using hx
        generalize l[k] = x at *
        go_wp2_with fail
        go_ret
        exact ⟨by rw [HRES.out]; rfl, rfl⟩
    · have hres := orL_zero (l := l) (fun j hj => by have := HZ.out j (by omega); rw [List.getElem?_eq_getElem hj] at this; simpa using this)
      have HRES := Lib.hid hres
      clear hres
      go_wp2_with fail
      go_ret
      exact ⟨by rw [HRES.out]; rfl, rfl⟩

/-! ### slices.CompareFunc over Compare -/
theorem cmpTms_step (l r : List Tm) (k : Nat) (hl : k < l.length) (hr : k < r.length) (h0 : ∀ j (hj : j < k), cmpTm (l[j]'(by omega)) (r[j]'(by omega)) = 0) :
    (cmpTm l[k] r[k] ≠ 0 → cmpTms l r = cmpTm l[k] r[k]) := by
  intro h
  induction l generalizing r k with
  | nil => simp at hl
  | cons x l ih =>
    cases r with
    | nil => simp at hr
    | cons y r =>
      cases k with
      | zero => simp only [List.getElem_cons_zero] at h ⊢; simp [cmpTms, or0, h]
      | succ k =>
        have hx : cmpTm x y = 0 := h0 0 (by omega)
        simp only [cmpTms, or0, hx, if_true, List.getElem_cons_succ]
        exact ih r k (by simpa using hl) (by simpa using hr) (fun j hj => by have := h0 (j + 1) (by omega); exact this) h
theorem cmpTms_zero (l r : List Tm) (hlen : l.length = r.length) (h0 : ∀ j (hj : j < l.length), cmpTm l[j] (r[j]'(by omega)) = 0) : cmpTms l r = 0 := by
  induction l generalizing r with
  | nil => simp [cmpTms]
  | cons x l ih =>
    cases r with
    | nil => simp at hlen
    | cons y r =>
      have hx : cmpTm x y = 0 := h0 0 (by simp)
      simp only [cmpTms, or0, hx, if_true]
      exact ih r (by simpa using hlen) (fun j hj => by have := h0 (j + 1) (by simpa using hj); exact this)
def Eq0 (l r : List Tm) (k : Nat) : Prop := ∀ j (h1 : j < l.length) (h2 : j < r.length), j < k → cmpTm l[j] r[j] = 0

set_option maxHeartbeats 1000000 in
theorem compareFuncT {B B' : Nat} {w : World} {u v : Value} {l r : List Tm} (hu : HasT B w u l) (hv : HasT B' w v r) (hlen : l.length = r.length)
    (hf : ∀ j (h1 : j < l.length) (h2 : j < r.length), ∀ W, Keep [] w W → Calls Tryd.prog 15 #[aggTm l[j], aggTm r[j]] W fun e w' => e = .returned (.int .i64 (cmpTm l[j] r[j])) ∧ Keep [] W w') :
    Calls Tryd.prog 55 #[u, v, .func (.func 15) #[] #[]] w fun e w' => e = .returned (.int .i64 (cmpTms l r)) ∧ Keep [] w w' := by
  obtain ⟨a, c, rfl, hc1, hc2⟩ := hu.form
  obtain ⟨a', c', rfl, hc1', hc2'⟩ := hv.form
  unfold maxLen at hc2 hc2'
  unfold aggTm at hf
  have eg : ∀ args w, (callFunc 15 args).run Tryd.prog w = .ok (.enter 15 args) w := enters_of Tryd.func15 (by kernel_rfl) rfl
  have HF := Lib.hid hf
  have HU := Lib.hid hu
  have HV := Lib.hid hv
  rw [← hlen]
  have HL := Lib.hid hlen
  clear hf hu hv hlen
  go_enter Tryd.func55, Tryd.ntmps55
  go_wp2_with fail
  go_loopw [7, 8, 9, 10, 13] (fun _ _ _ _ i wr => ∃ k : Nat, k ≤ l.length ∧ i = .int .i64 k ∧ Keep [] w wr ∧ Eq0 l r k) (fun _ _ _ _ i _ => l.length - (RowKit.intOf i).toNat)
  case atStart => exact ⟨0, Nat.zero_le _, rfl, Keep.refl _ _, fun j _ _ hj => absurd hj (Nat.not_lt_zero _)⟩
  case round =>
    obtain ⟨k, hk, rfl, hK, hno⟩ := hrel
    have HK := Lib.hid hK
    have HNO := Lib.hid hno
    clear hK hno
    by_cases hlt : k < l.length
    · have hlt' : k < r.length := by have := HL.out; omega
      obtain ⟨b, off, rfl, c0, c1, c2, c3, hrx⟩ := HU.out.at HK.out hlt
      obtain ⟨b', off', rfl, d0, d1, d2, d3, hry⟩ := HV.out.at HK.out hlt'
      have hcall := fun o1 o2 => HF.out k hlt hlt' ((wr.alloc o1).alloc o2) ((HK.out.alloc o1).alloc o2)
      have hst := cmpTms_step l r k hlt hlt' (fun j hj => HNO.out j (by omega) (by omega) hj)
      obtain ⟨xa, xc, hxv, -, -⟩ := hrx.has.form
      obtain ⟨ya, yc, hyv, -, -⟩ := hry.has.form
      rw [hxv] at c3 hcall
      rw [hyv] at d3 hcall
      have hn : cmpTm l[k] r[k] = 0 → Eq0 l r (k + 1) := fun h j h1 h2 hj => by
        by_cases e : j = k
        · subst e; exact h
        · exact HNO.out j h1 h2 (by omega)
      have hnb := fun o1 o2 (p : Addr) (v : Value) (h : wr.cell? p = some v) => (((Keep.refl [] wr).alloc o1).alloc o2).cellOf h
      have HN := Lib.hid hn
      have HST := Lib.hid hst
      have HC := Lib.hid hcall
      clear hcall hst hn hnb hrx hry hxv hyv
      have i0 : (0 : Int) ≤ (k : Int) := by omega
      have i1 : (k : Int) < (l.length : Int) := by omega
      have i2 : ¬ (l.length : Int) ≤ (k : Int) := by omega
      have n0 := fun ob => ((Keep.refl [] wr).alloc ob).cellOf d0
      have n1 := fun ob => ((Keep.refl [] wr).alloc ob).cellOf d1
      have n2 := fun ob => ((Keep.refl [] wr).alloc ob).cellOf d2
      have n3 := fun ob => ((Keep.refl [] wr).alloc ob).cellOf d3
      clear d0 d1 d2 d3
      generalize l[k].kind = xk at *
      generalize l[k].num = xn at *
      generalize l[k].name = xs at *
      generalize l[k].items.length = xl at *
      generalize r[k].kind = yk at *
      generalize r[k].num = yn at *
      generalize r[k].name = ys at *
      generalize r[k].items.length = yl at *
      generalize cmpTm l[k] r[k] = res at *
      by_cases hz : res = 0
      · have HN2 := Lib.hid (HN.out hz)
        clear HN
        subst hz
        go_wp2_with (go_at_fn 15; refine (HC.out _ _).mono ?_; rintro e w2 ⟨rfl, hk2⟩)
        go_roundw
        case rel => exact ⟨k + 1, by omega, by go_num, HK.out.trans ((((Keep.refl [] wr).alloc _).alloc _).trans hk2 (by simp)) (by simp), HN2.out⟩
        case measure => simp [RowKit.intOf]; omega
      · have hq : (res != 0) = true := by simpa using hz
        have hres := HST.out hz
        have HRES := Lib.hid hres
        clear hres
        go_wp2_with (go_at_fn 15; refine (HC.out _ _).mono ?_; rintro e w2 ⟨rfl, hk2⟩)
        go_ret
        exact ⟨by rw [HRES.out]; rfl, HK.out.trans ((((Keep.refl [] wr).alloc _).alloc _).trans hk2 (by simp)) (by simp)⟩
    · have hres := cmpTms_zero l r HL.out (fun j hj => HNO.out j hj (by have := HL.out; omega) (by omega))
      have HRES := Lib.hid hres
      clear hres
      go_wp2_with fail
      go_ret
      exact ⟨by rw [HRES.out]; rfl, HK.out⟩

theorem rd_lit4 (w : World) (x y z u : Value) (t : TypeId) : Rd (w.alloc (.cells #[x, y, z, u] t)) 1 (.slice (some ⟨w.heap.size, 0, none⟩) 4 4) 4 [x, y, z, u] (some w.heap.size) :=
  ⟨rfl, _, _, rfl, Nat.le_refl _, by decide, .inr ⟨_, _, rfl, rfl, fun i hi => by
    obtain ⟨c0, c1, c2, c3⟩ := box4 (Keep.refl [] (w.alloc (.cells #[x, y, z, u] t)))
    match i, hi with
    | 0, _ => simp
    | 1, _ => simp
    | 2, _ => simp
    | 3, _ => simp⟩⟩
attribute [local go_sem ↓] Go.wp_at_zero Go.wp_at_succ
set_option maxRecDepth 100000 in
set_option maxHeartbeats 4000000 in
theorem p_compareN : ∀ (N : Nat) (s t : Tm), s.sz ≤ N → ∀ (B B' : Nat) (w : World), RdTm B w s → RdTm B' w t → Calls Tryd.prog 15 #[aggTm s, aggTm t] w fun e w' => e = .returned (.int .i64 (cmpTm s t)) ∧ Keep [] w w'
  | 0, s, t, hN, _, _, _, _, _ => by have := s.sz_pos; omega
  | N + 1, s, t, hN, B, B', w, hs, ht => by
    have IH := p_compareN N
    have hmem := fun (x : Tm) (hx : x ∈ s.items) => sz_mem_lt hx
    have his : cmpTm s t = or0 (Lib.compareInt s.kind t.kind) (or0 (Lib.compareInt s.num t.num) (or0 (Lib.compareBytes s.name.data.toList t.name.data.toList) (or0 (Lib.compareInt s.items.length t.items.length) (cmpTms s.items t.items)))) := by cases s; cases t; rw [cmpTm]; rfl
    have hu := hs.has
    have hv := ht.has
    obtain ⟨a, c, hiv, hc1, hc2⟩ := hu.form
    obtain ⟨a', c', hiv', hc1', hc2'⟩ := hv.form
    unfold maxLen at hc2 hc2'
    unfold aggTm
    rw [hiv] at hu ⊢
    rw [hiv'] at hv ⊢
    have HU := Lib.hid hu
    have HV := Lib.hid hv
    have HIS := Lib.hid his
    have HMEM := Lib.hid hmem
    have HIH := Lib.hid IH
    clear hu hv hs ht hmem his IH hiv hiv'
    generalize s.items = l at *
    generalize s.kind = sk at *
    generalize s.num = sn at *
    generalize s.name = ss at *
    generalize t.items = r at *
    generalize t.kind = tk at *
    generalize t.num = tn at *
    generalize t.name = ts at *
    generalize hx1 : Lib.compareInt sk tk = x1 at *
    generalize hx2 : Lib.compareInt sn tn = x2 at *
    generalize hx3 : Lib.compareBytes ss.data.toList ts.data.toList = x3 at *
    generalize hx4 : Lib.compareInt (l.length : Int) r.length = x4 at *
    have k1 : ∀ W, Calls Tryd.prog 52 #[.int .i64 sk, .int .i64 tk] W fun e w' => e = .returned (.int .i64 x1) ∧ W = w' := fun W => by rw [← hx1]; exact cmpI_any _ _ W
    have k2 : ∀ W, Calls Tryd.prog 53 #[.int .i64 sn, .int .i64 tn] W fun e w' => e = .returned (.int .i64 x2) ∧ W = w' := fun W => by rw [← hx2]; exact cmp64_any _ _ W
    have k3 : ∀ W, Calls Tryd.prog 54 #[.string ss, .string ts] W fun e w' => e = .returned (.int .i64 x3) ∧ W = w' := fun W => by rw [← hx3]; exact cmpS_any _ _ W
    have k4 : ∀ W, Calls Tryd.prog 52 #[.int .i64 (l.length : Int), .int .i64 (r.length : Int)] W fun e w' => e = .returned (.int .i64 x4) ∧ W = w' := fun W => by rw [← hx4]; exact cmpI_any _ _ W
    have k5 : ∀ W : World, Calls Tryd.prog 51 #[.slice (some ⟨W.heap.size, 0, none⟩) 4 4] (W.alloc (.cells #[.int .i64 x1, .int .i64 x2, .int .i64 x3, .int .i64 x4] 3)).drew fun e w' => e = .returned (.int .i64 (orL [x1, x2, x3, x4])) ∧ (W.alloc (.cells #[.int .i64 x1, .int .i64 x2, .int .i64 x3, .int .i64 x4] 3)).drew = w' := fun W => or_any (l := [x1, x2, x3, x4]) ((rd_lit4 W _ _ _ _ _).keep0 (Keep.refl [] _).drew)
    have hx40 : x4 = 0 → l.length = r.length := by rw [← hx4]; unfold Lib.compareInt; split <;> (try split) <;> omega
    have HX40 := Lib.hid hx40
    have K1 := Lib.hid k1
    have K2 := Lib.hid k2
    have K3 := Lib.hid k3
    have K4 := Lib.hid k4
    have K5 := Lib.hid k5
    clear hx1 hx2 hx3 hx4 hx40 k1 k2 k3 k4 k5
    go_enter Tryd.func15, Tryd.ntmps15
    go_upto_region 1 with fail
    obtain ⟨W1, hW1⟩ : ∃ W1, W1 = (w.alloc (.cells #[.int .i64 sk, .int .i64 sn, .string ss, .slice a l.length c] 31)).alloc (.cells #[.int .i64 tk, .int .i64 tn, .string ts, .slice a' r.length c'] 31) := ⟨_, rfl⟩
    have hk1 : Keep [] w W1 := by rw [hW1]; exact ((Keep.refl [] w).alloc _).alloc _
    obtain ⟨b1, b2⟩ := two_blocks w (.cells #[.int .i64 sk, .int .i64 sn, .string ss, .slice a l.length c] 31) (.cells #[.int .i64 tk, .int .i64 tn, .string ts, .slice a' r.length c'] 31)
    rw [← hW1] at b1 b2
    rw [← hW1]
    clear hW1
    obtain ⟨c0, c1, c2, c3, -⟩ := cells4 b1
    obtain ⟨d0, d1, d2, d3, -⟩ := cells4 b2
    have HK1 := Lib.hid hk1
    clear b1 b2 hk1
    generalize w.heap.size + 1 = bt at *
    generalize w.heap.size = bs at *
    refine wp_cut (CutF 38 (fun f wx => f 5 = .int .i64 (orL [x1, x2, x3, x4]) ∧ f 2 = .pointer (some ⟨bs, 0, none⟩) ∧ f 3 = .pointer (some ⟨bt, 0, none⟩) ∧ Keep [] W1 wx)) ?rest1 ?first1
    case first1 =>
      intro J K' hJ hK'
      have HJ := Lib.hid hJ
      clear HIS HMEM HIH hJ
      go_region_held3 (fun w' => w'.cell? ⟨bs, 0, none⟩ = some (.int .i64 sk) ∧ w'.cell? ⟨bs, 1, none⟩ = some (.int .i64 sn) ∧ w'.cell? ⟨bs, 2, none⟩ = some (.string ss) ∧ w'.cell? ⟨bs, 3, none⟩ = some (.slice a l.length c) ∧ w'.cell? ⟨bt, 0, none⟩ = some (.int .i64 tk) ∧ w'.cell? ⟨bt, 1, none⟩ = some (.int .i64 tn) ∧ w'.cell? ⟨bt, 2, none⟩ = some (.string ts) ∧ w'.cell? ⟨bt, 3, none⟩ = some (.slice a' r.length c'))
        (first | exact ⟨c0, c1, c2, c3, d0, d1, d2, d3⟩ | exact ⟨((Keep.refl [] _).alloc _).cellOf c0, ((Keep.refl [] _).alloc _).cellOf c1, ((Keep.refl [] _).alloc _).cellOf c2, ((Keep.refl [] _).alloc _).cellOf c3, ((Keep.refl [] _).alloc _).cellOf d0, ((Keep.refl [] _).alloc _).cellOf d1, ((Keep.refl [] _).alloc _).cellOf d2, ((Keep.refl [] _).alloc _).cellOf d3⟩)
        (first
          | ((with_reducible refine (K1.out _).mono ?_); rintro e w2 ⟨rfl, rfl⟩)
          | ((with_reducible refine (K2.out _).mono ?_); rintro e w2 ⟨rfl, rfl⟩)
          | ((with_reducible refine (K3.out _).mono ?_); rintro e w2 ⟨rfl, rfl⟩)
          | ((with_reducible refine (K4.out _).mono ?_); rintro e w2 ⟨rfl, rfl⟩)
          | ((with_reducible refine (K5.out W1).mono ?_); rintro e w2 ⟨rfl, rfl⟩)
          | fail)
      all_goals
        go_wp2_with fail
        exact Met.intro (HJ.out _ _ (CutF.mk rfl ⟨rfl, rfl, rfl, ((Keep.refl [] W1).alloc _).drew⟩))
    case rest1 =>
      clear K1 K2 K3 K4 K5
      intro a9 wc hc
      obtain ⟨f, rfl, h5, h2, h3, hK⟩ := hc.lit
      rw [show ((List.range 38).map f).toArray = #[f 0, f 1, f 2, f 3, f 4, f 5, f 6, f 7, f 8, f 9, f 10, f 11, f 12, f 13, f 14, f 15, f 16, f 17, f 18, f 19, f 20, f 21, f 22, f 23, f 24, f 25, f 26, f 27, f 28, f 29, f 30, f 31, f 32, f 33, f 34, f 35, f 36, f 37] from rfl]
      rw [h5, h2, h3]
      have e3 := hK.cellOf c3
      have g3 := hK.cellOf d3
      clear h5 h2 h3 hc c0 c1 c2 c3 d0 d1 d2 d3
      have hkc : Keep [] w wc := HK1.out.trans hK (by simp)
      have HKC := Lib.hid hkc
      clear hkc hK
      by_cases hz : orL [x1, x2, x3, x4] = 0
      · have hall : x1 = 0 ∧ x2 = 0 ∧ x3 = 0 ∧ x4 = 0 := by
          simp only [orL, or0] at hz
          split at hz <;> (try split at hz) <;> (try split at hz) <;> (try split at hz) <;> simp_all
        obtain ⟨r1, r2, r3, r4⟩ := hall
        have hlen := HX40.out r4
        have hres : cmpTm s t = cmpTms l r := by rw [HIS.out, r1, r2, r3, r4]; simp [or0]
        have hcall := compareFuncT (HU.out.keep0 HKC.out) (HV.out.keep0 HKC.out) hlen (fun j h1 h2 W hW => HIH.out l[j] r[j] (by have := HMEM.out _ (List.getElem_mem h1); omega) B B' W ((((RdTms_iff _).1 HU.out.2.2 _ (List.getElem_mem h1)).keep0 HKC.out).keep0 hW) ((((RdTms_iff _).1 HV.out.2.2 _ (List.getElem_mem h2)).keep0 HKC.out).keep0 hW))
        rw [← hres] at hcall
        have HC := Lib.hid hcall
        clear r1 r2 r3 r4 hlen hres hcall
        rw [hz]
        clear hz
        go_wp2_with fail
        refine HC.out.mono ?_
        rintro e w2 ⟨rfl, hk2⟩
        go_wp2_with fail
        go_ret
        exact ⟨rfl, HKC.out.trans hk2 (by simp)⟩
      · have hres : cmpTm s t = orL [x1, x2, x3, x4] := by
          rw [HIS.out]
          simp only [orL, or0] at hz ⊢
          split <;> (try split) <;> (try split) <;> (try split) <;> simp_all
        have hq : (orL [x1, x2, x3, x4] != 0) = true := by simpa using hz
        have HRES := Lib.hid hres
        clear hres hz
        generalize orL [x1, x2, x3, x4] = res at *
        go_wp2_with fail
        go_ret
        exact ⟨by rw [HRES.out]; rfl, HKC.out⟩
theorem p_compare {s t : Tm} {B B' : Nat} {w : World} (hs : RdTm B w s) (ht : RdTm B' w t) : Calls Tryd.prog 15 #[aggTm s, aggTm t] w fun e w' => e = .returned (.int .i64 (cmpTm s t)) ∧ Keep [] w w' := p_compareN s.sz s t (Nat.le_refl _) B B' w hs ht
end Go.Proofs.YtcegdomfmamonaaDoor
