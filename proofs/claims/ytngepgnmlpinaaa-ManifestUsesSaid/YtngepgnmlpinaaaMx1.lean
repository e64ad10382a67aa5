/- (of XExt, by exm.py) Extents: contracts of the small functions. -/
import Derived.Test.YtngepgnmlpinaaaBase2
import Derived.Test.YtngepgnmlpinaaaProg
import Derived.Test.YtngepgnmlpinaaaExtP
import Derived.Deep.RegionHeld3
import Derived.Deep.QuietTactic
import Derived.BigQuiet
import Derived.Deep.LoopGhost
import Derived.Shelf.Abstract
namespace Go.Proofs.Ytngepgnmlpinaaa
open Go.RowKit Go.Emb Go.Lib Go.Emb.Ext

def encE (x : E) : List Value := [.int .i64 x.1, .int .i64 x.2]
def aggE (x : E) : Value := .agg #[.int .i64 x.1, .int .i64 x.2]
/-- a slice of extents that is read -/
def RdE (w : World) (v : Value) (l : List E) (o : Option Nat) : Prop := Rd w 2 v l.length (l.flatMap encE) o
set_option maxRecDepth 100000 in
theorem RdE.keep {F : List Nat} {w w' : World} {v : Value} {l : List E} {o : Option Nat} (h : RdE w v l o) (hk : Keep F w w') (hn : ∀ b, o = some b → b ∉ F) : RdE w' v l o := Rd.keep h hk hn

set_option maxRecDepth 100000 in
theorem flatE (l : List E) (k : Nat) (h : k < l.length) : (l.flatMap encE)[k * 2]? = some (.int .i64 l[k].1) ∧ (l.flatMap encE)[k * 2 + 1]? = some (.int .i64 l[k].2) := by
  induction l generalizing k with
  | nil => simp at h
  | cons x l ih =>
    cases k with
    | zero => simp [encE]
    | succ k =>
      have := ih k (by simpa using h)
      rw [List.flatMap_cons]
      have e : (encE x).length = 2 := rfl
      rw [List.getElem?_append_right (by rw [e]; omega), List.getElem?_append_right (by rw [e]; omega), e, show (k + 1) * 2 - 2 = k * 2 by omega, show (k + 1) * 2 + 1 - 2 = k * 2 + 1 by omega]
      simpa using this

set_option maxRecDepth 100000 in
/-- the cells of the one at k -/
theorem RdE.at {w : World} {a : Option Addr} {c n : Nat} {l : List E} {o : Option Nat} (h : RdE w (.slice a n c) l o) {k : Nat} (hk : k < l.length) :
    ∃ b off, a = some ⟨b, off, none⟩ ∧ o = some b ∧ w.cell? ⟨b, off + k * 2, none⟩ = some (.int .i64 l[k].1) ∧ w.cell? ⟨b, off + k * 2 + 1, none⟩ = some (.int .i64 l[k].2) := by
  obtain ⟨hl, a', c', hv, _, _, h3⟩ := h
  cases hv
  rcases h3 with ⟨h3, _⟩ | ⟨b, off, rfl, rfl, h3⟩
  · omega
  · obtain ⟨e1, e2⟩ := flatE l k hk
    refine ⟨b, off, rfl, rfl, ?_, ?_⟩
    · rw [h3 (k * 2) (by omega), e1]
    · rw [Nat.add_assoc, h3 (k * 2 + 1) (by omega), e2]

set_option maxRecDepth 100000 in
set_option maxHeartbeats 400000 in
theorem right_any (x : E) (w : World) : Calls Try.prog 75 #[aggE x] w fun e w' => e = .returned (.bool (right x)) ∧ Keep [] w w' := by
  obtain ⟨f, n⟩ := x
  unfold right aggE
  simp only
  by_cases h1 : 0 ≤ f
  · by_cases h2 : f ≤ 16384
    · by_cases h3 : 1 ≤ n
      · go_enter Try.func75, Try.ntmps75
        go_wp2_with fail
        go_ret
        exact ⟨by simp [h1, h2, h3], (Keep.refl _ _).alloc _⟩
      · go_enter Try.func75, Try.ntmps75
        go_wp2_with fail
        go_ret
        exact ⟨by simp; omega, (Keep.refl _ _).alloc _⟩
    · go_enter Try.func75, Try.ntmps75
      go_wp2_with fail
      go_ret
      exact ⟨by simp; omega, (Keep.refl _ _).alloc _⟩
  · go_enter Try.func75, Try.ntmps75
    go_wp2_with fail
    go_ret
    exact ⟨by simp; omega, (Keep.refl _ _).alloc _⟩

set_option maxRecDepth 100000 in
theorem notRight_any (x : E) (w : World) : Calls Try.prog 74 #[aggE x] w fun e w' => e = .returned (.bool (!right x)) ∧ Keep [] w w' := by
  have hr := fun W => right_any x W
  unfold aggE at *
  go_enter Try.func74, Try.ntmps74
  go_wp2_with (go_at_call 75; refine (hr _).mono ?_; rintro e w' ⟨rfl, hk⟩)
  go_ret
  exact ⟨rfl, ((Keep.refl _ _).alloc _).trans hk (by simp)⟩

/-- the place of the first that p says yes to, or -1 -/
def idxP (l : List E) (p : E → Bool) : Int := match l.findIdx? p with | some i => i | none => -1
set_option maxRecDepth 100000 in
theorem idxP_at {l : List E} {p : E → Bool} {k : Nat} (hk : k < l.length) (h : p l[k] = true) (hb : ∀ j (hj : j < k), p (l[j]'(by omega)) = false) : idxP l p = k := by
  unfold idxP
  rw [show l.findIdx? p = some k from ?_]
  rw [List.findIdx?_eq_some_iff_getElem]
  exact ⟨hk, h, fun j hj => by simp [hb j hj]⟩
set_option maxRecDepth 100000 in
theorem idxP_none {l : List E} {p : E → Bool} (h : ∀ j (hj : j < l.length), p l[j] = false) : idxP l p = -1 := by
  unfold idxP
  rw [show l.findIdx? p = none from ?_]
  rw [List.findIdx?_eq_none_iff]
  intro x hx
  obtain ⟨j, hj, rfl⟩ := List.getElem_of_mem hx
  exact h j hj
set_option maxRecDepth 100000 in
theorem idxP_any (l : List E) (p : E → Bool) : decide (0 ≤ idxP l p) = l.any p := by
  unfold idxP
  cases h : l.findIdx? p with
  | none =>
    rw [List.findIdx?_eq_none_iff] at h
    rw [List.any_eq_false.2 (fun x hx => by simp [h x hx])]
    simp
  | some i =>
    obtain ⟨hi, hp, _⟩ := List.findIdx?_eq_some_iff_getElem.1 h
    rw [List.any_eq_true.2 ⟨_, List.getElem_mem hi, hp⟩]
    simp
def NoBefore (l : List E) (p : E → Bool) (k : Nat) : Prop := ∀ j, j < k → ∀ x, l[j]? = some x → p x = false

set_option maxRecDepth 100000 in
set_option maxHeartbeats 400000 in
/-- slices.IndexFunc over extents, with whatever closure that leaves all as it was -/
theorem indexFunc_any {w : World} {v : Value} {l : List E} {o : Option Nat} (hr : RdE w v l o) (hsz : l.length ≤ 1000000000) (ho : ∀ b, o = some b → b < w.heap.size) (g : Nat) (cb : Array Value) (p : E → Bool) (eg : ∀ args w, (callFunc g args).run Try.prog w = .ok (.enter g args) w)
    (hf : ∀ x W, Keep [] w W → Calls Try.prog g (#[aggE x] ++ cb) W fun e w' => e = .returned (.bool (p x)) ∧ Keep [] W w') :
    Calls Try.prog 73 #[v, .func (.func g) #[] cb] w fun e w' => e = .returned (.int .i64 (idxP l p)) ∧ Keep [] w w' := by
  obtain ⟨a, c, rfl⟩ : ∃ a c, v = .slice a l.length c := by obtain ⟨_, a, c, h, _⟩ := hr; exact ⟨a, c, h⟩
  unfold aggE at hf
  have HF := Lib.hid hf
  have HR := Lib.hid hr
  have HO := Lib.hid ho
  clear hf hr ho
  go_enter Try.func73, Try.ntmps73
  go_wp2_with fail
  go_loopw [5, 8] (fun _ i wr => ∃ k : Nat, k ≤ l.length ∧ i = .int .i64 k ∧ Keep [] w wr ∧ NoBefore l p k) (fun _ i _ => l.length - (intOf i).toNat)
  case atStart => exact ⟨0, Nat.zero_le _, rfl, Keep.refl _ _, fun j hj => absurd hj (Nat.not_lt_zero _)⟩
  case round =>
    obtain ⟨k, hk, rfl, hK, hno⟩ := hrel
    have HK := Lib.hid hK
    have HNO := Lib.hid hno
    clear hK hno
    by_cases hlt : k < l.length
    · obtain ⟨b, off, rfl, rfl, g0, g1⟩ := HR.out.at hlt
      have c0 : wr.cell? ⟨b, off + k * 2, none⟩ = some (.int .i64 l[k].1) := (HK.out.cell (p := ⟨b, off + k * 2, none⟩) (HO.out b rfl) (by simp)).trans g0
      have c1 : wr.cell? ⟨b, off + k * 2 + 1, none⟩ = some (.int .i64 l[k].2) := (HK.out.cell (p := ⟨b, off + k * 2 + 1, none⟩) (HO.out b rfl) (by simp)).trans g1
      clear g0 g1
      have hcall := HF.out l[k] wr HK.out
      have hx : l[k]? = some l[k] := List.getElem?_eq_getElem hlt
      generalize l[k] = x at *
      have HX := Lib.hid hx
      clear hx
      have i0 : (0 : Int) ≤ (k : Int) := by omega
      have i1 : (k : Int) < (l.length : Int) := by omega
      cases hq : p x with
      | true =>
        rw [hq] at hcall
        have HQ := Lib.hid hq
        clear hq
        go_wp2_with (go_at_fn g; refine hcall.mono ?_; rintro e w' ⟨rfl, hk'⟩)
        go_ret
        refine ⟨?_, HK.out.trans hk' (by simp)⟩
        have := HX.out
        rw [idxP_at hlt (by rw [List.getElem?_eq_getElem hlt] at this; cases this; exact HQ.out) (fun j hj => HNO.out j hj _ (List.getElem?_eq_getElem (by omega)))]
        rfl
      | false =>
        rw [hq] at hcall
        have HQ := Lib.hid hq
        clear hq
        go_wp2_with (go_at_fn g; refine hcall.mono ?_; rintro e w' ⟨rfl, hk'⟩)
        go_roundw
        case rel =>
          refine ⟨k + 1, by omega, by go_num, HK.out.trans hk' (by simp), fun j hj y hy => ?_⟩
          by_cases e : j = k
          · subst e; rw [HX.out] at hy; cases hy; exact HQ.out
          · exact HNO.out j (by omega) y hy
        case measure => simp [intOf]; omega
    · go_wp2_with fail
      go_ret
      refine ⟨?_, HK.out⟩
      rw [idxP_none (fun j hj => HNO.out j (by omega) _ (List.getElem?_eq_getElem hj))]
      rfl

set_option maxRecDepth 100000 in
theorem containsFunc_any {w : World} {v : Value} {l : List E} {o : Option Nat} (hr : RdE w v l o) (hsz : l.length ≤ 1000000000) (ho : ∀ b, o = some b → b < w.heap.size) (g : Nat) (cb : Array Value) (p : E → Bool) (eg : ∀ args w, (callFunc g args).run Try.prog w = .ok (.enter g args) w)
    (hf : ∀ x W, Keep [] w W → Calls Try.prog g (#[aggE x] ++ cb) W fun e w' => e = .returned (.bool (p x)) ∧ Keep [] W w') :
    Calls Try.prog 51 #[v, .func (.func g) #[] cb] w fun e w' => e = .returned (.bool (l.any p)) ∧ Keep [] w w' := by
  have h := indexFunc_any hr hsz ho g cb p eg hf
  have hd := idxP_any l p
  have HD := Lib.hid hd
  clear hd hf hr ho
  generalize idxP l p = i at *
  go_enter Try.func51, Try.ntmps51
  go_wp2_with (go_at_call 73; refine h.mono ?_; rintro e w' ⟨rfl, hk⟩)
  go_ret
  exact ⟨by rw [← HD.out]; rfl, hk⟩

/-- how many blocks -/
def countE (l : List E) : Int := sumL (l.filter right)
set_option maxRecDepth 100000 in
theorem countE_snoc (l : List E) (x : E) : countE (l ++ [x]) = countE l + if right x then x.2 else 0 := by
  unfold countE
  rw [List.filter_append, sumL_append]
  by_cases h : right x = true
  · simp [List.filter_cons, h, sumL]
  · simp [List.filter_cons, h, sumL]
set_option maxRecDepth 100000 in
theorem countE_bd (l : List E) : 0 ≤ countE l ∧ countE l ≤ l.length * 16384 := by
  induction l with
  | nil => simp [countE, sumL]
  | cons x l ih =>
    have e : countE (x :: l) = (if right x then x.2 else 0) + countE l := by
      unfold countE
      by_cases h : right x = true
      · simp [List.filter_cons, h, sumL]
      · simp [List.filter_cons, h, sumL]
    rw [e]
    by_cases h : right x = true
    · have := (right_iff x).1 h
      rw [if_pos h, List.length_cons]
      omega
    · rw [if_neg h, List.length_cons]
      omega
set_option maxRecDepth 100000 in
theorem countE_right {l : List E} (h : ∀ x ∈ l, right x = true) : countE l = sumL l := by
  unfold countE
  rw [List.filter_eq_self.2 h]

set_option maxRecDepth 100000 in
set_option maxHeartbeats 400000 in
theorem count_any {w : World} {v : Value} {l : List E} {o : Option Nat} (hr : RdE w v l o) (hsz : l.length ≤ 1000000000) (ho : ∀ b, o = some b → b < w.heap.size) :
    Calls Try.prog 54 #[v] w fun e w' => e = .returned (.int .i64 (countE l)) ∧ Keep [] w w' := by
  obtain ⟨a, c, rfl⟩ : ∃ a c, v = .slice a l.length c := by obtain ⟨_, a, c, h, _⟩ := hr; exact ⟨a, c, h⟩
  have HR := Lib.hid hr
  have HO := Lib.hid ho
  clear hr ho
  go_enter Try.func54, Try.ntmps54
  go_wp2_with fail
  go_loopw [2, 7] (fun n i wr => ∃ k : Nat, k ≤ l.length ∧ i = .int .i64 k ∧ Keep [] w wr ∧ n = .int .i64 (countE (l.take k))) (fun _ i _ => l.length - (intOf i).toNat)
  case atStart => exact ⟨0, Nat.zero_le _, rfl, Keep.refl _ _, by simp [countE, sumL]⟩
  case round =>
    obtain ⟨k, hk, rfl, hK, rfl⟩ := hrel
    have HK := Lib.hid hK
    clear hK
    have hbd := countE_bd (l.take k)
    have hll : (l.take k).length ≤ 1000000000 := by simp; omega
    by_cases hlt : k < l.length
    · obtain ⟨b, off, rfl, rfl, g0, g1⟩ := HR.out.at hlt
      have c0 : wr.cell? ⟨b, off + k * 2, none⟩ = some (.int .i64 l[k].1) := (HK.out.cell (p := ⟨b, off + k * 2, none⟩) (HO.out b rfl) (by simp)).trans g0
      have c1 : wr.cell? ⟨b, off + k * 2 + 1, none⟩ = some (.int .i64 l[k].2) := (HK.out.cell (p := ⟨b, off + k * 2 + 1, none⟩) (HO.out b rfl) (by simp)).trans g1
      clear g0 g1
      have hs : countE (l.take (k + 1)) = countE (l.take k) + if right l[k] then l[k].2 else 0 := by
        rw [List.take_succ_eq_append_getElem hlt, countE_snoc]
      have HS := Lib.hid hs
      clear hs
      generalize countE (l.take k) = s at *
      generalize l[k] = x at *
      have i0 : (0 : Int) ≤ (k : Int) := by omega
      have i1 : (k : Int) < (l.length : Int) := by omega
      have hcall := fun W => right_any x W
      obtain ⟨f, n⟩ := x
      unfold aggE at hcall
      cases hq : right (f, n) with
      | true =>
        have hb := (right_iff _).1 hq
        simp only at hb
        rw [hq] at hcall
        have hs2 : countE (l.take (k + 1)) = s + n := by rw [HS.out, if_pos hq]
        have HS2 := Lib.hid hs2
        clear hs2 HS hq
        go_wp2_with (go_at_call 75; refine (hcall _).mono ?_; rintro e w' ⟨rfl, hk'⟩; have hc1 := (hk'.cell (p := ⟨wr.heap.size, 1, none⟩) (by simp) (by simp)))
        go_roundw
        case rel => exact ⟨k + 1, by omega, by go_num, (HK.out.alloc _).trans hk' (by simp), by rw [HS2.out]⟩
        case measure => simp [intOf]; omega
      | false =>
        rw [hq] at hcall
        have hs2 : countE (l.take (k + 1)) = s := by rw [HS.out, if_neg (by simp [hq])]; omega
        have HS2 := Lib.hid hs2
        clear hs2 HS hq
        go_wp2_with (go_at_call 75; refine (hcall _).mono ?_; rintro e w' ⟨rfl, hk'⟩)
        go_roundw
        case rel => exact ⟨k + 1, by omega, by go_num, (HK.out.alloc _).trans hk' (by simp), by rw [HS2.out]⟩
        case measure => simp [intOf]; omega
    · go_wp2_with fail
      go_ret
      exact ⟨by rw [List.take_of_length_le (by omega)]; rfl, HK.out⟩

end Go.Proofs.Ytngepgnmlpinaaa
