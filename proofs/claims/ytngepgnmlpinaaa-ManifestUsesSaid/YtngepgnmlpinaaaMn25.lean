/- num, SamePlace, Same, small. -/
import Derived.Test.YtngepgnmlpinaaaMn24
namespace Go.Proofs.Ytngepgnmlpinaaa
open Go.RowKit Go.Emb Go.Emb.Ext

theorem q_num (n : Int) (w : World) : Calls Try.prog 16 #[.int .i64 n] w fun e w' => e = .returned (.int .i64 n) ∧ w = w' := by
  go_enter Try.func16, Try.ntmps16
  go_wp2_with fail
  go_ret
  exact ⟨rfl, rfl⟩
def plcB (a b : Plc) : Bool := decide (a.pid = b.pid) && decide (a.len = b.len) && decide (a.pieces = b.pieces)
theorem plcB_iff (a b : Plc) : plcB a b = true ↔ a = b := by
  obtain ⟨a1, a2, a3⟩ := a
  obtain ⟨b1, b2, b3⟩ := b
  simp [plcB, and_assoc]
def aggP (x : PlV) : Value := .agg #[.int .i64 x.p.pid, .int .i64 x.p.len, x.v]
set_option maxRecDepth 100000 in
set_option maxHeartbeats 1000000 in
theorem r_sameplace {w : World} {B : Nat} {x y : PlV} (hx : RdP1 B w x) (hy : RdP1 B w y) (hsx : x.p.pieces.length ≤ 1000000) (hsy : y.p.pieces.length ≤ 1000000) :
    Calls Try.prog 24 #[aggP x, aggP y] w fun e w' => e = .returned (.bool (plcB x.p y.p)) ∧ Keep [] w w' := by
  obtain ⟨-, -, ⟨xo, hxr, hxo⟩, -, -⟩ := hx
  obtain ⟨-, -, ⟨yo, hyr, hyo⟩, -, -⟩ := hy
  have hk : Keep [] w ((w.alloc (.cells #[.int .i64 x.p.pid, .int .i64 x.p.len, x.v] 43)).alloc (.cells #[.int .i64 y.p.pid, .int .i64 y.p.len, y.v] 43)) := ((Keep.refl [] w).alloc _).alloc _
  have hx2 := hxr.keep0 hk
  have hy2 := hyr.keep0 hk
  have hcall := extents_any hx2 hy2 (by omega) (by omega)
  obtain ⟨-, xa, xc, hxv, -, -, -⟩ := hxr
  obtain ⟨-, ya, yc, hyv, -, -, -⟩ := hyr
  have HK := Lib.hid hk
  unfold aggP plcB
  rw [hxv, hyv] at hcall HK ⊢
  have HC := Lib.hid hcall
  clear hcall hk hx2 hy2 hxv hyv
  by_cases h1 : x.p.pid = y.p.pid
  · have h1' : (x.p.pid == y.p.pid) = true := by simp [h1]
    have H1 := Lib.hid h1
    clear h1
    by_cases h2 : x.p.len = y.p.len
    · have h2' : (x.p.len == y.p.len) = true := by simp [h2]
      have H2 := Lib.hid h2
      clear h2
      generalize hd : decide (x.p.pieces = y.p.pieces) = d at *
      go_enter Try.func24, Try.ntmps24
      go_wp2_with fail
      refine HC.out.mono ?_
      rintro e w2 ⟨rfl, n, rfl⟩
      go_wp2_with fail
      go_ret
      exact ⟨by simp [H1.out, H2.out], HK.out.trans ((Keep.refl [] _).drewN n) (by simp)⟩
    · have h2' : (x.p.len == y.p.len) = false := by simp [h2]
      go_enter Try.func24, Try.ntmps24
      go_wp2_with fail
      go_ret
      exact ⟨by simp [h2], HK.out⟩
  · have h1' : (x.p.pid == y.p.pid) = false := by simp [h1]
    go_enter Try.func24, Try.ntmps24
    go_wp2_with fail
    go_ret
    exact ⟨by simp [h1], HK.out⟩
def manB (a b : Man) : Bool := decide (a.source = b.source) && decide (a.area = b.area) && decide (a.rest = b.rest) && decide (a.places.length = b.places.length) && (List.range a.places.length).all fun i => match a.places[i]?, b.places[i]? with
  | some x, some y => plcB x y
  | _, _ => false
theorem manB_iff (a b : Man) : manB a b = true ↔ a = b := by
  obtain ⟨a1, a2, a3, a4⟩ := a
  obtain ⟨b1, b2, b3, b4⟩ := b
  simp only [manB, Bool.and_eq_true, decide_eq_true_eq, Man.mk.injEq]
  constructor
  · rintro ⟨⟨⟨⟨rfl, rfl⟩, rfl⟩, h4⟩, h5⟩
    refine ⟨rfl, rfl, rfl, List.ext_getElem h4 (fun i h1 h2 => ?_)⟩
    have := List.all_eq_true.1 h5 i (List.mem_range.2 h1)
    rw [List.getElem?_eq_getElem h1, List.getElem?_eq_getElem h2] at this
    exact (plcB_iff _ _).1 this
  · rintro ⟨rfl, rfl, rfl, rfl⟩
    refine ⟨⟨⟨⟨rfl, rfl⟩, rfl⟩, rfl⟩, List.all_eq_true.2 fun i hi => ?_⟩
    have h1 := List.mem_range.1 hi
    rw [List.getElem?_eq_getElem h1]
    exact (plcB_iff _ _).2 rfl
/-- sizes of manifests that are compared -/
def SmallV (m : MnV) : Prop := ∀ x ∈ m.places, x.p.pieces.length ≤ 1000000
theorem RdM.forms {B : Nat} {w : World} {m : MnV} (h : RdM B w m) : (∃ ra rc, m.rv = .slice ra m.rest.length rc ∧ m.rest.length ≤ rc ∧ rc ≤ 9223372036854775807) ∧ ∃ pa pc, m.pv = .slice pa m.places.length pc ∧ m.places.length ≤ pc ∧ pc ≤ 9223372036854775807 := by
  obtain ⟨-, -, ⟨⟨o, ⟨-, a, c, h1, h2, h3, -⟩, -⟩, -⟩, ⟨⟨o', ⟨-, a', c', h1', h2', h3', -⟩, -⟩, -⟩⟩ := h
  unfold maxLen at h3 h3'
  exact ⟨⟨a, c, h1, h2, by omega⟩, a', c', h1', h2', by omega⟩
end Go.Proofs.Ytngepgnmlpinaaa
