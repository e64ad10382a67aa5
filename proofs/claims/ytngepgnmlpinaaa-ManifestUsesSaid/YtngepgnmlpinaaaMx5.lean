/- (of XExt, by exm.py) Extents: the sort by From. -/
import Derived.Test.YtngepgnmlpinaaaMx4
import Derived.Test.YtngepgnmlpinaaaBaseSort
import Derived.Test.YtngepgnmlpinaaaShelf
namespace Go.Proofs.Ytngepgnmlpinaaa
open Go.RowKit Go.Emb Go.Lib Go.Emb.Ext Go.Shelf Go.Sort

set_option maxRecDepth 100000 in
theorem isNaN_any (x : Int) (w : World) : Calls Try.prog 88 #[.int .i64 x] w fun e w' => e = .returned (.bool false) ∧ w = w' := by
  go_enter Try.func88, Try.ntmps88
  go_wp2_with fail
  go_ret
  exact ⟨by simp, rfl⟩

set_option maxRecDepth 100000 in
theorem compare_any (x y : Int) (w : World) : Calls Try.prog 79 #[.int .i64 x, .int .i64 y] w fun e w' => e = .returned (.int .i64 (Lib.compareInt x y)) ∧ w = w' := by
  unfold Lib.compareInt
  by_cases h1 : x < y
  · rw [if_pos h1]
    go_enter Try.func79, Try.ntmps79
    go_wp2_with (go_at_call 88; refine (isNaN_any _ _).mono ?_; rintro e w' ⟨rfl, rfl⟩)
    go_ret
    exact ⟨rfl, rfl⟩
  · by_cases h2 : y < x
    · rw [if_neg h1, if_pos h2]
      go_enter Try.func79, Try.ntmps79
      go_wp2_with (go_at_call 88; refine (isNaN_any _ _).mono ?_; rintro e w' ⟨rfl, rfl⟩)
      go_ret
      exact ⟨rfl, rfl⟩
    · rw [if_neg h1, if_neg h2]
      go_enter Try.func79, Try.ntmps79
      go_wp2_with (go_at_call 88; refine (isNaN_any _ _).mono ?_; rintro e w' ⟨rfl, rfl⟩)
      go_ret
      exact ⟨rfl, rfl⟩

def cmpF (x y : E) : Int := Lib.compareInt x.1 y.1
def cmpL (x y : E) : Int := Lib.compareInt x.2 y.2
set_option maxRecDepth 100000 in
theorem ltF (x y : E) : ltOf cmpF x y = decide (x.1 < y.1) := by
  unfold ltOf cmpF Lib.compareInt
  rw [Bool.eq_iff_iff]
  simp only [decide_eq_true_eq]
  split
  · simp; omega
  · split <;> simp <;> omega
set_option maxRecDepth 100000 in
theorem swoF : SWO (ltOf cmpF) where
  irrefl x := by rw [ltF]; simp
  trans x y z h1 h2 := by rw [ltF] at *; simp at *; omega
  ntrans x y z h1 h2 := by rw [ltF] at *; simp at *; omega

set_option maxRecDepth 100000 in
set_option maxHeartbeats 400000 in
theorem closureF (x y : E) (W : World) : Calls Try.prog 78 #[.agg #[.int .i64 x.1, .int .i64 x.2], .agg #[.int .i64 y.1, .int .i64 y.2]] W fun e w' => e = .returned (.int .i64 (cmpF x y)) ∧ ∃ q os', w' = grow (W.drewN q) os' := by
  obtain ⟨x1, x2⟩ := x
  obtain ⟨y1, y2⟩ := y
  unfold cmpF
  go_enter Try.func78, Try.ntmps78
  go_wp2_with (go_at_call 79; refine (compare_any _ _ _).mono ?_; rintro e w' ⟨rfl, rfl⟩)
  go_ret
  exact ⟨rfl, 0, _, by rw [alloc_eq_grow, alloc_eq_grow, grow_grow]; rfl⟩
set_option maxRecDepth 100000 in
theorem perm_of_permIn {d d' : Array E} (h : PermIn 0 d.size d d') : d'.toList.Perm d.toList ∧ d'.size = d.size := by
  obtain ⟨h1, _, h3⟩ := h
  refine ⟨?_, h1⟩
  have e1 : d.extract 0 d.size = d := by simp
  have e2 : d'.extract 0 d.size = d' := by rw [← h1]; simp
  rwa [e1, e2] at h3

set_option maxRecDepth 100000 in
/-- the sort by From -/
theorem sortF_any {w : World} {v : Value} {d : List E} {o : Option Nat} (h : RowE w v d o) (hsz : d.length ≤ 1000000000) :
    Calls Try.prog 86 #[v, .func (.func 78) #[] #[]] w fun e w' => e = .returned (.tuple #[]) ∧ ∃ s, s.Perm d ∧ s.Pairwise (fun x y => x.1 ≤ y.1) ∧ RowE w' v s o ∧ Keep o.toList w w' := by
  have eg : ∀ args w, (callFunc 78 args).run Try.prog w = .ok (.enter 78 args) w := enters_of Try.func78 (by kernel_rfl) rfl
  have hk : ∀ x, (encE x).length = 2 := fun _ => rfl
  unfold RowE at *
  rcases d with _ | ⟨t, d⟩
  · obtain ⟨a, c, rfl⟩ : ∃ a c, v = .slice a 0 c := by
      rcases h.2 with ⟨_, hv, _⟩ | ⟨b, off, cap, cs, _, hv, _⟩
      · exact ⟨_, _, hv⟩
      · exact ⟨_, _, hv⟩
    have hcon := AnyF.slices_SortFunc_none Try.sortT a c (.func (.func 78) #[] #[]) w
    change Calls Try.prog 86 _ _ _ at hcon
    refine hcon.mono ?_
    rintro e w' ⟨rfl, rfl⟩
    exact ⟨rfl, [], List.Perm.refl _, by simp, h, Keep.refl _ _⟩
  · generalize hd : t :: d = D at *
    have hpos : D.length ≠ 0 := by rw [← hd]; simp
    obtain ⟨b, off, cap, rfl, rfl⟩ : ∃ b off cap, o = some b ∧ v = .slice (some ⟨b, off, none⟩) D.length cap := by
      rcases h.2 with ⟨_, _, h0⟩ | ⟨b, off, cap, cs, ho, hv, _⟩
      · exact absurd h0 hpos
      · exact ⟨b, off, cap, ho, hv⟩
    have h' : Row w 23 2 (.slice (some ⟨b, off, none⟩) D.toArray.size cap) D.toArray.size (D.toArray.toList.flatMap encE) (some b) := by simpa using h
    have hcon := AnyQ.slices_SortFunc Try.sortT 2 Try.isAgg23 Try.sizeOf23 encE hk (fun x v hv => by simp [encE] at hv; rcases hv with rfl | rfl <;> rfl) cmpF swoF 78 #[] b off cap D.toArray w eg (fun _ _ _ _ x y => closureF x y _) (h'.holdsK hk (by omega)) (h.lt b rfl) (by simp; omega)
    change Calls Try.prog 86 _ _ _ at hcon
    have hsz' : D.toArray.size = D.length := by simp
    rw [hsz'] at hcon
    refine hcon.mono ?_
    rintro e w' ⟨rfl, d', n, os, hp, hs, rfl⟩
    obtain ⟨hp1, hp2⟩ := perm_of_permIn (d := D.toArray) (by rw [hsz']; exact hp)
    have := h'.sorted hk (by omega) hp2 n os
    refine ⟨rfl, d'.toList, by simpa using hp1, ?_, ?_, by simpa using this.2⟩
    · rw [List.pairwise_iff_getElem]
      intro i j hi hj hij
      have := hs i j (by omega) hij (by have := hp2; simp at hj this; omega)
      rw [ltF, getElem!_pos d' i (by simpa using hi), getElem!_pos d' j (by simpa using hj)] at this
      simp at this ⊢
      exact this
    · have h1 := this.1
      have hl : d'.toList.length = D.length := by simpa using hp2
      rw [hl]
      simpa using h1

def SortedP (w : World) (l : List E) (e : Ending) (w' : World) : Prop :=
  ∃ v o s, e = .returned v ∧ s.Perm l ∧ s.Pairwise (fun x y => x.1 ≤ y.1) ∧ RowE w' v s o ∧ (∀ b, o = some b → w.heap.size ≤ b) ∧ Keep [] w w'

set_option maxRecDepth 100000 in
theorem sortedFunc_any {w : World} {B : Nat} {v : Value} {xs : List E} {o : Option Nat} (hB : w.cell? ⟨B, 0, none⟩ = some v) (hr : RdE w v xs o) (hsz : xs.length ≤ 1000000000) (ho : ∀ b, o = some b → b < w.heap.size) :
    Calls Try.prog 76 #[.func (.func 87) #[] #[.pointer (some ⟨B, 0, none⟩)], .func (.func 78) #[] #[]] w (SortedP w xs) := by
  have h := collect_any hB hr hsz ho
  clear hB hr ho
  go_enter Try.func76, Try.ntmps76
  go_wp2_with fail
  refine h.mono ?_
  rintro e w' ⟨v', o', rfl, h1, h2, h3⟩
  have hc := sortF_any h1 hsz
  have H2 := Lib.hid h2
  have H3 := Lib.hid h3
  clear h h1 h2 h3
  go_wp2_with fail
  refine hc.mono ?_
  rintro e w2 ⟨rfl, s, p1, p2, p3, p4⟩
  have P1 := Lib.hid p1
  have P2 := Lib.hid p2
  have P3 := Lib.hid p3
  have P4 := Lib.hid p4
  clear p1 p2 p3 p4 hc
  go_wp2_with fail
  go_ret
  refine ⟨v', o', s, rfl, P1.out, P2.out, P3.out, H2.out, H3.out.trans P4.out ?_⟩
  intro x hx
  right
  cases o' with
  | none => simp at hx
  | some b => simp at hx; subst hx; exact H2.out x rfl
end Go.Proofs.Ytngepgnmlpinaaa
