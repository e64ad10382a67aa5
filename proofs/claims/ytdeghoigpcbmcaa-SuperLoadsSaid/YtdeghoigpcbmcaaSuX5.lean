/- Super: the sort of extents by From. Printed by gen-sux5.py. -/
import Derived.Test.YtdeghoigpcbmcaaSuX4
import Derived.Test.YtdeghoigpcbmcaaBaseSort
import Derived.Test.YtdeghoigpcbmcaaShelf
namespace Go.Proofs.Ytdeghoigpcbmcaa
open Go.RowKit Go.Emb Go.Lib Go.Emb.Ext Go.Shelf Go.Sort

/-- an extent whose front is small: the difference of two fronts is no wide number -/
def SmallE (x : E) : Prop := 0 ≤ x.1 ∧ x.1 ≤ 1000000
abbrev EB := { x : E // SmallE x }
instance : Inhabited EB := ⟨⟨(0, 0), by unfold SmallE; simp⟩⟩
def encB (x : EB) : List Value := encE x.val
def cmpB (x y : EB) : Int := x.val.1 - y.val.1
theorem ltB (x y : EB) : ltOf cmpB x y = decide (x.val.1 < y.val.1) := by
  unfold ltOf cmpB
  rw [Bool.eq_iff_iff]
  simp only [decide_eq_true_eq]
  omega
theorem swoB : SWO (ltOf cmpB) where
  irrefl x := by rw [ltB]; simp
  trans x y z h1 h2 := by rw [ltB] at *; simp at *; omega
  ntrans x y z h1 h2 := by rw [ltB] at *; simp at *; omega
theorem attach_flat (D : List E) (h : ∀ x ∈ D, SmallE x) : (D.attachWith SmallE h).flatMap encB = D.flatMap encE := by
  induction D with
  | nil => rfl
  | cons x l ih => simp only [List.attachWith_cons, List.flatMap_cons, ih]; rfl
theorem attach_len (D : List E) (h : ∀ x ∈ D, SmallE x) : (D.attachWith SmallE h).length = D.length := by simp
theorem map_flat (l : List EB) : l.flatMap encB = (l.map (·.val)).flatMap encE := by
  induction l with
  | nil => rfl
  | cons x l ih => simp only [List.flatMap_cons, List.map_cons, ih]; rfl
theorem attach_map (D : List E) (h : ∀ x ∈ D, SmallE x) : (D.attachWith SmallE h).map (·.val) = D := by
  induction D with
  | nil => rfl
  | cons x l ih => simp only [List.attachWith_cons, List.map_cons, ih]
set_option maxRecDepth 100000 in
set_option maxHeartbeats 400000 in
theorem closureB (x y : EB) (W : World) : Calls Try.prog 25 #[.agg #[.int .i64 x.val.1, .int .i64 x.val.2], .agg #[.int .i64 y.val.1, .int .i64 y.val.2]] W fun e w' => e = .returned (.int .i64 (cmpB x y)) ∧ ∃ q os', w' = grow (W.drewN q) os' := by
  obtain ⟨⟨x1, x2⟩, hx⟩ := x
  obtain ⟨⟨y1, y2⟩, hy⟩ := y
  unfold SmallE at hx hy
  simp only at hx hy
  unfold cmpB
  simp only
  have hw : IntKind.i64.wrap (x1 - y1) = x1 - y1 := IntWalk.i64_in _ (by omega)
  clear hx hy
  go_enter Try.func25, Try.ntmps25
  go_wp2_with fail
  refine bodyPost_ret (results_tmp rfl _ _ _) rfl ?_
  exact ⟨rfl, 0, _, by rw [alloc_eq_grow, alloc_eq_grow, grow_grow]; rfl⟩
set_option maxRecDepth 100000 in
theorem perm_of_permIn {d d' : Array EB} (h : PermIn 0 d.size d d') : d'.toList.Perm d.toList ∧ d'.size = d.size := by
  obtain ⟨h1, _, h3⟩ := h
  refine ⟨?_, h1⟩
  have e1 : d.extract 0 d.size = d := by simp
  have e2 : d'.extract 0 d.size = d' := by rw [← h1]; simp
  rwa [e1, e2] at h3

set_option maxRecDepth 100000 in
/-- the sort by From -/
theorem sortF_any {w : World} {v : Value} {d : List E} {o : Option Nat} (h : RowE w v d o) (hsz : d.length ≤ 1000000000) (hsm : ∀ x ∈ d, SmallE x) :
    Calls Try.prog 42 #[v, .func (.func 25) #[] #[]] w fun e w' => e = .returned (.tuple #[]) ∧ ∃ s, s.Perm d ∧ s.Pairwise (fun x y => x.1 ≤ y.1) ∧ RowE w' v s o ∧ Keep o.toList w w' := by
  have eg : ∀ args w, (callFunc 25 args).run Try.prog w = .ok (.enter 25 args) w := enters_of Try.func25 (by kernel_rfl) rfl
  have hk : ∀ x, (encB x).length = 2 := fun _ => rfl
  unfold RowE at *
  rcases d with _ | ⟨t, d⟩
  · obtain ⟨a, c, rfl⟩ : ∃ a c, v = .slice a 0 c := by
      rcases h.2 with ⟨_, hv, _⟩ | ⟨b, off, cap, cs, _, hv, _⟩
      · exact ⟨_, _, hv⟩
      · exact ⟨_, _, hv⟩
    have hcon := AnyF.slices_SortFunc_none Try.sortT a c (.func (.func 25) #[] #[]) w
    change Calls Try.prog 42 _ _ _ at hcon
    refine hcon.mono ?_
    rintro e w' ⟨rfl, rfl⟩
    exact ⟨rfl, [], List.Perm.refl _, by simp, h, Keep.refl _ _⟩
  · generalize hd : t :: d = D at *
    have hpos : D.length ≠ 0 := by rw [← hd]; simp
    obtain ⟨b, off, cap, rfl, rfl⟩ : ∃ b off cap, o = some b ∧ v = .slice (some ⟨b, off, none⟩) D.length cap := by
      rcases h.2 with ⟨_, _, h0⟩ | ⟨b, off, cap, cs, ho, hv, _⟩
      · exact absurd h0 hpos
      · exact ⟨b, off, cap, ho, hv⟩
    obtain ⟨DB, hDB⟩ : ∃ X, X = (D.attachWith SmallE hsm) := ⟨_, rfl⟩
    have hfl : DB.flatMap encB = D.flatMap encE := by rw [hDB]; exact attach_flat D hsm
    have hln : DB.length = D.length := by rw [hDB]; exact attach_len D hsm
    have hmp : DB.map (·.val) = D := by rw [hDB]; exact attach_map D hsm
    have h' : Row w 54 2 (.slice (some ⟨b, off, none⟩) DB.toArray.size cap) DB.toArray.size (DB.toArray.toList.flatMap encB) (some b) := by simpa [hfl, hln] using h
    have hcon := AnyQ.slices_SortFunc Try.sortT 2 Try.isAgg54 Try.sizeOf54 encB hk (fun x v hv => by simp [encB, encE] at hv; rcases hv with rfl | rfl <;> rfl) cmpB swoB 25 #[] b off cap DB.toArray w eg (fun _ _ _ _ x y => closureB x y _) (h'.holdsK hk (by omega)) (h.lt b rfl) (by simp; omega)
    change Calls Try.prog 42 _ _ _ at hcon
    have hsz' : DB.toArray.size = D.length := by simp [hln]
    rw [hsz'] at hcon
    refine hcon.mono ?_
    rintro e w' ⟨rfl, d', n, os, hp, hs, rfl⟩
    obtain ⟨hp1, hp2⟩ := perm_of_permIn (d := DB.toArray) (by rw [hsz']; exact hp)
    have := h'.sorted hk (by omega) hp2 n os
    refine ⟨rfl, d'.toList.map (·.val), ?_, ?_, ?_, by simpa using this.2⟩
    · have h2 := hp1.map (·.val)
      simp only [List.map_map] at h2
      rw [← hmp]
      simpa using h2
    · rw [List.pairwise_map, List.pairwise_iff_getElem]
      intro i j hi hj hij
      have := hs i j (by omega) hij (by have := hp2; simp at hj this; omega)
      rw [ltB, getElem!_pos d' i (by simpa using hi), getElem!_pos d' j (by simpa using hj)] at this
      simp at this ⊢
      exact this
    · have h1 := this.1
      have hl : (d'.toList.map (·.val)).length = D.length := by rw [List.length_map]; simpa [hln] using hp2
      rw [hl, ← map_flat]
      simpa [hln] using h1

def SortedP (w : World) (l : List E) (e : Ending) (w' : World) : Prop :=
  ∃ v o s, e = .returned v ∧ s.Perm l ∧ s.Pairwise (fun x y => x.1 ≤ y.1) ∧ RowE w' v s o ∧ (∀ b, o = some b → w.heap.size ≤ b) ∧ Keep [] w w'

set_option maxRecDepth 100000 in
theorem sortedFunc_any {w : World} {B : Nat} {v : Value} {xs : List E} {o : Option Nat} (hB : w.cell? ⟨B, 0, none⟩ = some v) (hr : RdE w v xs o) (hsz : xs.length ≤ 1000000000) (hsm : ∀ x ∈ xs, SmallE x) (ho : ∀ b, o = some b → b < w.heap.size) :
    Calls Try.prog 23 #[.func (.func 43) #[] #[.pointer (some ⟨B, 0, none⟩)], .func (.func 25) #[] #[]] w (SortedP w xs) := by
  have h := collect_any hB hr hsz ho
  clear hB hr ho
  go_enter Try.func23, Try.ntmps23
  go_wp2_with fail
  refine h.mono ?_
  rintro e w' ⟨v', o', rfl, h1, h2, h3⟩
  have hc := sortF_any h1 hsz hsm
  have H2 := Lib.hid h2
  have H3 := Lib.hid h3
  clear h h1 h2 h3
  go_wp2_with fail
  refine hc.mono ?_
  rintro e w2 ⟨rfl, s, p1, p2, p3, p4⟩
  have P1 := Lib.hid p1
  have P2 := Lib.hid p2
  have P3 := Lib.hid p3
  have P4 := Lib.hid p4
  clear p1 p2 p3 p4 hc
  go_wp2_with fail
  go_ret
  refine ⟨v', o', s, rfl, P1.out, P2.out, P3.out, H2.out, H3.out.trans P4.out ?_⟩
  intro x hx
  right
  cases o' with
  | none => simp at hx
  | some b => simp at hx; subst hx; exact H2.out x rfl
end Go.Proofs.Ytdeghoigpcbmcaa

