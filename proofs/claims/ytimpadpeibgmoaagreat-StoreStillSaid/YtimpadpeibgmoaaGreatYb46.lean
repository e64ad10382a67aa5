/- A part of the proof (St26), joined by squeeze2.py. -/
import Derived.Test.YtimpadpeibgmoaaGreatYb45
set_option maxHeartbeats 8000000
set_option maxRecDepth 100000
namespace Go.Proofs.YtimpadpeibgmoaaGreat
open Go.RowKit Go.Emb Go.Lib Go.Emb.Ext Go.Shelf
theorem findL_man {m m' : MnV} (h : m.man = m'.man) (p : Int) : (findL m p).map (·.p) = (findL m' p).map (·.p) := by
 have e : ∀ u : MnV, (findL u p).map (·.p) = u.man.places.find? (fun z => decide (z.pid = p)) := fun u => by
  unfold findL MnV.man
  simp only
  rw [List.find?_map]
  rfl
 rw [e, e, h]
section
variable {d : DS} {x : SV} {alive : List Int} {dirty : List ImV} {tk : List PlV} {f0 : List E} {m m1 m2 : MnV} {sp : Sup} {im : Int → List UInt8}
theorem still_pid (hi : PlanIs d.n d.sz x alive dirty tk f0 m sp) (hmp : m.places = alive.map (pickV tk x.nm)) (h2 : m2.man = m.man) {j : Nat} (hj : j < m2.places.length) : m2.places[j].p.pid ∈ alive ∧ m2.places[j].p = (pickV tk x.nm m2.places[j].p.pid).p := by
 have h3 : m2.places.map (·.p) = alive.map (fun p => (pickV tk x.nm p).p) := by
  have := congrArg Man.places h2
  unfold MnV.man at this
  simp only at this
  rw [this, hmp, List.map_map]
  rfl
 have hl : j < alive.length := by have := congrArg List.length h3; simp only [List.length_map] at this; omega
 have h4 : m2.places[j].p = (pickV tk x.nm alive[j]).p := by
  have := congrArg (fun l => l[j]?) h3
  simp only [List.getElem?_map, List.getElem?_eq_getElem hj, List.getElem?_eq_getElem hl, Option.map_some, Option.some.injEq] at this
  exact this
 have h5 := hi.pid alive[j] (List.getElem_mem hl)
 have h6 : m2.places[j].p.pid = alive[j] := by rw [h4, h5]
 refine ⟨by rw [h6]; exact List.getElem_mem hl, ?_⟩
 rw [h6]
 exact h4
theorem still_old (hi : PlanIs d.n d.sz x alive dirty tk f0 m sp) (hmp : m.places = alive.map (pickV tk x.nm)) (h1 : m1.man = x.nm.man) (h2 : m2.man = m.man) {j : Nat} (hj : j < m2.places.length) (hn : m2.places[j].p.pid ∉ dirty.map (·.pid)) :
  ∃ z, findL m1 m2.places[j].p.pid = some z ∧ z.p = m2.places[j].p := by
 obtain ⟨ha, hp⟩ := still_pid hi hmp h2 hj
 obtain ⟨z, hz, e⟩ := hi.old _ ha hn
 have h3 := findL_man h1 m2.places[j].p.pid
 rw [hz] at h3
 cases hf : findL m1 m2.places[j].p.pid with
 | none => rw [hf] at h3; cases h3
 | some u =>
  rw [hf] at h3
  simp only [Option.map_some, Option.some.injEq] at h3
  refine ⟨u, rfl, ?_⟩
  rw [h3, ← e]
  exact hp.symm
theorem still_new (h : SInv d x.area x.ns x.nm.man x.os x.om.man im) (hi : PlanIs d.n d.sz x alive dirty tk f0 m sp) (hf : IsFree d.n (usedL x) f0) (hmp : m.places = alive.map (pickV tk x.nm)) (h1 : m1.man = x.nm.man) (h2 : m2.man = m.man) {j : Nat} (hj : j < m2.places.length) (hn : m2.places[j].p.pid ∈ dirty.map (·.pid)) {z : PlV}
  (hz : findL m1 m2.places[j].p.pid = some z) {e0 e1 : E} (h0 : e0 ∈ z.p.pieces) (he : e1 ∈ m2.places[j].p.pieces) : e0.1 ≠ e1.1 := by
 obtain ⟨ha, hp⟩ := still_pid hi hmp h2 hj
 obtain ⟨y, hy, e⟩ := List.mem_map.1 hn
 obtain ⟨-, -, -, h4, -⟩ := hi.new y hy
 rw [e] at h4
 have h3 := findL_man h1 m2.places[j].p.pid
 rw [hz] at h3
 cases hg : findL x.nm m2.places[j].p.pid with
 | none => rw [hg] at h3; cases h3
 | some u =>
  rw [hg] at h3
  simp only [Option.map_some, Option.some.injEq] at h3
  have hm := List.mem_of_find?_eq_some hg
  rw [h3] at h0
  have hck : e0 ∈ ckX x.ns x.nm.man := List.mem_append_right _ (List.mem_flatMap.2 ⟨u.p, List.mem_map.2 ⟨u, hm, rfl⟩, h0⟩)
  have hr0 := h.inrN e0 hck
  have hu : cov (usedL x) e0.1 := used_now ⟨e0, hck, by unfold covers; omega⟩
  rw [hp] at he
  have hr1 := hi.inr e1 (List.mem_append_left _ (List.mem_flatMap.2 ⟨_, List.mem_map.2 ⟨_, h4, rfl⟩, he⟩))
  have hc1 : cov (plcX (tk.map (·.p)) ++ sp.ps) e1.1 := ⟨e1, List.mem_append_left _ (List.mem_flatMap.2 ⟨_, List.mem_map.2 ⟨_, h4, rfl⟩, he⟩), by unfold covers; omega⟩
  intro ee
  rw [ee] at hu
  exact ((hf.2.2 _).1 (hi.free _ hc1)).2.2 hu
end
end Go.Proofs.YtimpadpeibgmoaaGreat
