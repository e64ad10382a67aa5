/- A part of the proof (St27), joined by squeeze2.py. -/
import Derived.Test.YtimpadpeibgmoaaGreatYc45
import Derived.Test.YtimpadpeibgmoaaGreatYc46
set_option maxHeartbeats 8000000
set_option maxRecDepth 100000
namespace Go.Proofs.YtimpadpeibgmoaaGreat
open Go.RowKit Go.Emb Go.Lib Go.Emb.Ext Go.Shelf
theorem any_has {l : List E} (hr : ∀ e ∈ l, right e = true) (z : Int) : l.any (hasE z) = true ↔ cov l z := by
 rw [List.any_eq_true]
 constructor
 ·rintro ⟨e, he, h⟩
  refine ⟨e, he, ?_⟩
  unfold hasE at h
  simp at h
  unfold covers
  omega
 ·rintro ⟨e, he, h⟩
  refine ⟨e, he, ?_⟩
  have := hr e he
  unfold hasE
  unfold covers at h
  simp [this]
  omega
theorem any_not {l : List E} {z : Int} (h : ¬ cov l z) : l.any (hasE z) = false := by
 rw [Bool.eq_false_iff]
 intro h2
 rw [List.any_eq_true] at h2
 obtain ⟨e, he, h2⟩ := h2
 refine h ⟨e, he, ?_⟩
 unfold hasE at h2
 simp at h2
 unfold covers
 omega
theorem inr_right {d : DS} (hd : d.ok) {l : List E} (h : ∀ e ∈ l, 2 ≤ e.1 ∧ 1 ≤ e.2 ∧ e.1 + e.2 ≤ d.n) : ∀ e ∈ l, right e = true := fun e he => by
 have h1 := h e he
 have h2 := hd.2.1
 rw [right_iff]
 omega
section
variable {d : DS} {x : SV} {alive : List Int} {dirty : List ImV} {tk : List PlV} {f0 : List E} {m : MnV} {sp : Sup} {im : Int → List UInt8}
theorem apart_log (h : SInv d x.area x.ns x.nm.man x.os x.om.man im) (hi : PlanIs d.n d.sz x alive dirty tk f0 m sp) (hn : (dirty.map (·.pid)).Nodup) (hf : IsFree d.n (usedL x) f0) {z : Int} (hz : z ∈ (allW d.sz sp m dirty).map (fun w => (w.1 : Int))) :
  (ckX x.ns x.nm.man).any (hasE z) = false ∧ (ckX x.os x.om.man).any (hasE z) = false ∧ 0 ≤ z ∧ z ≤ 100000 ∧ (2 ≤ z → [x.area].any (hasE z) = false) := by
 have hz1 : 1 ≤ roomN d.sz := by have := room_ok h.ok; omega
 have hn16 := h.ok.2.1
 have hz2 : ∃ k : Nat, z = (k : Int) ∧ k ∈ (allW d.sz sp m dirty).map (·.1) := by
  obtain ⟨w, hw, rfl⟩ := List.mem_map.1 hz
  exact ⟨w.1, rfl, List.mem_map.2 ⟨w, hw, rfl⟩⟩
 obtain ⟨k, rfl, hk⟩ := hz2
 rw [hi.fst hz1 hn] at hk
 have h0 : ∀ e ∈ plcX (tk.map (·.p)) ++ sp.ps, 0 ≤ e.1 := fun e he => by have := (hi.inr e he).1; omega
 rcases List.mem_append.1 hk with hk | hk
 ·have hc := (mem_blk h0 k).1 hk
  have hb := cov_ck (d := d) hi.inr hc
  have hu := ((hf.2.2 k).1 (hi.free _ hc)).2.2
  refine ⟨any_not (fun hc => hu (used_now hc)), any_not (fun hc => hu (used_was hc)), by omega, by omega, fun _ => any_not (fun hc => hu ?_)⟩
  rw [usedL_eq, cov_cons, cov_cons]
  rcases (cov_cons _ _ _).1 hc with h | h
  ·exact .inr (.inl h)
  ·exact absurd h (cov_nil _)
 ·rw [List.mem_singleton] at hk
  have hk2 : k < 2 := by omega
  exact ⟨any_not (fun hc => by have := cov_ck (d := d) h.inrN hc; omega), any_not (fun hc => by have := cov_ck (d := d) h.inrO hc; omega), by omega, by omega, fun h => by omega⟩
theorem apart_free (h : SInv d x.area x.ns x.nm.man x.os x.om.man im) {out : List E} (hf : IsFree d.n (usedL x) out) {j : Nat} (hj : j < d.n) :
  out.any (hasE j) = !(decide ((j : Int) < 2) || ([x.area].any (hasE j) || (ckX x.ns x.nm.man ++ ckX x.os x.om.man).any (hasE j))) := by
 have hr1 : ∀ e ∈ [x.area], right e = true := inr_right h.ok (fun e he => by rw [List.mem_singleton.1 he]; exact h.area)
 have hr2 : ∀ e ∈ ckX x.ns x.nm.man ++ ckX x.os x.om.man, right e = true := inr_right h.ok (fun e he => by
   rcases List.mem_append.1 he with he | he
   · exact h.inrN e he
   · exact h.inrO e he)
 have h1 := any_has hr1 (j : Int)
 have h2 := any_has hr2 (j : Int)
 have h3 := any_has hf.2.1 (j : Int)
 rw [hf.2.2, usedL_eq, cov_cons, cov_cons] at h3
 have h4 : cov [x.area] (j : Int) ↔ covers x.area (j : Int) := by rw [cov_cons]; exact ⟨fun h => h.resolve_right (cov_nil _), .inl⟩
 rw [h4] at h1
 have h5 : covers ((0 : Int), (2 : Int)) (j : Int) ↔ (j : Int) < 2 := by unfold covers; simp only; omega
 rw [h5, ← h1, ← h2] at h3
 have h6 : (j : Int) < (d.n : Int) := by omega
 rw [Bool.eq_iff_iff, h3]
 cases hA : decide ((j : Int) < 2) <;> cases hB : [x.area].any (hasE j) <;> cases hC : (ckX x.ns x.nm.man ++ ckX x.os x.om.man).any (hasE j) <;> simp at hA <;> simp [hA, hB, hC, h6] <;> omega
end
end Go.Proofs.YtimpadpeibgmoaaGreat
