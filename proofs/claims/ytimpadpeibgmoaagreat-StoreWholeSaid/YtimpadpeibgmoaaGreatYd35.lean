/- A part of the proof (StR), joined by squeeze2.py. -/
import Derived.Test.YtimpadpeibgmoaaGreatYd34
set_option maxHeartbeats 8000000
set_option maxRecDepth 100000
namespace Go.Proofs.YtimpadpeibgmoaaGreat
open Go.RowKit Go.Emb Go.Emb.Ext
theorem blkE_sum (l : List E) (h : ∀ e ∈ l, 0 ≤ e.2) : ((blkL l).length : Int) = sumL l := by
 induction l with
 | nil => rfl
 | cons e l ih =>
  have h1 := h e (by simp)
  have h2 := ih (fun x hx => h x (by simp [hx]))
  unfold blkL at h2 ⊢
  rw [List.flatMap_cons, List.length_append, blkE_len, sumL_cons]
  omega
theorem aOk_lt {had : Int → Prop} : ∀ {l : List Int} {last : Int}, aOk had last l → (∀ p ∈ l, last < p ∧ had p) ∧ l.Nodup
 | [], _, _ => by simp
 | p :: l, last, h => by
  obtain ⟨h1, h2⟩ := aOk_lt h.2
  refine ⟨fun y hy => ?_, ?_⟩
  ·rcases List.mem_cons.1 hy with rfl | hy
   ·exact h.1
   ·exact ⟨by have := (h1 y hy).1; have := h.1.1; omega, (h1 y hy).2⟩
  ·rw [List.nodup_cons]
   exact ⟨fun hm => by have := (h1 p hm).1; omega, h2⟩
theorem dOk_all {al : List Int} : ∀ {l : List (Int × List UInt8)} {last : Int}, dOk al last l → ∀ x ∈ l, last < x.1 ∧ x.2 ≠ [] ∧ x.1 ∈ al
 | [], _, _ => by simp
 | x :: l, last, h => by
  have h1 := dOk_all h.2
  intro y hy
  rcases List.mem_cons.1 hy with rfl | hy
  ·exact h.1
  ·obtain ⟨a, b, c⟩ := h1 y hy
   exact ⟨by have := h.1.1; omega, b, c⟩
theorem find_pid {m : MnV} {p : Int} {z : PlV} (h : findL m p = some z) : z.p.pid = p := by
 have := List.find?_some h
 simpa using this
theorem tk_find {tk : List PlV} {p : Int} (h : p ∈ tk.map (·.p.pid)) : ∃ z, tk.find? (fun y => decide (y.p.pid = p)) = some z ∧ z ∈ tk ∧ z.p.pid = p := by
 cases hf : tk.find? (fun y => decide (y.p.pid = p)) with
 | some z => exact ⟨z, rfl, List.mem_of_find?_eq_some hf, by simpa using List.find?_some hf⟩
 | none =>
  obtain ⟨z, hz, e⟩ := List.mem_map.1 h
  have := List.find?_eq_none.1 hf z hz
  simp [e] at this
theorem nodup_inj {α β : Type} {g : α → β} : ∀ {l : List α}, (l.map g).Nodup → ∀ {a b : α}, a ∈ l → b ∈ l → g a = g b → a = b
 | [], _, _, _, h, _, _ => by cases h
 | x :: l, hn, a, b, ha, hb, e => by
  rw [List.map_cons, List.nodup_cons] at hn
  rcases List.mem_cons.1 ha with rfl | ha' <;> rcases List.mem_cons.1 hb with rfl | hb'
  ·rfl
  ·exact absurd (List.mem_map.2 ⟨b, hb', e.symm⟩) hn.1
  ·exact absurd (List.mem_map.2 ⟨a, ha', e⟩) hn.1
  ·exact nodup_inj hn.2 ha' hb' e
structure PlanIs (n sz : Nat) (x : SV) (alive : List Int) (dirty : List ImV) (tk : List PlV) (f0 : List E) (m : MnV) (sp : Sup) : Prop where
 pid : ∀ p ∈ alive, (pickV tk x.nm p).p.pid = p
 find : ∀ p ∈ alive, findL m p = some (pickV tk x.nm p)
 new : ∀ y ∈ dirty, y.pid ∈ alive ∧ 1 ≤ y.pid ∧ y.b ≠ [] ∧ pickV tk x.nm y.pid ∈ tk ∧ (pickV tk x.nm y.pid).p.len = y.b.length
 old : ∀ p ∈ alive, p ∉ dirty.map (·.pid) → ∃ z, findL x.nm p = some z ∧ pickV tk x.nm p = z
 tpid : tk.map (·.p.pid) = dirty.map (·.pid)
 each : ∀ z ∈ tk, Plain z.p.pieces ∧ (∀ e ∈ z.p.pieces, right e = true) ∧ sumL z.p.pieces = needE z.p.len (roomN sz : Int) ∧ ∀ e ∈ z.p.pieces, 2 ≤ e.1 ∧ 1 ≤ e.2 ∧ e.1 + e.2 ≤ n
 gm : Plain sp.ps ∧ (∀ e ∈ sp.ps, right e = true) ∧ sumL sp.ps = needE (manL m.man).length (roomN sz : Int) ∧ sp.ps.length ≤ 8 ∧ ∀ e ∈ sp.ps, 2 ≤ e.1 ∧ 1 ≤ e.2 ∧ e.1 + e.2 ≤ n
 disj : Disj (plcX (tk.map (·.p)) ++ sp.ps)
 free : ∀ i, cov (plcX (tk.map (·.p)) ++ sp.ps) i → cov f0 i
 total : sumL (plcX (tk.map (·.p)) ++ sp.ps) ≤ n
theorem in_free {n : Nat} {x : SV} {f0 l : List E} (hf : IsFree n (usedL x) f0) (hp : ∀ e ∈ l, 1 ≤ e.2) (hc : ∀ i, cov l i → cov f0 i) : ∀ e ∈ l, 2 ≤ e.1 ∧ 1 ≤ e.2 ∧ e.1 + e.2 ≤ n := by
 intro e he
 have h1 := hp e he
 have h2 := (hf.2.2 e.1).1 (hc e.1 ⟨e, he, by unfold covers; omega⟩)
 have h3 := (hf.2.2 (e.1 + e.2 - 1)).1 (hc (e.1 + e.2 - 1) ⟨e, he, by unfold covers; omega⟩)
 refine ⟨?_, h1, by omega⟩
 have h4 : ¬ covers (0, 2) e.1 := fun h => h2.2.2 ⟨(0, 2), by unfold usedL; simp, h⟩
 unfold covers at h4
 simp only at h4
 omega
theorem plan_is {n sz : Nat} {f0 : List E} {x : SV} {src : ByteArray} {rest : List UInt8} {alive : List Int} {dirty : List ImV} {tk : List PlV} {f gm f2 : List E} {m : MnV} {sp : Sup} (hf : IsFree n (usedL x) f0) (h : PlanOk sz f0 x src rest alive dirty tk f gm f2 m sp) (hr : Right x.nm alive dirty) : PlanIs n sz x alive dirty tk f0 m sp := by
 have htk := h.tkn.ok hf.1 hf.2.1
 have hg := take_ok htk.plain htk.rf h.gmt
 have hps : sp.ps = gm := by rw [h.sup]
 have htp : tk.map (·.p.pid) = dirty.map (·.pid) := by
  have := congrArg (List.map (·.1)) h.tkd
  unfold tPl dPl at this
  rw [List.map_map, List.map_map] at this
  exact this
 obtain ⟨ha1, ha2⟩ := aOk_lt hr.1
 have hd := dOk_all hr.2
 have hpid : ∀ p ∈ alive, (pickV tk x.nm p).p.pid = p := fun p hp => by
  unfold pickV
  cases hfd : tk.find? (fun y => decide (y.p.pid = p)) with
  | some z => have := List.find?_some hfd; simpa using this
  | none =>
   cases hg : findL x.nm p with
   | some z => exact find_pid hg
   | none =>
    exfalso
    rcases (ha1 p hp).2 with h1 | h1
    ·rw [hg] at h1; cases h1
    ·rw [← htp] at h1
     obtain ⟨z, hz, -⟩ := tk_find h1
     rw [hfd] at hz; cases hz
 have hnd : ∀ y ∈ dirty, ∃ z, tk.find? (fun u => decide (u.p.pid = y.pid)) = some z ∧ z ∈ tk ∧ z.p.pid = y.pid := fun y hy => tk_find (by rw [htp]; exact List.mem_map.2 ⟨y, hy, rfl⟩)
 have hcov : ∀ i, cov (plcX (tk.map (·.p)) ++ sp.ps) i → cov f0 i := fun i hi => by
  rw [hps, cov_append] at hi
  rw [htk.same i]
  exact hi.imp id (fun h => (hg.same i).2 (.inl h))
 have hdj : Disj (plcX (tk.map (·.p)) ++ sp.ps) := by
  rw [hps]
  exact disj_append (List.pairwise_append.1 htk.disj).1 hg.pg.disj (fun i h1 h2 => disj_cov htk.disj i h1 ((hg.same i).2 (.inl h2)))
 refine ⟨hpid, fun p hp => ?_, fun y hy => ?_, fun p hp hn => ?_, htp, fun z hz => ?_, ?_, hdj, hcov, ?_⟩
 ·unfold findL
  rw [h.mp]
  have hgen : ∀ (l : List Int), (∀ a ∈ l, (pickV tk x.nm a).p.pid = a) → p ∈ l → (l.map (pickV tk x.nm)).find? (fun y => decide (y.p.pid = p)) = some (pickV tk x.nm p) := fun l => by
   induction l with
   | nil => intro _ h; cases h
   | cons a l ih =>
    intro hl hm
    rw [List.map_cons, List.find?_cons]
    by_cases e : a = p
    ·subst e; rw [decide_eq_true (hl a (by simp))]
    ·rw [decide_eq_false (by rw [hl a (by simp)]; exact e)]
     exact ih (fun b hb => hl b (by simp [hb])) (by rcases List.mem_cons.1 hm with h | h; exact absurd h.symm e; exact h)
  exact hgen alive hpid hp
 ·obtain ⟨h1, h2, h3⟩ := hd (y.pid, y.b) (List.mem_map.2 ⟨y, hy, rfl⟩)
  obtain ⟨z, hz1, hz2, hz3⟩ := hnd y hy
  have hpz : pickV tk x.nm y.pid = z := by unfold pickV; rw [hz1]; rfl
  refine ⟨h3, by simp only at h1; omega, h2, hpz ▸ hz2, ?_⟩
  rw [hpz]
  have h4 : (z.p.pid, z.p.len) ∈ dPl dirty := by rw [← h.tkd]; exact List.mem_map.2 ⟨z, hz2, rfl⟩
  obtain ⟨u, hu, e⟩ := List.mem_map.1 h4
  injection e with e1 e2
  have hnod := hr.nodup
  have : u = y := by
   have h5 : u.pid = y.pid := by rw [e1, hz3]
   exact (nodup_inj hnod) hu hy h5
  rw [← e2, this]
 ·unfold pickV
  have hfd : tk.find? (fun y => decide (y.p.pid = p)) = none := by
   rw [List.find?_eq_none]
   intro u hu e
   simp only [decide_eq_true_eq] at e
   exact hn (by rw [← htp]; exact List.mem_map.2 ⟨u, hu, e⟩)
  rw [hfd]
  cases hg : findL x.nm p with
  | some z => exact ⟨z, rfl, rfl⟩
  | none =>
   exfalso
   rcases (ha1 p hp).2 with h1 | h1
   ·rw [hg] at h1; cases h1
   ·exact hn h1
 ·obtain ⟨h1, h2, h3⟩ := htk.each z.p (List.mem_map.2 ⟨z, hz, rfl⟩)
  refine ⟨h1, h2, h3, in_free hf h1.pos (fun i hi => hcov i ?_)⟩
  rw [cov_append]
  left
  obtain ⟨e, he, hc⟩ := hi
  exact ⟨e, List.mem_flatMap.2 ⟨z.p, List.mem_map.2 ⟨z, hz, rfl⟩, he⟩, hc⟩
 ·rw [hps]
  exact ⟨hg.pg, hg.rg, hg.sum, by have := hg.len; omega, in_free hf hg.pg.pos (fun i hi => hcov i (by rw [hps, cov_append]; exact .inr hi))⟩
 ·rw [hps, sumL_append]
  have h1 := htk.sum
  have h2 := hg.all
  have h3 : 0 ≤ sumL f2 := (sumL_pos hg.pl.pos).1
  have h4 : sumL f0 ≤ (n : Int) - 0 := plain_sum n 0 hf.1 (fun e he => by
    have h5 := (hf.2.2 e.1).1 ⟨e, he, by have := hf.1.pos e he; unfold covers; omega⟩
    have h6 := (hf.2.2 (e.1 + e.2 - 1)).1 ⟨e, he, by have := hf.1.pos e he; unfold covers; omega⟩
    omega) (by omega)
  omega
end Go.Proofs.YtimpadpeibgmoaaGreat
