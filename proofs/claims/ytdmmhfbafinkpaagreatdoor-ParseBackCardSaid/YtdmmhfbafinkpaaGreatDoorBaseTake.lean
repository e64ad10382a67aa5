import Derived.Test.YtdmmhfbafinkpaaGreatDoorBaseInv
/- A drawn region: reads are taken first, if what they read holds behind the operations Bs that may come before them; behind the others (which wait for the reads) nothing is asked. -/
namespace Go.Emb
open Go.RowKit

section
variable {P : Program} {ops : Array Oper} {Q : Exit → Act → World → Prop} {md : Region.Mode} {S : World → Prop} {Bs : List Nat}
def wpAnyB (P : Program) (md : Region.Mode) (ops : Array Oper) (Q : Exit → Act → World → Prop) (Bs : List Nat) (S : World → Prop) : Nat → Array Bool → Act → World → Prop
  | 0, listed, a, w => Region.ready md ops listed = [] ∧ Q .normal a w
  | fuel + 1, listed, a, w =>
    (Region.ready md ops listed = [] → Q .normal a w) ∧
    ∀ i ∈ Region.ready md ops listed, wpOp P ops Q i (fun a' w' => (Bs.contains i = true → S w') ∧ wpAnyB P md ops Q Bs S fuel (listed.setIfInBounds i true) a' w') a w
theorem wpAny_of_B : ∀ (fuel : Nat) (listed : Array Bool) (a : Act) (w : World), wpAnyB P md ops Q Bs S fuel listed a w → wpAny P md ops Q fuel listed a w
  | 0, _, _, _, h => h
  | fuel + 1, _, _, _, h => ⟨h.1, fun i hi => wpOp_mono (fun a' w' h' => wpAny_of_B fuel _ a' w' h'.2) (h.2 i hi)⟩
/-- T: what the read needs; it holds behind each of As -/
theorem wpAnyB_first {i : Nat} {oi : Oper} {v : Value} {T : World → Prop} {As : List Nat} (hi : ops[i]? = some oi) (hsel : ∀ (j : Nat) (o : Oper) cs b, ops[j]? = some o → o.op ≠ .select cs b)
    (hQ : ∀ c a w, Q (.panic c) (a.put oi.dst v) w → Q (.panic c) a w) (hT : ∀ j ∈ As, ∀ w, (Bs.contains j = true → S w) → T w) (hST : ∀ w, T w → Bs.contains i = true → S w) :
    ∀ (fuel : Nat) (listed : Array Bool) (a : Act) (w : World),
      (∀ j oj, ops[j]? = some oj → j ≠ i → listed.getD j true = false → (∀ e ∈ oj.after, Region.binds md e = true → e.on ≠ i) → oi.apart ops oj = true) →
      (∀ j oj, ops[j]? = some oj → j ≠ i → listed.getD j true = false → j ∉ As → ∃ e ∈ oj.after, Region.binds md e = true ∧ (e.on = i ∨ (listed.getD e.on true = false ∧ e.on ∉ As))) →
      i ∈ Region.ready md ops listed → YieldsIf P ops T oi v a → T w →
      wpAnyB P md ops Q Bs S fuel (listed.setIfInBounds i true) (a.put oi.dst v) w → wpAnyB P md ops Q Bs S (fuel + 1) listed a w := by
  intro fuel
  induction fuel with
  | zero =>
    intro listed a w _ hb hr hy hS H
    refine ⟨fun h => (by rw [h] at hr; cases hr), fun j hj => ?_⟩
    by_cases hji : j = i
    · subst hji; exact hy.wpOp hi hS ⟨hST w hS, H⟩
    · have := ready_mono hj hji
      rw [H.1] at this
      cases this
  | succ fuel ih =>
    intro listed a w hfree hb hr hy hS H
    refine ⟨fun h => (by rw [h] at hr; cases hr), fun j hj => ?_⟩
    by_cases hji : j = i
    · subst hji; exact hy.wpOp hi hS ⟨hST w hS, H⟩
    · have h1 := H.2 j (ready_mono hj hji)
      obtain ⟨hjun, oj, hoj, hall⟩ := mem_ready.1 hj
      have hnot : ∀ e ∈ oj.after, Region.binds md e = true → e.on ≠ i := fun e he hbn heq => by
        have h1 := hall e he hbn
        have h0 := (mem_ready.1 hr).1
        rw [heq] at h1
        rcases Nat.lt_or_ge i listed.size with h' | h'
        · rw [getD_lt h'] at h0 h1; rw [h0] at h1; cases h1
        · rw [getD_ge h'] at h1; cases h1
      have hjA : j ∈ As := by
        refine Classical.byContradiction fun hn => ?_
        obtain ⟨e, he, hbn, h3⟩ := hb j oj hoj hji hjun hn
        rcases h3 with h3 | ⟨h3, -⟩
        · exact hnot e he hbn h3
        · have h4 := hall e he hbn
          rcases Nat.lt_or_ge e.on listed.size with h' | h'
          · rw [getD_lt h'] at h3 h4; rw [h3] at h4; cases h4
          · rw [getD_ge h'] at h4; cases h4
      have h2 := wpOp_putIf hoj (hfree j oj hoj hji hjun hnot) (fun cs b => hsel i oi cs b hi) (fun cs b => hsel j oj cs b hoj) hQ hy h1
      have hfree' : ∀ k ok, ops[k]? = some ok → k ≠ i → (listed.setIfInBounds j true).getD k true = false →
          (∀ e ∈ ok.after, Region.binds md e = true → e.on ≠ i) → oi.apart ops ok = true := fun k ok hk hki hun hno => by
        refine hfree k ok hk hki ?_ hno
        by_cases hjk : j = k
        · subst hjk; exact hjun
        · rw [getD_set_ne true hjk] at hun; exact hun
      have hb' : ∀ k ok, ops[k]? = some ok → k ≠ i → (listed.setIfInBounds j true).getD k true = false → k ∉ As → ∃ e ∈ ok.after, Region.binds md e = true ∧ (e.on = i ∨ ((listed.setIfInBounds j true).getD e.on true = false ∧ e.on ∉ As)) := fun k ok hk hki hun hn => by
        have hun0 : listed.getD k true = false := by
          by_cases hjk : j = k
          · subst hjk; exact hjun
          · rw [getD_set_ne true hjk] at hun; exact hun
        obtain ⟨e, he, hbn, h3⟩ := hb k ok hk hki hun0 hn
        refine ⟨e, he, hbn, h3.imp id (fun h4 => ⟨?_, h4.2⟩)⟩
        have hje : j ≠ e.on := fun h5 => h4.2 (h5 ▸ hjA)
        rw [getD_set_ne true hje]
        exact h4.1
      refine wpOp_mono (fun a' w' h3 => ⟨h3.2.1, ih (listed.setIfInBounds j true) a' w' hfree' hb' (ready_mono hr (Ne.symm hji)) h3.1 (hT j hjA w' h3.2.1) ?_⟩) h2
      rw [Array.setIfInBounds_comm _ _ hji]
      exact h3.2.2
/-- whoever is not of As waits (for i, or for such a one) -/
def blocked (md : Region.Mode) (l : List Oper) (L : Array Bool) (As : List Nat) (i : Nat) : Bool :=
  (List.range l.length).all fun j => j == i || L.getD j true || As.contains j || (match l[j]? with
    | some o => (depsOf md o).any fun k => k == i || (!L.getD k true && !As.contains k)
    | none => true)
theorem blocked_spec {l : List Oper} {L : Array Bool} {As : List Nat} {i : Nat} (h : blocked md l L As i = true) (j : Nat) (oj : Oper) (hj : l.toArray[j]? = some oj) (hne : j ≠ i) (hun : L.getD j true = false) (hA : j ∉ As) :
    ∃ e ∈ oj.after, Region.binds md e = true ∧ (e.on = i ∨ (L.getD e.on true = false ∧ e.on ∉ As)) := by
  have hj' : l[j]? = some oj := by simpa using hj
  have hlt : j < l.length := by
    rcases Nat.lt_or_ge j l.length with h | h
    · exact h
    · rw [List.getElem?_eq_none h] at hj'; cases hj'
  have h1 := List.all_eq_true.1 h j (List.mem_range.2 hlt)
  rw [hj'] at h1
  have hc : As.contains j = false := by rw [Bool.eq_false_iff]; intro hc; exact hA (by simpa using hc)
  simp only [Bool.or_eq_true, beq_iff_eq, hne, hun, hc, Bool.false_eq_true, false_or] at h1
  obtain ⟨k, hk, h2⟩ := List.any_eq_true.1 h1
  obtain ⟨e, he, rfl⟩ := List.mem_map.1 hk
  obtain ⟨he1, he2⟩ := List.mem_filter.1 he
  refine ⟨e, by simpa using he1, he2, ?_⟩
  simp only [Bool.or_eq_true, beq_iff_eq, Bool.and_eq_true, Bool.not_eq_true'] at h2
  exact h2.imp id (fun h3 => ⟨h3.1, fun hm => by have := h3.2; simp at this; exact this hm⟩)
/-- a read -/
theorem wpAnyB_take {l : List Oper} (As : List Nat) {i : Nat} {oi : Oper} {v : Value} {fuel : Nat} {listed : Array Bool} {a : Act} {w : World} (hi : l[i]? = some oi)
    (hs : Region.noSelect l.toArray = true) (hf : Region.free md l.toArray listed i = true) (hr : (Region.ready md l.toArray listed).contains i = true) (hA : (As.all fun j => Bs.contains j) = true) (hb : blocked md l listed As i = true)
    (hQ : ∀ c a w, Q (.panic c) (a.put oi.dst v) w → Q (.panic c) a w) (hy : YieldsIf P l.toArray S oi v a) (hS : S w)
    (h : wpAnyB P md l.toArray Q Bs S fuel (listed.setIfInBounds i true) (a.put oi.dst v) w) : wpAnyB P md l.toArray Q Bs S (fuel + 1) listed a w := by
  have hi' : l.toArray[i]? = some oi := by simpa using hi
  exact wpAnyB_first (T := S) (As := As) hi' (Region.noSelect_spec hs) hQ (fun j hj w hw => hw (List.all_eq_true.1 hA j hj)) (fun w hw _ => hw) fuel listed a w (Region.free_spec hi' hf) (blocked_spec hb) (by simpa using hr) hy hS h
/-- what hangs on no world -/
theorem wpAnyB_takeY {l : List Oper} {i : Nat} {oi : Oper} {v : Value} {fuel : Nat} {listed : Array Bool} {a : Act} {w : World} (hi : l[i]? = some oi)
    (hs : Region.noSelect l.toArray = true) (hf : Region.free md l.toArray listed i = true) (hr : (Region.ready md l.toArray listed).contains i = true) (hB : Bs.contains i = false)
    (hQ : ∀ c a w, Q (.panic c) (a.put oi.dst v) w → Q (.panic c) a w) (hy : YieldsIf P l.toArray (fun _ => True) oi v a)
    (h : wpAnyB P md l.toArray Q Bs S fuel (listed.setIfInBounds i true) (a.put oi.dst v) w) : wpAnyB P md l.toArray Q Bs S (fuel + 1) listed a w := by
  have hi' : l.toArray[i]? = some oi := by simpa using hi
  refine wpAnyB_first (T := fun _ => True) (As := List.range l.length) hi' (Region.noSelect_spec hs) hQ (fun j hj w hw => trivial) (fun w hw h => by rw [hB] at h; cases h) fuel listed a w (Region.free_spec hi' hf) (fun j oj hj hne hun hA => ?_) (by simpa using hr) hy trivial h
  exfalso
  have hj' : l[j]? = some oj := by simpa using hj
  rcases Nat.lt_or_ge j l.length with h | h
  · exact hA (List.mem_range.2 h)
  · rw [List.getElem?_eq_none h] at hj'; cases hj'
def AllReadyB (P : Program) (md : Region.Mode) (ops : Array Oper) (Q : Exit → Act → World → Prop) (Bs : List Nat) (S : World → Prop) (fuel : Nat) (listed : Array Bool) (a : Act) (w : World) (rs : List Nat) : Prop :=
  ∀ i ∈ rs, wpOp P ops Q i (fun a' w' => (Bs.contains i = true → S w') ∧ wpAnyB P md ops Q Bs S fuel (listed.setIfInBounds i true) a' w') a w
theorem AllReadyB.nil {fuel : Nat} {listed : Array Bool} {a : Act} {w : World} : AllReadyB P md ops Q Bs S fuel listed a w [] := fun _ h => by cases h
theorem AllReadyB.cons {l : List Oper} {fuel : Nat} {listed : Array Bool} {a : Act} {w : World} {i : Nat} {o : Oper} {rs : List Nat} (ho : l[i]? = some o)
    (h : ∀ K' : Act → World → Prop, Shut (∀ a w, (Bs.contains i = true → S w) → wpAnyB P md l.toArray Q Bs S fuel (listed.setIfInBounds i true) a w → K' a w) → if Region.wanted o (yielded l.toArray a.tmps) = true then Oper.wp P o a w K' Q else K' (a.put o.dst undef) w)
    (hs : AllReadyB P md l.toArray Q Bs S fuel listed a w rs) : AllReadyB P md l.toArray Q Bs S fuel listed a w (i :: rs) := fun j hj => by
  rcases List.mem_cons.1 hj with rfl | hj
  · exact wpOp_step (by simpa using ho) (fun K' hK => h K' (fun a w hS hW => hK a w ⟨hS, hW⟩))
  · exact hs j hj
theorem wpAnyB_ready {rs : List Nat} {fuel : Nat} {listed : Array Bool} {a : Act} {w : World} (hr : Region.ready md ops listed = rs) (hne : rs ≠ [])
    (h : AllReadyB P md ops Q Bs S fuel listed a w rs) : wpAnyB P md ops Q Bs S (fuel + 1) listed a w := ⟨fun h0 => absurd (hr ▸ h0) hne, hr ▸ h⟩
theorem wpAnyB_done {listed : Array Bool} {a : Act} {w : World} (hr : Region.ready md ops listed = []) (h : Q .normal a w) : ∀ fuel, wpAnyB P md ops Q Bs S fuel listed a w
  | 0 => ⟨hr, h⟩
  | _ + 1 => ⟨fun _ => h, by rw [hr]; simp⟩
theorem wp_regionB (Bs : List Nat) (S : World → Prop) {id : Nat} {a : Act} {w : World} (hm : P.follows .mixedOrders = true)
    (h : wpAnyB P .any ops Q Bs S ops.size (Array.replicate ops.size false) a w.drew) : (Code.region id ops true).wp P Q a w := wp_region_any hm (wpAny_of_B _ _ _ _ h)
end
end Go.Emb
