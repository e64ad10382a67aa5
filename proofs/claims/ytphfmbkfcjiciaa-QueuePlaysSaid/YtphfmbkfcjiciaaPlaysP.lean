/- QueuePlays: the plain law: the document's two lists are the program's, the timers sorted. -/
import Derived.Test.YtphfmbkfcjiciaaRef9
namespace Go.Proofs.Ytphfmbkfcjiciaa
open Go.RowKit Go.Emb Go.Shelf Go.Lib Go.Sort

theorem leT_trans (a b c : Int × Int) (h1 : (!ltOf cmpT b a) = true) (h2 : (!ltOf cmpT c b) = true) : (!ltOf cmpT c a) = true := by
  simp only [Bool.not_eq_true'] at *
  exact swoT.ntrans c b a h2 h1
theorem leT_tot (a b : Int × Int) : ((!ltOf cmpT b a) || (!ltOf cmpT a b)) = true := by
  rw [ltT, ltT]
  simp
  omega
def SortedT (L : List (Int × Int)) : Prop := L.Pairwise fun x y => (!ltOf cmpT y x) = true
theorem sortT_sorted (T : List (Int × Int)) : SortedT (sortT T) := List.pairwise_mergeSort leT_trans leT_tot T
theorem sortT_of {L T : List (Int × Int)} (hs : SortedT L) (hp : L.Perm T) : L = sortT T := by
  refine List.Perm.eq_of_pairwise (le := fun x y => (!ltOf cmpT y x) = true) ?_ hs (sortT_sorted T) (hp.trans (sortT_mem T).symm)
  intro a b _ _ h1 h2
  simp only [Bool.not_eq_true'] at *
  exact (totT b a h1 h2).symm
theorem sortT_nodup {T : List (Int × Int)} (h : (T.map (·.1)).Nodup) : ((sortT T).map (·.1)).Nodup := ((sortT_mem T).map _).nodup_iff.2 h

theorem delP_filter {L : List (Int × Int)} (h : (L.map (·.1)).Nodup) (p : Int) : delP L p = mdel L p := by
  unfold delP mdel
  induction L with
  | nil => rfl
  | cons t L ih =>
    rw [List.map_cons, List.nodup_cons] at h
    by_cases e : t.1 = p
    · rw [List.eraseP_cons_of_pos (by simpa using e), List.filter_cons_of_neg (by simpa using e)]
      symm
      rw [List.filter_eq_self]
      intro x hx
      simp
      intro e2
      exact h.1 (List.mem_map.2 ⟨x, hx, by rw [e2, e]⟩)
    · rw [List.eraseP_cons_of_neg (by simpa using e), List.filter_cons_of_pos (by simpa using e), ih h.2]
theorem delI_filter {l : List Int} (h : l.Nodup) (p : Int) : delI l p = l.filter fun x => decide (x ≠ p) := by
  unfold delI
  induction l with
  | nil => rfl
  | cons t l ih =>
    rw [List.nodup_cons] at h
    by_cases e : t = p
    · rw [List.eraseP_cons_of_pos (by simpa using e), List.filter_cons_of_neg (by simpa using e)]
      symm
      rw [List.filter_eq_self]
      intro x hx
      simp
      intro e2
      exact h.1 (by rw [e, ← e2]; exact hx)
    · rw [List.eraseP_cons_of_neg (by simpa using e), List.filter_cons_of_pos (by simpa using e), ih h.2]
theorem delP_sort {T : List (Int × Int)} (h : (T.map (·.1)).Nodup) (p : Int) : delP (sortT T) p = sortT (mdel T p) := by
  rw [delP_filter (sortT_nodup h)]
  refine sortT_of ((sortT_sorted T).filter _) ?_
  exact (sortT_mem T).filter _
theorem dueP_sort (T : List (Int × Int)) (now : Int) : dueP (sortT T) now = due T now := by
  unfold dueP due
  have h := sortT_sorted T
  generalize sortT T = L at h
  congr 1
  induction L with
  | nil => rfl
  | cons t L ih =>
    have h1 := List.pairwise_cons.1 h
    by_cases e : t.2 ≤ now
    · rw [List.takeWhile_cons, if_pos (by simpa using e), List.filter_cons_of_pos (by simpa using e), ih h1.2]
    · rw [List.takeWhile_cons, if_neg (by simpa using e), List.filter_cons_of_neg (by simpa using e)]
      symm
      rw [List.filter_eq_nil_iff]
      intro x hx
      have h2 := h1.1 x hx
      rw [ltT] at h2
      simp at h2 ⊢
      omega
theorem mfind_mem {T : List (Int × Int)} {p v : Int} (h : mfind T p = some v) : (p, v) ∈ T := by
  unfold mfind at h
  cases e : T.find? (fun x => decide (x.1 = p)) with
  | none => rw [e] at h; cases h
  | some t =>
    rw [e] at h
    have h1 := List.mem_of_find?_eq_some e
    have h2 := List.find?_some e
    simp at h h2
    obtain ⟨a, b⟩ := t
    simp at h h2
    subst h h2
    exact h1
theorem mfind_sort {T : List (Int × Int)} (h : (T.map (·.1)).Nodup) (p : Int) : mfind (sortT T) p = mfind T p := by
  cases e : mfind T p with
  | none =>
    rw [Go.Emb.mfind_none] at e ⊢
    exact fun x hx => e x ((sortT_mem T).mem_iff.1 hx)
  | some v => exact find_of_mem (sortT_nodup h) ((sortT_mem T).mem_iff.2 (mfind_mem e))
theorem keys_sort (T : List (Int × Int)) (p : Int) : decide (p ∈ (sortT T).map (·.1)) = (mfind T p).isSome := by
  cases e : mfind T p with
  | none =>
    rw [Go.Emb.mfind_none] at e
    simp only [Option.isSome_none, decide_eq_false_iff_not, List.mem_map, not_exists, not_and]
    exact fun x hx => e x ((sortT_mem T).mem_iff.1 hx)
  | some v =>
    simp only [Option.isSome_some, decide_eq_true_eq, List.mem_map]
    exact ⟨(p, v), (sortT_mem T).mem_iff.2 (mfind_mem e), rfl⟩
theorem mput_perm {T : List (Int × Int)} (h : (T.map (·.1)).Nodup) (p t : Int) : (mput T p t).Perm ((p, t) :: mdel T p) := by
  unfold mput mdel
  by_cases hin : T.any (fun x => decide (x.1 = p)) = true
  · rw [if_pos hin]
    induction T with
    | nil => simp at hin
    | cons x T ih =>
      rw [List.map_cons, List.nodup_cons] at h
      by_cases e : x.1 = p
      · have hno : ∀ y ∈ T, ¬ y.1 = p := fun y hy e2 => h.1 (List.mem_map.2 ⟨y, hy, by rw [e2, e]⟩)
        rw [List.map_cons, if_pos e, List.filter_cons_of_neg (by simpa using e), e]
        rw [List.filter_eq_self.2 (fun y hy => by simpa using hno y hy)]
        rw [show T.map (fun y => if y.1 = p then (y.1, t) else y) = T from by
          conv => rhs; rw [← List.map_id T]
          exact List.map_congr_left fun y hy => by simp [hno y hy]]
      · rw [List.map_cons, if_neg e, List.filter_cons_of_pos (by simpa using e)]
        have := ih h.2 (by simpa [e] using hin)
        exact (this.cons x).trans (List.Perm.swap _ _ _)
  · rw [if_neg hin]
    have hno : ∀ y ∈ T, ¬ y.1 = p := fun y hy e => hin (List.any_eq_true.2 ⟨y, hy, by simpa using e⟩)
    rw [List.filter_eq_self.2 (fun y hy => by simpa using hno y hy)]
    exact List.perm_append_comm
theorem ltB_eq (p t : Int) (x : Int × Int) : ltB p t x = ltOf cmpT x (p, t) := by rw [ltT]; rfl
theorem insP_perm (L : List (Int × Int)) (p t : Int) : (insP L p t).Perm ((p, t) :: L) := by
  unfold insP
  have := List.perm_middle (a := (p, t)) (l₁ := L.takeWhile (ltB p t)) (l₂ := L.dropWhile (ltB p t))
  rwa [List.takeWhile_append_dropWhile] at this
theorem insP_sorted {L : List (Int × Int)} (h : SortedT L) (p t : Int) : SortedT (insP L p t) := by
  unfold insP
  induction L with
  | nil => simp [SortedT]
  | cons x L ih =>
    have h1 := List.pairwise_cons.1 h
    cases e : ltB p t x with
    | true =>
      rw [List.takeWhile_cons, if_pos e, List.dropWhile_cons, if_pos e, List.cons_append]
      refine List.pairwise_cons.2 ⟨fun y hy => ?_, ih h1.2⟩
      have hy2 : y ∈ (p, t) :: L := by
        have := (insP_perm L p t).mem_iff (a := y)
        unfold insP at this
        exact this.1 hy
      rcases List.mem_cons.1 hy2 with rfl | hy2
      · rw [ltB_eq, ltT] at e
        rw [ltT]
        simp at e ⊢
        omega
      · exact h1.1 y hy2
    | false =>
      rw [List.takeWhile_cons, if_neg (by simp [e]), List.dropWhile_cons, if_neg (by simp [e]), List.nil_append]
      refine List.pairwise_cons.2 ⟨fun y hy => ?_, h⟩
      have hx : (!ltOf cmpT x (p, t)) = true := by rw [← ltB_eq, e]; rfl
      rcases List.mem_cons.1 hy with rfl | hy
      · exact hx
      · exact leT_trans _ _ _ hx (h1.1 y hy)
theorem insP_sort {T : List (Int × Int)} (h : (T.map (·.1)).Nodup) (p t : Int) : insP (delP (sortT T) p) p t = sortT (mput T p t) := by
  rw [delP_sort h]
  exact sortT_of (insP_sorted (sortT_sorted _) p t) ((insP_perm _ p t).trans (((sortT_mem _).cons _).trans (mput_perm h p t).symm))
end Go.Proofs.Ytphfmbkfcjiciaa
