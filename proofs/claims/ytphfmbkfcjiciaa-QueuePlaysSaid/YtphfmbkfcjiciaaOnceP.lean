/- QueueOnce: the plain law: lists and timers. -/
import Derived.Test.YtphfmbkfcjiciaaQueue7
namespace Go.Proofs.Ytphfmbkfcjiciaa
open Go.RowKit Go.Emb Go.Shelf Go.Lib Go.Sort

theorem Sep.sub {w0 w : World} {L L' : List Thing} (h : Sep w0 L w) (hs : L'.Sublist L) : Sep w0 L' w := ⟨h.keep, fun t ht => h.all t (hs.subset ht), h.apart.sublist hs⟩

theorem add1_sub {l : List Int} {p x : Int} (h : x ∈ l) : x ∈ add1 l p := by unfold add1; split <;> simp [h]
theorem addAll_sub : ∀ (d l : List Int) {x : Int}, x ∈ l → x ∈ addAll l d
  | [], _, _, h => h
  | p :: d, l, _, h => addAll_sub d (add1 l p) (add1_sub h)
theorem addAll_in : ∀ (d l : List Int) {x : Int}, x ∈ d → x ∈ addAll l d
  | [], _, _, h => by simp at h
  | p :: d, l, x, h => by
    rcases List.mem_cons.1 h with rfl | h
    · refine addAll_sub d (add1 l x) ?_
      unfold add1
      split <;> simp [*]
    · exact addAll_in d (add1 l p) h
theorem addAll_same : ∀ (d l : List Int), (∀ x ∈ d, x ∈ l) → addAll l d = l
  | [], _, _ => rfl
  | p :: d, l, h => by
    have h1 : add1 l p = l := by unfold add1; rw [if_pos (h p (by simp))]
    show addAll (add1 l p) d = l
    rw [h1]
    exact addAll_same d l (fun x hx => h x (by simp [hx]))
theorem addAll_twice (l d : List Int) : addAll (addAll l d) d = addAll l d := addAll_same d _ (fun _ hx => addAll_in d l hx)

def readyAll (acts : List ActV) : List Int := acts.foldl (fun l x => addAll l x.l) []
def timersAll (acts : List ActV) : List (Int × Int) := acts.foldl (fun T x => mput T x.p x.t) []
theorem readyAll_snoc (acts : List ActV) (x : ActV) : readyAll (acts ++ [x]) = addAll (readyAll acts) x.l := by simp [readyAll]
theorem timersAll_snoc (acts : List ActV) (x : ActV) : timersAll (acts ++ [x]) = mput (timersAll acts) x.p x.t := by simp [timersAll]
theorem mput_len {α β : Type} [DecidableEq α] (T : List (α × β)) (x : α) (v : β) : (mput T x v).length ≤ T.length + 1 := by
  unfold mput; split <;> simp
theorem readyAll_le (acts : List ActV) : ∀ k, (readyAll (acts.take k)).length ≤ sumL (acts.take k)
  | 0 => by simp [readyAll, sumL]
  | k + 1 => by
    have ih := readyAll_le acts k
    by_cases hk : k < acts.length
    · rw [List.take_succ_eq_append_getElem hk, readyAll_snoc, sumL_snoc]
      have := addAll_le acts[k].l (readyAll (acts.take k))
      omega
    · rw [List.take_of_length_le (by omega)] at *
      omega
theorem timersAll_le (acts : List ActV) : ∀ k, (timersAll (acts.take k)).length ≤ k
  | 0 => by simp [timersAll]
  | k + 1 => by
    have ih := timersAll_le acts k
    by_cases hk : k < acts.length
    · rw [List.take_succ_eq_append_getElem hk, timersAll_snoc]
      have := mput_len (timersAll (acts.take k)) acts[k].p acts[k].t
      omega
    · rw [List.take_of_length_le (by omega)] at *
      omega
theorem sumL_take (acts : List ActV) (k : Nat) : sumL (acts.take k) ≤ sumL acts := by
  have : sumL acts = sumL (acts.take k) + sumL (acts.drop k) := by
    conv => lhs; rw [← List.take_append_drop k acts]
    unfold sumL
    rw [List.map_append, List.sum_append]
  omega

theorem IsQ.tnd {w : World} {q : Nat} {l : List Int} {T : List (Int × Int)} {F : List Nat} (h : IsQ w q l T F) : (T.map (·.1)).Nodup := by
  obtain ⟨v, bi, bt, o, pi, h, rfl⟩ := h
  obtain ⟨es, clock, _, _, _, _, h5⟩ := h.mt
  simpa [List.map_map, Function.comp_def] using h5
theorem IsQ.lnd {w : World} {q : Nat} {l : List Int} {T : List (Int × Int)} {F : List Nat} (h : IsQ w q l T F) : l.Nodup := by
  obtain ⟨v, bi, bt, o, pi, h, rfl⟩ := h
  exact h.nd

theorem sortT_mem (T : List (Int × Int)) : (sortT T).Perm T := List.mergeSort_perm T _
theorem find_of_mem {T : List (Int × Int)} (hn : (T.map (·.1)).Nodup) {t : Int × Int} (ht : t ∈ T) : mfind T t.1 = some t.2 := by
  unfold mfind
  rw [show T.find? (fun p => decide (p.1 = t.1)) = some t from ?_]
  · rfl
  · obtain ⟨i, hi, rfl⟩ := List.getElem_of_mem ht
    rw [List.find?_eq_some_iff_getElem]
    refine ⟨by simp, i, hi, rfl, fun j hj => ?_⟩
    have hpw := List.pairwise_iff_getElem.1 (List.pairwise_map.1 hn)
    have := hpw j i (by omega) hi hj
    simpa using this

/-- the timers that are left when those of S are cleared -/
def left (T : List (Int × Int)) (S : List Int) : List (Int × Int) := T.filter fun t => decide (t.1 ∉ S)
theorem left_nil (T : List (Int × Int)) : left T [] = T := by simp [left]
theorem left_snoc (T : List (Int × Int)) (S : List Int) (p : Int) : mdel (left T S) p = left T (S ++ [p]) := by
  unfold mdel left
  rw [List.filter_filter]
  congr 1
  funext t
  simp [Bool.and_comm]
theorem left_nodup {T : List (Int × Int)} (hn : (T.map (·.1)).Nodup) (S : List Int) : ((left T S).map (·.1)).Nodup := hn.sublist (List.filter_sublist.map _)
theorem left_find {T : List (Int × Int)} (hn : (T.map (·.1)).Nodup) {S : List Int} {t : Int × Int} (ht : t ∈ T) (hS : t.1 ∉ S) : mfind (left T S) t.1 = some t.2 :=
  find_of_mem (left_nodup hn S) (List.mem_filter.2 ⟨ht, by simpa using hS⟩)

theorem dueK_notin {T : List (Int × Int)} (hn : (T.map (·.1)).Nodup) (now : Int) {k : Nat} (hk : k < (sortT T).length) : (sortT T)[k].1 ∉ dueK (sortT T) now k := by
  have hD : ((sortT T).map (·.1)).Nodup := ((sortT_mem T).map (·.1)).nodup_iff.2 hn
  have hpw := List.pairwise_iff_getElem.1 (List.pairwise_map.1 hD)
  intro hm
  unfold dueK at hm
  obtain ⟨t, ht, e⟩ := List.mem_map.1 hm
  obtain ⟨j, hj, rfl⟩ := List.getElem_of_mem (List.mem_filter.1 ht).1
  simp only [List.length_take] at hj
  rw [List.getElem_take] at e
  exact hpw j k (by omega) hk (by omega) e

theorem dueK_all (T : List (Int × Int)) (now : Int) : dueK (sortT T) now (sortT T).length = due T now := by
  unfold dueK due; rw [List.take_length]

theorem dueK_get (T : List (Int × Int)) (now : Int) {k : Nat} (hk : k < (sortT T).length) (hd : (sortT T)[k].2 ≤ now) : (due T now)[(dueK (sortT T) now k).length]? = some (sortT T)[k].1 := by
  have h1 := dueK_succ (sortT T) now k hk
  rw [if_pos hd] at h1
  have h2 : due T now = dueK (sortT T) now (k + 1) ++ (((sortT T).drop (k + 1)).filter fun t => decide (t.2 ≤ now)).map (·.1) := by
    unfold due dueK
    rw [← List.map_append, ← List.filter_append, List.take_append_drop]
  rw [h2, h1, List.append_assoc, List.getElem?_append_right (Nat.le_refl _)]
  simp

theorem sortT_le (T : List (Int × Int)) {k : Nat} (hk : k + 1 < (sortT T).length) : (sortT T)[k].2 ≤ (sortT T)[k + 1].2 := by
  have hle : ∀ (a b c : Int × Int), (!ltOf cmpT b a) = true → (!ltOf cmpT c b) = true → (!ltOf cmpT c a) = true := by
    intro a b c h1 h2
    simp only [Bool.not_eq_true'] at *
    exact swoT.ntrans c b a h2 h1
  have htot : ∀ (a b : Int × Int), ((!ltOf cmpT b a) || (!ltOf cmpT a b)) = true := by
    intro a b
    rw [ltT, ltT]
    simp
    omega
  have hp := List.pairwise_iff_getElem.1 (List.pairwise_mergeSort hle htot T) k (k + 1) (by have := hk; unfold sortT at this; omega) hk (by omega)
  have : (!ltOf cmpT (sortT T)[k + 1] (sortT T)[k]) = true := hp
  rw [ltT] at this
  simp at this
  omega

theorem left_due {T : List (Int × Int)} (now : Int) : ∀ t ∈ left T (due T now), ¬ t.2 ≤ now := by
  intro t ht hd
  obtain ⟨h1, h2⟩ := List.mem_filter.1 ht
  simp only [decide_eq_true_eq] at h2
  apply h2
  unfold due
  exact List.mem_map.2 ⟨t, List.mem_filter.2 ⟨(sortT_mem T).mem_iff.2 h1, by simpa using hd⟩, rfl⟩

theorem due_left {T : List (Int × Int)} (now : Int) : due (left T (due T now)) now = [] := by
  unfold due
  rw [List.map_eq_nil_iff, List.filter_eq_nil_iff]
  intro t ht
  have := left_due now t ((sortT_mem _).mem_iff.1 ht)
  simpa using this

theorem left_len {T : List (Int × Int)} (hn : (T.map (·.1)).Nodup) (now : Int) : (left T (due T now)).length + (due T now).length = T.length := by
  have h1 : left T (due T now) = T.filter fun t => !decide (t.2 ≤ now) := by
    unfold left
    apply List.filter_congr
    intro t ht
    rw [Bool.eq_iff_iff]
    simp only [decide_eq_true_eq, Bool.not_eq_true', decide_eq_false_iff_not]
    constructor
    · intro h hd
      exact h (by unfold due; exact List.mem_map.2 ⟨t, List.mem_filter.2 ⟨(sortT_mem T).mem_iff.2 ht, by simpa using hd⟩, rfl⟩)
    · intro h hm
      unfold due at hm
      obtain ⟨u, hu, e⟩ := List.mem_map.1 hm
      obtain ⟨hu1, hu2⟩ := List.mem_filter.1 hu
      have h3 := find_of_mem hn ((sortT_mem T).mem_iff.1 hu1)
      have h4 := find_of_mem hn ht
      rw [e] at h3
      rw [h4] at h3
      simp at hu2 h3
      omega
  have h2 : (due T now).length = (T.filter fun t => decide (t.2 ≤ now)).length := by
    unfold due
    rw [List.length_map]
    exact ((sortT_mem T).filter _).length_eq
  rw [h1, h2]
  clear h1 h2 hn
  induction T with
  | nil => rfl
  | cons t T ih =>
    by_cases h : t.2 ≤ now
    · simp [h]; omega
    · simp [h]; omega

end Go.Proofs.Ytphfmbkfcjiciaa
