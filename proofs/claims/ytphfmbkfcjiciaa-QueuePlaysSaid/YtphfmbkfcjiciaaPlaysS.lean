/- QueuePlays: the document's queue among things that lie apart. -/
import Derived.Test.YtphfmbkfcjiciaaPlaysP
import Derived.Test.YtphfmbkfcjiciaaDrop
namespace Go.Proofs.Ytphfmbkfcjiciaa
open Go.RowKit Go.Emb Go.Shelf Go.Lib Go.Sort

def RSPost (w0 : World) (r : Nat) (l : List Int) (D : List (Int × Int)) (L : List Thing) (v : Value) (e : Ending) (w' : World) : Prop := e = .returned v ∧ ∃ F, Sep w0 (TR r l D F :: L) w'
theorem RPost.sep {w0 w : World} {r : Nat} {l l' : List Int} {D D' : List (Int × Int)} {F : List Nat} {L : List Thing} {v : Value} (h : Sep w0 (TR r l D F :: L) w) {e : Ending} {w' : World} (hp : RPost w r l' D' F v e w') : RSPost w0 r l' D' L v e w' := by
  obtain ⟨rfl, F', h1, h2, h3⟩ := hp
  exact ⟨rfl, F', h.step h3 h1 (fun b hb => ⟨h2 b hb, h1.lt b hb⟩)⟩

theorem rs_ready {w0 w : World} {r : Nat} {l : List Int} {D : List (Int × Int)} {F : List Nat} {L : List Thing} (h : Sep w0 (TR r l D F :: L) w) {v : Value} {xs : List Int} {o : Option Nat} (ha : Rd w 1 v xs.length (xs.map (Value.int .i64)) o) (ho : ∀ b, o = some b → b ∉ F)
    (hsz : l.length + xs.length ≤ 1000000000) : Calls Try.prog 19 #[.pointer (some ⟨r, 0, none⟩), v] w (RSPost w0 r (addAll l xs) D L (.int .i64 (((addAll l xs).length : Int) - l.length))) :=
  (r_ready (h.get (t := TR r l D F) (by simp)) ha ho hsz).mono fun _ _ hp => RPost.sep h hp
theorem rs_next {w0 w : World} {r : Nat} {p : Int} {l : List Int} {D : List (Int × Int)} {F : List Nat} {L : List Thing} (h : Sep w0 (TR r (p :: l) D F :: L) w) (hsz : l.length ≤ 1000000000) :
    Calls Try.prog 20 #[.pointer (some ⟨r, 0, none⟩)] w (RSPost w0 r l D L (.tuple #[.int .i64 p, .bool true])) :=
  (r_next_some (h.get (t := TR r (p :: l) D F) (by simp)) hsz).mono fun _ _ hp => RPost.sep h hp
theorem rs_clear {w0 w : World} {r : Nat} {l : List Int} {D : List (Int × Int)} {F : List Nat} {L : List Thing} (h : Sep w0 (TR r l D F :: L) w) (p : Int) (hsz : D.length ≤ 1000000000) :
    Calls Try.prog 22 #[.pointer (some ⟨r, 0, none⟩), .int .i64 p] w (RSPost w0 r l (delP D p) L (.bool (decide (p ∈ D.map (·.1))))) :=
  (r_clear (h.get (t := TR r l D F) (by simp)) p hsz).mono fun _ _ hp => RPost.sep h hp
theorem rs_set {w0 w : World} {r : Nat} {l : List Int} {D : List (Int × Int)} {F : List Nat} {L : List Thing} (h : Sep w0 (TR r l D F :: L) w) (p t : Int) (hsz : D.length ≤ 1000000) :
    Calls Try.prog 21 #[.pointer (some ⟨r, 0, none⟩), .int .i64 p, .int .i64 t] w (RSPost w0 r l (insP (delP D p) p t) L (.bool (!decide (p ∈ D.map (·.1))))) :=
  (r_set (h.get (t := TR r l D F) (by simp)) p t hsz).mono fun _ _ hp => RPost.sep h hp
theorem rs_drop {w0 w : World} {r : Nat} {l : List Int} {D : List (Int × Int)} {F : List Nat} {L : List Thing} (h : Sep w0 (TR r l D F :: L) w) (p : Int) (hsz : D.length ≤ 1000000000) (hsl : l.length ≤ 1000000000) :
    Calls Try.prog 25 #[.pointer (some ⟨r, 0, none⟩), .int .i64 p] w (RSPost w0 r (delI l p) (delP D p) L (.bool (decide (p ∈ D.map (·.1)) || decide (p ∈ l)))) :=
  (r_drop (h.get (t := TR r l D F) (by simp)) p hsz hsl).mono fun _ _ hp => RPost.sep h hp
theorem s_drop {w0 w : World} {q : Nat} {l : List Int} {T : List (Int × Int)} {F : List Nat} {L : List Thing} (h : Sep w0 (TQ q l T F :: L) w) (p : Int) (hsz : l.length ≤ 1000000000) :
    Calls Try.prog 24 #[.pointer (some ⟨q, 0, none⟩), .int .i64 p] w (QPost w0 q (l.filter fun x => decide (x ≠ p)) (mdel T p) L (.bool ((mfind T p).isSome || decide (p ∈ l)))) := by
  refine (drop_any (h.get (t := TQ q l T F) (by simp)) p hsz).mono ?_
  rintro e w' ⟨rfl, F', h1, h2, h3⟩
  exact ⟨rfl, F', h.step h3 h1 (fun b hb => ⟨h2 b hb, h1.lt b hb⟩)⟩
def RSIPost (w0 : World) (r : Nat) (l : List Int) (D : List (Int × Int)) (L : List Thing) (xs : List Int) (e : Ending) (w' : World) : Prop := ∃ v o F, e = .returned v ∧ Sep w0 (TR r l D F :: TI v xs o :: L) w'
theorem rs_tick {w0 w : World} {r : Nat} {l : List Int} {D : List (Int × Int)} {F : List Nat} {L : List Thing} (h : Sep w0 (TR r l D F :: L) w) (now : Int) (hsz : l.length + D.length ≤ 1000000000) :
    Calls Try.prog 23 #[.pointer (some ⟨r, 0, none⟩), .int .i64 now] w (RSIPost w0 r (addAll l (dueP D now)) D L (dueP D now)) := by
  refine (r_tick (h.get (t := TR r l D F) (by simp)) now hsz).mono ?_
  rintro e w' ⟨v, o, F', rfl, hrd, hof, hq, hF', hk⟩
  have h1 : Sep w0 (TR r (addAll l (dueP D now)) D F' :: L) w' := h.step hk hq (fun b hb => ⟨hF' b hb, hq.lt b hb⟩)
  refine ⟨v, o, F', rfl, h1.keep, ?_, ?_⟩
  · intro s hs
    simp only [List.mem_cons] at hs
    rcases hs with rfl | rfl | hs
    · exact h1.all _ (by simp)
    · refine ⟨hrd, fun b hb => ?_⟩
      simp only [TI, TRd, Option.mem_toList] at hb
      have := hof b hb
      have := h.keep.size
      omega
    · exact h1.all s (by simp [hs])
  · obtain ⟨a1, a2⟩ := List.pairwise_cons.1 h1.apart
    refine List.pairwise_cons.2 ⟨fun s hs b hb hn => ?_, List.pairwise_cons.2 ⟨fun s hs b hb hn => ?_, a2⟩⟩
    · rcases List.mem_cons.1 hs with rfl | hs
      · simp only [TI, TRd, Option.mem_toList] at hn
        exact (hof b hn).2.2 hb
      · exact a1 s hs b hb hn
    · simp only [TI, TRd, Option.mem_toList] at hb
      have h2 := hof b hb
      have h3 := ((h.all s (by simp [hs])).2 b hn).2
      omega

/-! the document's timers are the program's, sorted -/
theorem d_clear {w0 w : World} {r : Nat} {l : List Int} {T : List (Int × Int)} {F : List Nat} {L : List Thing} (hn : (T.map (·.1)).Nodup) (h : Sep w0 (TR r l (sortT T) F :: L) w) (p : Int) (hsz : T.length ≤ 1000000) :
    Calls Try.prog 22 #[.pointer (some ⟨r, 0, none⟩), .int .i64 p] w (RSPost w0 r l (sortT (mdel T p)) L (.bool (mfind T p).isSome)) := by
  have := rs_clear h p (by rw [sortT_length]; omega)
  rwa [delP_sort hn, keys_sort] at this
theorem d_set {w0 w : World} {r : Nat} {l : List Int} {T : List (Int × Int)} {F : List Nat} {L : List Thing} (hn : (T.map (·.1)).Nodup) (h : Sep w0 (TR r l (sortT T) F :: L) w) (p t : Int) (hsz : T.length ≤ 1000000) :
    Calls Try.prog 21 #[.pointer (some ⟨r, 0, none⟩), .int .i64 p, .int .i64 t] w (RSPost w0 r l (sortT (mput T p t)) L (.bool (mfind T p).isNone)) := by
  have := rs_set h p t (by rw [sortT_length]; omega)
  rwa [insP_sort hn, keys_sort, Option.not_isSome] at this
theorem d_drop {w0 w : World} {r : Nat} {l : List Int} {T : List (Int × Int)} {F : List Nat} {L : List Thing} (hn : (T.map (·.1)).Nodup) (hl : l.Nodup) (h : Sep w0 (TR r l (sortT T) F :: L) w) (p : Int) (hsz : T.length ≤ 1000000) (hsl : l.length ≤ 1000000) :
    Calls Try.prog 25 #[.pointer (some ⟨r, 0, none⟩), .int .i64 p] w (RSPost w0 r (l.filter fun x => decide (x ≠ p)) (sortT (mdel T p)) L (.bool ((mfind T p).isSome || decide (p ∈ l)))) := by
  have := rs_drop h p (by rw [sortT_length]; omega) (by omega)
  rwa [delP_sort hn, keys_sort, delI_filter hl] at this
theorem d_tick {w0 w : World} {r : Nat} {l : List Int} {T : List (Int × Int)} {F : List Nat} {L : List Thing} (h : Sep w0 (TR r l (sortT T) F :: L) w) (now : Int) (hsz : l.length + T.length ≤ 1000000) :
    Calls Try.prog 23 #[.pointer (some ⟨r, 0, none⟩), .int .i64 now] w (RSIPost w0 r (addAll l (due T now)) (sortT T) L (due T now)) := by
  have := rs_tick h now (by rw [sortT_length]; omega)
  rwa [dueP_sort] at this
theorem d_at {w0 w : World} {r : Nat} {l : List Int} {T : List (Int × Int)} {F : List Nat} {L : List Thing} (hn : (T.map (·.1)).Nodup) (h : Sep w0 (TR r l (sortT T) F :: L) w) (p : Int) (hsz : T.length ≤ 1000000) :
    Calls Try.prog 26 #[.pointer (some ⟨r, 0, none⟩), .int .i64 p] w fun e w' => e = .returned (.tuple #[.int .i64 ((mfind T p).getD 0), .bool (mfind T p).isSome]) ∧ w = w' := by
  have := r_at (h.get (t := TR r l (sortT T) F) (by simp)) p (by rw [sortT_length]; omega)
  rwa [mfind_sort hn] at this
end Go.Proofs.Ytphfmbkfcjiciaa
