/- The queue's contracts, among other things that lie apart. -/
import Derived.Test.YtphfmbkfcjiciaaActs
import Derived.Test.YtphfmbkfcjiciaaSep
namespace Go.Proofs.Ytphfmbkfcjiciaa
open Go.RowKit Go.Emb Go.Shelf Go.Lib Go.Sort

def TQ (q : Nat) (l : List Int) (T : List (Int × Int)) (F : List Nat) : Thing := ⟨fun w => IsQ w q l T F, F, fun h hk hn => h.keep hk hn⟩
def TI (v : Value) (l : List Int) (o : Option Nat) : Thing := TRd 1 v l.length (l.map (Value.int .i64)) o
def TD (v : Value) (D : List (Int × Int)) (o : Option Nat) : Thing := TRd 2 v D.length (D.flatMap encT) o

/-- some ending, some queue -/
def QPost (w0 : World) (q : Nat) (l : List Int) (T : List (Int × Int)) (L : List Thing) (r : Value) (e : Ending) (w' : World) : Prop := e = .returned r ∧ ∃ F, Sep w0 (TQ q l T F :: L) w'

theorem s_new {w0 w : World} {L : List Thing} (h : Sep w0 L w) : Calls Try.prog 8 #[] w fun e w' => ∃ q, QPost w0 q [] [] L (.pointer (some ⟨q, 0, none⟩)) e w' := by
  refine (new_any w).mono ?_
  rintro e w' ⟨q, F, rfl, hq, hk, hF⟩
  exact ⟨q, rfl, F, h.add hk hq (fun b hb => ⟨hF b hb, hq.lt b hb⟩)⟩

theorem s_ready {w0 w : World} {q : Nat} {l : List Int} {T : List (Int × Int)} {F : List Nat} {L : List Thing} (h : Sep w0 (TQ q l T F :: L) w) {v : Value} {xs : List Int} {o : Option Nat} (ha : Rd w 1 v xs.length (xs.map (Value.int .i64)) o) (ho : ∀ b, o = some b → b ∉ F)
    (hsz : l.length + xs.length ≤ 1000000000) : Calls Try.prog 9 #[.pointer (some ⟨q, 0, none⟩), v] w (QPost w0 q (addAll l xs) T L (.int .i64 (((addAll l xs).length : Int) - l.length))) := by
  refine (ready_any (h.get (t := TQ q l T F) (by simp)) ha ho hsz).mono ?_
  rintro e w' ⟨rfl, ⟨F', h1, h2⟩, h3⟩
  exact ⟨rfl, F', h.step h3 h1 (fun b hb => ⟨h2 b hb, h1.lt b hb⟩)⟩

theorem s_set {w0 w : World} {q : Nat} {l : List Int} {T : List (Int × Int)} {F : List Nat} {L : List Thing} (h : Sep w0 (TQ q l T F :: L) w) (p t : Int) :
    Calls Try.prog 13 #[.pointer (some ⟨q, 0, none⟩), .int .i64 p, .int .i64 t] w (QPost w0 q l (mput T p t) L (.bool (mfind T p).isNone)) := by
  refine (set_any (h.get (t := TQ q l T F) (by simp)) p t).mono ?_
  rintro e w' ⟨rfl, h1, h3⟩
  exact ⟨rfl, F, h.step h3 h1 (fun b hb => ⟨.inl hb, h1.lt b hb⟩)⟩

theorem s_clear {w0 w : World} {q : Nat} {l : List Int} {T : List (Int × Int)} {F : List Nat} {L : List Thing} (h : Sep w0 (TQ q l T F :: L) w) (p : Int) :
    Calls Try.prog 18 #[.pointer (some ⟨q, 0, none⟩), .int .i64 p] w (QPost w0 q l (mdel T p) L (.bool (mfind T p).isSome)) := by
  refine (clear_any (h.get (t := TQ q l T F) (by simp)) p).mono ?_
  rintro e w' ⟨rfl, h1, h3⟩
  exact ⟨rfl, F, h.step h3 h1 (fun b hb => ⟨.inl hb, h1.lt b hb⟩)⟩

theorem s_next {w0 w : World} {q : Nat} {p : Int} {l : List Int} {T : List (Int × Int)} {F : List Nat} {L : List Thing} (h : Sep w0 (TQ q (p :: l) T F :: L) w) :
    Calls Try.prog 11 #[.pointer (some ⟨q, 0, none⟩)] w (QPost w0 q l T L (.tuple #[.int .i64 p, .bool true])) := by
  refine (next_some (h.get (t := TQ q (p :: l) T F) (by simp))).mono ?_
  rintro e w' ⟨rfl, h1, h3⟩
  exact ⟨rfl, F, h.step h3 h1 (fun b hb => ⟨.inl hb, h1.lt b hb⟩)⟩

/-- a new slice of numbers, and the queue -/
def QIPost (w0 : World) (q : Nat) (l : List Int) (T : List (Int × Int)) (L : List Thing) (xs : List Int) (e : Ending) (w' : World) : Prop := ∃ v o F, e = .returned v ∧ Sep w0 (TQ q l T F :: TI v xs o :: L) w'
def QDPost (w0 : World) (q : Nat) (l : List Int) (T : List (Int × Int)) (L : List Thing) (xs : List (Int × Int)) (e : Ending) (w' : World) : Prop := ∃ v o F, e = .returned v ∧ Sep w0 (TQ q l T F :: TD v xs o :: L) w'

theorem s_tick {w0 w : World} {q : Nat} {l : List Int} {T : List (Int × Int)} {F : List Nat} {L : List Thing} (h : Sep w0 (TQ q l T F :: L) w) (now : Int) (hsz : l.length + T.length ≤ 1000000000) :
    Calls Try.prog 14 #[.pointer (some ⟨q, 0, none⟩), .int .i64 now] w (QIPost w0 q (addAll l (due T now)) T L (due T now)) := by
  refine (tick_any (h.get (t := TQ q l T F) (by simp)) now hsz).mono ?_
  rintro e w' ⟨v, o, F', rfl, hrow, ho, hq, hF', hk⟩
  obtain ⟨o', hrd, ho'⟩ := hrow.rd
  have h1 : Sep w0 (TQ q (addAll l (due T now)) T F' :: L) w' := h.step hk hq (fun b hb => ⟨hF' b hb, hq.lt b hb⟩)
  refine ⟨v, o', F', rfl, ?_⟩
  have hof : ∀ b, o' = some b → w.heap.size ≤ b ∧ b ∉ F' ∧ b < w'.heap.size := by
    intro b hb
    rcases ho' with h | h
    · rw [h] at hb; cases hb
    · rw [h] at hb; exact ⟨(ho b hb).1, (ho b hb).2, hrow.lt b hb⟩
  refine ⟨h1.keep, ?_, ?_⟩
  · intro s hs
    simp only [List.mem_cons] at hs
    rcases hs with rfl | rfl | hs
    · exact h1.all _ (by simp)
    · refine ⟨hrd, fun b hb => ?_⟩
      simp only [TI, TRd, Option.mem_toList] at hb
      have := hof b hb
      have := h.keep.size
      omega
    · exact h1.all s (by simp [hs])
  · obtain ⟨a1, a2⟩ := List.pairwise_cons.1 h1.apart
    refine List.pairwise_cons.2 ⟨fun s hs b hb hn => ?_, List.pairwise_cons.2 ⟨fun s hs b hb hn => ?_, a2⟩⟩
    · rcases List.mem_cons.1 hs with rfl | hs
      · simp only [TI, TRd, Option.mem_toList] at hn
        exact (hof b hn).2.1 hb
      · exact a1 s hs b hb hn
    · simp only [TI, TRd, Option.mem_toList] at hb
      have h2 := hof b hb
      have h3 := ((h.all s (by simp [hs])).2 b hn).2
      omega

theorem s_waiting {w0 w : World} {q : Nat} {l : List Int} {T : List (Int × Int)} {F : List Nat} {L : List Thing} (h : Sep w0 (TQ q l T F :: L) w) (hsz : l.length ≤ 1000000000) :
    Calls Try.prog 10 #[.pointer (some ⟨q, 0, none⟩)] w (QIPost w0 q l T L l) := by
  refine (waiting_any (h.get (t := TQ q l T F) (by simp)) hsz).mono ?_
  rintro e w' ⟨v, o, rfl, hrow, ho, hk⟩
  obtain ⟨o', h1⟩ := h.addRow hk hrow ho
  simp only [List.length_map] at h1
  exact ⟨v, o', F, rfl, h1.swap⟩

theorem s_timers {w0 w : World} {q : Nat} {l : List Int} {T : List (Int × Int)} {F : List Nat} {L : List Thing} (h : Sep w0 (TQ q l T F :: L) w) (hsz : T.length ≤ 1000000000) :
    Calls Try.prog 16 #[.pointer (some ⟨q, 0, none⟩)] w (QDPost w0 q l T L (sortT T)) := by
  refine (timers_any (h.get (t := TQ q l T F) (by simp)) hsz).mono ?_
  rintro e w' ⟨v, o, rfl, hrow, ho, hk⟩
  obtain ⟨o', h1⟩ := h.addRow hk hrow ho
  rw [← sortT_length T] at h1
  exact ⟨v, o', F, rfl, h1.swap⟩

theorem s_at {w0 w : World} {q : Nat} {l : List Int} {T : List (Int × Int)} {F : List Nat} {L : List Thing} (h : Sep w0 (TQ q l T F :: L) w) (p : Int) :
    Calls Try.prog 17 #[.pointer (some ⟨q, 0, none⟩), .int .i64 p] w fun e w' => e = .returned (.tuple #[.int .i64 ((mfind T p).getD 0), .bool (mfind T p).isSome]) ∧ w = w' :=
  at_any (h.get (t := TQ q l T F) (by simp)) p

theorem s_numbers {w0 w : World} {L : List Thing} (h : Sep w0 L w) {u v : Value} {xs ys : List Int} {ox oy : Option Nat} (hx : Rd w 1 u xs.length (xs.map (Value.int .i64)) ox) (hy : Rd w 1 v ys.length (ys.map (Value.int .i64)) oy) (hsx : xs.length ≤ 1000000000) (hsy : ys.length ≤ 1000000000) :
    Calls Try.prog 15 #[u, v] w fun e w' => e = .returned (.bool (decide (xs = ys))) ∧ Sep w0 L w' := by
  refine (numbers_any hx hy hsx hsy).mono ?_
  rintro e w' ⟨rfl, n, rfl⟩
  exact ⟨rfl, h.kept ((Keep.refl _ _).drewN n)⟩

theorem s_live {w0 w : World} {L : List Thing} (h : Sep w0 L w) : Calls Try.prog 7 #[] w fun e w' => e = .returned (.bool true) ∧ Sep w0 L w' := by
  refine (live_any w).mono ?_
  rintro e w' ⟨rfl, hk⟩
  exact ⟨rfl, h.kept hk⟩

end Go.Proofs.Ytphfmbkfcjiciaa
