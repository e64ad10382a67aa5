/- live: the first line of every statement about the queue. -/
import Derived.Test.YtphfmbkfcjiciaaQueue5
namespace Go.Proofs.Ytphfmbkfcjiciaa
open Go.RowKit Go.Emb Go.Shelf Go.Lib Go.Sort

theorem rd_lit3 (w : World) (x y z : Value) (t : TypeId) : Rd (w.alloc (.cells #[x, y, z] t)) 1 (.slice (some ⟨w.heap.size, 0, none⟩) 3 3) 3 [x, y, z] (some w.heap.size) :=
  ⟨rfl, _, 3, rfl, Nat.le_refl _, by unfold maxLen; omega, .inr ⟨w.heap.size, 0, rfl, rfl, fun i hi => by
    match i with
    | 0 => simp
    | 1 => simp
    | 2 => simp
    | i + 3 => omega⟩⟩
theorem rd_lit1 (w : World) (x : Value) (t : TypeId) : Rd (w.alloc (.cells #[x] t)) 1 (.slice (some ⟨w.heap.size, 0, none⟩) 1 1) 1 [x] (some w.heap.size) :=
  ⟨rfl, _, 1, rfl, Nat.le_refl _, by unfold maxLen; omega, .inr ⟨w.heap.size, 0, rfl, rfl, fun i hi => by
    match i with
    | 0 => simp
    | i + 1 => omega⟩⟩

/-- a call that leaves its queue in order, whatever blocks it takes -/
def Lives (w : World) (q : Nat) (l : List Int) (T : List (Int × Int)) (w' : World) : Prop := ∃ F, IsQ w' q l T F ∧ (∀ b ∈ F, w.heap.size ≤ b) ∧ Keep [] w w'

theorem Lives.step {w w1 w2 : World} {q : Nat} {l' : List Int} {T' : List (Int × Int)} {F F' : List Nat} (hF : ∀ b ∈ F, w.heap.size ≤ b) (hk : Keep [] w w1) (hq : IsQ w2 q l' T' F') (hs : ∀ b ∈ F', b ∈ F ∨ w1.heap.size ≤ b) (hk2 : Keep F w1 w2) : Lives w q l' T' w2 :=
  ⟨F', hq, fun b hb => by rcases hs b hb with h | h; exact hF b h; have := hk.size; omega, hk.trans hk2 (fun x hx => .inr (hF x hx))⟩

def LiveQ (w : World) (q : Nat) (l : List Int) (F : List Nat) (tv : Value) (to : Option Nat) (w' : World) : Prop := Rd w' 1 tv 1 [.int .i64 5] to ∧ (∀ b, to = some b → b ∉ F) ∧ IsQ w' q l [(5, 10)] F ∧ (∀ b ∈ F, w.heap.size ≤ b) ∧ Keep [] w w'
def TickL (w : World) (q : Nat) (e : Ending) (w' : World) : Prop := ∃ tv to F, e = .returned tv ∧ LiveQ w q [3, 1, 5] F tv to w'
theorem next_live {w w' : World} {q : Nat} {p : Int} {l : List Int} {F : List Nat} {tv : Value} {to : Option Nat} (h : LiveQ w q (p :: l) F tv to w') :
    Calls Try.prog 11 #[.pointer (some ⟨q, 0, none⟩)] w' fun e w2 => e = .returned (.tuple #[.int .i64 p, .bool true]) ∧ LiveQ w q l F tv to w2 := by
  obtain ⟨hrd, hto, hq, hF, hk⟩ := h
  refine (next_some hq).mono ?_
  rintro e w2 ⟨rfl, h1, h3⟩
  exact ⟨rfl, hrd.keep h3 hto, hto, h1, hF, hk.trans h3 (fun x hx => .inr (hF x hx))⟩

set_option maxHeartbeats 1000000 in
theorem live_any (w : World) : Calls Try.prog 7 #[] w fun e w' => e = .returned (.bool true) ∧ Keep [] w w' := by
  go_enter Try.func7, Try.ntmps7
  go_wp2_with fail
  refine (new_any _).mono ?_
  rintro e w1 ⟨q, F, rfl, hq, hk, hF⟩
  have L1 := Lib.hid (show Lives w q [] [] w1 from ⟨F, hq, hF, hk⟩)
  clear hq hF hk F
  go_wp2_with fail
  obtain ⟨F, hq, hF, hk⟩ := L1.out
  have hlt := hq.lt
  refine ((ready_any (xs := [3, 1, 3]) (hq.keep ((Keep.refl [] _).alloc _) (by simp)) (rd_lit3 w1 _ _ _ _) (by rintro b ⟨⟩ hb; exact absurd (hlt _ hb) (Nat.lt_irrefl _)) (by simp)).mono (R' := fun e w' => e = .returned (.int .i64 2) ∧ Lives w q [3, 1] [] w') ?_).mono ?_
  · rintro e w' ⟨rfl, ⟨F', h1, h2⟩, h3⟩
    exact ⟨rfl, Lives.step hF (hk.alloc _) h1 h2 h3⟩
  clear hq hF hk hlt F L1
  rintro e w2 ⟨rfl, L2⟩
  have L2 := Lib.hid L2
  go_wp2_with fail
  obtain ⟨F, hq, hF, hk⟩ := L2.out
  refine ((set_any hq 5 10).mono (R' := fun e w' => e = .returned (.bool true) ∧ Lives w q [3, 1] [(5, 10)] w') ?_).mono ?_
  · rintro e w' ⟨rfl, h1, h3⟩
    exact ⟨rfl, Lives.step hF hk h1 (fun b hb => .inl hb) h3⟩
  clear hq hF hk F L2
  rintro e w3 ⟨rfl, L3⟩
  have L3 := Lib.hid L3
  go_wp2_with fail
  obtain ⟨F, hq, hF, hk⟩ := L3.out
  refine ((tick_any hq 10 (by simp)).mono (R' := TickL w q) ?_).mono ?_
  · rintro e w' ⟨v, o, F', rfl, hrow, ho, hq', hF', hk'⟩
    have hd : due [(5, 10)] 10 = [5] := by simp [due, sortT]
    rw [hd] at hrow hq'
    obtain ⟨o', hrd, ho'⟩ := hrow.rd
    refine ⟨v, o', F', rfl, hrd, fun b hb => ?_, hq', ?_, hk.trans hk' (fun x hx => .inr (hF x hx))⟩
    · rcases ho' with h | h
      · rw [h] at hb; cases hb
      · rw [h] at hb; exact (ho b hb).2
    · intro b hb
      rcases hF' b hb with h | h
      · exact hF b h
      · have := hk.size; omega
  clear hq hF hk F L3
  rintro e w4 ⟨tv, to, F, rfl, hrd, hto, hq, hF, hk⟩
  have L4 := Lib.hid (show LiveQ w q [3, 1, 5] F tv to w4 from ⟨hrd, hto, hq, hF, hk⟩)
  clear hrd hto hq hF hk
  go_wp2_with fail
  refine (next_live L4.out).mono ?_
  rintro e w5 ⟨rfl, L5⟩
  have L5 := Lib.hid L5
  clear L4
  go_wp2_with fail
  refine (next_live L5.out).mono ?_
  rintro e w6 ⟨rfl, L6⟩
  have L6 := Lib.hid L6
  clear L5
  go_wp2_with fail
  refine (next_live L6.out).mono ?_
  rintro e w7 ⟨rfl, L7⟩
  have L7 := Lib.hid L7
  clear L6
  go_wp2_with fail
  refine (next_none L7.out.2.2.1).mono ?_
  rintro e w8 ⟨rfl, rfl⟩
  go_wp2_with fail
  refine (numbers_any (xs := [5]) (ys := [5]) (L7.out.1.keep0 ((Keep.refl [] _).alloc _)) (rd_lit1 w7 _ _) (by simp) (by simp)).mono ?_
  rintro e w9 ⟨rfl, n, rfl⟩
  have K7 := Lib.hid L7.out.2.2.2.2
  clear L7
  go_wp2_with fail
  go_ret
  exact ⟨rfl, (K7.out.alloc _).drewN _⟩

end Go.Proofs.Ytphfmbkfcjiciaa
