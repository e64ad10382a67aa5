/- The queue's functions: contracts, continued: the order of timers, Timers, Tick. -/
import Derived.Test.YtphfmbkfcjiciaaQueue2
import Derived.Test.YtphfmbkfcjiciaaShelf
import Derived.Test.YtphfmbkfcjiciaaBaseSort
import Derived.Deep.RegionHeld3
namespace Go.Proofs.Ytphfmbkfcjiciaa
open Go.RowKit Go.Emb Go.Shelf Go.Lib Go.Sort

theorem isNaN_any (x : Int) (w : World) : Calls Try.prog 38 #[.int .i64 x] w fun e w' => e = .returned (.bool false) ∧ w = w' := by
  go_enter Try.func38, Try.ntmps38
  go_wp2_with fail
  go_ret
  exact ⟨by simp, rfl⟩

theorem compare_any (x y : Int) (w : World) : Calls Try.prog 32 #[.int .i64 x, .int .i64 y] w fun e w' => e = .returned (.int .i64 (Lib.compareInt x y)) ∧ w = w' := by
  unfold Lib.compareInt
  by_cases h1 : x < y
  · rw [if_pos h1]
    go_enter Try.func32, Try.ntmps32
    go_wp2_with (go_at_call 38; refine (isNaN_any _ _).mono ?_; rintro e w' ⟨rfl, rfl⟩)
    go_ret
    exact ⟨rfl, rfl⟩
  · by_cases h2 : y < x
    · rw [if_neg h1, if_pos h2]
      go_enter Try.func32, Try.ntmps32
      go_wp2_with (go_at_call 38; refine (isNaN_any _ _).mono ?_; rintro e w' ⟨rfl, rfl⟩)
      go_ret
      exact ⟨rfl, rfl⟩
    · rw [if_neg h1, if_neg h2]
      go_enter Try.func32, Try.ntmps32
      go_wp2_with (go_at_call 38; refine (isNaN_any _ _).mono ?_; rintro e w' ⟨rfl, rfl⟩)
      go_ret
      exact ⟨rfl, rfl⟩

/-- the first of two that is not 0 -/
def or2 (x y : Int) : Int := if x = 0 then y else x

theorem or_any (b : Nat) (x y : Int) (w : World) (h0 : w.cell? ⟨b, 0, none⟩ = some (.int .i64 x)) (h1 : w.cell? ⟨b, 1, none⟩ = some (.int .i64 y)) :
    Calls Try.prog 31 #[.slice (some ⟨b, 0, none⟩) 2 2] w fun e w' => e = .returned (.int .i64 (or2 x y)) ∧ w = w' := by
  by_cases hx : x = 0
  · have hxb : (x != 0) = false := by simp [hx]
    have HO : Hid (or2 x y = y) := by unfold or2; rw [if_pos hx]; exact rfl
    clear hx
    by_cases hy : y = 0
    · have hyb : (y != 0) = false := by simp [hy]
      have HY := Lib.hid hy
      clear hy
      go_enter Try.func31, Try.ntmps31
      go_wp2_with fail
      refine wp_loop_rounds 3 ?_
      rw [rounds_succ]
      go_wp2_with fail
      rw [rounds_succ]
      go_wp2_with fail
      rw [rounds_succ]
      go_wp2_with fail
      go_ret
      exact ⟨by rw [HO.out, HY.out]; rfl, rfl⟩
    · have hyb : (y != 0) = true := by simp [hy]
      clear hy
      go_enter Try.func31, Try.ntmps31
      go_wp2_with fail
      refine wp_loop_rounds 2 ?_
      rw [rounds_succ]
      go_wp2_with fail
      rw [rounds_succ]
      go_wp2_with fail
      go_ret
      exact ⟨by rw [HO.out]; rfl, rfl⟩
  · have hxb : (x != 0) = true := by simp [hx]
    have HO : Hid (or2 x y = x) := by unfold or2; rw [if_neg hx]; exact rfl
    clear hx
    go_enter Try.func31, Try.ntmps31
    go_wp2_with fail
    refine wp_loop_rounds 1 ?_
    rw [rounds_succ]
    go_wp2_with fail
    go_ret
    exact ⟨by rw [HO.out]; rfl, rfl⟩

/-- A timer's two cells: Pid, At. -/
def encT (x : Int × Int) : List Value := [.int .i64 x.1, .int .i64 x.2]
/-- by their times, then by their pids -/
def cmpT (x y : Int × Int) : Int := or2 (Lib.compareInt x.2 y.2) (Lib.compareInt x.1 y.1)

set_option maxHeartbeats 1000000 in
theorem closureT (x y : Int × Int) (W : World) : Calls Try.prog 30 #[.agg #[.int .i64 x.1, .int .i64 x.2], .agg #[.int .i64 y.1, .int .i64 y.2]] W fun e w' => e = .returned (.int .i64 (cmpT x y)) ∧ ∃ q os', w' = grow (W.drewN q) os' := by
  have hc := fun a b W' => compare_any a b W'
  obtain ⟨x1, x2⟩ := x
  obtain ⟨y1, y2⟩ := y
  unfold cmpT
  go_enter Try.func30, Try.ntmps30
  go_wp2_with fail
  clear hc
  go_region_held3 (fun w' => w'.cell? ⟨W.heap.size, 0, none⟩ = some (.int .i64 x1) ∧ w'.cell? ⟨W.heap.size, 1, none⟩ = some (.int .i64 x2) ∧ w'.cell? ⟨W.heap.size + 1, 0, none⟩ = some (.int .i64 y1) ∧ w'.cell? ⟨W.heap.size + 1, 1, none⟩ = some (.int .i64 y2)) (go_keep)
    (first | (go_at_call 32; refine (compare_any _ _ _).mono ?_; rintro e w' ⟨rfl, rfl⟩) | (go_at_call 31; refine (or_any _ (Lib.compareInt x2 y2) (Lib.compareInt x1 y1) _ ?_ ?_).mono ?_; (go_simp); (go_simp); rintro e w' ⟨rfl, rfl⟩))
  all_goals go_wp2_with fail
  go_ret
  exact ⟨rfl, 1, _, by rw [alloc_eq_grow, alloc_eq_grow, alloc_eq_grow, grow_grow, grow_grow]; rfl⟩

end Go.Proofs.Ytphfmbkfcjiciaa
