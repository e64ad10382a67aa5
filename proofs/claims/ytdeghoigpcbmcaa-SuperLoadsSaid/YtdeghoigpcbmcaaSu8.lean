/- Super: the disk: its state; Blocks, Size, has, block. -/
import Derived.Test.YtdeghoigpcbmcaaSu7
namespace Go.Proofs.Ytdeghoigpcbmcaa
open Go.RowKit Go.Emb

structure DS where
  n : Nat
  sz : Nat
  L : List UInt8
  left : Int
  off : Bool
def DS.ok (d : DS) : Prop := 1 ≤ d.n ∧ d.n ≤ 16384 ∧ 64 ≤ d.sz ∧ d.sz ≤ 4096 ∧ d.L.length = d.n * d.sz ∧ -1 ≤ d.left ∧ d.left ≤ 9223372036854775807
/-- a disk at q; D: its blocks; at most m writes -/
def DK (w : World) (q m : Nat) (D : List Nat) (d : DS) : Prop :=
  ∃ gb c logv logs lo s r, D = q :: gb :: c :: lo.toList ∧ w.heap[q]? = some (.cells (dkCells d.sz (.slice (some ⟨gb, 0, none⟩) (d.n * d.sz) (d.n * d.sz)) logv d.left c) 61 (0, 0)) ∧
    BB w gb d.L ∧ w.heap[c]? = some (.chan 0 #[] d.off s r false) ∧ Row w 3 1 logv logs.length logs lo ∧ logs.length ≤ m ∧ d.ok
theorem DK.keep {w w' : World} {q m : Nat} {D F : List Nat} {d : DS} (h : DK w q m D d) (hk : Keep F w w') (hF : ∀ b ∈ D, b ∉ F) : DK w' q m D d := by
  obtain ⟨gb, c, logv, logs, lo, s, r, rfl, h1, h2, h3, h4, h5, h6⟩ := h
  refine ⟨gb, c, logv, logs, lo, s, r, rfl, blkk h1 hk (hF _ (by simp)), h2.keep hk (hF _ (by simp)), ?_, Row.keep h4 hk (fun b hb => hF b (by simp [hb])), h5, h6⟩
  exact (hk.block c (Array.getElem?_eq_some_iff.1 h3).1 (hF _ (by simp))).trans h3
theorem DK.keep0 {w w' : World} {q m : Nat} {D : List Nat} {d : DS} (h : DK w q m D d) (hk : Keep [] w w') : DK w' q m D d := h.keep hk (by simp)
theorem DK.lt {w : World} {q m : Nat} {D : List Nat} {d : DS} (h : DK w q m D d) : ∀ b ∈ D, b < w.heap.size := by
  obtain ⟨gb, c, logv, logs, lo, s, r, rfl, h1, h2, h3, h4, h5, h6⟩ := h
  intro b hb
  simp only [List.mem_cons] at hb
  rcases hb with rfl | rfl | rfl | hb
  · exact (Array.getElem?_eq_some_iff.1 h1).1
  · exact h2.lt
  · exact (Array.getElem?_eq_some_iff.1 h3).1
  · exact Row.lt h4 b (by simpa using hb)
theorem mul_le_disk {a b : Nat} (h1 : a ≤ 16384) (h2 : b ≤ 4096) : a * b ≤ 67108864 := Nat.mul_le_mul h1 h2

set_option maxRecDepth 100000 in
theorem p_size {w : World} {q sz c : Nat} {bv lv : Value} {left : Int} {t : TypeId} (h : w.heap[q]? = some (.cells (dkCells sz bv lv left c) t (0, 0))) :
    Calls Try.prog 29 #[.pointer (some ⟨q, 0, none⟩)] w fun e w' => e = .returned (.int .i64 sz) ∧ Keep [] w w' := by
  obtain ⟨c0, c1, c2, c3, c4⟩ := dk_cells h
  clear h c1 c2 c3 c4
  go_enter Try.func29, Try.ntmps29
  go_wp2_with fail
  refine bodyPost_ret (results_tmp rfl _ _ _) rfl ?_
  exact ⟨rfl, Keep.refl _ _⟩
set_option maxRecDepth 100000 in
theorem p_blocks {w : World} {q n sz c N M : Nat} {a : Option Addr} {lv : Value} {left : Int} {t : TypeId} (h : w.heap[q]? = some (.cells (dkCells sz (.slice a N M) lv left c) t (0, 0))) (hN : N = n * sz) (h0 : 0 < sz) (hn : n ≤ 16384) :
    Calls Try.prog 26 #[.pointer (some ⟨q, 0, none⟩)] w fun e w' => e = .returned (.int .i64 n) ∧ Keep [] w w' := by
  obtain ⟨c0, c1, c2, c3, c4⟩ := dk_cells h
  clear h c2 c3 c4
  have hq : ((N : Int)).tdiv (sz : Int) = (n : Int) := by
    rw [hN]
    push_cast
    rw [Int.mul_tdiv_cancel _ (by omega)]
  have hz : ¬ (sz : Int) = 0 := by omega
  have hwn : IntKind.i64.wrap (n : Int) = (n : Int) := IntWalk.i64_in _ (by omega)
  have HN := Lib.hid hN
  clear hN
  go_enter Try.func26, Try.ntmps26
  go_upto_region 3 with fail
  go_quiet (fail)
  go_wp2_with fail
  refine bodyPost_ret (results_tmp rfl _ _ _) rfl ?_
  exact ⟨rfl, (Keep.refl _ _).drewN _⟩
set_option maxRecDepth 100000 in
theorem p_has {w : World} {q n sz c N M : Nat} {a : Option Addr} {lv : Value} {left : Int} {t : TypeId} (h : w.heap[q]? = some (.cells (dkCells sz (.slice a N M) lv left c) t (0, 0))) (hN : N = n * sz) (h0 : 0 < sz) (hn : n ≤ 16384) (k : Int) :
    Calls Try.prog 31 #[.pointer (some ⟨q, 0, none⟩), .int .i64 k] w fun e w' => e = .returned (.bool (decide (0 ≤ k ∧ k < n))) ∧ Keep [] w w' := by
  have HB := Lib.hid (p_blocks h hN h0 hn)
  clear h hN h0 hn
  by_cases hk : 0 ≤ k
  · by_cases hkn : k < n
    · have hd : (decide (0 ≤ k ∧ k < (n : Int))) = true := decide_eq_true ⟨hk, hkn⟩
      rw [hd]
      clear hd
      go_enter Try.func31, Try.ntmps31
      go_wp2_with fail
      refine HB.out.mono ?_
      rintro e w2 ⟨rfl, hk2⟩
      go_wp2_with fail
      refine bodyPost_ret (results_tmp rfl _ _ _) rfl ?_
      exact ⟨rfl, hk2⟩
    · have hd : (decide (0 ≤ k ∧ k < (n : Int))) = false := decide_eq_false (fun h => hkn h.2)
      rw [hd]
      clear hd
      go_enter Try.func31, Try.ntmps31
      go_wp2_with fail
      refine HB.out.mono ?_
      rintro e w2 ⟨rfl, hk2⟩
      go_wp2_with fail
      refine bodyPost_ret (results_tmp rfl _ _ _) rfl ?_
      exact ⟨by first | rfl | (simp; omega), hk2⟩
  · have hd : (decide (0 ≤ k ∧ k < (n : Int))) = false := decide_eq_false (fun h => hk h.1)
    rw [hd]
    clear hd
    go_enter Try.func31, Try.ntmps31
    go_wp2_with fail
    refine bodyPost_ret (results_tmp rfl _ _ _) rfl ?_
    exact ⟨rfl, Keep.refl _ _⟩
set_option maxRecDepth 100000 in
set_option maxHeartbeats 1000000 in
theorem p_block {w : World} {q n sz c N gb : Nat} {lv : Value} {left : Int} {t : TypeId} (h : w.heap[q]? = some (.cells (dkCells sz (.slice (some ⟨gb, 0, none⟩) N N) lv left c) t (0, 0))) (hN : N = n * sz) (h0 : 0 < sz) (hs : sz ≤ 4096) (hn : n ≤ 16384) {k : Nat} (hk : k < n) :
    Calls Try.prog 34 #[.pointer (some ⟨q, 0, none⟩), .int .i64 k] w fun e w' => e = .returned (.slice (some ⟨gb, k * sz, none⟩) sz (N - k * sz)) ∧ Keep [] w w' := by
  obtain ⟨c0, c1, c2, c3, c4⟩ := dk_cells h
  clear h c2 c3 c4
  have hkm : k * sz + sz ≤ n * sz := by
    have := Nat.mul_le_mul_right sz (show k + 1 ≤ n from hk)
    rw [Nat.succ_mul] at this
    exact this
  have hmx := mul_le_disk hn hs
  obtain ⟨x, hx⟩ : ∃ x, x = k * sz := ⟨_, rfl⟩
  obtain ⟨y, hy⟩ : ∃ y, y = x + sz := ⟨_, rfl⟩
  have hw1 : IntKind.i64.wrap ((k : Int) * (sz : Int)) = (x : Int) := (IntWalk.i64_in _ (by rw [← Int.natCast_mul, ← hx]; omega)).trans (by rw [← Int.natCast_mul, ← hx])
  have hw2 : IntKind.i64.wrap ((k : Int) + 1) = (k : Int) + 1 := IntWalk.i64_in _ (by omega)
  have e1 : ((k : Int) + 1) * (sz : Int) = (y : Int) := by rw [Int.add_mul, ← Int.natCast_mul, ← hx]; omega
  have hw3 : IntKind.i64.wrap (((k : Int) + 1) * (sz : Int)) = (y : Int) := (IntWalk.i64_in _ (by rw [e1]; omega)).trans e1
  have q1 : (0 : Int) ≤ (x : Int) := by omega
  have q2 : (x : Int) ≤ (y : Int) := by omega
  have q3 : (y : Int) ≤ (N : Int) := by omega
  have q4 : ¬ N = x := by omega
  rw [← hx]
  have HY := Lib.hid hy
  clear hx hkm hmx hy hN e1 hn hk
  go_enter Try.func34, Try.ntmps34
  go_upto_region 1 with fail
  go_quiet (fail)
  go_wp2_with fail
  refine bodyPost_ret (results_tmp rfl _ _ _) rfl ?_
  have e2 : y - x = sz := by have := HY.out; omega
  rw [e2]
  exact ⟨rfl, (Keep.refl _ _).drewN _⟩
end Go.Proofs.Ytdeghoigpcbmcaa
