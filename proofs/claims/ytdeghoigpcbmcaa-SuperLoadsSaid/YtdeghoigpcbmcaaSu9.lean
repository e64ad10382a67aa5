/- Super: the disk: New, Read. Printed by gen-su9.py. -/
import Derived.Test.YtdeghoigpcbmcaaSu8
import Derived.Conc.SmallLaws
namespace Go.Proofs.Ytdeghoigpcbmcaa
open Go.RowKit Go.Emb

theorem chan_info : (Try.prog.info? 94).map (fun i => (i.zero, i.size, i.bytes)) = some (some (.agg #[]), 0, 0) := by kernel_rfl
theorem make_c (w : World) : (Instr.makeChan 59 (.int .i64 0)).run Try.prog w = .ok (.chan (some w.heap.size)) (w.alloc (.chan 0 #[] false 0 0 false)) := by
  obtain ⟨i0, hi, hz0, hz1, hz2⟩ := info_parts chan_info
  simpa using Go.Conc.run_makeChan (P := Try.prog) (w := w) Try.underlying59 hi .i64 0 (by omega) (by rw [hz2]; omega)
def NewP (w : World) (n sz : Nat) (e : Ending) (w' : World) : Prop :=
  ∃ q D, e = .returned (.tuple #[.pointer (some ⟨q, 0, none⟩), .int .i64 0]) ∧ DK w' q 0 D ⟨n, sz, List.replicate (n * sz) 0, -1, false⟩ ∧ (∀ b ∈ D, w.heap.size ≤ b) ∧ Keep [] w w'
theorem new_dk {w : World} {n sz q gb c : Nat} (h : 1 ≤ n ∧ n ≤ 16384 ∧ 64 ≤ sz ∧ sz ≤ 4096) (hq : w.heap[q]? = some (.cells (dkCells sz (.slice (some ⟨gb, 0, none⟩) (n * sz) (n * sz)) (.slice none 0 0) (-1) c) 61 (0, 0)))
    (hb : BB w gb (List.replicate (n * sz) 0)) (hc : w.heap[c]? = some (.chan 0 #[] false 0 0 false)) : DK w q 0 [q, gb, c] ⟨n, sz, List.replicate (n * sz) 0, -1, false⟩ :=
  ⟨gb, c, _, [], none, 0, 0, rfl, hq, hb, hc, Row.nil _ _ _, Nat.le_refl _, h.1, h.2.1, h.2.2.1, h.2.2.2, List.length_replicate, by simp, by simp⟩
set_option maxRecDepth 100000 in
set_option maxHeartbeats 2000000 in
theorem p_new {w : World} {n sz : Nat} (h1 : 1 ≤ n) (h2 : n ≤ 16384) (h3 : 64 ≤ sz) (h4 : sz ≤ 4096) :
    Calls Try.prog 8 #[.int .i64 n, .int .i64 sz] w (NewP w n sz) := by
  have q1 : ¬ (n : Int) < 1 := by omega
  have q2 : ¬ (16384 : Int) < (n : Int) := by omega
  have q3 : ¬ (sz : Int) < 64 := by omega
  have q4 : ¬ (4096 : Int) < (sz : Int) := by omega
  have hmx := mul_le_disk h2 h4
  have HOK := Lib.hid (show 1 ≤ n ∧ n ≤ 16384 ∧ 64 ≤ sz ∧ sz ≤ 4096 from ⟨h1, h2, h3, h4⟩)
  obtain ⟨N, hN⟩ : ∃ N, N = n * sz := ⟨_, rfl⟩
  have hwn : IntKind.i64.wrap ((n : Int) * (sz : Int)) = (N : Int) := (IntWalk.i64_in _ (by rw [← Int.natCast_mul]; omega)).trans (by rw [← Int.natCast_mul, hN])
  rw [← hN] at hmx
  have HN := Lib.hid hN
  have hN9 : N ≤ 1000000000 := by omega
  clear h1 h2 h3 h4 hN hmx
  go_enter Try.func8, Try.ntmps8
  go_upto_region 3 with fail
  refine wp_region_held_drew (S := fun w' => True) (by kernel_rfl) trivial (fun hHeld => ?_)
  have hkd : Keep [] w w.drew := (Keep.refl [] w).drew
  generalize w.drew = wa at *
  refine wpAnyH_takeL (i := 0) (v := ?vA0) rfl (by kernel_rfl) (by kernel_rfl) (by kernel_rfl) (fun _ _ _ h => h) (Or.inl ⟨by kernel_rfl, ?runA0⟩) hHeld ?_
  case runA0 => (intro w9 hS9; go_simp; try exact rfl)
  try simp only [Act.put, List.setIfInBounds_toArray, List.set_cons_zero, List.set_cons_succ]
  refine wpAnyH_takeL (i := 1) (v := ?vA1) rfl (by kernel_rfl) (by kernel_rfl) (by kernel_rfl) (fun _ _ _ h => h) (Or.inl ⟨by kernel_rfl, ?runA1⟩) hHeld ?_
  case runA1 => (intro w9 hS9; go_simp; try exact rfl)
  try simp only [Act.put, List.setIfInBounds_toArray, List.set_cons_zero, List.set_cons_succ]
  refine wpAnyH_takeL (i := 2) (v := ?vA2) rfl (by kernel_rfl) (by kernel_rfl) (by kernel_rfl) (fun _ _ _ h => h) (Or.inl ⟨by kernel_rfl, ?runA2⟩) hHeld ?_
  case runA2 => (intro w9 hS9; go_simp; try exact rfl)
  try simp only [Act.put, List.setIfInBounds_toArray, List.set_cons_zero, List.set_cons_succ]
  refine wpAnyH_takeL (i := 3) (v := ?vA3) rfl (by kernel_rfl) (by kernel_rfl) (by kernel_rfl) (fun _ _ _ h => h) (Or.inl ⟨by kernel_rfl, ?runA3⟩) hHeld ?_
  case runA3 => (intro w9 hS9; go_simp; try exact rfl)
  try simp only [Act.put, List.setIfInBounds_toArray, List.set_cons_zero, List.set_cons_succ]
  refine wpAnyH_ready (rs := [4, 5]) (by kernel_rfl) (by simp) ?_
  refine AllReadyH.consL rfl (fun K hK => ?_) (AllReadyH.consL rfl (fun K hK => ?_) AllReadyH.nil)
  · obtain ⟨wb, hmk, hbb, hkb⟩ := make_b wa N hN9
    go_simp
    refine hK.out _ _ trivial (fun _ => ?_)
    clear hK K hmk
    try simp only [Act.put, List.setIfInBounds_toArray, List.set_cons_zero, List.set_cons_succ]
    refine wpAnyH_ready (rs := [5]) (by kernel_rfl) (by simp) ?_
    refine AllReadyH.consL rfl (fun K hK => ?_) AllReadyH.nil
    have hmc := make_c wb
    go_simp
    refine hK.out _ _ trivial (fun _ => ?_)
    clear hK K hmc
    try simp only [Act.put, List.setIfInBounds_toArray, List.set_cons_zero, List.set_cons_succ]
    refine wpAnyH_takeL (i := 6) (v := ?vB6) rfl (by kernel_rfl) (by kernel_rfl) (by kernel_rfl) (fun _ _ _ h => h) (Or.inl ⟨by kernel_rfl, ?runB6⟩) hHeld ?_
    case runB6 => (intro w9 hS9; go_simp; try exact rfl)
    try simp only [Act.put, List.setIfInBounds_toArray, List.set_cons_zero, List.set_cons_succ]
    refine wpAnyH_ready (rs := [7]) (by kernel_rfl) (by simp) ?_
    refine AllReadyH.consL rfl (fun K hK => ?_) AllReadyH.nil
    go_simp
    refine hK.out _ _ trivial (fun _ => ?_)
    clear hK K
    try simp only [Act.put, List.setIfInBounds_toArray, List.set_cons_zero, List.set_cons_succ]
    refine wpAnyH_takeL (i := 8) (v := ?vB8) rfl (by kernel_rfl) (by kernel_rfl) (by kernel_rfl) (fun _ _ _ h => h) (Or.inl ⟨by kernel_rfl, ?runB8⟩) hHeld ?_
    case runB8 => (intro w9 hS9; go_simp; try exact rfl)
    try simp only [Act.put, List.setIfInBounds_toArray, List.set_cons_zero, List.set_cons_succ]
    refine wpAnyH_takeL (i := 9) (v := ?vB9) rfl (by kernel_rfl) (by kernel_rfl) (by kernel_rfl) (fun _ _ _ h => h) (Or.inl ⟨by kernel_rfl, ?runB9⟩) hHeld ?_
    case runB9 => (intro w9 hS9; go_simp; try exact rfl)
    try simp only [Act.put, List.setIfInBounds_toArray, List.set_cons_zero, List.set_cons_succ]
    refine wpAnyH_done (by kernel_rfl) ?_ _
    go_wp2_with fail
    refine bodyPost_ret (results_tmp2 rfl _ _ _) rfl ?_
    have hc := heap_alloc_new wb (.chan 0 #[] false 0 0 false)
    have hq := heap_alloc_new (wb.alloc (.chan 0 #[] false 0 0 false)) (.cells (dkCells sz (.slice (some ⟨wa.heap.size, 0, none⟩) N N) (.slice none 0 0) (-1) wb.heap.size) 61)
    have k1 := (Keep.refl [] wb).alloc (.chan 0 #[] false 0 0 false)
    have k2 := (Keep.refl [] (wb.alloc (.chan 0 #[] false 0 0 false))).alloc (.cells (dkCells sz (.slice (some ⟨wa.heap.size, 0, none⟩) N N) (.slice none 0 0) (-1) wb.heap.size) 61)
    have hs1 := hkd.size
    have hs2 := hkb.size
    have hs3 := k1.size
    have hNN := HN.out
    clear HN
    subst hNN
    have es : (wb.alloc (.chan 0 #[] false 0 0 false)).heap.size = wb.heap.size + 1 := by simp
    rw [es] at hq
    exact ⟨_, _, rfl, new_dk (gb := wa.heap.size) (c := wb.heap.size) HOK.out hq ((hbb.keep k1 (by simp)).keep k2 (by simp)) (blkk hc k2 (by simp)), by simp; omega, ((hkd.trans hkb (by simp)).trans k1 (by simp)).trans k2 (by simp)⟩
  · have hmc := make_c wa
    go_simp
    refine hK.out _ _ trivial (fun _ => ?_)
    clear hK K hmc
    try simp only [Act.put, List.setIfInBounds_toArray, List.set_cons_zero, List.set_cons_succ]
    refine wpAnyH_ready (rs := [4]) (by kernel_rfl) (by simp) ?_
    refine AllReadyH.consL rfl (fun K hK => ?_) AllReadyH.nil
    obtain ⟨wb, hmk, hbb, hkb⟩ := make_b (wa.alloc (.chan 0 #[] false 0 0 false)) N hN9
    go_simp
    refine hK.out _ _ trivial (fun _ => ?_)
    clear hK K hmk
    try simp only [Act.put, List.setIfInBounds_toArray, List.set_cons_zero, List.set_cons_succ]
    refine wpAnyH_takeL (i := 6) (v := ?vC6) rfl (by kernel_rfl) (by kernel_rfl) (by kernel_rfl) (fun _ _ _ h => h) (Or.inl ⟨by kernel_rfl, ?runC6⟩) hHeld ?_
    case runC6 => (intro w9 hS9; go_simp; try exact rfl)
    try simp only [Act.put, List.setIfInBounds_toArray, List.set_cons_zero, List.set_cons_succ]
    refine wpAnyH_ready (rs := [7]) (by kernel_rfl) (by simp) ?_
    refine AllReadyH.consL rfl (fun K hK => ?_) AllReadyH.nil
    go_simp
    refine hK.out _ _ trivial (fun _ => ?_)
    clear hK K
    try simp only [Act.put, List.setIfInBounds_toArray, List.set_cons_zero, List.set_cons_succ]
    refine wpAnyH_takeL (i := 8) (v := ?vC8) rfl (by kernel_rfl) (by kernel_rfl) (by kernel_rfl) (fun _ _ _ h => h) (Or.inl ⟨by kernel_rfl, ?runC8⟩) hHeld ?_
    case runC8 => (intro w9 hS9; go_simp; try exact rfl)
    try simp only [Act.put, List.setIfInBounds_toArray, List.set_cons_zero, List.set_cons_succ]
    refine wpAnyH_takeL (i := 9) (v := ?vC9) rfl (by kernel_rfl) (by kernel_rfl) (by kernel_rfl) (fun _ _ _ h => h) (Or.inl ⟨by kernel_rfl, ?runC9⟩) hHeld ?_
    case runC9 => (intro w9 hS9; go_simp; try exact rfl)
    try simp only [Act.put, List.setIfInBounds_toArray, List.set_cons_zero, List.set_cons_succ]
    refine wpAnyH_done (by kernel_rfl) ?_ _
    go_wp2_with fail
    refine bodyPost_ret (results_tmp2 rfl _ _ _) rfl ?_
    have hc := heap_alloc_new wa (.chan 0 #[] false 0 0 false)
    have hq := heap_alloc_new wb (.cells (dkCells sz (.slice (some ⟨(wa.alloc (.chan 0 #[] false 0 0 false)).heap.size, 0, none⟩) N N) (.slice none 0 0) (-1) wa.heap.size) 61)
    have k1 := (Keep.refl [] wa).alloc (.chan 0 #[] false 0 0 false)
    have k2 := (Keep.refl [] wb).alloc (.cells (dkCells sz (.slice (some ⟨(wa.alloc (.chan 0 #[] false 0 0 false)).heap.size, 0, none⟩) N N) (.slice none 0 0) (-1) wa.heap.size) 61)
    have hs1 := hkd.size
    have hs2 := hkb.size
    have hs3 := k1.size
    have es : (wa.alloc (.chan 0 #[] false 0 0 false)).heap.size = wa.heap.size + 1 := by simp
    rw [es] at hbb hq k2
    have hNN := HN.out
    clear HN
    subst hNN
    exact ⟨_, _, rfl, new_dk HOK.out hq (hbb.keep k2 (by simp)) (blkk (blkk hc hkb (by simp)) k2 (by simp)), by simp; omega, ((hkd.trans k1 (by simp)).trans hkb (by simp)).trans k2 (by simp)⟩
end Go.Proofs.Ytdeghoigpcbmcaa
