/- Super: the disk: Restore. Printed by gen-su11.py. -/
import Derived.Test.YtdeghoigpcbmcaaSu10
namespace Go.Proofs.Ytdeghoigpcbmcaa
open Go.RowKit Go.Emb

def RestP (w : World) (q m : Nat) (D : List Nat) (d : DS) (e : Ending) (w' : World) : Prop :=
  ∃ D', e = .returned (.tuple #[]) ∧ DK w' q m D' (restD d) ∧ (∀ b ∈ D', b ∈ D ∨ w.heap.size ≤ b) ∧ Keep D w w'
theorem dk_rest {w w' : World} {q m sz n c c0 gb s r : Nat} {L : List UInt8} {logv : Value} {logs : List Value} {lo : Option Nat} {left left' : Int} {off : Bool}
    (h1 : w.heap[q]? = some (.cells (dkCells sz (.slice (some ⟨gb, 0, none⟩) (n * sz) (n * sz)) logv left c0) 61 (0, 0))) (h2 : BB w gb L) (h4 : Row w 3 1 logv logs.length logs lo) (h5 : logs.length ≤ m)
    (hk : Keep [q] w w') (hq : w'.heap[q]? = some (.cells (dkCells sz (.slice (some ⟨gb, 0, none⟩) (n * sz) (n * sz)) logv left' c) 61 (0, 0))) (h3 : w'.heap[c]? = some (.chan 0 #[] off s r false)) (ok : DS.ok ⟨n, sz, L, left', off⟩) : DK w' q m (q :: gb :: c :: lo.toList) ⟨n, sz, L, left', off⟩ := by
  have n1 := cells_ne h1 h2 (by decide)
  have n3 := row_ne h4 h1 (fun cs h => by injection h with _ h _; exact absurd h (by decide))
  exact ⟨gb, c, logv, logs, lo, s, r, rfl, hq, h2.keep hk (by simp; exact fun h => n1 h.symm), h3, Row.keep h4 hk (fun b hb => by simp; exact n3 b hb), h5, ok⟩
set_option maxRecDepth 100000 in
set_option maxHeartbeats 2000000 in
theorem d_rest {w : World} {q m : Nat} {D : List Nat} {d : DS} (h : DK w q m D d) :
    Calls Try.prog 18 #[.pointer (some ⟨q, 0, none⟩)] w (RestP w q m D d) := by
  obtain ⟨gb, c, logv, logs, lo, s, r, rfl, h1, h2, h3, h4, h5, h6⟩ := h
  have H1 := Lib.hid h1
  have H2 := Lib.hid h2
  have H4 := Lib.hid h4
  have H56 := Lib.hid (And.intro h5 h6)
  clear h1 h2 h3 h4 h5 h6
  go_enter Try.func18, Try.ntmps18
  go_upto_region 1 with fail
  refine wp_region_held_drew (S := fun w' => True) (by kernel_rfl) trivial (fun hHeld => ?_)
  have hkd : Keep [] w w.drew := (Keep.refl [] w).drew
  generalize w.drew = wa at *
  refine wpAnyH_takeL (i := 0) (v := ?vA0) rfl (by kernel_rfl) (by kernel_rfl) (by kernel_rfl) (fun _ _ _ h => h) (Or.inl ⟨by kernel_rfl, ?runA0⟩) hHeld ?_
  case runA0 => (intro w9 hS9; go_simp; try exact rfl)
  try simp only [Act.put, List.setIfInBounds_toArray, List.set_cons_zero, List.set_cons_succ]
  refine wpAnyH_takeL (i := 1) (v := ?vA1) rfl (by kernel_rfl) (by kernel_rfl) (by kernel_rfl) (fun _ _ _ h => h) (Or.inl ⟨by kernel_rfl, ?runA1⟩) hHeld ?_
  case runA1 => (intro w9 hS9; go_simp; try exact rfl)
  try simp only [Act.put, List.setIfInBounds_toArray, List.set_cons_zero, List.set_cons_succ]
  refine wpAnyH_takeL (i := 3) (v := ?vA3) rfl (by kernel_rfl) (by kernel_rfl) (by kernel_rfl) (fun _ _ _ h => h) (Or.inl ⟨by kernel_rfl, ?runA3⟩) hHeld ?_
  case runA3 => (intro w9 hS9; go_simp; try exact rfl)
  try simp only [Act.put, List.setIfInBounds_toArray, List.set_cons_zero, List.set_cons_succ]
  refine wpAnyH_takeL (i := 4) (v := ?vA4) rfl (by kernel_rfl) (by kernel_rfl) (by kernel_rfl) (fun _ _ _ h => h) (Or.inl ⟨by kernel_rfl, ?runA4⟩) hHeld ?_
  case runA4 => (intro w9 hS9; go_simp; try exact rfl)
  try simp only [Act.put, List.setIfInBounds_toArray, List.set_cons_zero, List.set_cons_succ]
  refine wpAnyH_ready (rs := [2, 5]) (by kernel_rfl) (by simp) ?_
  refine AllReadyH.consL rfl (fun K hK => ?_) (AllReadyH.consL rfl (fun K hK => ?_) AllReadyH.nil)
  · have hmc := make_c wa
    go_simp
    refine hK.out _ _ trivial (fun _ => ?_)
    clear hK K hmc
    try simp only [Act.put, List.setIfInBounds_toArray, List.set_cons_zero, List.set_cons_succ]
    have hkc := hkd.trans ((Keep.refl [] wa).alloc (.chan 0 #[] false 0 0 false)) (by simp)
    have hch := heap_alloc_new wa (.chan 0 #[] false 0 0 false)
    have hqc := blkk H1.out hkc (by simp)
    have HKC := Lib.hid hkc
    have HCH := Lib.hid hch
    have HQC := Lib.hid hqc
    clear hkc hch hqc
    have hcn := hkd.size
    generalize wa.alloc (.chan 0 #[] false 0 0 false) = wc at *
    generalize wa.heap.size = cn at *
    refine wpAnyH_ready (rs := [5]) (by kernel_rfl) (by simp) ?_
    refine AllReadyH.consL rfl (fun K hK => ?_) AllReadyH.nil
    obtain ⟨c0, c1, c2, c3, c4⟩ := dk_cells HQC.out
    have f4 := frozen3 HQC.out
    go_simp
    refine hK.out _ _ trivial (fun _ => ?_)
    clear hK K c0 c1 c2 c3 c4 f4
    try simp only [Act.put, List.setIfInBounds_toArray, List.set_cons_zero, List.set_cons_succ]
    have hq2 := set_dk HQC.out (-1)
    have hk2 := (Keep.refl [q] wc).setCell (p := ⟨q, 3, none⟩) (.inl (by simp)) (.int .i64 (-1))
    have hn1 := chan_ne HQC.out HCH.out
    have HCD := Lib.hid ((hk2.block cn (Array.getElem?_eq_some_iff.1 HCH.out).1 (by simp; exact fun h => hn1 h.symm)).trans HCH.out)
    have HQ2 := Lib.hid hq2
    have HKD := Lib.hid ((HKC.out.mono (G := [q]) (by simp)).trans hk2 (by simp))
    clear hq2 hk2 hn1
    generalize wc.setCell ⟨q, 3, none⟩ (.int .i64 (-1)) = wd at *
    refine wpAnyH_takeL (i := 6) (v := ?vB6) rfl (by kernel_rfl) (by kernel_rfl) (by kernel_rfl) (fun _ _ _ h => h) (Or.inl ⟨by kernel_rfl, ?runB6⟩) hHeld ?_
    case runB6 => (intro w9 hS9; go_simp; try exact rfl)
    try simp only [Act.put, List.setIfInBounds_toArray, List.set_cons_zero, List.set_cons_succ]
    refine wpAnyH_takeL (i := 7) (v := ?vB7) rfl (by kernel_rfl) (by kernel_rfl) (by kernel_rfl) (fun _ _ _ h => h) (Or.inl ⟨by kernel_rfl, ?runB7⟩) hHeld ?_
    case runB7 => (intro w9 hS9; go_simp; try exact rfl)
    try simp only [Act.put, List.setIfInBounds_toArray, List.set_cons_zero, List.set_cons_succ]
    refine wpAnyH_ready (rs := [8]) (by kernel_rfl) (by simp) ?_
    refine AllReadyH.consL rfl (fun K hK => ?_) AllReadyH.nil
    obtain ⟨c0, c1, c2, c3, c4⟩ := dk_cells HQ2.out
    have f4 := frozen3 HQ2.out
    go_simp
    refine hK.out _ _ trivial (fun _ => ?_)
    clear hK K c0 c1 c2 c3 c4 f4
    try simp only [Act.put, List.setIfInBounds_toArray, List.set_cons_zero, List.set_cons_succ]
    refine wpAnyH_done (by kernel_rfl) ?_ _
    go_wp2_with fail
    go_end0
    have hq3 : (wd.setCell ⟨q, 4, none⟩ (.chan (some cn))).heap[q]? = some (.cells (dkCells d.sz (.slice (some ⟨gb, 0, none⟩) (d.n * d.sz) (d.n * d.sz)) logv (-1) cn) 61 (0, 0)) := heap_setCell_at HQ2.out _
    have hk3 := HKD.out.setCell (p := ⟨q, 4, none⟩) (.inl (by simp)) (.chan (some cn))
    have ok := H56.out.2
    have hn2 := chan_ne HQ2.out HCD.out
    have hcd := (((Keep.refl [q] wd).setCell (p := ⟨q, 4, none⟩) (.inl (by simp)) (.chan (some cn))).block cn (Array.getElem?_eq_some_iff.1 HCD.out).1 (by simp; exact fun h => hn2 h.symm)).trans HCD.out
    have hdk := dk_rest (left' := -1) H1.out H2.out H4.out H56.out.1 hk3 hq3 hcd ⟨ok.1, ok.2.1, ok.2.2.1, ok.2.2.2.1, ok.2.2.2.2.1, by simp, by simp⟩
    refine ⟨_, rfl, hdk, ?_, hk3.mono (by simp)⟩
    intro b hb
    simp only [List.mem_cons] at hb ⊢
    rcases hb with rfl | rfl | rfl | hb
    · simp
    · simp
    · exact .inr hcn
    · exact .inl (.inr (.inr (.inr hb)))
  · have hqa := blkk H1.out hkd (by simp)
    obtain ⟨c0, c1, c2, c3, c4⟩ := dk_cells hqa
    have f4 := frozen3 hqa
    go_simp
    refine hK.out _ _ trivial (fun _ => ?_)
    clear hK K c0 c1 c2 c3 c4 f4
    try simp only [Act.put, List.setIfInBounds_toArray, List.set_cons_zero, List.set_cons_succ]
    have hq2 := set_dk hqa (-1)
    have hk2 := (hkd.mono (G := [q]) (by simp)).setCell (p := ⟨q, 3, none⟩) (.inl (by simp)) (.int .i64 (-1))
    have HQC := Lib.hid hq2
    have HKC := Lib.hid hk2
    clear hqa hq2 hk2
    generalize wa.setCell ⟨q, 3, none⟩ (.int .i64 (-1)) = wc at *
    refine wpAnyH_ready (rs := [2]) (by kernel_rfl) (by simp) ?_
    refine AllReadyH.consL rfl (fun K hK => ?_) AllReadyH.nil
    have hmc := make_c wc
    go_simp
    refine hK.out _ _ trivial (fun _ => ?_)
    clear hK K hmc
    try simp only [Act.put, List.setIfInBounds_toArray, List.set_cons_zero, List.set_cons_succ]
    have hka := (Keep.refl [] wc).alloc (.chan 0 #[] false 0 0 false)
    have HCD := Lib.hid (heap_alloc_new wc (.chan 0 #[] false 0 0 false))
    have HQ2 := Lib.hid (blkk HQC.out hka (by simp))
    have HKD := Lib.hid (HKC.out.trans hka (by simp))
    have hcn := HKC.out.size
    clear hka
    generalize wc.alloc (.chan 0 #[] false 0 0 false) = wd at *
    generalize wc.heap.size = cn at *
    refine wpAnyH_takeL (i := 6) (v := ?vC6) rfl (by kernel_rfl) (by kernel_rfl) (by kernel_rfl) (fun _ _ _ h => h) (Or.inl ⟨by kernel_rfl, ?runC6⟩) hHeld ?_
    case runC6 => (intro w9 hS9; go_simp; try exact rfl)
    try simp only [Act.put, List.setIfInBounds_toArray, List.set_cons_zero, List.set_cons_succ]
    refine wpAnyH_takeL (i := 7) (v := ?vC7) rfl (by kernel_rfl) (by kernel_rfl) (by kernel_rfl) (fun _ _ _ h => h) (Or.inl ⟨by kernel_rfl, ?runC7⟩) hHeld ?_
    case runC7 => (intro w9 hS9; go_simp; try exact rfl)
    try simp only [Act.put, List.setIfInBounds_toArray, List.set_cons_zero, List.set_cons_succ]
    refine wpAnyH_ready (rs := [8]) (by kernel_rfl) (by simp) ?_
    refine AllReadyH.consL rfl (fun K hK => ?_) AllReadyH.nil
    obtain ⟨c0, c1, c2, c3, c4⟩ := dk_cells HQ2.out
    have f4 := frozen3 HQ2.out
    go_simp
    refine hK.out _ _ trivial (fun _ => ?_)
    clear hK K c0 c1 c2 c3 c4 f4
    try simp only [Act.put, List.setIfInBounds_toArray, List.set_cons_zero, List.set_cons_succ]
    refine wpAnyH_done (by kernel_rfl) ?_ _
    go_wp2_with fail
    go_end0
    have hq3 : (wd.setCell ⟨q, 4, none⟩ (.chan (some cn))).heap[q]? = some (.cells (dkCells d.sz (.slice (some ⟨gb, 0, none⟩) (d.n * d.sz) (d.n * d.sz)) logv (-1) cn) 61 (0, 0)) := heap_setCell_at HQ2.out _
    have hk3 := HKD.out.setCell (p := ⟨q, 4, none⟩) (.inl (by simp)) (.chan (some cn))
    have ok := H56.out.2
    have hn2 := chan_ne HQ2.out HCD.out
    have hcd := (((Keep.refl [q] wd).setCell (p := ⟨q, 4, none⟩) (.inl (by simp)) (.chan (some cn))).block cn (Array.getElem?_eq_some_iff.1 HCD.out).1 (by simp; exact fun h => hn2 h.symm)).trans HCD.out
    have hdk := dk_rest (left' := -1) H1.out H2.out H4.out H56.out.1 hk3 hq3 hcd ⟨ok.1, ok.2.1, ok.2.2.1, ok.2.2.2.1, ok.2.2.2.2.1, by simp, by simp⟩
    refine ⟨_, rfl, hdk, ?_, hk3.mono (by simp)⟩
    intro b hb
    simp only [List.mem_cons] at hb ⊢
    rcases hb with rfl | rfl | rfl | hb
    · simp
    · simp
    · exact .inr hcn
    · exact .inl (.inr (.inr (.inr hb)))
end Go.Proofs.Ytdeghoigpcbmcaa
