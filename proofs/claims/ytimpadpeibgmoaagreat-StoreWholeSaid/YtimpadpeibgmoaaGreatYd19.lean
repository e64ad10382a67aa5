/- A part of the proof (Su10, Su11, Su12), joined by squeeze2.py. -/
import Derived.Test.YtimpadpeibgmoaaGreatYd18
import Derived.Lib.SliceRun
set_option maxHeartbeats 8000000
set_option maxRecDepth 100000
namespace Go.Proofs.YtimpadpeibgmoaaGreat
open Go.RowKit Go.Emb
def blkOf (d : DS) (k : Nat) : List UInt8 := (d.L.drop (k * d.sz)).take d.sz
theorem blk_le {d : DS} (h : d.ok) {k : Nat} (hk : k < d.n) : k * d.sz + d.sz ≤ d.n * d.sz := by
 have := Nat.mul_le_mul_right d.sz (show k + 1 ≤ d.n from hk)
 rw [Nat.succ_mul] at this
 exact this
theorem blkOf_len {d : DS} (h : d.ok) {k : Nat} (hk : k < d.n) : (blkOf d k).length = d.sz := by
 have h1 := blk_le h hk
 have h2 := h.2.2.2.2.1
 unfold blkOf
 rw [List.length_take, List.length_drop]
 omega
def ReadP (w : World) (d : DS) (k : Int) (e : Ending) (w' : World) : Prop :=
 (¬ (0 ≤ k ∧ k < d.n) ∧ e = .returned (.tuple #[.slice none 0 0, .int .i64 2]) ∨
  (0 ≤ k ∧ k < d.n) ∧ d.off = true ∧ e = .returned (.tuple #[.slice none 0 0, .int .i64 20]) ∨
  (0 ≤ k ∧ k < d.n) ∧ d.off = false ∧ ∃ v o, e = .returned (.tuple #[v, .int .i64 0]) ∧ RB w' v (blkOf d k.toNat) o ∧ (∀ b, o = some b → w.heap.size ≤ b)) ∧ Keep [] w w'
theorem p_read {w : World} {q : Nat} {m : List Int} {D : List Nat} {d : DS} (h : DK w q m D d) (k : Int) :
  Calls Tryz.prog 69 #[.pointer (some ⟨q, 0, none⟩), .int .i64 k] w (ReadP w d k) := by
 obtain ⟨gb, c, logv, logs, lo, s, r, rfl, h1, h2, h3, h4, h5, h6⟩ := h
 have ok := h6
 obtain ⟨o1, o2, o3, o4, o5, o6, o7⟩ := h6
 have HH := hyd (p_has h1 rfl (by omega) o2 k)
 have HD := fun (w2 : World) (hk2 : Keep [] w w2) => p_dead (blkk h1 hk2 (by simp)) ((hk2.block c (Array.getElem?_eq_some_iff.1 h3).1 (by simp)).trans h3)
 have HDD := hyd HD
 have H1 := hyd h1
 have H2 := hyd h2
 have OK := hyd ok
 clear HD h1 h2 h3 h4 h5 o1 o2 o3 o4 o5 o6 o7 ok
 by_cases hk : 0 ≤ k ∧ k < (d.n : Int)
 ·rw [decide_eq_true hk] at HH
  have HK := hyd hk
  clear hk
  cases hoff : d.off with
  | true =>
   rw [hoff] at HDD
   go_enter Tryz.func69, Tryz.ntmps69
   go_wp2_with fail
   refine HH.o.mono ?_
   rintro e w2 ⟨rfl, hk2⟩
   go_wp2_with fail
   refine (HDD.o w2 hk2).mono ?_
   rintro e w3 ⟨rfl, rfl⟩
   go_wp2_with fail
   refine bodyPost_ret (results_tmp2 rfl _ _ _) rfl ?_
   exact ⟨.inr (.inl ⟨HK.o, hoff, rfl⟩), hk2⟩
  | false =>
   rw [hoff] at HDD
   have HOFF := hyd hoff
   clear hoff
   obtain ⟨kn, rfl⟩ : ∃ n : Nat, k = n := ⟨k.toNat, by have := HK.o; omega⟩
   have hkn : kn < d.n := by have := HK.o; omega
   have HKN := hyd hkn
   clear hkn
   go_enter Tryz.func69, Tryz.ntmps69
   go_wp2_with fail
   refine HH.o.mono ?_
   rintro e w2 ⟨rfl, hk2⟩
   go_wp2_with fail
   refine (HDD.o w2 hk2).mono ?_
   rintro e w3 ⟨rfl, rfl⟩
   have hblk := p_block (blkk H1.o hk2 (by simp)) rfl (by have := OK.o.2.2.1; omega) OK.o.2.2.2.1 OK.o.2.1 HKN.o
   have HBLK := hyd hblk
   clear hblk
   go_wp2_with fail
   refine HBLK.o.mono ?_
   rintro e w4 ⟨rfl, hk4⟩
   have hkw := hk2.trans hk4 (by simp)
   have hle := blk_le OK.o HKN.o
   have hmx := mul_le_disk OK.o.2.1 OK.o.2.2.2.1
   have hrd := (H2.o.keep hkw (by simp)).rd (off := kn * d.sz) (n := d.sz) (c := d.n * d.sz - kn * d.sz) (by rw [OK.o.2.2.2.2.1]; exact hle) (by omega) (by unfold maxLen; omega)
   have hcl := p_clone hrd (by rw [List.length_take]; have := OK.o.2.2.2.1; omega)
   rw [show List.take d.sz (List.drop (kn * d.sz) d.L) = blkOf d kn from rfl] at hcl
   have HCL := hyd hcl
   have HKW := hyd hkw
   clear hcl hrd hkw hle hmx hk2 hk4
   go_wp2_with fail
   refine HCL.o.mono ?_
   rintro e w5 ⟨v5, o5, rfl, hrb, hfr, hk5⟩
   obtain ⟨va, vc, rfl, -⟩ := hrb.form
   have HRB := hyd hrb
   have HFR := hyd hfr
   have HK5 := hyd hk5
   clear hrb hfr hk5
   go_wp2_with fail
   refine bodyPost_ret (results_tmp2 rfl _ _ _) rfl ?_
   refine ⟨.inr (.inr ⟨HK.o, HOFF.o, _, o5, rfl, ?_, fun b hb => Nat.le_trans HKW.o.size (HFR.o b hb)⟩), HKW.o.trans HK5.o (by simp)⟩
   have hx := HRB.o
   rw [Int.toNat_natCast]
   exact hx
 ·rw [decide_eq_false hk] at HH
  have HK := hyd hk
  clear hk
  go_enter Tryz.func69, Tryz.ntmps69
  go_wp2_with fail
  refine HH.o.mono ?_
  rintro e w2 ⟨rfl, hk2⟩
  go_wp2_with fail
  refine bodyPost_ret (results_tmp2 rfl _ _ _) rfl ?_
  exact ⟨.inl ⟨HK.o, rfl⟩, hk2⟩
theorem cells_ne {w : World} {a b : Nat} {x y : Array Value} {t u : TypeId} (h1 : w.heap[a]? = some (.cells x t (0, 0))) (h2 : w.heap[b]? = some (.cells y u (0, 0))) (hn : t ≠ u) : a ≠ b := by
 rintro rfl
 rw [h1] at h2
 injection h2 with h2
 injection h2 with _ h3 _
 exact hn h3
theorem chan_ne {w : World} {a b : Nat} {x : Array Value} {t : TypeId} {n s r : Nat} {f : Array Value} {cl tm : Bool} (h1 : w.heap[a]? = some (.cells x t (0, 0))) (h2 : w.heap[b]? = some (.chan n f cl s r tm)) : a ≠ b := by
 rintro rfl
 rw [h1] at h2
 cases h2
theorem row_ne {w : World} {E k n b : Nat} {v : Value} {xs : List Value} {lo : Option Nat} {o : Obj} (h : Row w E k v n xs lo) (h2 : w.heap[b]? = some o) (hn : ∀ cs, o ≠ .cells cs E (0, 0)) : ∀ l, lo = some l → l ≠ b := by
 rintro l hl rfl
 obtain ⟨-, ⟨h3, -⟩ | ⟨b', off, cap, cs, h3, -, h4, -⟩⟩ := h
 ·rw [h3] at hl; cases hl
 ·rw [h3] at hl
  cases hl
  rw [h2] at h4
  cases h4
  exact hn cs rfl
theorem dk_turn {w w' : World} {q sz n c c0 gb s r : Nat} {m : List Int} {L : List UInt8} {logv : Value} {logs : List Value} {lo : Option Nat} {left left' : Int} {off : Bool}
  (h1 : w.heap[q]? = some (.cells (dkCells sz (.slice (some ⟨gb, 0, none⟩) (n * sz) (n * sz)) logv left c0) 78 (0, 0))) (h2 : BB w gb L) (h3 : w.heap[c]? = some (.chan 0 #[] off s r false)) (h4 : Row w 3 1 logv logs.length logs lo) (h5 : logs = m.map (Value.int .i64))
  (hk : Keep [q] w w') (hq : w'.heap[q]? = some (.cells (dkCells sz (.slice (some ⟨gb, 0, none⟩) (n * sz) (n * sz)) logv left' c) 78 (0, 0))) (ok : DS.ok ⟨n, sz, L, left', off⟩) : DK w' q m (q :: gb :: c :: lo.toList) ⟨n, sz, L, left', off⟩ := by
 have n1 := cells_ne h1 h2 (by decide)
 have n2 := chan_ne h1 h3
 have n3 := row_ne h4 h1 (fun cs h => by injection h with _ h _; exact absurd h (by decide))
 refine ⟨gb, c, logv, logs, lo, s, r, rfl, hq, h2.keep hk (by simp; exact fun h => n1 h.symm), ?_, Row.keep h4 hk (fun b hb => by simp; exact n3 b hb), h5, ok⟩
 exact (hk.block c (Array.getElem?_eq_some_iff.1 h3).1 (by simp; exact fun h => n2 h.symm)).trans h3
def cutD (d : DS) (a : Int) : DS := if d.off = true then d else { d with left := max a (-1) }
def restD (d : DS) : DS := { d with left := -1, off := false }
theorem set_dk {w : World} {q sz c : Nat} {bv lv : Value} {left : Int} {t : TypeId} (h : w.heap[q]? = some (.cells (dkCells sz bv lv left c) t (0, 0))) (l2 : Int) :
  (w.setCell ⟨q, 3, none⟩ (.int .i64 l2)).heap[q]? = some (.cells (dkCells sz bv lv l2 c) t (0, 0)) := heap_setCell_at h _
theorem d_cut {w : World} {q : Nat} {m : List Int} {D : List Nat} {d : DS} (h : DK w q m D d) (a : Int) (ha : a ≤ 9223372036854775807) :
  Calls Tryz.prog 24 #[.pointer (some ⟨q, 0, none⟩), .int .i64 a] w fun e w' => e = .returned (.tuple #[]) ∧ DK w' q m D (cutD d a) ∧ Keep D w w' := by
 obtain ⟨gb, c, logv, logs, lo, s, r, rfl, h1, h2, h3, h4, h5, h6⟩ := id h
 have HD := p_dead h1 h3
 have HDD := hyd HD
 have H := hyd h
 obtain ⟨c0, c1, c2, c3, c4⟩ := dk_cells h1
 have f4 := frozen3 h1
 have H1 := hyd h1
 have H2 := hyd h2
 have H3 := hyd h3
 have H4 := hyd h4
 have H56 := hyd (And.intro h5 h6)
 clear HD h h1 h2 h3 h4 h5 h6 c0 c1 c2 c4
 cases hoff : d.off with
 | true =>
  rw [hoff] at HDD
  have HOFF := hyd hoff
  clear hoff
  go_enter Tryz.func24, Tryz.ntmps24
  go_wp2_with fail
  refine HDD.o.mono ?_
  rintro e w3 ⟨rfl, rfl⟩
  go_wp2_with fail
  go_end0
  refine ⟨rfl, ?_, Keep.refl _ _⟩
  unfold cutD
  rw [if_pos HOFF.o]
  exact H.o
 | false =>
  rw [hoff] at HDD
  have HOFF := hyd hoff
  clear hoff
  go_enter Tryz.func24, Tryz.ntmps24
  go_wp2_with fail
  refine HDD.o.mono ?_
  rintro e w3 ⟨rfl, rfl⟩
  go_wp2_with fail
  go_end0
  refine ⟨rfl, ?_, (Keep.refl _ _).setCell (.inl (by simp)) _⟩
  unfold cutD
  rw [if_neg (by rw [HOFF.o]; simp)]
  have ok := H56.o.2
  exact dk_turn H1.o H2.o H3.o H4.o H56.o.1 ((Keep.refl _ _).setCell (.inl (by simp)) _) (set_dk H1.o _) ⟨ok.1, ok.2.1, ok.2.2.1, ok.2.2.2.1, ok.2.2.2.2.1, by show -1 ≤ max a (-1); omega, by show max a (-1) ≤ _; omega⟩
def RestP (w : World) (q : Nat) (m : List Int) (D : List Nat) (d : DS) (e : Ending) (w' : World) : Prop :=
 ∃ D', e = .returned (.tuple #[]) ∧ DK w' q m D' (restD d) ∧ (∀ b ∈ D', b ∈ D ∨ w.heap.size ≤ b) ∧ Keep D w w'
theorem dk_rest {w w' : World} {q sz n c c0 gb s r : Nat} {m : List Int} {L : List UInt8} {logv : Value} {logs : List Value} {lo : Option Nat} {left left' : Int} {off : Bool}
  (h1 : w.heap[q]? = some (.cells (dkCells sz (.slice (some ⟨gb, 0, none⟩) (n * sz) (n * sz)) logv left c0) 78 (0, 0))) (h2 : BB w gb L) (h4 : Row w 3 1 logv logs.length logs lo) (h5 : logs = m.map (Value.int .i64))
  (hk : Keep [q] w w') (hq : w'.heap[q]? = some (.cells (dkCells sz (.slice (some ⟨gb, 0, none⟩) (n * sz) (n * sz)) logv left' c) 78 (0, 0))) (h3 : w'.heap[c]? = some (.chan 0 #[] off s r false)) (ok : DS.ok ⟨n, sz, L, left', off⟩) : DK w' q m (q :: gb :: c :: lo.toList) ⟨n, sz, L, left', off⟩ := by
 have n1 := cells_ne h1 h2 (by decide)
 have n3 := row_ne h4 h1 (fun cs h => by injection h with _ h _; exact absurd h (by decide))
 exact ⟨gb, c, logv, logs, lo, s, r, rfl, hq, h2.keep hk (by simp; exact fun h => n1 h.symm), h3, Row.keep h4 hk (fun b hb => by simp; exact n3 b hb), h5, ok⟩
theorem d_rest {w : World} {q : Nat} {m : List Int} {D : List Nat} {d : DS} (h : DK w q m D d) :
  Calls Tryz.prog 25 #[.pointer (some ⟨q, 0, none⟩)] w (RestP w q m D d) := by
 obtain ⟨gb, c, logv, logs, lo, s, r, rfl, h1, h2, h3, h4, h5, h6⟩ := h
 have H1 := hyd h1
 have H2 := hyd h2
 have H4 := hyd h4
 have H56 := hyd (And.intro h5 h6)
 clear h1 h2 h3 h4 h5 h6
 go_enter Tryz.func25, Tryz.ntmps25
 go_upto_region 1 with fail
 refine wp_region_held_drew (S := fun w' => True) (by kernel_rfl) trivial (fun hHeld => ?_)
 have hkd : Keep [] w w.drew := (Keep.refl [] w).drew
 generalize w.drew = wa at *
 refine tkL 0 ?vA0 rfl ?runA0 hHeld ?_
 case runA0 => (intro w9 hS9; go_simp; try exact rfl)
 try simp only [Act.put, lA, lZ, lS]
 refine tkL 1 ?vA1 rfl ?runA1 hHeld ?_
 case runA1 => (intro w9 hS9; go_simp; try exact rfl)
 try simp only [Act.put, lA, lZ, lS]
 refine tkL 3 ?vA3 rfl ?runA3 hHeld ?_
 case runA3 => (intro w9 hS9; go_simp; try exact rfl)
 try simp only [Act.put, lA, lZ, lS]
 refine tkL 4 ?vA4 rfl ?runA4 hHeld ?_
 case runA4 => (intro w9 hS9; go_simp; try exact rfl)
 try simp only [Act.put, lA, lZ, lS]
 refine wpAnyH_ready (rs := [2, 5]) (by kernel_rfl) (by simp) ?_
 refine AllReadyH.consL rfl (fun K hK => ?_) (AllReadyH.consL rfl (fun K hK => ?_) AllReadyH.nil)
 ·have hmc := make_c wa
  go_simp
  refine hK.out _ _ trivial (fun _ => ?_)
  clear hK K hmc
  try simp only [Act.put, lA, lZ, lS]
  have hkc := hkd.trans ((Keep.refl [] wa).alloc (.chan 0 #[] false 0 0 false)) (by simp)
  have hch := heap_alloc_new wa (.chan 0 #[] false 0 0 false)
  have hqc := blkk H1.o hkc (by simp)
  have HKC := hyd hkc
  have HCH := hyd hch
  have HQC := hyd hqc
  clear hkc hch hqc
  have hcn := hkd.size
  generalize wa.alloc (.chan 0 #[] false 0 0 false) = wc at *
  generalize wa.heap.size = cn at *
  refine rdH 5 rfl (fun K hK => ?_)
  obtain ⟨c0, c1, c2, c3, c4⟩ := dk_cells HQC.o
  have f4 := frozen3 HQC.o
  go_simp
  refine hK.out _ _ trivial (fun _ => ?_)
  clear hK K c0 c1 c2 c3 c4 f4
  try simp only [Act.put, lA, lZ, lS]
  have hq2 := set_dk HQC.o (-1)
  have hk2 := (Keep.refl [q] wc).setCell (p := ⟨q, 3, none⟩) (.inl (by simp)) (.int .i64 (-1))
  have hn1 := chan_ne HQC.o HCH.o
  have HCD := hyd ((hk2.block cn (Array.getElem?_eq_some_iff.1 HCH.o).1 (by simp; exact fun h => hn1 h.symm)).trans HCH.o)
  have HQ2 := hyd hq2
  have HKD := hyd ((HKC.o.mono (G := [q]) (by simp)).trans hk2 (by simp))
  clear hq2 hk2 hn1
  generalize wc.setCell ⟨q, 3, none⟩ (.int .i64 (-1)) = wd at *
  refine tkL 6 ?vB6 rfl ?runB6 hHeld ?_
  case runB6 => (intro w9 hS9; go_simp; try exact rfl)
  try simp only [Act.put, lA, lZ, lS]
  refine tkL 7 ?vB7 rfl ?runB7 hHeld ?_
  case runB7 => (intro w9 hS9; go_simp; try exact rfl)
  try simp only [Act.put, lA, lZ, lS]
  refine rdH 8 rfl (fun K hK => ?_)
  obtain ⟨c0, c1, c2, c3, c4⟩ := dk_cells HQ2.o
  have f4 := frozen3 HQ2.o
  go_simp
  refine hK.out _ _ trivial (fun _ => ?_)
  clear hK K c0 c1 c2 c3 c4 f4
  try simp only [Act.put, lA, lZ, lS]
  refine wpAnyH_done (by kernel_rfl) ?_ _
  go_wp2_with fail
  go_end0
  have hq3 : (wd.setCell ⟨q, 4, none⟩ (.chan (some cn))).heap[q]? = some (.cells (dkCells d.sz (.slice (some ⟨gb, 0, none⟩) (d.n * d.sz) (d.n * d.sz)) logv (-1) cn) 78 (0, 0)) := heap_setCell_at HQ2.o _
  have hk3 := HKD.o.setCell (p := ⟨q, 4, none⟩) (.inl (by simp)) (.chan (some cn))
  have ok := H56.o.2
  have hn2 := chan_ne HQ2.o HCD.o
  have hcd := (((Keep.refl [q] wd).setCell (p := ⟨q, 4, none⟩) (.inl (by simp)) (.chan (some cn))).block cn (Array.getElem?_eq_some_iff.1 HCD.o).1 (by simp; exact fun h => hn2 h.symm)).trans HCD.o
  have hdk := dk_rest (left' := -1) H1.o H2.o H4.o H56.o.1 hk3 hq3 hcd ⟨ok.1, ok.2.1, ok.2.2.1, ok.2.2.2.1, ok.2.2.2.2.1, by simp, by simp⟩
  refine ⟨_, rfl, hdk, ?_, hk3.mono (by simp)⟩
  intro b hb
  simp only [List.mem_cons] at hb ⊢
  rcases hb with rfl | rfl | rfl | hb
  ·simp
  ·simp
  ·exact .inr hcn
  ·exact .inl (.inr (.inr (.inr hb)))
 ·have hqa := blkk H1.o hkd (by simp)
  obtain ⟨c0, c1, c2, c3, c4⟩ := dk_cells hqa
  have f4 := frozen3 hqa
  go_simp
  refine hK.out _ _ trivial (fun _ => ?_)
  clear hK K c0 c1 c2 c3 c4 f4
  try simp only [Act.put, lA, lZ, lS]
  have hq2 := set_dk hqa (-1)
  have hk2 := (hkd.mono (G := [q]) (by simp)).setCell (p := ⟨q, 3, none⟩) (.inl (by simp)) (.int .i64 (-1))
  have HQC := hyd hq2
  have HKC := hyd hk2
  clear hqa hq2 hk2
  generalize wa.setCell ⟨q, 3, none⟩ (.int .i64 (-1)) = wc at *
  refine rdH 2 rfl (fun K hK => ?_)
  have hmc := make_c wc
  go_simp
  refine hK.out _ _ trivial (fun _ => ?_)
  clear hK K hmc
  try simp only [Act.put, lA, lZ, lS]
  have hka := (Keep.refl [] wc).alloc (.chan 0 #[] false 0 0 false)
  have HCD := hyd (heap_alloc_new wc (.chan 0 #[] false 0 0 false))
  have HQ2 := hyd (blkk HQC.o hka (by simp))
  have HKD := hyd (HKC.o.trans hka (by simp))
  have hcn := HKC.o.size
  clear hka
  generalize wc.alloc (.chan 0 #[] false 0 0 false) = wd at *
  generalize wc.heap.size = cn at *
  refine tkL 6 ?vC6 rfl ?runC6 hHeld ?_
  case runC6 => (intro w9 hS9; go_simp; try exact rfl)
  try simp only [Act.put, lA, lZ, lS]
  refine tkL 7 ?vC7 rfl ?runC7 hHeld ?_
  case runC7 => (intro w9 hS9; go_simp; try exact rfl)
  try simp only [Act.put, lA, lZ, lS]
  refine rdH 8 rfl (fun K hK => ?_)
  obtain ⟨c0, c1, c2, c3, c4⟩ := dk_cells HQ2.o
  have f4 := frozen3 HQ2.o
  go_simp
  refine hK.out _ _ trivial (fun _ => ?_)
  clear hK K c0 c1 c2 c3 c4 f4
  try simp only [Act.put, lA, lZ, lS]
  refine wpAnyH_done (by kernel_rfl) ?_ _
  go_wp2_with fail
  go_end0
  have hq3 : (wd.setCell ⟨q, 4, none⟩ (.chan (some cn))).heap[q]? = some (.cells (dkCells d.sz (.slice (some ⟨gb, 0, none⟩) (d.n * d.sz) (d.n * d.sz)) logv (-1) cn) 78 (0, 0)) := heap_setCell_at HQ2.o _
  have hk3 := HKD.o.setCell (p := ⟨q, 4, none⟩) (.inl (by simp)) (.chan (some cn))
  have ok := H56.o.2
  have hn2 := chan_ne HQ2.o HCD.o
  have hcd := (((Keep.refl [q] wd).setCell (p := ⟨q, 4, none⟩) (.inl (by simp)) (.chan (some cn))).block cn (Array.getElem?_eq_some_iff.1 HCD.o).1 (by simp; exact fun h => hn2 h.symm)).trans HCD.o
  have hdk := dk_rest (left' := -1) H1.o H2.o H4.o H56.o.1 hk3 hq3 hcd ⟨ok.1, ok.2.1, ok.2.2.1, ok.2.2.2.1, ok.2.2.2.2.1, by simp, by simp⟩
  refine ⟨_, rfl, hdk, ?_, hk3.mono (by simp)⟩
  intro b hb
  simp only [List.mem_cons] at hb ⊢
  rcases hb with rfl | rfl | rfl | hb
  ·simp
  ·simp
  ·exact .inr hcn
  ·exact .inl (.inr (.inr (.inr hb)))
theorem clear_b {w : World} {g off n cap : Nat} {bs : List UInt8} {ty : TypeId} (hb : BB w g bs) (hfit : off + n ≤ bs.length) (h0 : 0 < n) :
  ∃ w', (Builtin.clear_ #[35] ty #[.slice (some ⟨g, off, none⟩) n cap]).run Tryz.prog w = .ok (.tuple #[]) w' ∧ BB w' g (bs.take off ++ List.replicate n 0 ++ bs.drop (off + n)) ∧ Keep [g] w w' := by
 obtain ⟨i0, hi, hz0, hz1, hz2⟩ := u8_ok
 have hzv : ∀ w, (zeroValue 5).run Tryz.prog w = .ok (Value.int .u8 0) w := fun w => by simp [zeroValue, typeInfo, hi, hz0]
 have hzc : (Builtin.zeroCells (Value.int .u8 0).cells n).toList = List.replicate n (Value.int .u8 0) := by
  have e : (Value.int IntKind.u8 0).cells = #[Value.int .u8 0] := rfl
  rw [e]
  simp [Builtin.zeroCells]
  apply List.ext_getElem
  ·simp
  ·intro i h1 h2
   simp [Nat.mod_one]
 have hst := run_storeCells_at Tryz.prog g off 5 (List.replicate n (Value.int .u8 0)) 0 _ w hb (by simp [Lib.byteCells]; omega) (fun v hv => by rw [(List.mem_replicate.1 hv).2]; rfl)
 obtain ⟨n', rfl⟩ : ∃ n', n = n' + 1 := ⟨n - 1, by omega⟩
 simp only [Nat.add_zero, List.length_replicate] at hst
 refine ⟨w.setRow g ((Lib.byteCells bs).toArray.toList.take off ++ List.replicate (n' + 1) (Value.int .u8 0) ++ (Lib.byteCells bs).toArray.toList.drop (off + (n' + 1))).toArray, ?_, ?_, ⟨rfl, rfl, rfl, by simp [World.setRow], fun k _ hk => setRow_other w g k _ (by simpa using hk)⟩⟩
 ·simp only [Builtin.clear_, Sem.run_bind, run_underlying Tryz.underlying35, Result.andThen_ok, hzv, hzc, hst]
  simp [run_underlying Tryz.underlying35, hzv, hzc, hst]
 ·unfold BB
  rw [setRow_heap w g _ _ 5 _ hb]
  simp [Lib.byteCells, List.map_take, List.map_drop]
theorem clear_0 (w : World) (a : Option Addr) (cap : Nat) (ty : TypeId) : (Builtin.clear_ #[35] ty #[.slice a 0 cap]).run Tryz.prog w = .ok (.tuple #[]) w := by
 cases a <;> simp [Builtin.clear_, run_underlying Tryz.underlying35]
def putB (d : DS) (k : Nat) (p : List UInt8) : List UInt8 := d.L.take (k * d.sz) ++ p ++ List.replicate (d.sz - p.length) 0 ++ d.L.drop (k * d.sz + d.sz)
theorem putB_len {d : DS} (h : d.ok) {k : Nat} (hk : k < d.n) {p : List UInt8} (hp : p.length ≤ d.sz) : (putB d k p).length = d.n * d.sz := by
 have h1 := blk_le h hk
 have h2 := h.2.2.2.2.1
 unfold putB
 simp only [List.length_append, List.length_take, List.length_drop, List.length_replicate]
 omega
theorem putB_full {d : DS} (h : d.ok) {k : Nat} (hk : k < d.n) {p : List UInt8} (hp : p.length = d.sz) : d.L.take (k * d.sz) ++ p ++ d.L.drop (k * d.sz + p.length) = putB d k p := by
 unfold putB
 rw [hp, Nat.sub_self]
 simp
theorem putB_short {d : DS} (h : d.ok) {k : Nat} (hk : k < d.n) {p : List UInt8} (hp : p.length < d.sz) :
  ((d.L.take (k * d.sz) ++ p ++ d.L.drop (k * d.sz + p.length)).take (k * d.sz + p.length) ++ List.replicate (d.sz - p.length) 0 ++ (d.L.take (k * d.sz) ++ p ++ d.L.drop (k * d.sz + p.length)).drop (k * d.sz + p.length + (d.sz - p.length))) = putB d k p := by
 have h1 := blk_le h hk
 have h2 := h.2.2.2.2.1
 have hl : (d.L.take (k * d.sz) ++ p).length = k * d.sz + p.length := by rw [List.length_append, List.length_take]; omega
 unfold putB
 rw [List.take_left' hl, List.drop_append, hl, List.drop_of_length_le (by omega), List.nil_append, List.drop_drop]
 congr 2
 omega
def writeD (d : DS) (k : Int) (p : List UInt8) : Int × DS :=
 if ¬ (0 ≤ k ∧ k < d.n) then (2, d)
 else if d.sz < p.length then (1, d)
 else if d.off = true then (20, d)
 else if d.left = 0 then (20, { d with off := true })
 else (0, { d with left := if 0 < d.left then d.left - 1 else d.left, L := putB d k.toNat p })
theorem one_src {P : Program} {tx e' : TypeId} (hk : P.underlying tx = some (.slice e')) (w : World) (x : Value) (hx : x.oneCell' = true) (t : TypeId) : Src P 1 tx (.slice (some ⟨w.heap.size, 0, none⟩) 1 1) 1 [x] (w.alloc (.cells #[x] t)) :=
 Src.ofSlice _ hk _ 1 1 [x] rfl (fun j u hu => by
   cases j with
   | zero => simp at hu; subst hu; simp [Addr.add]
   | succ j => simp at hu) (by simpa using hx)
theorem int_info : (Tryz.prog.info? 3).map (fun i => (i.zero, i.size, i.bytes)) = some (some (.int .i64 0), 1, 8) := by kernel_rfl
end Go.Proofs.YtimpadpeibgmoaaGreat
