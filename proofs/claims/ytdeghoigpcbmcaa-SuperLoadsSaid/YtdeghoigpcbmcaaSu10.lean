/- Super: the disk: Read, Cut, Restore. -/
import Derived.Test.YtdeghoigpcbmcaaSu9
namespace Go.Proofs.Ytdeghoigpcbmcaa
open Go.RowKit Go.Emb

def blkOf (d : DS) (k : Nat) : List UInt8 := (d.L.drop (k * d.sz)).take d.sz
theorem blk_le {d : DS} (h : d.ok) {k : Nat} (hk : k < d.n) : k * d.sz + d.sz ≤ d.n * d.sz := by
  have := Nat.mul_le_mul_right d.sz (show k + 1 ≤ d.n from hk)
  rw [Nat.succ_mul] at this
  exact this
theorem blkOf_len {d : DS} (h : d.ok) {k : Nat} (hk : k < d.n) : (blkOf d k).length = d.sz := by
  have h1 := blk_le h hk
  have h2 := h.2.2.2.2.1
  unfold blkOf
  rw [List.length_take, List.length_drop]
  omega
def ReadP (w : World) (d : DS) (k : Int) (e : Ending) (w' : World) : Prop :=
  (¬ (0 ≤ k ∧ k < d.n) ∧ e = .returned (.tuple #[.slice none 0 0, .int .i64 2]) ∨
   (0 ≤ k ∧ k < d.n) ∧ d.off = true ∧ e = .returned (.tuple #[.slice none 0 0, .int .i64 20]) ∨
   (0 ≤ k ∧ k < d.n) ∧ d.off = false ∧ ∃ v o, e = .returned (.tuple #[v, .int .i64 0]) ∧ RB w' v (blkOf d k.toNat) o ∧ (∀ b, o = some b → w.heap.size ≤ b)) ∧ Keep [] w w'
set_option maxRecDepth 100000 in
set_option maxHeartbeats 1000000 in
theorem p_read {w : World} {q m : Nat} {D : List Nat} {d : DS} (h : DK w q m D d) (k : Int) :
    Calls Try.prog 15 #[.pointer (some ⟨q, 0, none⟩), .int .i64 k] w (ReadP w d k) := by
  obtain ⟨gb, c, logv, logs, lo, s, r, rfl, h1, h2, h3, h4, h5, h6⟩ := h
  have ok := h6
  obtain ⟨o1, o2, o3, o4, o5, o6, o7⟩ := h6
  have HH := Lib.hid (p_has h1 rfl (by omega) o2 k)
  have HD := fun (w2 : World) (hk2 : Keep [] w w2) => p_dead (blkk h1 hk2 (by simp)) ((hk2.block c (Array.getElem?_eq_some_iff.1 h3).1 (by simp)).trans h3)
  have HDD := Lib.hid HD
  have H1 := Lib.hid h1
  have H2 := Lib.hid h2
  have OK := Lib.hid ok
  clear HD h1 h2 h3 h4 h5 o1 o2 o3 o4 o5 o6 o7 ok
  by_cases hk : 0 ≤ k ∧ k < (d.n : Int)
  · rw [decide_eq_true hk] at HH
    have HK := Lib.hid hk
    clear hk
    cases hoff : d.off with
    | true =>
      rw [hoff] at HDD
      go_enter Try.func15, Try.ntmps15
      go_wp2_with fail
      refine HH.out.mono ?_
      rintro e w2 ⟨rfl, hk2⟩
      go_wp2_with fail
      refine (HDD.out w2 hk2).mono ?_
      rintro e w3 ⟨rfl, rfl⟩
      go_wp2_with fail
      refine bodyPost_ret (results_tmp2 rfl _ _ _) rfl ?_
      exact ⟨.inr (.inl ⟨HK.out, hoff, rfl⟩), hk2⟩
    | false =>
      rw [hoff] at HDD
      have HOFF := Lib.hid hoff
      clear hoff
      obtain ⟨kn, rfl⟩ : ∃ n : Nat, k = n := ⟨k.toNat, by have := HK.out; omega⟩
      have hkn : kn < d.n := by have := HK.out; omega
      have HKN := Lib.hid hkn
      clear hkn
      go_enter Try.func15, Try.ntmps15
      go_wp2_with fail
      refine HH.out.mono ?_
      rintro e w2 ⟨rfl, hk2⟩
      go_wp2_with fail
      refine (HDD.out w2 hk2).mono ?_
      rintro e w3 ⟨rfl, rfl⟩
      have hblk := p_block (blkk H1.out hk2 (by simp)) rfl (by have := OK.out.2.2.1; omega) OK.out.2.2.2.1 OK.out.2.1 HKN.out
      have HBLK := Lib.hid hblk
      clear hblk
      go_wp2_with fail
      refine HBLK.out.mono ?_
      rintro e w4 ⟨rfl, hk4⟩
      have hkw := hk2.trans hk4 (by simp)
      have hle := blk_le OK.out HKN.out
      have hmx := mul_le_disk OK.out.2.1 OK.out.2.2.2.1
      have hrd := (H2.out.keep hkw (by simp)).rd (off := kn * d.sz) (n := d.sz) (c := d.n * d.sz - kn * d.sz) (by rw [OK.out.2.2.2.2.1]; exact hle) (by omega) (by unfold maxLen; omega)
      have hcl := p_clone hrd (by rw [List.length_take]; have := OK.out.2.2.2.1; omega)
      rw [show List.take d.sz (List.drop (kn * d.sz) d.L) = blkOf d kn from rfl] at hcl
      have HCL := Lib.hid hcl
      have HKW := Lib.hid hkw
      clear hcl hrd hkw hle hmx hk2 hk4
      go_wp2_with fail
      refine HCL.out.mono ?_
      rintro e w5 ⟨v5, o5, rfl, hrb, hfr, hk5⟩
      obtain ⟨va, vc, rfl, -⟩ := hrb.form
      have HRB := Lib.hid hrb
      have HFR := Lib.hid hfr
      have HK5 := Lib.hid hk5
      clear hrb hfr hk5
      go_wp2_with fail
      refine bodyPost_ret (results_tmp2 rfl _ _ _) rfl ?_
      refine ⟨.inr (.inr ⟨HK.out, HOFF.out, _, o5, rfl, ?_, fun b hb => Nat.le_trans HKW.out.size (HFR.out b hb)⟩), HKW.out.trans HK5.out (by simp)⟩
      have hx := HRB.out
      rw [Int.toNat_natCast]
      exact hx
  · rw [decide_eq_false hk] at HH
    have HK := Lib.hid hk
    clear hk
    go_enter Try.func15, Try.ntmps15
    go_wp2_with fail
    refine HH.out.mono ?_
    rintro e w2 ⟨rfl, hk2⟩
    go_wp2_with fail
    refine bodyPost_ret (results_tmp2 rfl _ _ _) rfl ?_
    exact ⟨.inl ⟨HK.out, rfl⟩, hk2⟩
theorem cells_ne {w : World} {a b : Nat} {x y : Array Value} {t u : TypeId} (h1 : w.heap[a]? = some (.cells x t (0, 0))) (h2 : w.heap[b]? = some (.cells y u (0, 0))) (hn : t ≠ u) : a ≠ b := by
  rintro rfl
  rw [h1] at h2
  injection h2 with h2
  injection h2 with _ h3 _
  exact hn h3
theorem chan_ne {w : World} {a b : Nat} {x : Array Value} {t : TypeId} {n s r : Nat} {f : Array Value} {cl tm : Bool} (h1 : w.heap[a]? = some (.cells x t (0, 0))) (h2 : w.heap[b]? = some (.chan n f cl s r tm)) : a ≠ b := by
  rintro rfl
  rw [h1] at h2
  cases h2
theorem row_ne {w : World} {E k n b : Nat} {v : Value} {xs : List Value} {lo : Option Nat} {o : Obj} (h : Row w E k v n xs lo) (h2 : w.heap[b]? = some o) (hn : ∀ cs, o ≠ .cells cs E (0, 0)) : ∀ l, lo = some l → l ≠ b := by
  rintro l hl rfl
  obtain ⟨-, ⟨h3, -⟩ | ⟨b', off, cap, cs, h3, -, h4, -⟩⟩ := h
  · rw [h3] at hl; cases hl
  · rw [h3] at hl
    cases hl
    rw [h2] at h4
    cases h4
    exact hn cs rfl
/-- the record alone is written -/
theorem dk_turn {w w' : World} {q m sz n c c0 gb s r : Nat} {L : List UInt8} {logv : Value} {logs : List Value} {lo : Option Nat} {left left' : Int} {off : Bool}
    (h1 : w.heap[q]? = some (.cells (dkCells sz (.slice (some ⟨gb, 0, none⟩) (n * sz) (n * sz)) logv left c0) 61 (0, 0))) (h2 : BB w gb L) (h3 : w.heap[c]? = some (.chan 0 #[] off s r false)) (h4 : Row w 3 1 logv logs.length logs lo) (h5 : logs.length ≤ m)
    (hk : Keep [q] w w') (hq : w'.heap[q]? = some (.cells (dkCells sz (.slice (some ⟨gb, 0, none⟩) (n * sz) (n * sz)) logv left' c) 61 (0, 0))) (ok : DS.ok ⟨n, sz, L, left', off⟩) : DK w' q m (q :: gb :: c :: lo.toList) ⟨n, sz, L, left', off⟩ := by
  have n1 := cells_ne h1 h2 (by decide)
  have n2 := chan_ne h1 h3
  have n3 := row_ne h4 h1 (fun cs h => by injection h with _ h _; exact absurd h (by decide))
  refine ⟨gb, c, logv, logs, lo, s, r, rfl, hq, h2.keep hk (by simp; exact fun h => n1 h.symm), ?_, Row.keep h4 hk (fun b hb => by simp; exact n3 b hb), h5, ok⟩
  exact (hk.block c (Array.getElem?_eq_some_iff.1 h3).1 (by simp; exact fun h => n2 h.symm)).trans h3
/-- Cut -/
def cutD (d : DS) (a : Int) : DS := if d.off = true then d else { d with left := max a (-1) }
def restD (d : DS) : DS := { d with left := -1, off := false }
theorem set_dk {w : World} {q sz c : Nat} {bv lv : Value} {left : Int} {t : TypeId} (h : w.heap[q]? = some (.cells (dkCells sz bv lv left c) t (0, 0))) (l2 : Int) :
    (w.setCell ⟨q, 3, none⟩ (.int .i64 l2)).heap[q]? = some (.cells (dkCells sz bv lv l2 c) t (0, 0)) := heap_setCell_at h _
set_option maxRecDepth 100000 in
set_option maxHeartbeats 1000000 in
theorem d_cut {w : World} {q m : Nat} {D : List Nat} {d : DS} (h : DK w q m D d) (a : Int) (ha : a ≤ 9223372036854775807) :
    Calls Try.prog 17 #[.pointer (some ⟨q, 0, none⟩), .int .i64 a] w fun e w' => e = .returned (.tuple #[]) ∧ DK w' q m D (cutD d a) ∧ Keep D w w' := by
  obtain ⟨gb, c, logv, logs, lo, s, r, rfl, h1, h2, h3, h4, h5, h6⟩ := id h
  have HD := p_dead h1 h3
  have HDD := Lib.hid HD
  have H := Lib.hid h
  obtain ⟨c0, c1, c2, c3, c4⟩ := dk_cells h1
  have f4 := frozen3 h1
  have H1 := Lib.hid h1
  have H2 := Lib.hid h2
  have H3 := Lib.hid h3
  have H4 := Lib.hid h4
  have H56 := Lib.hid (And.intro h5 h6)
  clear HD h h1 h2 h3 h4 h5 h6 c0 c1 c2 c4
  cases hoff : d.off with
  | true =>
    rw [hoff] at HDD
    have HOFF := Lib.hid hoff
    clear hoff
    go_enter Try.func17, Try.ntmps17
    go_wp2_with fail
    refine HDD.out.mono ?_
    rintro e w3 ⟨rfl, rfl⟩
    go_wp2_with fail
    go_end0
    refine ⟨rfl, ?_, Keep.refl _ _⟩
    unfold cutD
    rw [if_pos HOFF.out]
    exact H.out
  | false =>
    rw [hoff] at HDD
    have HOFF := Lib.hid hoff
    clear hoff
    go_enter Try.func17, Try.ntmps17
    go_wp2_with fail
    refine HDD.out.mono ?_
    rintro e w3 ⟨rfl, rfl⟩
    go_wp2_with fail
    go_end0
    refine ⟨rfl, ?_, (Keep.refl _ _).setCell (.inl (by simp)) _⟩
    unfold cutD
    rw [if_neg (by rw [HOFF.out]; simp)]
    have ok := H56.out.2
    exact dk_turn H1.out H2.out H3.out H4.out H56.out.1 ((Keep.refl _ _).setCell (.inl (by simp)) _) (set_dk H1.out _) ⟨ok.1, ok.2.1, ok.2.2.1, ok.2.2.2.1, ok.2.2.2.2.1, by show -1 ≤ max a (-1); omega, by show max a (-1) ≤ _; omega⟩
end Go.Proofs.Ytdeghoigpcbmcaa
