/- Super: Best. Printed by gen-su19.py. -/
import Derived.Test.YtdeghoigpcbmcaaSu18
namespace Go.Proofs.Ytdeghoigpcbmcaa
open Go.RowKit Go.Emb Go.Emb.Ext

def zSup : Sup := ⟨0, [], 0, 0⟩
def stepB (b : Sup) (ox : Option Sup) : Sup := match ox with
  | none => b
  | some x => if b.gen < x.gen then x else b
def bkN (ox : Nat → Option Sup) : Nat → Sup
  | 0 => zSup
  | k + 1 => stepB (bkN ox k) (ox k)
def BestP (w : World) (b : Sup) (e : Ending) (w' : World) : Prop :=
  ∃ pv po, e = .returned (.tuple #[aggS b pv, .int .i64 (if b.gen = 0 then 7 else 0)]) ∧ RowE w' pv b.ps po ∧ (∀ c, po = some c → w.heap.size ≤ c) ∧ Keep [] w w'
set_option maxRecDepth 100000 in
set_option maxHeartbeats 2000000 in
theorem s_best {w : World} {q m : Nat} {D : List Nat} {d : DS} {ox : Nat → Option Sup} (h : DK w q m D d) (h2 : 2 ≤ d.n) (hoff : d.off = false) (hs : ∀ k, k < 2 → SlotIs d k (ox k)) :
    Calls Try.prog 13 #[.pointer (some ⟨q, 0, none⟩)] w (BestP w (bkN ox 2)) := by
  have hk1 : Keep [] w (w.alloc (.cells #[.int .u64 0, .slice none 0 0, .int .i64 0, .int .i64 0] 25)) := (Keep.refl [] w).alloc _
  have hb1 := heap_alloc_new w (.cells #[.int .u64 0, .slice none 0 0, .int .i64 0, .int .i64 0] 25)
  have hsl := fun (W : World) (hW : Keep [] w W) (k : Nat) (hk : k < 2) => s_slot (h.keep0 hW) hk h2 hoff (hs k hk)
  have HSL := Lib.hid hsl
  have HK1 := Lib.hid hk1
  have HB1 := Lib.hid hb1
  clear h h2 hoff hs hsl hk1 hb1
  go_enter Try.func13, Try.ntmps13
  go_wp2_with fail
  go_loopw [7] (fun i wr => ∃ (k : Nat) (pv : Value) (po : Option Nat), k ≤ 2 ∧ i = .int .i64 k ∧ wr.heap[w.heap.size]? = some (.cells #[.int .u64 (bkN ox k).gen, pv, .int .i64 (bkN ox k).len, .int .i64 (bkN ox k).ep] 25) ∧ RowE wr pv (bkN ox k).ps po ∧ (∀ c, po = some c → w.heap.size < c) ∧ Keep [] w wr) (fun i _ => 2 - (RowKit.intOf i).toNat)
  case atStart => exact ⟨0, .slice none 0 0, none, by omega, rfl, HB1.out, RowE.nil _, (fun c hc => by cases hc), HK1.out⟩
  case round =>
    obtain ⟨k, pv, po, hk, rfl, hb, hrow, hpo, hkw⟩ := hrel
    have HB := Lib.hid hb
    have HROW := Lib.hid hrow
    have HPO := Lib.hid hpo
    have HKW := Lib.hid hkw
    obtain ⟨pa, pc, rfl⟩ := hrow.form
    have hlt0 := (Array.getElem?_eq_some_iff.1 hb).1
    have HLT0 := Lib.hid hlt0
    clear hb hrow hpo hkw hlt0
    by_cases hlt : k < 2
    · have q1 : (k : Int) < 2 := by omega
      have hcall := HSL.out wr HKW.out k hlt
      have HC := Lib.hid hcall
      have hnext : bkN ox (k + 1) = stepB (bkN ox k) (ox k) := rfl
      have HN := Lib.hid hnext
      clear hcall hnext
      generalize bkN ox k = bb at *
      obtain ⟨gen, ps, len, ep⟩ := bb
      simp only at *
      go_wp2_with fail
      refine HC.out.mono ?_
      rintro e w2 ⟨(⟨hox, rfl⟩ | ⟨x, xv, xo, hox, rfl, hrx, hxo⟩), hk2⟩
      · unfold zS
        have hb3 := blkk (blkk HB.out hk2 (by simp)) ((Keep.refl [] w2).alloc (.cells #[.int .u64 0, .slice none 0 0, .int .i64 0, .int .i64 0] 25)) (by simp)
        have hrow3 := (HROW.out.keep hk2 (by simp)).keep ((Keep.refl [] w2).alloc (.cells #[.int .u64 0, .slice none 0 0, .int .i64 0, .int .i64 0] 25)) (by simp)
        have hk3 := (HKW.out.trans hk2 (by simp)).alloc (.cells #[.int .u64 0, .slice none 0 0, .int .i64 0, .int .i64 0] 25)
        have hbn : bkN ox (k + 1) = ⟨gen, ps, len, ep⟩ := by rw [HN.out, hox]; rfl
        have HB3 := Lib.hid hb3
        have HROW3 := Lib.hid hrow3
        have HK3 := Lib.hid hk3
        have HBN := Lib.hid hbn
        clear hb3 hrow3 hk3 hbn hk2 hox
        go_wp2_with fail
        go_roundw
        case rel => exact ⟨k + 1, .slice pa ps.length pc, po, by omega, by go_num, by rw [HBN.out]; exact HB3.out, by rw [HBN.out]; exact HROW3.out, HPO.out, HK3.out⟩
        case measure => first | (simp [RowKit.intOf]; omega) | omega
      · obtain ⟨xa, xc, rfl⟩ := hrx.form
        obtain ⟨g2, p2, l2, e2⟩ := x
        unfold aggS
        simp only at hrx hox
        have hb3 := blkk (blkk HB.out hk2 (by simp)) ((Keep.refl [] w2).alloc (.cells #[.int .u64 g2, .slice xa p2.length xc, .int .i64 l2, .int .i64 e2] 25)) (by simp)
        have hrow3 := (HROW.out.keep hk2 (by simp)).keep ((Keep.refl [] w2).alloc (.cells #[.int .u64 g2, .slice xa p2.length xc, .int .i64 l2, .int .i64 e2] 25)) (by simp)
        have hrx3 := hrx.keep ((Keep.refl [] w2).alloc (.cells #[.int .u64 g2, .slice xa p2.length xc, .int .i64 l2, .int .i64 e2] 25)) (by simp)
        have hk3 := (HKW.out.trans hk2 (by simp)).alloc (.cells #[.int .u64 g2, .slice xa p2.length xc, .int .i64 l2, .int .i64 e2] 25)
        have hxo3 : ∀ c, xo = some c → w.heap.size < c := fun c hc => Nat.lt_of_lt_of_le HLT0.out (hxo c hc)
        have HB3 := Lib.hid hb3
        have HROW3 := Lib.hid hrow3
        have HRX3 := Lib.hid hrx3
        have HXO3 := Lib.hid hxo3
        have HK3 := Lib.hid hk3
        obtain ⟨d0, d1, d2, d3⟩ := cells4s hb3
        have f3 := frozen4 hb3
        by_cases hgt : gen < g2
        · have hgt' : (gen : Int) < (g2 : Int) := by omega
          have hbn : bkN ox (k + 1) = ⟨g2, p2, l2, e2⟩ := by rw [HN.out, hox]; exact if_pos hgt
          obtain ⟨hb6, hk6⟩ := set4 hb3 (.int .u64 g2) (.slice xa p2.length xc) (.int .i64 l2) (.int .i64 e2)
          have hrx6 := hrx3.keep hk6 (fun b hb => by have := hxo3 b hb; simp; omega)
          have HB6 := Lib.hid hb6
          have HRX6 := Lib.hid hrx6
          have HK6 := Lib.hid (hk3.trans hk6 (by simp))
          have HBN := Lib.hid hbn
          clear hb3 hrow3 hrx3 hk3 hbn hk2 hox hrx hxo hxo3 hb6 hrx6 hk6
          go_wp2_with fail
          go_roundw
          case rel => exact ⟨k + 1, .slice xa p2.length xc, xo, by omega, by go_num, by rw [HBN.out]; exact HB6.out, by rw [HBN.out]; exact HRX6.out, HXO3.out, HK6.out⟩
          case measure => first | (simp [RowKit.intOf]; omega) | omega
        · have hgt' : ¬ (gen : Int) < (g2 : Int) := by omega
          have hbn : bkN ox (k + 1) = ⟨gen, ps, len, ep⟩ := by rw [HN.out, hox]; exact if_neg hgt
          have HBN := Lib.hid hbn
          clear hb3 hrow3 hrx3 hk3 hbn hk2 hox hrx hxo hxo3
          go_wp2_with fail
          go_roundw
          case rel => exact ⟨k + 1, .slice pa ps.length pc, po, by omega, by go_num, by rw [HBN.out]; exact HB3.out, by rw [HBN.out]; exact HROW3.out, HPO.out, HK3.out⟩
          case measure => first | (simp [RowKit.intOf]; omega) | omega
    · have q1 : ¬ (k : Int) < 2 := by omega
      obtain rfl : k = 2 := by omega
      clear HSL
      generalize bkN ox 2 = bb at *
      obtain ⟨gen, ps, len, ep⟩ := bb
      simp only at *
      obtain ⟨d0, d1, d2, d3⟩ := cells4s HB.out
      have f3 := frozen4 HB.out
      obtain ⟨hb6, hk6⟩ := set4 HB.out (.int .u64 gen) (.slice pa ps.length pc) (.int .i64 len) (.int .i64 ep)
      have hrow6 := HROW.out.keep hk6 (fun b hb => by have := HPO.out b hb; simp; omega)
      have HB6 := Lib.hid hb6
      have HROW6 := Lib.hid hrow6
      have HK6 := Lib.hid (HKW.out.trans hk6 (by simp))
      clear hb6 hk6 hrow6
      by_cases h0 : gen = 0
      · subst h0
        go_wp2_with fail
        refine bodyPost_ret (results_cell_tmp rfl _ _ w.heap.size _ _ _ _ rfl HB6.out Try.underlying25 rfl super_size) rfl ?_
        exact ⟨_, po, rfl, HROW6.out, fun c hc => Nat.le_of_lt (HPO.out c hc), HK6.out⟩
      · have h0' : ((gen : Int) == 0) = false := beq_eq_false_iff_ne.2 (by omega)
        have h0n := Lib.hid h0
        clear h0
        go_wp2_with fail
        refine bodyPost_ret (results_cell_tmp rfl _ _ w.heap.size _ _ _ _ rfl HB6.out Try.underlying25 rfl super_size) rfl ?_
        exact ⟨_, po, by rw [if_neg h0n.out]; rfl, HROW6.out, fun c hc => Nat.le_of_lt (HPO.out c hc), HK6.out⟩
set_option maxRecDepth 100000 in
set_option maxHeartbeats 2000000 in
theorem s_best_nil {w : World} : Calls Try.prog 13 #[.pointer none] w fun e w' => e = .returned (.tuple #[zS, .int .i64 7]) ∧ Keep [] w w' := by
  have hk1 : Keep [] w (w.alloc (.cells #[.int .u64 0, .slice none 0 0, .int .i64 0, .int .i64 0] 25)) := (Keep.refl [] w).alloc _
  have hb1 := heap_alloc_new w (.cells #[.int .u64 0, .slice none 0 0, .int .i64 0, .int .i64 0] 25)
  have hsl := s_slot_nil (w := w.alloc (.cells #[.int .u64 0, .slice none 0 0, .int .i64 0, .int .i64 0] 25)) 0
  have HSL := Lib.hid hsl
  have HK1 := Lib.hid hk1
  have HB1 := Lib.hid hb1
  clear hsl hk1 hb1
  unfold zS at *
  go_enter Try.func13, Try.ntmps13
  go_wp2_with fail
  go_loopw [7] (fun i wr => ∃ (k : Nat), k = 0 ∧ i = .int .i64 k ∧ wr = w.alloc (.cells #[.int .u64 0, .slice none 0 0, .int .i64 0, .int .i64 0] 25)) (fun i _ => 2 - (RowKit.intOf i).toNat)
  case atStart => exact ⟨0, rfl, rfl, rfl⟩
  case round =>
    obtain ⟨k, rfl, rfl, rfl⟩ := hrel
    go_wp2_with fail
    refine HSL.out.mono ?_
    rintro e w2 ⟨rfl, hk2⟩
    have hb2 := blkk HB1.out hk2 (by simp)
    have hb3 := blkk hb2 ((Keep.refl [] w2).alloc (.cells #[.int .u64 0, .slice none 0 0, .int .i64 0, .int .i64 0] 25)) (by simp)
    have f3 := frozen4 hb3
    obtain ⟨d0, d1, d2, d3⟩ := cells4s hb3
    obtain ⟨hb6, hk6⟩ := set4 hb3 (.int .u64 0) (.slice none 0 0) (.int .i64 0) (.int .i64 0)
    have HB6 := Lib.hid hb6
    have HK6 := Lib.hid ((((HK1.out.trans hk2 (by simp)).alloc (.cells #[.int .u64 0, .slice none 0 0, .int .i64 0, .int .i64 0] 25))).trans hk6 (by simp))
    clear hb2 hb3 hb6 hk6 hk2
    go_wp2_with fail
    refine bodyPost_ret (results_cell_tmp rfl _ _ w.heap.size _ _ _ _ rfl HB6.out Try.underlying25 rfl super_size) rfl ?_
    exact ⟨rfl, HK6.out⟩
end Go.Proofs.Ytdeghoigpcbmcaa
