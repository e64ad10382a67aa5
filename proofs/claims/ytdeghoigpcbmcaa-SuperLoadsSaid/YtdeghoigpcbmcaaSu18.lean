/- Super: Slot. Printed by gen-su18.py. -/
import Derived.Test.YtdeghoigpcbmcaaSu17
namespace Go.Proofs.Ytdeghoigpcbmcaa
open Go.RowKit Go.Emb Go.Emb.Ext

def SlotP (w : World) (ox : Option Sup) (e : Ending) (w' : World) : Prop :=
  (ox = none ∧ e = .returned (.tuple #[zS, .int .i64 30]) ∨ ∃ x pv po, ox = some x ∧ e = .returned (.tuple #[aggS x pv, .int .i64 0]) ∧ RowE w' pv x.ps po ∧ (∀ b, po = some b → w.heap.size ≤ b)) ∧ Keep [] w w'
theorem dk_blocks {w : World} {q m : Nat} {D : List Nat} {d : DS} (h : DK w q m D d) : Calls Try.prog 26 #[.pointer (some ⟨q, 0, none⟩)] w fun e w' => e = .returned (.int .i64 d.n) ∧ Keep [] w w' := by
  obtain ⟨gb, c, logv, logs, lo, s, r, -, h1, -, -, -, -, ok⟩ := h
  exact p_blocks h1 rfl (by have := ok.2.2.1; omega) ok.2.1
theorem DK.isok {w : World} {q m : Nat} {D : List Nat} {d : DS} (h : DK w q m D d) : d.ok := by
  obtain ⟨gb, c, logv, logs, lo, s, r, -, -, -, -, -, -, ok⟩ := h; exact ok
set_option maxRecDepth 100000 in
set_option maxHeartbeats 2000000 in
theorem s_slot {w : World} {q m k : Nat} {D : List Nat} {d : DS} {ox : Option Sup} (h : DK w q m D d) (hk : k < 2) (h2 : 2 ≤ d.n) (hoff : d.off = false) (hs : SlotIs d k ox) :
    Calls Try.prog 22 #[.pointer (some ⟨q, 0, none⟩), .int .i64 k] w (SlotP w ox) := by
  have hk1 : Keep [] w (w.alloc (.cells #[.int .u64 0, .slice none 0 0, .int .i64 0, .int .i64 0] 25)) := (Keep.refl [] w).alloc _
  have hb1 := heap_alloc_new w (.cells #[.int .u64 0, .slice none 0 0, .int .i64 0, .int .i64 0] 25)
  have hread := p_read (h.keep0 hk1) (k : Int)
  have H := Lib.hid h
  have HO22 := Lib.hid hoff
  have HS := Lib.hid hs
  have HOK := Lib.hid h.isok
  have HRD := Lib.hid hread
  have HK1 := Lib.hid hk1
  have HB1 := Lib.hid hb1
  have q1 : ¬ (k : Int) < 0 := by omega
  have q2 : ¬ (2 : Int) ≤ (k : Int) := by omega
  have q3 : (0 : Int) ≤ (k : Int) ∧ (k : Int) < (d.n : Int) := by omega
  have HQ3 := Lib.hid q3
  clear h hoff hs hread hk1 hb1 q3
  go_enter Try.func22, Try.ntmps22
  go_wp2_with fail
  refine HRD.out.mono ?_
  rintro e w2 ⟨(⟨h, -⟩ | ⟨-, h, -⟩ | ⟨-, -, v, o, rfl, hrb, hfr⟩), hk2⟩
  · exact absurd HQ3.out h
  · rw [HO22.out] at h; cases h
  rw [Int.toNat_natCast] at hrb
  obtain ⟨va, vc, rfl, -⟩ := hrb.form
  obtain ⟨vo, hrd, hvo⟩ := Row.rd hrb
  have hlt : ∀ c, vo = some c → c < w2.heap.size := fun c hc => by
    rcases hvo with e | e
    · rw [e] at hc; cases hc
    · exact hrb.lt c (by rw [← e]; exact hc)
  have hbl := blkOf_len HOK.out (k := k) (by have := HQ3.out; omega)
  have hsz4 := HOK.out.2.2.2.1
  have hbk := dk_blocks (H.out.keep0 (HK1.out.trans hk2 (by simp)))
  have HBK := Lib.hid hbk
  have HK2 := Lib.hid (HK1.out.trans hk2 (by simp))
  have HB2 := Lib.hid (blkk HB1.out hk2 (by simp))
  have hcase : ∀ W : World, Keep [] w2 W → Calls Try.prog 40 #[.int .i64 d.n, .slice va (blkOf d k).length vc] W fun e w' => ∃ (x : Value) (ok : Bool), e = .returned (.tuple #[x, .bool ok]) ∧ Keep [] W w' ∧ (ox = none ∧ x = zS ∧ ok = false ∨ ∃ y pv po, ox = some y ∧ x = aggS y pv ∧ ok = true ∧ RowE w' pv y.ps po ∧ (∀ b, po = some b → W.heap.size ≤ b)) := by
    intro W hW
    cases ox with
    | none =>
      refine (s_read_none (hrd.keep0 hW) (fun c hc => Nat.lt_of_lt_of_le (hlt c hc) hW.size) (by omega) HS.out.1).mono ?_
      rintro e w' ⟨rfl, hk⟩
      exact ⟨_, _, rfl, hk, .inl ⟨rfl, rfl, rfl⟩⟩
    | some y =>
      have hy := HS.out.2 y rfl
      refine (s_read_some (x := y) (hrd.keep0 hW) (fun c hc => Nat.lt_of_lt_of_le (hlt c hc) hW.size) (by omega) HS.out.1 hy.1 HOK.out.2.1 hy.2.1).mono ?_
      rintro e w' ⟨pv, po, rfl, h1, h2, hk⟩
      exact ⟨_, _, rfl, hk, .inr ⟨y, pv, po, rfl, rfl, rfl, h1, h2⟩⟩
  have HCASE := Lib.hid hcase
  clear hrb hfr hk2 hrd hvo hlt hbk hcase hbl hsz4
  go_wp2_with fail
  refine HBK.out.mono ?_
  rintro e w3 ⟨rfl, hk3⟩
  have HK3 := Lib.hid hk3
  clear hk3
  go_wp2_with fail
  refine (HCASE.out _ HK3.out).mono ?_
  rintro e w4 ⟨xv, ok, rfl, hk4, hres⟩
  have hb4 := blkk (blkk HB2.out HK3.out (by simp)) hk4 (by simp)
  have HK4 := Lib.hid ((HK2.out.trans HK3.out (by simp)).trans hk4 (by simp))
  have hle4 : w.heap.size ≤ w3.heap.size := (HK2.out.trans HK3.out (by simp)).size
  have HLE := Lib.hid hle4
  clear hk4 hle4
  rcases hres with ⟨rfl, rfl, rfl⟩ | ⟨y, pv, po, rfl, rfl, rfl, hrow, hpo⟩
  · unfold zS
    have hb5 := blkk hb4 ((Keep.refl [] w4).alloc (.cells #[.int .u64 0, .slice none 0 0, .int .i64 0, .int .i64 0] 25)) (by simp)
    have f5 := frozen4 hb5
    obtain ⟨d0, d1, d2, d3⟩ := cells4s hb5
    obtain ⟨hb6, hk6⟩ := set4 hb5 (.int .u64 0) (.slice none 0 0) (.int .i64 0) (.int .i64 0)
    have HB6 := Lib.hid hb6
    have HK6 := Lib.hid ((HK4.out.alloc _).trans hk6 (by simp))
    clear hb4 hb5 hb6 hk6
    go_wp2_with fail
    refine bodyPost_ret (results_cell_tmp rfl _ _ w.heap.size _ _ _ _ rfl HB6.out Try.underlying25 rfl super_size) rfl ?_
    exact ⟨.inl ⟨rfl, rfl⟩, HK6.out⟩
  · have hy := HS.out.2 y rfl
    obtain ⟨pa, pc, rfl⟩ := hrow.form
    obtain ⟨gen, ps, len, ep⟩ := y
    unfold aggS
    simp only at hrow hy
    have hne : ((gen : Int) % 2 != (k : Int)) = false := by have := hy.2.2; simp; omega
    have hb5 := blkk hb4 ((Keep.refl [] w4).alloc (.cells #[.int .u64 gen, .slice pa ps.length pc, .int .i64 len, .int .i64 ep] 25)) (by simp)
    have f5 := frozen4 hb5
    obtain ⟨d0, d1, d2, d3⟩ := cells4s hb5
    obtain ⟨hb6, hk6⟩ := set4 hb5 (.int .u64 gen) (.slice pa ps.length pc) (.int .i64 len) (.int .i64 ep)
    have hka : Keep [] w4 (w4.alloc (.cells #[.int .u64 gen, .slice pa ps.length pc, .int .i64 len, .int .i64 ep] 25)) := (Keep.refl [] w4).alloc _
    have hpn : ∀ b, po = some b → b ∉ [w.heap.size] := fun b hb => by
      have h1 := hpo b hb
      have h2 := (Array.getElem?_eq_some_iff.1 HB2.out).1
      have h3 := HK3.out.size
      simp; omega
    have hrow6 := (hrow.keep hka (by simp)).keep hk6 hpn
    have HB6 := Lib.hid hb6
    have HK6 := Lib.hid ((HK4.out.trans hka (by simp)).trans hk6 (by simp))
    have HROW := Lib.hid hrow6
    have HPO := Lib.hid hpo
    clear hb4 hb5 hb6 hk6 hrow hpo hrow6 hpn hy hka
    go_wp2_with fail
    refine bodyPost_ret (results_cell_tmp rfl _ _ w.heap.size _ _ _ _ rfl HB6.out Try.underlying25 rfl super_size) rfl ?_
    exact ⟨.inr ⟨_, _, po, rfl, rfl, HROW.out, fun b hb => Nat.le_trans HLE.out (HPO.out b hb)⟩, HK6.out⟩
set_option maxRecDepth 100000 in
set_option maxHeartbeats 1000000 in
theorem s_slot_nil {w : World} (k : Int) :
    Calls Try.prog 22 #[.pointer none, .int .i64 k] w fun e w' => e = .returned (.tuple #[zS, .int .i64 7]) ∧ Keep [] w w' := by
  unfold zS
  have hk1 : Keep [] w (w.alloc (.cells #[.int .u64 0, .slice none 0 0, .int .i64 0, .int .i64 0] 25)) := (Keep.refl [] w).alloc _
  have hb1 := heap_alloc_new w (.cells #[.int .u64 0, .slice none 0 0, .int .i64 0, .int .i64 0] 25)
  have f5 := frozen4 hb1
  obtain ⟨d0, d1, d2, d3⟩ := cells4s hb1
  have HB6 := Lib.hid hb1
  have HK6 := Lib.hid hk1
  clear hk1 hb1
  go_enter Try.func22, Try.ntmps22
  go_wp2_with fail
  refine bodyPost_ret (results_cell_tmp rfl _ _ w.heap.size _ _ _ _ rfl HB6.out Try.underlying25 rfl super_size) rfl ?_
  exact ⟨rfl, HK6.out⟩
end Go.Proofs.Ytdeghoigpcbmcaa
