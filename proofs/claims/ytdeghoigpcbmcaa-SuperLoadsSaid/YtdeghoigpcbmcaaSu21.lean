/- Super: a nil disk; live. Printed by gen-su21.py. -/
import Derived.Test.YtdeghoigpcbmcaaSu20
namespace Go.Proofs.Ytdeghoigpcbmcaa
open Go.RowKit Go.Emb Go.Emb.Ext

set_option maxRecDepth 100000 in
theorem s_write_nil {w : World} {x : Sup} {pv : Value} : Calls Try.prog 11 #[.pointer none, aggS x pv] w fun e w' => e = .returned (.int .i64 7) ∧ Keep [] w w' := by
  unfold aggS
  have hk1 : Keep [] w (w.alloc (.cells #[.int .u64 x.gen, pv, .int .i64 x.len, .int .i64 x.ep] 25)) := (Keep.refl [] w).alloc _
  have HK1 := Lib.hid hk1
  clear hk1
  go_enter Try.func11, Try.ntmps11
  go_wp2_with fail
  go_ret
  exact ⟨rfl, HK1.out⟩
set_option maxRecDepth 100000 in
theorem s_load_nil {w : World} {x : Sup} {pv : Value} : Calls Try.prog 21 #[.pointer none, aggS x pv] w fun e w' => e = .returned (.tuple #[.slice none 0 0, .int .i64 7]) ∧ Keep [] w w' := by
  unfold aggS
  have hk1 : Keep [] w (w.alloc (.cells #[.pointer none] 27)) := (Keep.refl [] w).alloc _
  have HK1 := Lib.hid hk1
  clear hk1
  have HK1a := HK1
  go_enter Try.func21, Try.ntmps21
  go_wp2_with fail
  exact bodyPost_ret (v := .tuple #[.slice none 0 0, .int .i64 7]) (by simp [results, Try.results21, go_sem]) rfl ⟨rfl, ((HK1a.out.alloc _).alloc _).alloc _⟩
/-- a disk of n blocks of sz bytes that is on; what its two first blocks hold -/
def SBk (d : DS) (n sz : Nat) (ox : Nat → Option Sup) : Prop := d.n = n ∧ d.sz = sz ∧ d.off = false ∧ d.left = -1 ∧ ∀ k, k < 2 → SlotIs d k (ox k)
def updS (ox : Nat → Option Sup) (x : Sup) : Nat → Option Sup := fun k => if k = x.gen % 2 then some x else ox k
/-- such a disk, made behind w0 -/
structure LD (w0 w : World) (q m n sz : Nat) (ox : Nat → Option Sup) : Prop where
  ex : ∃ D d, DK w q m D d ∧ SBk d n sz ox ∧ ∀ b ∈ D, w0.heap.size ≤ b
  keep : Keep [] w0 w
theorem LD.keep0 {w0 w w' : World} {q m n sz : Nat} {ox : Nat → Option Sup} (h : LD w0 w q m n sz ox) (hk : Keep [] w w') : LD w0 w' q m n sz ox := by
  obtain ⟨⟨D, d, h1, h2, h3⟩, h4⟩ := h
  exact ⟨⟨D, d, h1.keep0 hk, h2, h3⟩, h4.trans hk (by simp)⟩
theorem l_new {w : World} {n sz : Nat} (h1 : 2 ≤ n) (h2 : n ≤ 16384) (h3 : 64 ≤ sz) (h4 : sz ≤ 4096) :
    Calls Try.prog 8 #[.int .i64 n, .int .i64 sz] w fun e w' => ∃ q, e = .returned (.tuple #[.pointer (some ⟨q, 0, none⟩), .int .i64 0]) ∧ LD w w' q 0 n sz (fun _ => none) := by
  refine (p_new (by omega) h2 h3 h4).mono ?_
  rintro e w' ⟨q, D, rfl, hd, hD, hk⟩
  exact ⟨q, rfl, ⟨D, _, hd, ⟨rfl, rfl, rfl, rfl, fun k hk => slot_new n sz k _ _ (by omega)⟩, hD⟩, hk⟩
theorem LD.best {w0 w : World} {q m n sz : Nat} {ox : Nat → Option Sup} (h : LD w0 w q m n sz ox) (hn : 2 ≤ n) : Calls Try.prog 13 #[.pointer (some ⟨q, 0, none⟩)] w (BestP w (bkN ox 2)) := by
  obtain ⟨⟨D, d, h1, ⟨e1, -, e3, -, e5⟩, -⟩, -⟩ := h
  exact s_best h1 (by omega) e3 e5
theorem LD.slot {w0 w : World} {q m n sz : Nat} {ox : Nat → Option Sup} (h : LD w0 w q m n sz ox) (hn : 2 ≤ n) {k : Nat} (hk : k < 2) : Calls Try.prog 22 #[.pointer (some ⟨q, 0, none⟩), .int .i64 k] w (SlotP w (ox k)) := by
  obtain ⟨⟨D, d, h1, ⟨e1, -, e3, -, e5⟩, -⟩, -⟩ := h
  exact s_slot h1 hk (by omega) e3 (e5 k hk)
theorem LD.put {w0 w : World} {q m n sz : Nat} {ox : Nat → Option Sup} (h : LD w0 w q m n sz ox) (hn : 2 ≤ n) (hm : m ≤ 1000000) {x : Sup} {pv : Value} {o : Option Nat} (hr : RdE w pv x.ps o) (ho : ∀ b, o = some b → b < w.heap.size) (hx : okS n x) (hfit : (loadL x).length ≤ roomN sz) (hg : x.gen < 18446744073709551616) :
    Calls Try.prog 11 #[.pointer (some ⟨q, 0, none⟩), aggS x pv] w fun e w' => e = .returned (.int .i64 0) ∧ LD w0 w' q (m + 1) n sz (updS ox x) ∧ ∃ D, (∀ b ∈ D, w0.heap.size ≤ b) ∧ Keep D w w' ∧ ∃ d, DK w q m D d := by
  obtain ⟨⟨D, d, h1, ⟨rfl, rfl, e3, e4, e5⟩, h3⟩, h4⟩ := h
  have hok := h1.isok
  have hps := hx.1.2.2.2.2.2
  have hsw := swrite_ok hx hfit hok hn hg e3 (by rw [e4]; decide)
  refine (s_write h1 hm hr ho (by omega) hg).mono ?_
  rintro e w' ⟨D', rfl, hd', hD', hk⟩
  rw [hsw] at hd' ⊢
  have hsl := slot_put hok hn hg hx hfit (if 0 < d.left then d.left - 1 else d.left)
  refine ⟨rfl, ⟨⟨D', _, hd', ⟨rfl, rfl, e3, ?_, fun k hk2 => ?_⟩, fun b hb => ?_⟩, h4.trans hk (fun b hb => .inr (h3 b hb))⟩, D, h3, hk, d, h1⟩
  · show (if 0 < d.left then d.left - 1 else d.left) = -1
    rw [e4]; rfl
  · unfold updS
    by_cases he : k = x.gen % 2
    · rw [if_pos he, he]; exact hsl.1
    · rw [if_neg he]; exact hsl.2 k _ hk2 he (e5 k hk2)
  · rcases hD' b hb with h | h
    · exact h3 b h
    · exact Nat.le_trans h4.size h
def sup1 : Sup := ⟨1, [], 0, 0⟩
def sup2 : Sup := ⟨2, [], 0, 1⟩
theorem sup1_ok (n : Nat) : okS n sup1 := ⟨⟨by decide, by decide, by decide, by decide, by decide, by decide⟩, (by intro e he; cases he), List.Pairwise.nil⟩
theorem sup2_ok (n : Nat) : okS n sup2 := ⟨⟨by decide, by decide, by decide, by decide, by decide, by decide⟩, (by intro e he; cases he), List.Pairwise.nil⟩
theorem best12 : bkN (updS (updS (fun _ => none) sup1) sup2) 2 = sup2 := rfl
theorem slot12 : updS (updS (fun _ => none) sup1) sup2 1 = some sup1 := rfl
theorem rde_nil (w : World) : RdE w (.slice none 0 0) [] none := ⟨rfl, none, 0, rfl, Nat.le_refl _, by unfold maxLen; omega, .inl ⟨rfl, rfl⟩⟩
theorem LD.put0 {w0 w : World} {q m n sz : Nat} {ox : Nat → Option Sup} (h : LD w0 w q m n sz ox) (hn : 2 ≤ n) (hm : m ≤ 1000000) {x : Sup} (hps : x.ps = []) (hx : okS n x) (hfit : (loadL x).length ≤ roomN sz) (hg : x.gen < 18446744073709551616) :
    Calls Try.prog 11 #[.pointer (some ⟨q, 0, none⟩), .agg #[.int .u64 x.gen, .slice none 0 0, .int .i64 x.len, .int .i64 x.ep]] w fun e w' => e = .returned (.int .i64 0) ∧ LD w0 w' q (m + 1) n sz (updS ox x) :=
  (h.put hn hm (pv := .slice none 0 0) (o := none) (by rw [hps]; exact rde_nil w) (by simp) hx hfit hg).mono (fun e w' h => ⟨h.1, h.2.1⟩)
set_option maxRecDepth 100000 in
set_option maxHeartbeats 4000000 in
theorem live_any {w : World} : Calls Try.prog 7 #[] w fun e w' => e = .returned (.bool true) ∧ Keep [] w w' := by
  go_enter Try.func7, Try.ntmps7
  go_wp2_with fail
  refine (l_new (n := 8) (sz := 64) (by omega) (by omega) (by omega) (by omega)).mono ?_
  rintro e w1 ⟨q, rfl, hd⟩
  have hb := hd.best (by omega)
  have HD := Lib.hid hd
  have HB := Lib.hid hb
  clear hd hb
  go_wp2_with (go_at_call 9; refine (p_numF _).mono ?_; rintro e w2 ⟨rfl, rfl⟩)
  refine HB.out.mono ?_
  rintro e w2 ⟨pv, po, rfl, hrow, hpo, hk2⟩
  have e0 : bkN (fun _ => none) 2 = zSup := rfl
  rw [e0] at hrow ⊢
  have e1 : (if zSup.gen = 0 then (7 : Int) else 0) = 7 := rfl
  rw [e1]
  obtain ⟨pa, pc, rfl⟩ := hrow.form
  have hd2 := HD.out.keep0 hk2
  have HW := Lib.hid (fun W (hW : Keep [] w2 W) => (hd2.keep0 hW).put0 (x := sup1) (by omega) (by omega) rfl (sup1_ok 8) (by decide) (by decide))
  clear hrow hpo hk2 e0 e1 HB HD hd2
  simp only [aggS, zSup]
  go_wp2_with fail
  refine (HW.out _ (by repeat (first | exact Keep.refl _ _ | refine Keep.alloc ?_ _))).mono ?_
  rintro e w3 ⟨rfl, hd3⟩
  have HW3 := Lib.hid (hd3.put0 (x := sup2) (by omega) (by omega) rfl (sup2_ok 8) (by decide) (by decide))
  clear hd3 HW
  go_wp2_with fail
  refine HW3.out.mono ?_
  rintro e w4 ⟨rfl, hd4⟩
  have HB4 := Lib.hid (hd4.best (by omega))
  have HD4 := Lib.hid hd4
  clear hd4 HW3
  go_wp2_with fail
  refine HB4.out.mono ?_
  rintro e w5 ⟨pv, po, rfl, hrow, hpo, hk5⟩
  rw [best12] at hrow ⊢
  have e1 : (if sup2.gen = 0 then (7 : Int) else 0) = 0 := rfl
  rw [e1]
  obtain ⟨qa, qc, rfl⟩ := hrow.form
  simp only [aggS, sup2]
  have HS := Lib.hid (fun W (hW : Keep [] w5 W) => ((HD4.out.keep0 hk5).keep0 hW).slot (k := 1) (by omega) (by omega))
  have HD5 := Lib.hid (HD4.out.keep0 hk5)
  clear hrow hpo hk5 e1 HB4 HD4
  go_wp2_with fail
  refine (HS.out _ (by repeat (first | exact Keep.refl _ _ | refine Keep.alloc ?_ _))).mono ?_
  rintro e w6 ⟨(⟨h, -⟩ | ⟨x, xv, xo, hx, rfl, hrow, hxo⟩), hk6⟩
  · rw [slot12] at h; cases h
  rw [slot12] at hx
  obtain rfl := Option.some.inj hx
  obtain ⟨ra, rc, rfl⟩ := hrow.form
  simp only [aggS, sup1]
  have hb6 := blkk (heap_new w5 (.cells #[.int .u64 ((2 : Nat) : Int), .slice qa 0 qc, .int .i64 0, .int .i64 1] 25)) hk6 (by simp)
  have HKF := Lib.hid ((HD5.out.keep.alloc (.cells #[.int .u64 ((2 : Nat) : Int), .slice qa 0 qc, .int .i64 0, .int .i64 1] 25)).trans hk6 (by simp))
  obtain ⟨c0, c1, c2, c3⟩ := cells4s hb6
  have hlt6 := (Array.getElem?_eq_some_iff.1 hb6).1
  clear hrow hxo hx hb6 hk6 HS
  go_wp2_with (go_at_call 9; refine (p_numF _).mono ?_; rintro e w2 ⟨rfl, rfl⟩)
  go_ret
  exact ⟨rfl, HKF.out.alloc _⟩
end Go.Proofs.Ytdeghoigpcbmcaa
