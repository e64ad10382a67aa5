/- A part of the proof (Su6, Su7, Su8, Su9), joined by squeeze2.py. -/
import Derived.Test.YtimpadpeibgmoaaGreatYd17
import Derived.Test.YtimpadpeibgmoaaGreatYd07
import Derived.Test.YtimpadpeibgmoaaGreatYd10
import Derived.Conc.LoneSelect
import Derived.Conc.SmallLaws
set_option maxHeartbeats 8000000
set_option maxRecDepth 100000
namespace Go.Proofs.YtimpadpeibgmoaaGreat
open Go.RowKit Go.Emb
theorem frozen3 {w : World} {q : Nat} {cs : Array Value} {t : TypeId} (h : w.heap[q]? = some (.cells cs t (0, 0))) : ∀ i, w.frozen? ⟨q, i, none⟩ = false := fun i => by simp [World.frozen?, h]
theorem set3 {w : World} {q : Nat} {a b c : Value} {t : TypeId} (h : w.heap[q]? = some (.cells #[a, b, c] t (0, 0))) (x y z : Value) : (((w.setCell ⟨q, 0, none⟩ x).setCell ⟨q, 1, none⟩ y).setCell ⟨q, 2, none⟩ z).heap[q]? = some (.cells #[x, y, z] t (0, 0)) ∧ Keep [q] w (((w.setCell ⟨q, 0, none⟩ x).setCell ⟨q, 1, none⟩ y).setCell ⟨q, 2, none⟩ z) :=
 ⟨heap_setCell_at (heap_setCell_at (heap_setCell_at h x) y) z, (((Keep.refl [q] w).setCell (.inl (by simp)) x).setCell (.inl (by simp)) y).setCell (.inl (by simp)) z⟩
theorem sealed_size : (Tryz.prog.info? 131).map (·.size) = some 3 := by kernel_rfl
def SlGetP (w : World) (b : List UInt8) (e : Ending) (w' : World) : Prop :=
 ((openS b = none ∧ e = .returned (.tuple #[.agg #[.int .u8 0, .int .u64 0, .slice none 0 0], .int .i64 30])) ∨
  ∃ x lv o, openS b = some x ∧ e = .returned (.tuple #[.agg #[.int .u8 x.kind.toNat, .int .u64 x.num, lv], .int .i64 0]) ∧ RB w' lv x.load o ∧ (∀ c, o = some c → w.heap.size ≤ c)) ∧ Keep [] w w'
theorem openS_none {b : List UInt8} (h : roomN b.length = 0 ∨ roomN b.length < hiN ((b.drop 9).take 2) ∨ sealKind b = 0 ∨ sealL b.length (sealOf b) ≠ b) : openS b = none := by
 unfold openS
 refine if_neg ?_
 rintro ⟨h1, h2, h3, h4⟩
 rcases h with h | h | h | h
 ·exact h1 h
 ·omega
 ·exact h3 h
 ·exact h h4
theorem openS_some {b : List UInt8} (h1 : roomN b.length ≠ 0) (h2 : hiN ((b.drop 9).take 2) ≤ roomN b.length) (h3 : sealKind b ≠ 0) (h4 : sealL b.length (sealOf b) = b) : openS b = some (sealOf b) := by
 unfold openS
 exact if_pos ⟨h1, h2, h3, h4⟩
theorem rd_part {w : World} {blk off n c : Nat} {bs : List UInt8} {o : Option Nat} (h : Rd w 1 (.slice (some ⟨blk, off, none⟩) n c) bs.length (Lib.byteCells bs) o) (hne : 0 < bs.length) {lo m : Nat} (hm : lo + m ≤ bs.length) :
  Rd w 1 (.slice (some ⟨blk, off + lo, none⟩) m (c - lo)) ((bs.drop lo).take m).length (Lib.byteCells ((bs.drop lo).take m)) (some blk) := by
 have hl : ((bs.drop lo).take m).length = m := by rw [List.length_take, List.length_drop]; omega
 obtain ⟨h0, a, c', he, h1, h2, h3⟩ := h
 cases he
 rcases h3 with ⟨h3, -⟩ | ⟨b, f, hb, -, h3⟩
 ·omega
 ·cases hb
  rw [hl]
  refine ⟨by simp [Lib.byteCells]; omega, _, _, rfl, by omega, by omega, .inr ⟨_, _, rfl, rfl, fun i hi => ?_⟩⟩
  have := h3 (lo + i) (by omega)
  rw [← byteCells_part, List.getElem?_take, if_pos (by omega), List.getElem?_drop, ← this, Nat.add_assoc]
theorem sl_get {w : World} {v : Value} {b : List UInt8} {o : Option Nat} (hr : Rd w 1 v b.length (Lib.byteCells b) o) (hlo : ∀ c, o = some c → c < w.heap.size) (hsz : b.length ≤ 1000000000) :
  Calls Tryz.prog 70 #[v] w (SlGetP w b) := by
 obtain ⟨a, c, rfl⟩ : ∃ a c, v = .slice a b.length c := by obtain ⟨-, a, c, h, -⟩ := hr; exact ⟨a, c, h⟩
 have hk1 : Keep [] w (w.alloc (.cells #[.int .u8 0, .int .u64 0, .slice none 0 0] 131)) := (Keep.refl [] w).alloc _
 have hb1 := heap_alloc_new w (.cells #[.int .u8 0, .int .u64 0, .slice none 0 0] 131)
 have HR := hyd hr
 have HK1 := hyd hk1
 have HB1 := hyd hb1
 obtain ⟨c0, c1, c2⟩ := cells3b hb1
 have hroom := p_room (b.length : Int)
 rw [roomI_nat] at hroom
 have HRM := hyd hroom
 clear hr hk1 hb1 hroom
 obtain ⟨rm, hrm⟩ : ∃ r, r = roomN b.length := ⟨_, rfl⟩
 rw [← hrm] at HRM
 have HRR := hyd hrm
 clear hrm
 by_cases h0 : rm = 0
 ·have h0' : ((rm : Int) == 0) = true := by simp [h0]
  have H0 := hyd h0
  clear h0
  go_enter Tryz.func70, Tryz.ntmps70
  go_wp2_with fail
  refine (HRM.o _).mono ?_
  rintro e w2 ⟨rfl, rfl⟩
  go_wp2_with fail
  refine bodyPost_ret (results_cell_tmp rfl _ _ w.heap.size _ _ _ _ rfl HB1.o Tryz.underlying131 rfl sealed_size) rfl ?_
  exact ⟨.inl ⟨openS_none (.inl (by rw [← HRR.o]; exact H0.o)), rfl⟩, HK1.o⟩
 ·have h0' : ((rm : Int) == 0) = false := beq_eq_false_iff_ne.2 (by omega)
  have hrl : rm + 15 = b.length ∧ 64 ≤ b.length ∧ b.length ≤ 4096 := by
   have h1 := HRR.o
   unfold roomN at h1
   split at h1
   ·exact absurd h1 h0
   ·omega
  obtain ⟨z1, z2, z3⟩ := hrl
  have Z1 := hyd z1
  clear z1
  have hrA := HR.o.keep0 HK1.o
  have hcap : b.length ≤ c := by obtain ⟨-, a', c', he, h1, -⟩ := hrA; cases he; exact h1
  obtain ⟨blk, off, rfl, g0⟩ := rdb_at hrA (k := 0) (by omega)
  rw [Nat.add_zero] at g0
  have hrd := rd_part hrA (by omega) (lo := 9) (m := 2) (by omega)
  have hln : ((b.drop 9).take 2).length = 2 := by rw [List.length_take, List.length_drop]; omega
  have htold := p_told hrd (by omega)
  have z4 : (9 : Int) ≤ (c : Int) := by omega
  have z5 : (11 : Int) ≤ (c : Int) := by omega
  have z6 : ¬ c = 9 := by omega
  have HCAP := hyd hcap
  have HG0 := hyd g0
  clear g0 hcap
  have hnlt := hiN_lt ((b.drop 9).take 2)
  rw [hln] at hnlt
  have HLN := hyd hln
  have HT := hyd htold
  obtain ⟨n, hn⟩ : ∃ n, n = hiN ((b.drop 9).take 2) := ⟨_, rfl⟩
  rw [← hn] at HT hnlt
  have HN := hyd hn
  have hwn : IntKind.i64.wrap (n : Int) = (n : Int) := IntWalk.i64_in _ (by omega)
  clear hn htold hrd hrA hln
  by_cases hbig : rm < n
  ·have hbig' : (rm : Int) < (n : Int) := by omega
   go_enter Tryz.func70, Tryz.ntmps70
   go_wp2_with fail
   refine (HRM.o _).mono ?_
   rintro e w2 ⟨rfl, rfl⟩
   go_wp2_with fail
   refine HT.o.mono ?_
   rintro e w3 ⟨rfl, rfl⟩
   go_wp2_with fail
   refine (HRM.o _).mono ?_
   rintro e w2 ⟨rfl, rfl⟩
   go_wp2_with fail
   refine bodyPost_ret (results_cell_tmp rfl _ _ w.heap.size _ _ _ _ rfl HB1.o Tryz.underlying131 rfl sealed_size) rfl ?_
   exact ⟨.inl ⟨openS_none (.inr (.inl (by rw [← HRR.o, ← HN.o]; exact hbig))), rfl⟩, HK1.o⟩
  ·have hbig' : ¬ (rm : Int) < (n : Int) := by omega
   go_enter Tryz.func70, Tryz.ntmps70
   go_wp2_with fail
   refine (HRM.o _).mono ?_
   rintro e w2 ⟨rfl, rfl⟩
   go_wp2_with fail
   refine HT.o.mono ?_
   rintro e w3 ⟨rfl, rfl⟩
   go_wp2_with fail
   refine (HRM.o _).mono ?_
   rintro e w2 ⟨rfl, rfl⟩
   go_upto_region 6 with fail
   have hq : blk ≠ w.heap.size := by
    obtain ⟨b', f', hb', g'⟩ := rdb_at HR.o (k := 0) (by omega)
    cases hb'
    exact Nat.ne_of_lt (World.block_lt_of_cell? _ _ g')
   generalize w.alloc (.cells #[.int .u8 0, .int .u64 0, .slice none 0 0] 131) = w1 at *
   obtain ⟨q, hqq⟩ : ∃ q, q = w.heap.size := ⟨_, rfl⟩
   have HQ := hyd hq
   have h0k : b[0] = sealKind b := by
    cases b with
    | nil => simp at z2
    | cons x l => rfl
   obtain ⟨kd, hkd⟩ : ∃ k, k = sealKind b := ⟨_, rfl⟩
   rw [h0k, ← hkd] at HG0
   have HKD := hyd hkd
   have H0K := hyd h0k
   obtain ⟨num, hnum⟩ : ∃ k, k = sealNum b := ⟨_, rfl⟩
   have HNUM := hyd hnum
   have s1 : (0 : Int) ≤ (n : Int) := by omega
   obtain ⟨m, hm⟩ : ∃ m, m = 11 + n := ⟨_, rfl⟩
   have hwa : IntKind.i64.wrap (11 + (n : Int)) = (m : Int) := (IntWalk.i64_in _ (by omega)).trans (by omega)
   have s2 : (11 : Int) ≤ (m : Int) := by omega
   have s3 : (m : Int) ≤ (c : Int) := by have := HCAP.o; have := Z1.o; omega
   have HM := hyd hm
   clear hm
   have s4 : (1 : Int) ≤ (c : Int) := by omega
   have s5 : 0 < b.length := by omega
   have z1 := Z1.o
   clear hkd h0k hnum hq hqq
   refine wp_region_held_drew (S := fun w' => Keep [w.heap.size] w1 w') (by kernel_rfl) (Keep.refl [w.heap.size] w1).drew (fun hHeld => ?_)
   have HS0 := hyd hHeld
   clear hHeld
   have hHeld := HS0.o
   have HBX := hyd (show w1.drew.heap[w.heap.size]? = _ from HB1.o)
   generalize w1.drew = w2 at *
   refine tkL 0 ?vA0 rfl ?runA0 hHeld ?_
   case runA0 => (intro w9 hS9; obtain c3 := hS9.cellOf HG0.o (by simpa using HQ.o); go_simp; try exact rfl)
   try simp only [Act.put, lA, lZ, lS]
   refine tkL 1 ?vA1 rfl ?runA1 hHeld ?_
   case runA1 => (intro w9 hS9; obtain c3 := hS9.cellOf HG0.o (by simpa using HQ.o); go_simp; try exact rfl)
   try simp only [Act.put, lA, lZ, lS]
   refine tkL 2 ?vA2 rfl ?runA2 hHeld ?_
   case runA2 => (intro w9 hS9; obtain c3 := hS9.cellOf HG0.o (by simpa using HQ.o); go_simp; try exact rfl)
   try simp only [Act.put, lA, lZ, lS]
   refine tkL 3 ?vA3 rfl ?runA3 hHeld ?_
   case runA3 => (intro w9 hS9; obtain c3 := hS9.cellOf HG0.o (by simpa using HQ.o); go_simp; try exact rfl)
   try simp only [Act.put, lA, lZ, lS]
   refine tkL 4 (.slice (some ⟨blk, off + 1, none⟩) 8 (c - 1)) rfl ?runA4 hHeld ?_
   case runA4 => (intro w9 hS9; obtain c3 := hS9.cellOf HG0.o (by simpa using HQ.o); go_simp; (have hcc := HCAP.o; omega))
   try simp only [Act.put, lA, lZ, lS]
   refine tkL 6 ?vA6 rfl ?runA6 hHeld ?_
   case runA6 => (intro w9 hS9; obtain c3 := hS9.cellOf HG0.o (by simpa using HQ.o); go_simp; try exact rfl)
   try simp only [Act.put, lA, lZ, lS]
   refine tkL 7 ?vA7 rfl ?runA7 hHeld ?_
   case runA7 => (intro w9 hS9; obtain c3 := hS9.cellOf HG0.o (by simpa using HQ.o); go_simp; try exact rfl)
   try simp only [Act.put, lA, lZ, lS]
   refine tkL 8 ?vA8 rfl ?runA8 hHeld ?_
   case runA8 => (intro w9 hS9; obtain c3 := hS9.cellOf HG0.o (by simpa using HQ.o); go_simp; try exact rfl)
   try simp only [Act.put, lA, lZ, lS]
   refine tkL 9 (.slice (some ⟨blk, off + 11, none⟩) n (c - 11)) rfl ?runA9 hHeld ?_
   case runA9 => (intro w9 hS9; obtain c3 := hS9.cellOf HG0.o (by simpa using HQ.o); go_simp; (have hcc := HCAP.o; have hm := HM.o; first | done | omega | exact ⟨by omega, by omega⟩ | (trace_state; simp; omega)))
   try simp only [Act.put, lA, lZ, lS]
   have hrB := HR.o.keep0 (HK1.o.trans HS0.o (by simp))
   have ht8 := p_told (rd_part hrB (by omega) (lo := 1) (m := 8) (by omega)) (by rw [List.length_take]; omega)
   rw [show hiN ((b.drop 1).take 8) = num from HNUM.o.symm] at ht8
   have hcl := p_clone (rd_part hrB (by omega) (lo := 11) (m := n) (by omega)) (by rw [List.length_take]; omega)
   rw [show (b.drop 11).take n = sealLoad b by unfold sealLoad; rw [HN.o]] at hcl
   have HT8 := hyd ht8
   have HCL := hyd hcl
   clear ht8 hcl hrB
   refine rdH 5 rfl (fun K hK => ?_)
   go_simp
   refine HT8.o.mono ?_
   rintro e w3 ⟨rfl, rfl⟩
   clear hHeld
   go_wp2_with fail
   refine hK.out _ _ HS0.o (fun hHeld => ?_)
   clear hK K
   try simp only [Act.put, lA, lZ, lS]
   refine rdH 10 rfl (fun K hK => ?_)
   go_simp
   refine HCL.o.mono ?_
   rintro e w3 ⟨lv, lo, rfl, hrb, hfr, hk3⟩
   obtain ⟨la, lc, rfl, -⟩ := hrb.form
   have hbx3 := blkk HBX.o hk3 (by simp)
   have HBX3 := hyd hbx3
   have HRB := hyd hrb
   have HFR := hyd hfr
   have HS3 := hyd (HS0.o.trans hk3 (by simp))
   clear hHeld hrb hfr hk3 hbx3
   go_wp2_with fail
   refine hK.out _ _ HS3.o (fun hHeld => ?_)
   clear hK K
   try simp only [Act.put, lA, lZ, lS]
   refine tkL 11 ?vA11 rfl ?runA11 hHeld ?_
   case runA11 => (intro w9 hS9; obtain c3 := hS9.cellOf HG0.o (by simpa using HQ.o); go_simp; try exact rfl)
   try simp only [Act.put, lA, lZ, lS]
   refine rdH 12 rfl (fun K hK => ?_)
   obtain ⟨c4, c5, c6⟩ := cells3b HBX3.o
   have f4 := frozen3 HBX3.o
   go_simp
   obtain ⟨hb4, hk4⟩ := set3 HBX3.o (.int .u8 kd.toNat) (.int .u64 num) (.slice la (sealLoad b).length lc)
   have HB4 := hyd hb4
   have HK4 := hyd hk4
   clear c4 c5 c6 f4 hb4 hk4
   generalize (((w3.setCell ⟨w.heap.size, 0, none⟩ (.int .u8 kd.toNat)).setCell ⟨w.heap.size, 1, none⟩ (.int .u64 num)).setCell ⟨w.heap.size, 2, none⟩ (.slice la (sealLoad b).length lc)) = w4 at *
   refine hK.out _ _ (HS3.o.trans HK4.o (by simp)) (fun hHeld2 => ?_)
   clear hK K hHeld hHeld2
   try simp only [Act.put, lA, lZ, lS]
   refine wpAnyH_done (by kernel_rfl) ?_ _
   clear c0 c1 c2
   obtain ⟨c0, c1, c2⟩ := cells3b HB4.o
   have hnq : ∀ d, lo = some d → d ∉ [w.heap.size] := fun d hd => by have h1 := HFR.o d hd; have h2 := (Array.getElem?_eq_some_iff.1 HBX.o).1; simp; omega
   have hrb4 := HRB.o.keep HK4.o hnq
   have HRB4 := hyd hrb4
   obtain ⟨o4, hrd4, -⟩ := Row.rd hrb4
   have hnl := hiN_lt ((b.drop 1).take 8)
   rw [show ((b.drop 1).take 8).length = 8 by rw [List.length_take, List.length_drop]; omega, show hiN ((b.drop 1).take 8) = num from HNUM.o.symm] at hnl
   have hll : (sealLoad b).length ≤ 1000000000 := by unfold sealLoad; rw [List.length_take, List.length_drop]; omega
   have hput := sl_put (size := b.length) (num := num) (kind := kd) hrd4 (by omega) (by omega) hll
   have HPUT := hyd hput
   clear hput hrd4 hrb4 hnq
   go_wp2_with fail
   refine HPUT.o.mono ?_
   rintro e w5 ⟨hp, hk5⟩
   have hso : (⟨kd, num, sealLoad b⟩ : Seal) = sealOf b := by unfold sealOf; rw [HKD.o, HNUM.o]
   rw [hso] at hp
   have hb5 := blkk HB4.o hk5 (by simp)
   obtain ⟨d0, d1, d2⟩ := cells3b hb5
   have f5 := frozen3 hb5
   obtain ⟨hb6, hk6⟩ := set3 hb5 (.int .u8 0) (.int .u64 0) (.slice none 0 0)
   have hkw := (HK1.o.trans (HS3.o.trans HK4.o (by simp)) (by simp)).trans hk5 (by simp)
   have hk7 := hkw.trans hk6 (by simp)
   have HB5 := hyd hb5
   have HB6 := hyd hb6
   have HKW := hyd hkw
   have HK7 := hyd hk7
   have HK5 := hyd hk5
   clear c0 c1 c2 hso hb5 hb6 hk6 hk7 hk5 hkw
   rcases hp with ⟨hc, rfl⟩ | ⟨-, hl, -⟩ | ⟨hc, -, g, rfl, hbb, hg⟩
   ·have HC := hyd hc
    clear hc
    go_wp2_with fail
    refine bodyPost_ret (results_cell_tmp rfl _ _ w.heap.size _ _ _ _ rfl HB6.o Tryz.underlying131 rfl sealed_size) rfl ?_
    exact ⟨.inl ⟨openS_none (HC.o.elim (fun h => .inl h) (fun h => .inr (.inr (.inl h)))), rfl⟩, HK7.o⟩
   ·exfalso
    have h1 : (sealOf b).load.length ≤ n := by show (sealLoad b).length ≤ n; unfold sealLoad; rw [List.length_take, ← HN.o]; omega
    have := HRR.o
    omega
   ·have hlen : (sealL b.length (sealOf b)).length = b.length := sealL_len ⟨fun h => hc (.inl h), fun h => hc (.inr h), by have h1 : (sealOf b).load.length ≤ n := (by show (sealLoad b).length ≤ n; unfold sealLoad; rw [List.length_take, ← HN.o]; omega); have := HRR.o; omega, by show sealNum b < _; rw [← HNUM.o]; omega⟩
    have hrg := hbb.rd (off := 0) (n := b.length) (c := b.length) (by omega) (by omega) (by unfold maxLen; omega)
    rw [List.drop_zero, List.take_of_length_le (by omega)] at hrg
    have heq := p_eql hrg (HR.o.keep0 HKW.o) (by omega) (by omega)
    have HEQ := hyd heq
    have HC := hyd hc
    clear heq hrg hbb hg hc hlen
    go_wp2_with fail
    refine HEQ.o.mono ?_
    rintro e w6 ⟨rfl, hk6⟩
    have hb7 := blkk HB5.o hk6 (by simp)
    have hkv := HKW.o.trans hk6 (by simp)
    by_cases hsame : sealL b.length (sealOf b) = b
    ·rw [decide_eq_true hsame]
     obtain ⟨hb9, hk9⟩ := set3 hb7 (.int .u8 kd.toNat) (.int .u64 num) (.slice la (sealLoad b).length lc)
     have hnq : ∀ d, lo = some d → d ∉ [w.heap.size] := fun d hd => by have h1 := HFR.o d hd; have h2 := (Array.getElem?_eq_some_iff.1 HBX.o).1; simp; omega
     have hrb7 := RB.keep (RB.keep HRB4.o (HK5.o.trans hk6 (by simp)) (by simp)) hk9 hnq
     have hos := openS_some (b := b) (fun h => HC.o (.inl h)) (by have := HRR.o; have := HN.o; omega) (fun h => HC.o (.inr h)) hsame
     have HOS := hyd hos
     have HRB7 := hyd hrb7
     have HKV := hyd (hkv.trans hk9 (by simp))
     have HB9 := hyd hb9
     obtain ⟨d0, d1, d2⟩ := cells3b hb7
     have f7 := frozen3 hb7
     clear hrb7 hsame hb7 hkv hk6 hos hb9 hk9 hnq
     go_wp2_with fail
     refine bodyPost_ret (results_cell_tmp rfl _ _ w.heap.size _ _ _ _ rfl HB9.o Tryz.underlying131 rfl sealed_size) rfl ?_
     exact ⟨.inr ⟨sealOf b, _, lo, HOS.o, by rw [HKD.o, HNUM.o]; rfl, HRB7.o, fun d hd => by have h1 := HFR.o d hd; have h2 := (Array.getElem?_eq_some_iff.1 HBX.o).1; omega⟩, HKV.o⟩
    ·rw [decide_eq_false hsame]
     obtain ⟨d0, d1, d2⟩ := cells3b hb7
     have f7 := frozen3 hb7
     obtain ⟨hb8, hk8⟩ := set3 hb7 (.int .u8 0) (.int .u64 0) (.slice none 0 0)
     have HRES := hyd (show openS b = none from openS_none (.inr (.inr (.inr hsame))))
     have HB8 := hyd hb8
     have HK8 := hyd (hkv.trans hk8 (by simp))
     clear hsame hb7 hkv hk6 hb8 hk8
     go_wp2_with fail
     refine bodyPost_ret (results_cell_tmp rfl _ _ w.heap.size _ _ _ _ rfl HB8.o Tryz.underlying131 rfl sealed_size) rfl ?_
     exact ⟨.inl ⟨HRES.o, rfl⟩, HK8.o⟩
open Go.RowKit Go.Emb Go.Conc
def dkCells (sz : Nat) (bv lv : Value) (left : Int) (c : Nat) : Array Value := #[.int .i64 sz, bv, lv, .int .i64 left, .chan (some c)]
theorem dk_cells {w : World} {q sz c : Nat} {bv lv : Value} {left : Int} {t : TypeId} (h : w.heap[q]? = some (.cells (dkCells sz bv lv left c) t (0, 0))) :
  w.cell? ⟨q, 0, none⟩ = some (.int .i64 sz) ∧ w.cell? ⟨q, 1, none⟩ = some bv ∧ w.cell? ⟨q, 2, none⟩ = some lv ∧ w.cell? ⟨q, 3, none⟩ = some (.int .i64 left) ∧ w.cell? ⟨q, 4, none⟩ = some (.chan (some c)) := by
 refine ⟨?_, ?_, ?_, ?_, ?_⟩ <;> simp [World.cell?, h, dkCells]
theorem p_dead {w : World} {q sz c s r : Nat} {bv lv : Value} {left : Int} {t : TypeId} {off : Bool} (h : w.heap[q]? = some (.cells (dkCells sz bv lv left c) t (0, 0))) (hc : w.heap[c]? = some (.chan 0 #[] off s r false)) :
  Calls Tryz.prog 39 #[.pointer (some ⟨q, 0, none⟩)] w fun e w' => e = .returned (.bool off) ∧ w = w' := by
 obtain ⟨c0, c1, c2, c3, c4⟩ := dk_cells h
 clear h
 refine calls_of_loneTo fun cs => ?_
 have e : Frame.enter Tryz.prog 39 #[.pointer (some ⟨q, 0, none⟩)] .normal = (base 39).at ⟨#[.pointer (some ⟨q, 0, none⟩), undef, undef, undef, undef, undef, undef, undef, undef, undef, undef, undef], []⟩ [.code (Tryz.f39.body.getD .skip)] := by
  simp [Frame.enter, Frame.at, Tryz.func39, base, Tryz.f39]
 rw [e]
 refine LoneTo.goes (n := 22) ?_
 simp only [Tryz.f39, Option.getD_some]
 s_c stepG_seq
 s_reg
 s_op
 s_c stepG_region_end
 s_c stepG_seq
 s_c stepG_seq
 s_reg
 s_op
 s_op
 s_c stepG_region_end
 s_cond false
 s_c stepG_skip
 s_c stepG_seq
 s_reg
 s_op
 s_op
 s_op
 s_op
 s_c stepG_region_end
 s_c stepG_seq
 s_reg
 s_stop
 cases off with
 | false =>
  refine LoneTo.step (step_lone_select_default (c := c) (z := .agg #[]) (cap := 0) (s := s) (r := r) (tm := false) (stepG_comm (cases := #[rcase c (.agg #[])]) (blocking := false) (shape := .select) (w' := w) rfl rfl (by decide) (by simp [go_sem, execOp, rcase, Act.eval])) hc) ?_
  rw [Frame.finish_at]
  walk_nrm
  refine LoneTo.goes (n := 10) ?_
  s_op
  s_op
  s_c stepG_region_end
  s_c stepG_block
  s_cond false
  s_c stepG_seq
  s_reg
  s_op
  s_c stepG_region_end
  s_c stepG_ret'
  s_stop
  refine LoneTo.done ⟨.returned (.bool false), _, rfl, ⟨rfl, rfl⟩, rfl, rfl, rfl, rfl, _, Tryz.func39, by simp [results, Tryz.f39, Frame.at]⟩
 | true =>
  refine LoneTo.step (step_lone_select_recv_shut (c := c) (z := .agg #[]) (cap := 0) (s := s) (r := r) (tm := false) (stepG_comm (cases := #[rcase c (.agg #[])]) (blocking := false) (shape := .select) (w' := w) rfl rfl (by decide) (by simp [go_sem, execOp, rcase, Act.eval])) hc) ?_
  rw [Frame.finish_at]
  walk_nrm
  refine LoneTo.goes (n := 10) ?_
  s_op
  s_op
  s_c stepG_region_end
  s_c stepG_block
  s_cond true
  s_c stepG_seq
  s_reg
  s_op
  s_c stepG_region_end
  s_c stepG_ret'
  s_stop
  refine LoneTo.done ⟨.returned (.bool true), _, rfl, ⟨rfl, rfl⟩, rfl, rfl, rfl, rfl, _, Tryz.func39, by simp [results, Tryz.f39, Frame.at]⟩
open Go.RowKit Go.Emb
structure DS where
 n : Nat
 sz : Nat
 L : List UInt8
 left : Int
 off : Bool
def DS.ok (d : DS) : Prop := 1 ≤ d.n ∧ d.n ≤ 16384 ∧ 64 ≤ d.sz ∧ d.sz ≤ 4096 ∧ d.L.length = d.n * d.sz ∧ -1 ≤ d.left ∧ d.left ≤ 9223372036854775807
def DK (w : World) (q : Nat) (m : List Int) (D : List Nat) (d : DS) : Prop :=
 ∃ gb c logv logs lo s r, D = q :: gb :: c :: lo.toList ∧ w.heap[q]? = some (.cells (dkCells d.sz (.slice (some ⟨gb, 0, none⟩) (d.n * d.sz) (d.n * d.sz)) logv d.left c) 78 (0, 0)) ∧
  BB w gb d.L ∧ w.heap[c]? = some (.chan 0 #[] d.off s r false) ∧ Row w 3 1 logv logs.length logs lo ∧ logs = m.map (Value.int .i64) ∧ d.ok
theorem DK.keep {w w' : World} {q : Nat} {m : List Int} {D F : List Nat} {d : DS} (h : DK w q m D d) (hk : Keep F w w') (hF : ∀ b ∈ D, b ∉ F) : DK w' q m D d := by
 obtain ⟨gb, c, logv, logs, lo, s, r, rfl, h1, h2, h3, h4, h5, h6⟩ := h
 refine ⟨gb, c, logv, logs, lo, s, r, rfl, blkk h1 hk (hF _ (by simp)), h2.keep hk (hF _ (by simp)), ?_, Row.keep h4 hk (fun b hb => hF b (by simp [hb])), h5, h6⟩
 exact (hk.block c (Array.getElem?_eq_some_iff.1 h3).1 (hF _ (by simp))).trans h3
theorem DK.keep0 {w w' : World} {q : Nat} {m : List Int} {D : List Nat} {d : DS} (h : DK w q m D d) (hk : Keep [] w w') : DK w' q m D d := h.keep hk (by simp)
theorem DK.lt {w : World} {q : Nat} {m : List Int} {D : List Nat} {d : DS} (h : DK w q m D d) : ∀ b ∈ D, b < w.heap.size := by
 obtain ⟨gb, c, logv, logs, lo, s, r, rfl, h1, h2, h3, h4, h5, h6⟩ := h
 intro b hb
 simp only [List.mem_cons] at hb
 rcases hb with rfl | rfl | rfl | hb
 ·exact (Array.getElem?_eq_some_iff.1 h1).1
 ·exact h2.lt
 ·exact (Array.getElem?_eq_some_iff.1 h3).1
 ·exact Row.lt h4 b (by simpa using hb)
theorem mul_le_disk {a b : Nat} (h1 : a ≤ 16384) (h2 : b ≤ 4096) : a * b ≤ 67108864 := Nat.mul_le_mul h1 h2
theorem p_size {w : World} {q sz c : Nat} {bv lv : Value} {left : Int} {t : TypeId} (h : w.heap[q]? = some (.cells (dkCells sz bv lv left c) t (0, 0))) :
  Calls Tryz.prog 59 #[.pointer (some ⟨q, 0, none⟩)] w fun e w' => e = .returned (.int .i64 sz) ∧ Keep [] w w' := by
 obtain ⟨c0, c1, c2, c3, c4⟩ := dk_cells h
 clear h c1 c2 c3 c4
 go_enter Tryz.func59, Tryz.ntmps59
 go_wp2_with fail
 refine bodyPost_ret (results_tmp rfl _ _ _) rfl ?_
 exact ⟨rfl, Keep.refl _ _⟩
theorem p_blocks {w : World} {q n sz c N M : Nat} {a : Option Addr} {lv : Value} {left : Int} {t : TypeId} (h : w.heap[q]? = some (.cells (dkCells sz (.slice a N M) lv left c) t (0, 0))) (hN : N = n * sz) (h0 : 0 < sz) (hn : n ≤ 16384) :
  Calls Tryz.prog 32 #[.pointer (some ⟨q, 0, none⟩)] w fun e w' => e = .returned (.int .i64 n) ∧ Keep [] w w' := by
 obtain ⟨c0, c1, c2, c3, c4⟩ := dk_cells h
 clear h c2 c3 c4
 have hq : ((N : Int)).tdiv (sz : Int) = (n : Int) := by
  rw [hN]
  push_cast
  rw [Int.mul_tdiv_cancel _ (by omega)]
 have hz : ¬ (sz : Int) = 0 := by omega
 have hwn : IntKind.i64.wrap (n : Int) = (n : Int) := IntWalk.i64_in _ (by omega)
 have HN := hyd hN
 clear hN
 go_enter Tryz.func32, Tryz.ntmps32
 go_upto_region 3 with fail
 go_quiet (fail)
 go_wp2_with fail
 refine bodyPost_ret (results_tmp rfl _ _ _) rfl ?_
 exact ⟨rfl, (Keep.refl _ _).drewN _⟩
theorem p_has {w : World} {q n sz c N M : Nat} {a : Option Addr} {lv : Value} {left : Int} {t : TypeId} (h : w.heap[q]? = some (.cells (dkCells sz (.slice a N M) lv left c) t (0, 0))) (hN : N = n * sz) (h0 : 0 < sz) (hn : n ≤ 16384) (k : Int) :
  Calls Tryz.prog 50 #[.pointer (some ⟨q, 0, none⟩), .int .i64 k] w fun e w' => e = .returned (.bool (decide (0 ≤ k ∧ k < n))) ∧ Keep [] w w' := by
 have HB := hyd (p_blocks h hN h0 hn)
 clear h hN h0 hn
 by_cases hk : 0 ≤ k
 ·by_cases hkn : k < n
  ·have hd : (decide (0 ≤ k ∧ k < (n : Int))) = true := decide_eq_true ⟨hk, hkn⟩
   rw [hd]
   clear hd
   go_enter Tryz.func50, Tryz.ntmps50
   go_wp2_with fail
   refine HB.o.mono ?_
   rintro e w2 ⟨rfl, hk2⟩
   go_wp2_with fail
   refine bodyPost_ret (results_tmp rfl _ _ _) rfl ?_
   exact ⟨rfl, hk2⟩
  ·have hd : (decide (0 ≤ k ∧ k < (n : Int))) = false := decide_eq_false (fun h => hkn h.2)
   rw [hd]
   clear hd
   go_enter Tryz.func50, Tryz.ntmps50
   go_wp2_with fail
   refine HB.o.mono ?_
   rintro e w2 ⟨rfl, hk2⟩
   go_wp2_with fail
   refine bodyPost_ret (results_tmp rfl _ _ _) rfl ?_
   exact ⟨by first | rfl | (simp; omega), hk2⟩
 ·have hd : (decide (0 ≤ k ∧ k < (n : Int))) = false := decide_eq_false (fun h => hk h.1)
  rw [hd]
  clear hd
  go_enter Tryz.func50, Tryz.ntmps50
  go_wp2_with fail
  refine bodyPost_ret (results_tmp rfl _ _ _) rfl ?_
  exact ⟨rfl, Keep.refl _ _⟩
theorem p_block {w : World} {q n sz c N gb : Nat} {lv : Value} {left : Int} {t : TypeId} (h : w.heap[q]? = some (.cells (dkCells sz (.slice (some ⟨gb, 0, none⟩) N N) lv left c) t (0, 0))) (hN : N = n * sz) (h0 : 0 < sz) (hs : sz ≤ 4096) (hn : n ≤ 16384) {k : Nat} (hk : k < n) :
  Calls Tryz.prog 51 #[.pointer (some ⟨q, 0, none⟩), .int .i64 k] w fun e w' => e = .returned (.slice (some ⟨gb, k * sz, none⟩) sz (N - k * sz)) ∧ Keep [] w w' := by
 obtain ⟨c0, c1, c2, c3, c4⟩ := dk_cells h
 clear h c2 c3 c4
 have hkm : k * sz + sz ≤ n * sz := by
  have := Nat.mul_le_mul_right sz (show k + 1 ≤ n from hk)
  rw [Nat.succ_mul] at this
  exact this
 have hmx := mul_le_disk hn hs
 obtain ⟨x, hx⟩ : ∃ x, x = k * sz := ⟨_, rfl⟩
 obtain ⟨y, hy⟩ : ∃ y, y = x + sz := ⟨_, rfl⟩
 have hw1 : IntKind.i64.wrap ((k : Int) * (sz : Int)) = (x : Int) := (IntWalk.i64_in _ (by rw [← Int.natCast_mul, ← hx]; omega)).trans (by rw [← Int.natCast_mul, ← hx])
 have hw2 : IntKind.i64.wrap ((k : Int) + 1) = (k : Int) + 1 := IntWalk.i64_in _ (by omega)
 have e1 : ((k : Int) + 1) * (sz : Int) = (y : Int) := by rw [Int.add_mul, ← Int.natCast_mul, ← hx]; omega
 have hw3 : IntKind.i64.wrap (((k : Int) + 1) * (sz : Int)) = (y : Int) := (IntWalk.i64_in _ (by rw [e1]; omega)).trans e1
 have q1 : (0 : Int) ≤ (x : Int) := by omega
 have q2 : (x : Int) ≤ (y : Int) := by omega
 have q3 : (y : Int) ≤ (N : Int) := by omega
 have q4 : ¬ N = x := by omega
 rw [← hx]
 have HY := hyd hy
 clear hx hkm hmx hy hN e1 hn hk
 go_enter Tryz.func51, Tryz.ntmps51
 go_upto_region 1 with fail
 go_quiet (fail)
 go_wp2_with fail
 refine bodyPost_ret (results_tmp rfl _ _ _) rfl ?_
 have e2 : y - x = sz := by have := HY.o; omega
 rw [e2]
 exact ⟨rfl, (Keep.refl _ _).drewN _⟩
theorem chan_info : (Tryz.prog.info? 121).map (fun i => (i.zero, i.size, i.bytes)) = some (some (.agg #[]), 0, 0) := by kernel_rfl
theorem make_c (w : World) : (Instr.makeChan 76 (.int .i64 0)).run Tryz.prog w = .ok (.chan (some w.heap.size)) (w.alloc (.chan 0 #[] false 0 0 false)) := by
 obtain ⟨i0, hi, hz0, hz1, hz2⟩ := info_parts chan_info
 simpa using Go.Conc.run_makeChan (P := Tryz.prog) (w := w) Tryz.underlying76 hi .i64 0 (by omega) (by rw [hz2]; omega)
def NewP (w : World) (n sz : Nat) (e : Ending) (w' : World) : Prop :=
 ∃ q D, e = .returned (.tuple #[.pointer (some ⟨q, 0, none⟩), .int .i64 0]) ∧ DK w' q [] D ⟨n, sz, List.replicate (n * sz) 0, -1, false⟩ ∧ (∀ b ∈ D, w.heap.size ≤ b) ∧ Keep [] w w'
theorem new_dk {w : World} {n sz q gb c : Nat} (h : 1 ≤ n ∧ n ≤ 16384 ∧ 64 ≤ sz ∧ sz ≤ 4096) (hq : w.heap[q]? = some (.cells (dkCells sz (.slice (some ⟨gb, 0, none⟩) (n * sz) (n * sz)) (.slice none 0 0) (-1) c) 78 (0, 0)))
  (hb : BB w gb (List.replicate (n * sz) 0)) (hc : w.heap[c]? = some (.chan 0 #[] false 0 0 false)) : DK w q [] [q, gb, c] ⟨n, sz, List.replicate (n * sz) 0, -1, false⟩ :=
 ⟨gb, c, _, [], none, 0, 0, rfl, hq, hb, hc, Row.nil _ _ _, rfl, h.1, h.2.1, h.2.2.1, h.2.2.2, List.length_replicate, by simp, by simp⟩
theorem p_new {w : World} {n sz : Nat} (h1 : 1 ≤ n) (h2 : n ≤ 16384) (h3 : 64 ≤ sz) (h4 : sz ≤ 4096) :
  Calls Tryz.prog 9 #[.int .i64 n, .int .i64 sz] w (NewP w n sz) := by
 have q1 : ¬ (n : Int) < 1 := by omega
 have q2 : ¬ (16384 : Int) < (n : Int) := by omega
 have q3 : ¬ (sz : Int) < 64 := by omega
 have q4 : ¬ (4096 : Int) < (sz : Int) := by omega
 have hmx := mul_le_disk h2 h4
 have HOK := hyd (show 1 ≤ n ∧ n ≤ 16384 ∧ 64 ≤ sz ∧ sz ≤ 4096 from ⟨h1, h2, h3, h4⟩)
 obtain ⟨N, hN⟩ : ∃ N, N = n * sz := ⟨_, rfl⟩
 have hwn : IntKind.i64.wrap ((n : Int) * (sz : Int)) = (N : Int) := (IntWalk.i64_in _ (by rw [← Int.natCast_mul]; omega)).trans (by rw [← Int.natCast_mul, hN])
 rw [← hN] at hmx
 have HN := hyd hN
 have hN9 : N ≤ 1000000000 := by omega
 clear h1 h2 h3 h4 hN hmx
 go_enter Tryz.func9, Tryz.ntmps9
 go_upto_region 3 with fail
 refine wp_region_held_drew (S := fun w' => True) (by kernel_rfl) trivial (fun hHeld => ?_)
 have hkd : Keep [] w w.drew := (Keep.refl [] w).drew
 generalize w.drew = wa at *
 refine tkL 0 ?vA0 rfl ?runA0 hHeld ?_
 case runA0 => (intro w9 hS9; go_simp; try exact rfl)
 try simp only [Act.put, lA, lZ, lS]
 refine tkL 1 ?vA1 rfl ?runA1 hHeld ?_
 case runA1 => (intro w9 hS9; go_simp; try exact rfl)
 try simp only [Act.put, lA, lZ, lS]
 refine tkL 2 ?vA2 rfl ?runA2 hHeld ?_
 case runA2 => (intro w9 hS9; go_simp; try exact rfl)
 try simp only [Act.put, lA, lZ, lS]
 refine tkL 3 ?vA3 rfl ?runA3 hHeld ?_
 case runA3 => (intro w9 hS9; go_simp; try exact rfl)
 try simp only [Act.put, lA, lZ, lS]
 refine wpAnyH_ready (rs := [4, 5]) (by kernel_rfl) (by simp) ?_
 refine AllReadyH.consL rfl (fun K hK => ?_) (AllReadyH.consL rfl (fun K hK => ?_) AllReadyH.nil)
 ·obtain ⟨wb, hmk, hbb, hkb⟩ := make_b wa N hN9
  go_simp
  refine hK.out _ _ trivial (fun _ => ?_)
  clear hK K hmk
  try simp only [Act.put, lA, lZ, lS]
  refine rdH 5 rfl (fun K hK => ?_)
  have hmc := make_c wb
  go_simp
  refine hK.out _ _ trivial (fun _ => ?_)
  clear hK K hmc
  try simp only [Act.put, lA, lZ, lS]
  refine tkL 6 ?vB6 rfl ?runB6 hHeld ?_
  case runB6 => (intro w9 hS9; go_simp; try exact rfl)
  try simp only [Act.put, lA, lZ, lS]
  refine rdH 7 rfl (fun K hK => ?_)
  go_simp
  refine hK.out _ _ trivial (fun _ => ?_)
  clear hK K
  try simp only [Act.put, lA, lZ, lS]
  refine tkL 8 ?vB8 rfl ?runB8 hHeld ?_
  case runB8 => (intro w9 hS9; go_simp; try exact rfl)
  try simp only [Act.put, lA, lZ, lS]
  refine tkL 9 ?vB9 rfl ?runB9 hHeld ?_
  case runB9 => (intro w9 hS9; go_simp; try exact rfl)
  try simp only [Act.put, lA, lZ, lS]
  refine wpAnyH_done (by kernel_rfl) ?_ _
  go_wp2_with fail
  refine bodyPost_ret (results_tmp2 rfl _ _ _) rfl ?_
  have hc := heap_alloc_new wb (.chan 0 #[] false 0 0 false)
  have hq := heap_alloc_new (wb.alloc (.chan 0 #[] false 0 0 false)) (.cells (dkCells sz (.slice (some ⟨wa.heap.size, 0, none⟩) N N) (.slice none 0 0) (-1) wb.heap.size) 78)
  have k1 := (Keep.refl [] wb).alloc (.chan 0 #[] false 0 0 false)
  have k2 := (Keep.refl [] (wb.alloc (.chan 0 #[] false 0 0 false))).alloc (.cells (dkCells sz (.slice (some ⟨wa.heap.size, 0, none⟩) N N) (.slice none 0 0) (-1) wb.heap.size) 78)
  have hs1 := hkd.size
  have hs2 := hkb.size
  have hs3 := k1.size
  have hNN := HN.o
  clear HN
  subst hNN
  have es : (wb.alloc (.chan 0 #[] false 0 0 false)).heap.size = wb.heap.size + 1 := by simp
  rw [es] at hq
  exact ⟨_, _, rfl, new_dk (gb := wa.heap.size) (c := wb.heap.size) HOK.o hq ((hbb.keep k1 (by simp)).keep k2 (by simp)) (blkk hc k2 (by simp)), by simp; omega, ((hkd.trans hkb (by simp)).trans k1 (by simp)).trans k2 (by simp)⟩
 ·have hmc := make_c wa
  go_simp
  refine hK.out _ _ trivial (fun _ => ?_)
  clear hK K hmc
  try simp only [Act.put, lA, lZ, lS]
  refine rdH 4 rfl (fun K hK => ?_)
  obtain ⟨wb, hmk, hbb, hkb⟩ := make_b (wa.alloc (.chan 0 #[] false 0 0 false)) N hN9
  go_simp
  refine hK.out _ _ trivial (fun _ => ?_)
  clear hK K hmk
  try simp only [Act.put, lA, lZ, lS]
  refine tkL 6 ?vC6 rfl ?runC6 hHeld ?_
  case runC6 => (intro w9 hS9; go_simp; try exact rfl)
  try simp only [Act.put, lA, lZ, lS]
  refine rdH 7 rfl (fun K hK => ?_)
  go_simp
  refine hK.out _ _ trivial (fun _ => ?_)
  clear hK K
  try simp only [Act.put, lA, lZ, lS]
  refine tkL 8 ?vC8 rfl ?runC8 hHeld ?_
  case runC8 => (intro w9 hS9; go_simp; try exact rfl)
  try simp only [Act.put, lA, lZ, lS]
  refine tkL 9 ?vC9 rfl ?runC9 hHeld ?_
  case runC9 => (intro w9 hS9; go_simp; try exact rfl)
  try simp only [Act.put, lA, lZ, lS]
  refine wpAnyH_done (by kernel_rfl) ?_ _
  go_wp2_with fail
  refine bodyPost_ret (results_tmp2 rfl _ _ _) rfl ?_
  have hc := heap_alloc_new wa (.chan 0 #[] false 0 0 false)
  have hq := heap_alloc_new wb (.cells (dkCells sz (.slice (some ⟨(wa.alloc (.chan 0 #[] false 0 0 false)).heap.size, 0, none⟩) N N) (.slice none 0 0) (-1) wa.heap.size) 78)
  have k1 := (Keep.refl [] wa).alloc (.chan 0 #[] false 0 0 false)
  have k2 := (Keep.refl [] wb).alloc (.cells (dkCells sz (.slice (some ⟨(wa.alloc (.chan 0 #[] false 0 0 false)).heap.size, 0, none⟩) N N) (.slice none 0 0) (-1) wa.heap.size) 78)
  have hs1 := hkd.size
  have hs2 := hkb.size
  have hs3 := k1.size
  have es : (wa.alloc (.chan 0 #[] false 0 0 false)).heap.size = wa.heap.size + 1 := by simp
  rw [es] at hbb hq k2
  have hNN := HN.o
  clear HN
  subst hNN
  exact ⟨_, _, rfl, new_dk HOK.o hq (hbb.keep k2 (by simp)) (blkk (blkk hc hkb (by simp)) k2 (by simp)), by simp; omega, ((hkd.trans k1 (by simp)).trans hkb (by simp)).trans k2 (by simp)⟩
end Go.Proofs.YtimpadpeibgmoaaGreat
