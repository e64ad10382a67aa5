/- A part of the proof (Su17, Su18, Su19, Su20, Ext1, Ext2, Ext3, Ext4, Ext5, Ext6, Ext7, Ext8), joined by squeeze2.py. -/
import Derived.Test.YtimpadpeibgmoaaGreatYd22
import Derived.Laws.Rows
import Derived.Test.YtimpadpeibgmoaaGreatYd08
import Derived.Test.YtimpadpeibgmoaaGreatYd01
import Derived.Test.YtimpadpeibgmoaaGreatProg
import Derived.Test.YtimpadpeibgmoaaGreatYd11
import Derived.Deep.RegionHeld3
import Derived.Deep.QuietTactic
import Derived.BigQuiet
import Derived.Deep.LoopGhost
import Derived.Shelf.Abstract
import Derived.IntWalk
import Derived.Test.YtimpadpeibgmoaaGreatYd12
import Derived.Laws.StructEq
import Derived.Test.YtimpadpeibgmoaaGreatYd02
import Derived.StillTailTactics
import Derived.Test.YtimpadpeibgmoaaGreatYd13
set_option maxHeartbeats 8000000
set_option maxRecDepth 100000
namespace Go.Proofs.YtimpadpeibgmoaaGreat
open Go.RowKit Go.Emb Go.Emb.Ext
def SlotIs (d : DS) (k : Nat) (ox : Option Sup) : Prop :=
 openS (blkOf d k) = ox.map (fun x => ⟨83, x.gen, loadL x⟩) ∧ ∀ x, ox = some x → okS d.n x ∧ x.gen < 18446744073709551616 ∧ x.gen % 2 = k
theorem blk_put_same {d : DS} (h : d.ok) {k : Nat} (hk : k < d.n) {p : List UInt8} (hp : p.length = d.sz) (l : Int) : blkOf { d with left := l, L := putB d k p } k = p := by
 have hle := blk_le h hk
 have hL := h.2.2.2.2.1
 show ((putB d k p).drop (k * d.sz)).take d.sz = p
 unfold putB
 rw [hp, Nat.sub_self, List.replicate_zero, List.append_nil, List.append_assoc, List.drop_append_of_le_length (by rw [List.length_take]; omega), List.drop_of_length_le (by rw [List.length_take]; omega), List.nil_append, List.take_append_of_le_length (by omega), List.take_of_length_le (by omega)]
theorem blk_put_other {d : DS} (h : d.ok) {k j : Nat} (hk : k < d.n) (hj : j < d.n) (hjk : j ≠ k) {p : List UInt8} (hp : p.length ≤ d.sz) (l : Int) : blkOf { d with left := l, L := putB d k p } j = blkOf d j := by
 have hle := blk_le h hk
 have hlj := blk_le h hj
 have hL := h.2.2.2.2.1
 show ((putB d k p).drop (j * d.sz)).take d.sz = (d.L.drop (j * d.sz)).take d.sz
 have hpl := putB_len h hk hp
 apply List.ext_getElem?
 intro i
 rw [List.getElem?_take, List.getElem?_take]
 split
 ·rename_i hi
  rw [List.getElem?_drop, List.getElem?_drop]
  unfold putB
  rcases Nat.lt_or_gt_of_ne hjk with hlt | hlt
  ·have : (j + 1) * d.sz ≤ k * d.sz := Nat.mul_le_mul_right _ hlt
   rw [Nat.add_mul, Nat.one_mul] at this
   rw [List.append_assoc, List.append_assoc, List.getElem?_append_left (by rw [List.length_take]; omega), List.getElem?_take_of_lt (by omega)]
  ·have : (k + 1) * d.sz ≤ j * d.sz := Nat.mul_le_mul_right _ hlt
   rw [Nat.add_mul, Nat.one_mul] at this
   have hlen : (d.L.take (k * d.sz) ++ p ++ List.replicate (d.sz - p.length) 0).length = k * d.sz + d.sz := by
    simp only [List.length_append, List.length_take, List.length_replicate]; omega
   rw [List.getElem?_append_right (by rw [hlen]; omega), hlen, List.getElem?_drop]
   congr 1
   omega
 ·rfl
theorem openS_zero (n : Nat) : openS (List.replicate n 0) = none :=
 openS_none (.inr (.inr (.inl (by unfold sealKind; cases n <;> rfl))))
def SlotP (w : World) (ox : Option Sup) (e : Ending) (w' : World) : Prop :=
 (ox = none ∧ e = .returned (.tuple #[zS, .int .i64 30]) ∨ ∃ x pv po, ox = some x ∧ e = .returned (.tuple #[aggS x pv, .int .i64 0]) ∧ RowE w' pv x.ps po ∧ (∀ b, po = some b → w.heap.size ≤ b)) ∧ Keep [] w w'
theorem dk_blocks {w : World} {q : Nat} {m : List Int} {D : List Nat} {d : DS} (h : DK w q m D d) : Calls Tryz.prog 32 #[.pointer (some ⟨q, 0, none⟩)] w fun e w' => e = .returned (.int .i64 d.n) ∧ Keep [] w w' := by
 obtain ⟨gb, c, logv, logs, lo, s, r, -, h1, -, -, -, -, ok⟩ := h
 exact p_blocks h1 rfl (by have := ok.2.2.1; omega) ok.2.1
theorem DK.isok {w : World} {q : Nat} {m : List Int} {D : List Nat} {d : DS} (h : DK w q m D d) : d.ok := by
 obtain ⟨gb, c, logv, logs, lo, s, r, -, -, -, -, -, -, ok⟩ := h; exact ok
theorem s_slot {w : World} {q k : Nat} {m : List Int} {D : List Nat} {d : DS} {ox : Option Sup} (h : DK w q m D d) (hk : k < 2) (h2 : 2 ≤ d.n) (hoff : d.off = false) (hs : SlotIs d k ox) :
  Calls Tryz.prog 43 #[.pointer (some ⟨q, 0, none⟩), .int .i64 k] w (SlotP w ox) := by
 have hk1 : Keep [] w (w.alloc (.cells #[.int .u64 0, .slice none 0 0, .int .i64 0, .int .i64 0] 56)) := (Keep.refl [] w).alloc _
 have hb1 := heap_alloc_new w (.cells #[.int .u64 0, .slice none 0 0, .int .i64 0, .int .i64 0] 56)
 have hread := p_read (h.keep0 hk1) (k : Int)
 have H := hyd h
 have HO43 := hyd hoff
 have HS := hyd hs
 have HOK := hyd h.isok
 have HRD := hyd hread
 have HK1 := hyd hk1
 have HB1 := hyd hb1
 have q1 : ¬ (k : Int) < 0 := by omega
 have q2 : ¬ (2 : Int) ≤ (k : Int) := by omega
 have q3 : (0 : Int) ≤ (k : Int) ∧ (k : Int) < (d.n : Int) := by omega
 have HQ3 := hyd q3
 clear h hoff hs hread hk1 hb1 q3
 go_enter Tryz.func43, Tryz.ntmps43
 go_wp2_with fail
 refine HRD.o.mono ?_
 rintro e w2 ⟨(⟨h, -⟩ | ⟨-, h, -⟩ | ⟨-, -, v, o, rfl, hrb, hfr⟩), hk2⟩
 ·exact absurd HQ3.o h
 ·rw [HO43.o] at h; cases h
 rw [Int.toNat_natCast] at hrb
 obtain ⟨va, vc, rfl, -⟩ := hrb.form
 obtain ⟨vo, hrd, hvo⟩ := Row.rd hrb
 have hlt : ∀ c, vo = some c → c < w2.heap.size := fun c hc => by
  rcases hvo with e | e
  ·rw [e] at hc; cases hc
  ·exact hrb.lt c (by rw [← e]; exact hc)
 have hbl := blkOf_len HOK.o (k := k) (by have := HQ3.o; omega)
 have hsz4 := HOK.o.2.2.2.1
 have hbk := dk_blocks (H.o.keep0 (HK1.o.trans hk2 (by simp)))
 have HBK := hyd hbk
 have HK2 := hyd (HK1.o.trans hk2 (by simp))
 have HB2 := hyd (blkk HB1.o hk2 (by simp))
 have hcase : ∀ W : World, Keep [] w2 W → Calls Tryz.prog 71 #[.int .i64 d.n, .slice va (blkOf d k).length vc] W fun e w' => ∃ (x : Value) (ok : Bool), e = .returned (.tuple #[x, .bool ok]) ∧ Keep [] W w' ∧ (ox = none ∧ x = zS ∧ ok = false ∨ ∃ y pv po, ox = some y ∧ x = aggS y pv ∧ ok = true ∧ RowE w' pv y.ps po ∧ (∀ b, po = some b → W.heap.size ≤ b)) := by
  intro W hW
  cases ox with
  | none =>
   refine (s_read_none (hrd.keep0 hW) (fun c hc => Nat.lt_of_lt_of_le (hlt c hc) hW.size) (by omega) HS.o.1).mono ?_
   rintro e w' ⟨rfl, hk⟩
   exact ⟨_, _, rfl, hk, .inl ⟨rfl, rfl, rfl⟩⟩
  | some y =>
   have hy := HS.o.2 y rfl
   refine (s_read_some (x := y) (hrd.keep0 hW) (fun c hc => Nat.lt_of_lt_of_le (hlt c hc) hW.size) (by omega) HS.o.1 hy.1 HOK.o.2.1 hy.2.1).mono ?_
   rintro e w' ⟨pv, po, rfl, h1, h2, hk⟩
   exact ⟨_, _, rfl, hk, .inr ⟨y, pv, po, rfl, rfl, rfl, h1, h2⟩⟩
 have HCASE := hyd hcase
 clear hrb hfr hk2 hrd hvo hlt hbk hcase hbl hsz4
 go_wp2_with fail
 refine HBK.o.mono ?_
 rintro e w3 ⟨rfl, hk3⟩
 have HK3 := hyd hk3
 clear hk3
 go_wp2_with fail
 refine (HCASE.o _ HK3.o).mono ?_
 rintro e w4 ⟨xv, ok, rfl, hk4, hres⟩
 have hb4 := blkk (blkk HB2.o HK3.o (by simp)) hk4 (by simp)
 have HK4 := hyd ((HK2.o.trans HK3.o (by simp)).trans hk4 (by simp))
 have hle4 : w.heap.size ≤ w3.heap.size := (HK2.o.trans HK3.o (by simp)).size
 have HLE := hyd hle4
 clear hk4 hle4
 rcases hres with ⟨rfl, rfl, rfl⟩ | ⟨y, pv, po, rfl, rfl, rfl, hrow, hpo⟩
 ·unfold zS
  have hb5 := blkk hb4 ((Keep.refl [] w4).alloc (.cells #[.int .u64 0, .slice none 0 0, .int .i64 0, .int .i64 0] 56)) (by simp)
  have f5 := frozen4 hb5
  obtain ⟨d0, d1, d2, d3⟩ := cells4s hb5
  obtain ⟨hb6, hk6⟩ := set4 hb5 (.int .u64 0) (.slice none 0 0) (.int .i64 0) (.int .i64 0)
  have HB6 := hyd hb6
  have HK6 := hyd ((HK4.o.alloc _).trans hk6 (by simp))
  clear hb4 hb5 hb6 hk6
  go_wp2_with fail
  refine bodyPost_ret (results_cell_tmp rfl _ _ w.heap.size _ _ _ _ rfl HB6.o Tryz.underlying56 rfl super_size) rfl ?_
  exact ⟨.inl ⟨rfl, rfl⟩, HK6.o⟩
 ·have hy := HS.o.2 y rfl
  obtain ⟨pa, pc, rfl⟩ := hrow.form
  obtain ⟨gen, ps, len, ep⟩ := y
  unfold aggS
  simp only at hrow hy
  have hne : ((gen : Int) % 2 != (k : Int)) = false := by have := hy.2.2; simp; omega
  have hb5 := blkk hb4 ((Keep.refl [] w4).alloc (.cells #[.int .u64 gen, .slice pa ps.length pc, .int .i64 len, .int .i64 ep] 56)) (by simp)
  have f5 := frozen4 hb5
  obtain ⟨d0, d1, d2, d3⟩ := cells4s hb5
  obtain ⟨hb6, hk6⟩ := set4 hb5 (.int .u64 gen) (.slice pa ps.length pc) (.int .i64 len) (.int .i64 ep)
  have hka : Keep [] w4 (w4.alloc (.cells #[.int .u64 gen, .slice pa ps.length pc, .int .i64 len, .int .i64 ep] 56)) := (Keep.refl [] w4).alloc _
  have hpn : ∀ b, po = some b → b ∉ [w.heap.size] := fun b hb => by
   have h1 := hpo b hb
   have h2 := (Array.getElem?_eq_some_iff.1 HB2.o).1
   have h3 := HK3.o.size
   simp; omega
  have hrow6 := (hrow.keep hka (by simp)).keep hk6 hpn
  have HB6 := hyd hb6
  have HK6 := hyd ((HK4.o.trans hka (by simp)).trans hk6 (by simp))
  have HROW := hyd hrow6
  have HPO := hyd hpo
  clear hb4 hb5 hb6 hk6 hrow hpo hrow6 hpn hy hka
  go_wp2_with fail
  refine bodyPost_ret (results_cell_tmp rfl _ _ w.heap.size _ _ _ _ rfl HB6.o Tryz.underlying56 rfl super_size) rfl ?_
  exact ⟨.inr ⟨_, _, po, rfl, rfl, HROW.o, fun b hb => Nat.le_trans HLE.o (HPO.o b hb)⟩, HK6.o⟩
def zSup : Sup := ⟨0, [], 0, 0⟩
def stepB (b : Sup) (ox : Option Sup) : Sup := match ox with
 | none => b
 | some x => if b.gen < x.gen then x else b
def bkN (ox : Nat → Option Sup) : Nat → Sup
 | 0 => zSup
 | k + 1 => stepB (bkN ox k) (ox k)
def BestP (w : World) (b : Sup) (e : Ending) (w' : World) : Prop :=
 ∃ pv po, e = .returned (.tuple #[aggS b pv, .int .i64 (if b.gen = 0 then 7 else 0)]) ∧ RowE w' pv b.ps po ∧ (∀ c, po = some c → w.heap.size ≤ c) ∧ Keep [] w w'
theorem s_best {w : World} {q : Nat} {m : List Int} {D : List Nat} {d : DS} {ox : Nat → Option Sup} (h : DK w q m D d) (h2 : 2 ≤ d.n) (hoff : d.off = false) (hs : ∀ k, k < 2 → SlotIs d k (ox k)) :
  Calls Tryz.prog 40 #[.pointer (some ⟨q, 0, none⟩)] w (BestP w (bkN ox 2)) := by
 have hk1 : Keep [] w (w.alloc (.cells #[.int .u64 0, .slice none 0 0, .int .i64 0, .int .i64 0] 56)) := (Keep.refl [] w).alloc _
 have hb1 := heap_alloc_new w (.cells #[.int .u64 0, .slice none 0 0, .int .i64 0, .int .i64 0] 56)
 have hsl := fun (W : World) (hW : Keep [] w W) (k : Nat) (hk : k < 2) => s_slot (h.keep0 hW) hk h2 hoff (hs k hk)
 have HSL := hyd hsl
 have HK1 := hyd hk1
 have HB1 := hyd hb1
 clear h h2 hoff hs hsl hk1 hb1
 go_enter Tryz.func40, Tryz.ntmps40
 go_wp2_with fail
 go_loopw [7] (fun i wr => ∃ (k : Nat) (pv : Value) (po : Option Nat), k ≤ 2 ∧ i = .int .i64 k ∧ wr.heap[w.heap.size]? = some (.cells #[.int .u64 (bkN ox k).gen, pv, .int .i64 (bkN ox k).len, .int .i64 (bkN ox k).ep] 56) ∧ RowE wr pv (bkN ox k).ps po ∧ (∀ c, po = some c → w.heap.size < c) ∧ Keep [] w wr) (fun i _ => 2 - (RowKit.intOf i).toNat)
 case atStart => exact ⟨0, .slice none 0 0, none, by omega, rfl, HB1.o, RowE.nil _, (fun c hc => by cases hc), HK1.o⟩
 case round =>
  obtain ⟨k, pv, po, hk, rfl, hb, hrow, hpo, hkw⟩ := hrel
  have HB := hyd hb
  have HROW := hyd hrow
  have HPO := hyd hpo
  have HKW := hyd hkw
  obtain ⟨pa, pc, rfl⟩ := hrow.form
  have hlt0 := (Array.getElem?_eq_some_iff.1 hb).1
  have HLT0 := hyd hlt0
  clear hb hrow hpo hkw hlt0
  by_cases hlt : k < 2
  ·have q1 : (k : Int) < 2 := by omega
   have hcall := HSL.o wr HKW.o k hlt
   have HC := hyd hcall
   have hnext : bkN ox (k + 1) = stepB (bkN ox k) (ox k) := rfl
   have HN := hyd hnext
   clear hcall hnext
   generalize bkN ox k = bb at *
   obtain ⟨gen, ps, len, ep⟩ := bb
   simp only at *
   go_wp2_with fail
   refine HC.o.mono ?_
   rintro e w2 ⟨(⟨hox, rfl⟩ | ⟨x, xv, xo, hox, rfl, hrx, hxo⟩), hk2⟩
   ·unfold zS
    have hb3 := blkk (blkk HB.o hk2 (by simp)) ((Keep.refl [] w2).alloc (.cells #[.int .u64 0, .slice none 0 0, .int .i64 0, .int .i64 0] 56)) (by simp)
    have hrow3 := (HROW.o.keep hk2 (by simp)).keep ((Keep.refl [] w2).alloc (.cells #[.int .u64 0, .slice none 0 0, .int .i64 0, .int .i64 0] 56)) (by simp)
    have hk3 := (HKW.o.trans hk2 (by simp)).alloc (.cells #[.int .u64 0, .slice none 0 0, .int .i64 0, .int .i64 0] 56)
    have hbn : bkN ox (k + 1) = ⟨gen, ps, len, ep⟩ := by rw [HN.o, hox]; rfl
    have HB3 := hyd hb3
    have HROW3 := hyd hrow3
    have HK3 := hyd hk3
    have HBN := hyd hbn
    clear hb3 hrow3 hk3 hbn hk2 hox
    go_wp2_with fail
    go_roundw
    case rel => exact ⟨k + 1, .slice pa ps.length pc, po, by omega, by go_num, by rw [HBN.o]; exact HB3.o, by rw [HBN.o]; exact HROW3.o, HPO.o, HK3.o⟩
    case measure => first | (simp [RowKit.intOf]; omega) | omega
   ·obtain ⟨xa, xc, rfl⟩ := hrx.form
    obtain ⟨g2, p2, l2, e2⟩ := x
    unfold aggS
    simp only at hrx hox
    have hb3 := blkk (blkk HB.o hk2 (by simp)) ((Keep.refl [] w2).alloc (.cells #[.int .u64 g2, .slice xa p2.length xc, .int .i64 l2, .int .i64 e2] 56)) (by simp)
    have hrow3 := (HROW.o.keep hk2 (by simp)).keep ((Keep.refl [] w2).alloc (.cells #[.int .u64 g2, .slice xa p2.length xc, .int .i64 l2, .int .i64 e2] 56)) (by simp)
    have hrx3 := hrx.keep ((Keep.refl [] w2).alloc (.cells #[.int .u64 g2, .slice xa p2.length xc, .int .i64 l2, .int .i64 e2] 56)) (by simp)
    have hk3 := (HKW.o.trans hk2 (by simp)).alloc (.cells #[.int .u64 g2, .slice xa p2.length xc, .int .i64 l2, .int .i64 e2] 56)
    have hxo3 : ∀ c, xo = some c → w.heap.size < c := fun c hc => Nat.lt_of_lt_of_le HLT0.o (hxo c hc)
    have HB3 := hyd hb3
    have HROW3 := hyd hrow3
    have HRX3 := hyd hrx3
    have HXO3 := hyd hxo3
    have HK3 := hyd hk3
    obtain ⟨d0, d1, d2, d3⟩ := cells4s hb3
    have f3 := frozen4 hb3
    by_cases hgt : gen < g2
    ·have hgt' : (gen : Int) < (g2 : Int) := by omega
     have hbn : bkN ox (k + 1) = ⟨g2, p2, l2, e2⟩ := by rw [HN.o, hox]; exact if_pos hgt
     obtain ⟨hb6, hk6⟩ := set4 hb3 (.int .u64 g2) (.slice xa p2.length xc) (.int .i64 l2) (.int .i64 e2)
     have hrx6 := hrx3.keep hk6 (fun b hb => by have := hxo3 b hb; simp; omega)
     have HB6 := hyd hb6
     have HRX6 := hyd hrx6
     have HK6 := hyd (hk3.trans hk6 (by simp))
     have HBN := hyd hbn
     clear hb3 hrow3 hrx3 hk3 hbn hk2 hox hrx hxo hxo3 hb6 hrx6 hk6
     go_wp2_with fail
     go_roundw
     case rel => exact ⟨k + 1, .slice xa p2.length xc, xo, by omega, by go_num, by rw [HBN.o]; exact HB6.o, by rw [HBN.o]; exact HRX6.o, HXO3.o, HK6.o⟩
     case measure => first | (simp [RowKit.intOf]; omega) | omega
    ·have hgt' : ¬ (gen : Int) < (g2 : Int) := by omega
     have hbn : bkN ox (k + 1) = ⟨gen, ps, len, ep⟩ := by rw [HN.o, hox]; exact if_neg hgt
     have HBN := hyd hbn
     clear hb3 hrow3 hrx3 hk3 hbn hk2 hox hrx hxo hxo3
     go_wp2_with fail
     go_roundw
     case rel => exact ⟨k + 1, .slice pa ps.length pc, po, by omega, by go_num, by rw [HBN.o]; exact HB3.o, by rw [HBN.o]; exact HROW3.o, HPO.o, HK3.o⟩
     case measure => first | (simp [RowKit.intOf]; omega) | omega
  ·have q1 : ¬ (k : Int) < 2 := by omega
   obtain rfl : k = 2 := by omega
   clear HSL
   generalize bkN ox 2 = bb at *
   obtain ⟨gen, ps, len, ep⟩ := bb
   simp only at *
   obtain ⟨d0, d1, d2, d3⟩ := cells4s HB.o
   have f3 := frozen4 HB.o
   obtain ⟨hb6, hk6⟩ := set4 HB.o (.int .u64 gen) (.slice pa ps.length pc) (.int .i64 len) (.int .i64 ep)
   have hrow6 := HROW.o.keep hk6 (fun b hb => by have := HPO.o b hb; simp; omega)
   have HB6 := hyd hb6
   have HROW6 := hyd hrow6
   have HK6 := hyd (HKW.o.trans hk6 (by simp))
   clear hb6 hk6 hrow6
   by_cases h0 : gen = 0
   ·subst h0
    go_wp2_with fail
    refine bodyPost_ret (results_cell_tmp rfl _ _ w.heap.size _ _ _ _ rfl HB6.o Tryz.underlying56 rfl super_size) rfl ?_
    exact ⟨_, po, rfl, HROW6.o, fun c hc => Nat.le_of_lt (HPO.o c hc), HK6.o⟩
   ·have h0' : ((gen : Int) == 0) = false := beq_eq_false_iff_ne.2 (by omega)
    have h0n := hyd h0
    clear h0
    go_wp2_with fail
    refine bodyPost_ret (results_cell_tmp rfl _ _ w.heap.size _ _ _ _ rfl HB6.o Tryz.underlying56 rfl super_size) rfl ?_
    exact ⟨_, po, by rw [if_neg h0n.out]; rfl, HROW6.o, fun c hc => Nat.le_of_lt (HPO.o c hc), HK6.o⟩
open Go.RowKit Go.Emb Go.Lib Go.Emb.Ext Go.Shelf Go.Sort
theorem closureL (x y : E) (W : World) : Calls Tryz.prog 118 #[.agg #[.int .i64 x.1, .int .i64 x.2], .agg #[.int .i64 y.1, .int .i64 y.2]] W fun e w' => e = .returned (.int .i64 (cmpL x y)) ∧ Keep [] W w' := by
 obtain ⟨x1, x2⟩ := x
 obtain ⟨y1, y2⟩ := y
 unfold cmpL
 go_enter Tryz.func118, Tryz.ntmps118
 go_wp2_with (go_at_call 79; refine (compare_any _ _ _).mono ?_; rintro e w' ⟨rfl, rfl⟩)
 go_ret
 exact ⟨rfl, ((Keep.refl _ _).alloc _).alloc _⟩
end Go.Proofs.YtimpadpeibgmoaaGreat

namespace Go.Emb.Ext
theorem JoinRes.ok {l a : List E} (h : JoinRes l a 0) : (∀ x ∈ l, right x = true) ∧ JoinOk l a ∧ ∀ x ∈ a, right x = true := by
 rcases h with h | h | h
 ·exact absurd h.1 (by decide)
 ·exact absurd h.1 (by decide)
 ·exact h.2
end Go.Emb.Ext
namespace Go.Proofs.YtimpadpeibgmoaaGreat
open Go.RowKit Go.Emb Go.Lib Go.Emb.Ext Go.Shelf Go.Sort
theorem box_after {wr w2 : World} {o' : Option Nat} {ob ob2 : Obj} (hlt : ∀ b, o' = some b → b < wr.heap.size) (hk2 : Keep o'.toList ((wr.alloc ob).alloc ob2) w2) : w2.heap[wr.heap.size]? = some ob := by
 rw [hk2.block wr.heap.size (by simp; omega) (by
   cases o' with
   | none => simp
   | some b => have := hlt b rfl; simp; omega), Below.heap_alloc _ _ _ (by simp)]
 exact heap_alloc_new wr ob
theorem cells2 {w : World} {q : Nat} {x y : Value} {t : TypeId} (h : w.heap[q]? = some (.cells #[x, y] t (0, 0))) : w.cell? ⟨q, 0, none⟩ = some x ∧ w.cell? ⟨q, 1, none⟩ = some y := by
 refine ⟨?_, ?_⟩ <;> simp [World.cell?, h]
end Go.Proofs.YtimpadpeibgmoaaGreat

namespace Go.Emb.Ext
def topOf : List E → E
 | [] => (0, 0)
 | x :: l => l.foldl (fun m y => if m.2 < y.2 then y else m) x
theorem topOf_snoc {l : List E} (h : l ≠ []) (y : E) : topOf (l ++ [y]) = if (topOf l).2 < y.2 then y else topOf l := by
 cases l with
 | nil => exact absurd rfl h
 | cons x l => simp only [topOf, List.cons_append, List.foldl_append, List.foldl_cons, List.foldl_nil] <;> rfl
theorem topOf_spec : ∀ {l : List E}, l ≠ [] → ∃ k, ∃ (h : k < l.length), l[k] = topOf l ∧ (∀ y ∈ l, y.2 ≤ (topOf l).2) ∧ ∀ j (hj : j < k), (l[j]'(by omega)).2 < (topOf l).2 := by
 suffices H : ∀ (n : Nat) (l : List E), l.length = n → l ≠ [] → ∃ k, ∃ (h : k < l.length), l[k] = topOf l ∧ (∀ y ∈ l, y.2 ≤ (topOf l).2) ∧ ∀ j (hj : j < k), (l[j]'(by omega)).2 < (topOf l).2 from fun {l} h => H _ l rfl h
 intro n
 induction n with
 | zero => intro l h1 h2; exact absurd (List.eq_nil_of_length_eq_zero h1) h2
 | succ n ihn =>
  intro l hn hl0
  rcases List.eq_nil_or_concat l with rfl | ⟨l, y, rfl⟩
  ·exact absurd rfl hl0
  rw [List.concat_eq_append] at hn ⊢
  have ih := ihn l (by simpa using hn)
  by_cases hl : l = []
  ·subst hl
   exact ⟨0, by simp, by simp [topOf], by simp [topOf], fun j hj => absurd hj (Nat.not_lt_zero _)⟩
  ·obtain ⟨k, hk, e1, e2, e3⟩ := ih hl
   rw [topOf_snoc hl]
   by_cases hy : (topOf l).2 < y.2
   ·rw [if_pos hy]
    refine ⟨l.length, by simp, by simp, ?_, ?_⟩
    ·intro z hz
     rcases List.mem_append.1 hz with hz | hz
     ·have := e2 z hz; omega
     ·simp at hz; subst hz; omega
    ·intro j hj
     rw [List.getElem_append_left hj]
     have := e2 _ (List.getElem_mem hj)
     omega
   ·rw [if_neg hy]
    refine ⟨k, by simp; omega, by rw [List.getElem_append_left hk]; exact e1, ?_, ?_⟩
    ·intro z hz
     rcases List.mem_append.1 hz with hz | hz
     ·exact e2 z hz
     ·simp at hz; subst hz; omega
    ·intro j hj
     rw [List.getElem_append_left (by omega)]
     exact e3 j hj
theorem maxI_eq {l : List E} {k : Nat} (hk : k < l.length) (h1 : ∀ y ∈ l, y.2 ≤ l[k].2) (h2 : ∀ j (hj : j < k), (l[j]'(by omega)).2 < l[k].2) : maxI l = k := by
 unfold maxI
 rw [List.findIdx_eq hk]
 refine ⟨?_, ?_⟩
 ·simpa using fun a b hab => h1 (a, b) hab
 ·intro j hj
  rw [Bool.eq_false_iff]
  intro hall
  have := List.all_eq_true.1 hall l[k] (List.getElem_mem hk)
  simp at this
  have := h2 j hj
  omega
end Go.Emb.Ext
namespace Go.Proofs.YtimpadpeibgmoaaGreat
open Go.RowKit Go.Emb Go.Lib Go.Emb.Ext Go.Shelf Go.Sort
theorem idxP_max {l : List E} (hl : l ≠ []) : idxP l (fun x => decide (topOf l = x)) = maxI l := by
 obtain ⟨k, hk, e1, e2, e3⟩ := topOf_spec hl
 rw [maxI_eq hk (by rw [e1]; exact e2) (by rw [e1]; exact e3)]
 refine idxP_at hk (by simp [e1]) (fun j hj => ?_)
 have := e3 j hj
 simp
 intro e
 rw [e] at this
 omega
def MaxR (w : World) (l : List E) (k : Nat) (wr : World) : Prop :=
 wr.heap[w.heap.size]? = some (.cells #[.int .i64 0, .int .i64 0] 34 (0, 0)) ∧ wr.heap[w.heap.size + 1]? = some (.cells #[.int .i64 (topOf (l.take k)).1, .int .i64 (topOf (l.take k)).2] 34 (0, 0)) ∧ Keep [] w wr
theorem cells2f {w : World} {q : Nat} {x y : Value} {t : TypeId} (h : w.heap[q]? = some (.cells #[x, y] t (0, 0))) : w.cell? ⟨q, 0, none⟩ = some x ∧ w.cell? ⟨q, 1, none⟩ = some y ∧ w.frozen? ⟨q, 0, none⟩ = false ∧ w.frozen? ⟨q, 1, none⟩ = false := by
 refine ⟨?_, ?_, ?_, ?_⟩ <;> simp [World.cell?, World.frozen?, h]
theorem closureL' (x y : E) (W : World) : ∃ c : Int, decide (0 < c) = decide (y.2 < x.2) ∧ ∀ W, Calls Tryz.prog 118 #[.agg #[.int .i64 x.1, .int .i64 x.2], .agg #[.int .i64 y.1, .int .i64 y.2]] W fun e w' => e = .returned (.int .i64 c) ∧ Keep [] W w' := by
 refine ⟨cmpL x y, ?_, fun W => closureL x y W⟩
 unfold cmpL Lib.compareInt
 split
 ·simp; omega
 ·split
  ·simp; omega
  ·simp; omega
theorem maxFunc_any {w : World} {v : Value} {l : List E} {o : Option Nat} (hr : RdE w v l o) (hsz : l.length ≤ 1000000) (ho : ∀ b, o = some b → b < w.heap.size) (hl : l ≠ []) :
  Calls Tryz.prog 117 #[v, .func (.func 118) #[] #[]] w fun e w' => e = .returned (aggE (topOf l)) ∧ Keep [] w w' := by
 obtain ⟨a, c, rfl⟩ : ∃ a c, v = .slice a l.length c := by obtain ⟨_, a, c, h, _⟩ := hr; exact ⟨a, c, h⟩
 have hpos : 0 < l.length := List.length_pos_iff.2 hl
 have hpos1 : ¬ (l.length : Int) < 1 := by omega
 obtain ⟨b, off, rfl, rfl, g0, g1⟩ := hr.at hpos
 have hm1 : topOf (l.take 1) = l[0] := by
  cases l with
  | nil => simp at hpos
  | cons x l => simp [topOf]
 have HR := hyd hr
 have HO := hyd ho
 have HM1 := hyd hm1
 have HL := hyd hl
 have hbl := ho b rfl
 clear hr ho hm1 hl
 generalize l[0] = x0 at *
 obtain ⟨x01, x02⟩ := x0
 simp only [Nat.zero_mul, Nat.add_zero] at g0 g1
 have e0 : ∀ ob, (w.alloc ob).cell? ⟨b, off, none⟩ = some (.int .i64 x01) := fun ob => ((Keep.refl [] w).alloc ob).cellOf g0
 have e1 : ∀ ob, (w.alloc ob).cell? ⟨b, off + 1, none⟩ = some (.int .i64 x02) := fun ob => ((Keep.refl [] w).alloc ob).cellOf g1
 go_enter Tryz.func117, Tryz.ntmps117
 go_wp2_with fail
 go_loopw [6] (fun i wr => ∃ k : Nat, 1 ≤ k ∧ k ≤ l.length ∧ i = .int .i64 k ∧ MaxR w l k wr) (fun i _ => l.length - (intOf i).toNat)
 case atStart =>
  refine ⟨1, by omega, by omega, rfl, ?_, ?_, ?_⟩
  ·exact (Below.heap_alloc _ _ _ (by simp)).trans (heap_alloc_new w _)
  ·rw [HM1.o]
   have := heap_alloc_new (w.alloc (.cells #[.int .i64 0, .int .i64 0] 34)) (.cells #[.int .i64 x01, .int .i64 x02] 34)
   simpa using this
  ·exact ((Keep.refl _ _).alloc _).alloc _
 case round =>
  obtain ⟨k, hk1, hk, rfl, hb4, hb5, hK⟩ := hrel
  have HB4 := hyd hb4
  have HB5 := hyd hb5
  have HK := hyd hK
  clear hb4 hb5 hK e0 e1 g0 g1
  by_cases hlt : k < l.length
  ·obtain ⟨b', off', hbb, hoo, d0, d1⟩ := HR.o.at hlt
   cases hbb
   have f0 := HK.o.cellOf d0
   have f1 := HK.o.cellOf d1
   obtain ⟨m0, m1, mf0, mf1⟩ := cells2f HB5.o
   have hms : topOf (l.take (k + 1)) = if (topOf (l.take k)).2 < l[k].2 then l[k] else topOf (l.take k) := by
    rw [List.take_succ_eq_append_getElem hlt, topOf_snoc (List.length_pos_iff.1 (by rw [List.length_take]; omega))]
   have HMS := hyd hms
   obtain ⟨cc, hcd, hcall⟩ := closureL' l[k] (topOf (l.take k)) wr
   clear hms d0 d1
   generalize l[k] = x at *
   generalize topOf (l.take k) = m at *
   obtain ⟨x1, x2⟩ := x
   obtain ⟨y1, y2⟩ := m
   simp only at f0 f1 m0 m1 hcd hcall
   have q0 : (0 : Int) ≤ (k : Int) := by omega
   have q1 : (k : Int) < (l.length : Int) := by omega
   have hbw : wr.heap[b]? = w.heap[b]? := HK.o.block b hbl (by simp)
   have hsw := HK.o.size
   have hs5 : w.heap.size + 1 < wr.heap.size := World.block_lt_of_cell? _ _ m0
   clear hbw
   have HSS : Hid (∀ w', Keep [] wr w' → (w'.cell? ⟨b, off + k * 2, none⟩ = some (.int .i64 x1) ∧ w'.cell? ⟨b, off + k * 2 + 1, none⟩ = some (.int .i64 x2)) ∧ w'.cell? ⟨w.heap.size + 1, 0, none⟩ = some (.int .i64 y1) ∧ w'.cell? ⟨w.heap.size + 1, 1, none⟩ = some (.int .i64 y2)) :=
    fun w' hk' => ⟨⟨hk'.cellOf f0, hk'.cellOf f1⟩, hk'.cellOf m0, hk'.cellOf m1⟩
   have HCALL := hyd hcall
   clear hcall
   by_cases hlt2 : y2 < x2
   ·have hcd1 : decide (0 < cc) = true := by rw [hcd]; simpa using hlt2
    have hms2 : topOf (l.take (k + 1)) = (x1, x2) := by rw [HMS.o, if_pos hlt2]
    have HM2 := hyd hms2
    clear hcd hms2 HMS hlt2
    go_wp2_with fail
    go_region_held3 (fun w' => (w'.cell? ⟨b, off + k * 2, none⟩ = some (.int .i64 x1) ∧ w'.cell? ⟨b, off + k * 2 + 1, none⟩ = some (.int .i64 x2)) ∧ w'.cell? ⟨w.heap.size + 1, 0, none⟩ = some (.int .i64 y1) ∧ w'.cell? ⟨w.heap.size + 1, 1, none⟩ = some (.int .i64 y2)) (first | exact HSS.o _ ((Keep.refl [] wr).drew) | exact HSS.o _ ((Keep.refl [] wr).drew.trans hk2 (by simp)) | go_keep)
     (first | (go_at_call 118; refine (HCALL.o _).mono ?_; rintro e w2 ⟨rfl, hk2⟩))
    have hk3 : Keep [] wr w2 := (Keep.refl [] wr).drew.trans hk2 (by simp)
    obtain ⟨mf2, mf3⟩ : w2.frozen? ⟨w.heap.size + 1, 0, none⟩ = false ∧ w2.frozen? ⟨w.heap.size + 1, 1, none⟩ = false := by
     have := cells2f ((hk3.block _ hs5 (by simp)).trans HB5.o)
     exact this.2.2
    have HK3 := hyd hk3
    clear hk3 hk2
    go_wp2_with fail
    go_roundw
    case rel =>
     have h5 := (HK3.o.block _ hs5 (by simp)).trans HB5.o
     have h4 := (HK3.o.block w.heap.size (by omega) (by simp)).trans HB4.o
     refine ⟨k + 1, by omega, by omega, by go_num, ?_, ?_, ?_⟩
     ·rw [Below.heap_setCell _ _ _ _ (by simp), Below.heap_setCell _ _ _ _ (by simp)]; exact h4
     ·rw [HM2.o]
      have := heap_setCell_at (i := 1) (heap_setCell_at (i := 0) h5 (.int .i64 x1)) (.int .i64 x2)
      simpa using this
     ·exact ((HK.o.trans HK3.o (by simp)).setCell (p := ⟨w.heap.size + 1, 0, none⟩) (.inr (by simp)) _).setCell (p := ⟨w.heap.size + 1, 1, none⟩) (.inr (by simp)) _
    case measure => simp [intOf]; omega
   ·have hcd1 : decide (0 < cc) = false := by rw [hcd]; simpa using hlt2
    have hms2 : topOf (l.take (k + 1)) = (y1, y2) := by rw [HMS.o, if_neg hlt2]
    have HM2 := hyd hms2
    clear hcd hms2 HMS hlt2
    go_wp2_with fail
    go_region_held3 (fun w' => (w'.cell? ⟨b, off + k * 2, none⟩ = some (.int .i64 x1) ∧ w'.cell? ⟨b, off + k * 2 + 1, none⟩ = some (.int .i64 x2)) ∧ w'.cell? ⟨w.heap.size + 1, 0, none⟩ = some (.int .i64 y1) ∧ w'.cell? ⟨w.heap.size + 1, 1, none⟩ = some (.int .i64 y2)) (first | exact HSS.o _ ((Keep.refl [] wr).drew) | exact HSS.o _ ((Keep.refl [] wr).drew.trans hk2 (by simp)) | go_keep)
     (first | (go_at_call 118; refine (HCALL.o _).mono ?_; rintro e w2 ⟨rfl, hk2⟩))
    have hk3 : Keep [] wr w2 := (Keep.refl [] wr).drew.trans hk2 (by simp)
    have HK3 := hyd hk3
    clear hk3 hk2
    go_wp2_with fail
    go_roundw
    case rel =>
     have h5 := (HK3.o.block _ hs5 (by simp)).trans HB5.o
     have h4 := (HK3.o.block w.heap.size (by omega) (by simp)).trans HB4.o
     exact ⟨k + 1, by omega, by omega, by go_num, h4, by rw [HM2.o]; exact h5, HK.o.trans HK3.o (by simp)⟩
    case measure => simp [intOf]; omega
  ·have htk : topOf (l.take k) = topOf l := by rw [List.take_of_length_le (by omega)]
   have h5 := HB5.o
   rw [htk] at h5
   obtain ⟨m0, m1, mf0, mf1⟩ := cells2f h5
   obtain ⟨z0, z1, zf0, zf1⟩ := cells2f HB4.o
   have H5 := hyd h5
   clear h5 htk
   generalize hm : topOf l = m at *
   have HT := hyd hm
   clear hm
   obtain ⟨y1, y2⟩ := m
   simp only at m0 m1
   go_wp2_with fail
   unfold aggE
   refine bodyPost_ret (v := .agg #[.int .i64 y1, .int .i64 y2]) ?_ rfl ⟨by rw [HT.o], ?_⟩
   ·have h4 := heap_setCell_at (i := 1) (heap_setCell_at (i := 0) HB4.o (.int .i64 y1)) (.int .i64 y2)
    obtain ⟨r0, r1, -⟩ := cells2f (by simpa using h4)
    simp [results, Tryz.results117, go_sem, r0, r1]
   ·exact (HK.o.setCell (p := ⟨w.heap.size, 0, none⟩) (.inr (Nat.le_refl _)) _).setCell (p := ⟨w.heap.size, 1, none⟩) (.inr (Nat.le_refl _)) _
theorem index_any {w : World} {v : Value} {l : List E} {o : Option Nat} (hr : RdE w v l o) (hsz : l.length ≤ 1000000) (m : E) :
  Calls Tryz.prog 119 #[v, aggE m] w fun e w' => e = .returned (.int .i64 (idxP l (fun x => decide (m = x)))) ∧ Keep [] w w' := by
 obtain ⟨a, c, rfl⟩ : ∃ a c, v = .slice a l.length c := by obtain ⟨_, a, c, h, _⟩ := hr; exact ⟨a, c, h⟩
 have hgu := guardE
 have heq := eqlE
 have HR := hyd hr
 clear hr
 obtain ⟨m1, m2⟩ := m
 unfold aggE
 go_enter Tryz.func119, Tryz.ntmps119
 go_wp2_with fail
 have hc0 : ∀ n, ((w.alloc (.cells #[.int .i64 m1, .int .i64 m2] 34)).drewN n).cell? ⟨w.heap.size, 0, none⟩ = some (.int .i64 m1) := fun n => (cells2 (heap_alloc_new w _)).1
 have hc1 : ∀ n, ((w.alloc (.cells #[.int .i64 m1, .int .i64 m2] 34)).drewN n).cell? ⟨w.heap.size, 1, none⟩ = some (.int .i64 m2) := fun n => (cells2 (heap_alloc_new w _)).2
 go_loopw [5, 8] (fun _ i wr => ∃ k n : Nat, k ≤ l.length ∧ i = .int .i64 k ∧ NoBefore l (fun x => decide ((m1, m2) = x)) k ∧ wr = (w.alloc (.cells #[.int .i64 m1, .int .i64 m2] 34)).drewN n) (fun _ i _ => l.length - (intOf i).toNat)
 case atStart => exact ⟨0, 0, Nat.zero_le _, rfl, fun j hj => absurd hj (Nat.not_lt_zero _), rfl⟩
 case round =>
  obtain ⟨k, n, hk, rfl, hno, rfl⟩ := hrel
  have HNO := hyd hno
  clear hno
  by_cases hlt : k < l.length
  ·obtain ⟨b, off, rfl, rfl, g0, g1⟩ := HR.o.at hlt
   have kk : ∀ n, Keep [] w ((w.alloc (.cells #[.int .i64 m1, .int .i64 m2] 34)).drewN n) := fun n => ((Keep.refl [] w).alloc _).drewN n
   have d0 := fun n => (kk n).cellOf g0
   have d1 := fun n => (kk n).cellOf g1
   have hx : l[k]? = some l[k] := List.getElem?_eq_getElem hlt
   have HX := hyd hx
   clear kk g0 g1 hx
   generalize l[k] = x at *
   obtain ⟨x1, x2⟩ := x
   simp only at d0 d1
   have q0 : (0 : Int) ≤ (k : Int) := by omega
   have q1 : (k : Int) < (l.length : Int) := by omega
   have d0' := d0 n
   have d1' := d1 n
   have hc0' := hc0 n
   have hc1' := hc1 n
   generalize hW : (w.alloc (.cells #[.int .i64 m1, .int .i64 m2] 34)).drewN n = W at *
   have HW := hyd hW
   clear hW d0 d1 hc0 hc1
   by_cases hxy : ((m1, m2) : E) = (x1, x2)
   ·have hb' : (m1 == x1 && m2 == x2) = true := by simp at hxy; simp [hxy]
    have heq' : ∀ W, (binOp .eql 34 (.agg #[.int .i64 m1, .int .i64 m2]) (.agg #[.int .i64 x1, .int .i64 x2])).run Tryz.prog W = .ok (.bool true) W := fun W => by rw [heq, hb']
    have hres : idxP l (fun x => decide ((m1, m2) = x)) = k := by
     have hxk := HX.o
     rw [List.getElem?_eq_getElem hlt] at hxk
     have hxk := Option.some.inj hxk
     refine idxP_at hlt (by rw [hxk]; simpa using hxy) (fun j hj => HNO.o j hj _ (List.getElem?_eq_getElem (by omega)))
    have HRES := hyd hres
    clear heq hb' hxy hres
    go_wp2_with fail
    go_quiet (fail)
    go_wp2_with fail
    go_ret
    exact ⟨by rw [HRES.o]; rfl, by rw [← HW.o]; exact (((Keep.refl [] w).alloc _).drewN _).drewN _⟩
   ·have hb' : (m1 == x1 && m2 == x2) = false := by
     simp at hxy ⊢; exact hxy
    have heq' : ∀ W, (binOp .eql 34 (.agg #[.int .i64 m1, .int .i64 m2]) (.agg #[.int .i64 x1, .int .i64 x2])).run Tryz.prog W = .ok (.bool false) W := fun W => by rw [heq, hb']
    have HXY := hyd hxy
    clear heq hb' hxy
    go_wp2_with fail
    go_quiet (fail)
    go_wp2_with fail
    go_roundw
    case rel =>
     refine ⟨k + 1, _, by omega, by go_num, fun j hj y hy => ?_, by rw [← HW.o, World.drewN_drewN]⟩
     by_cases e : j = k
     ·subst e; rw [HX.o] at hy; cases hy; simpa using HXY.o
     ·exact HNO.o j (by omega) y hy
    case measure => simp [intOf]; omega
  ·have hres : idxP l (fun x => decide ((m1, m2) = x)) = -1 := idxP_none (fun j hj => HNO.o j (by omega) _ (List.getElem?_eq_getElem hj))
   have HRES := hyd hres
   clear hres
   go_wp2_with fail
   go_ret
   exact ⟨by rw [HRES.o]; rfl, ((Keep.refl [] w).alloc _).drewN _⟩
theorem chooseClosure (n : Int) (x : E) (B : Nat) (w : World) (hc : w.cell? ⟨B, 0, none⟩ = some (.int .i64 n)) :
  Calls Tryz.prog 116 #[aggE x, .pointer (some ⟨B, 0, none⟩)] w fun e w' => e = .returned (.bool (decide (n ≤ x.2))) ∧ Keep [] w w' := by
 obtain ⟨f, m⟩ := x
 unfold aggE
 have e0 : ∀ ob, (w.alloc ob).cell? ⟨B, 0, none⟩ = some (.int .i64 n) := fun ob => ((Keep.refl [] w).alloc ob).cellOf hc
 go_enter Tryz.func116, Tryz.ntmps116
 go_wp2_with fail
 go_ret
 exact ⟨rfl, (Keep.refl _ _).alloc _⟩
theorem chooseI_idx (l : List E) (n : Int) : (idxP l (fun x => decide (n ≤ x.2)) = -1 ∧ chooseI l n = maxI l) ∨ (0 ≤ idxP l (fun x => decide (n ≤ x.2)) ∧ idxP l (fun x => decide (n ≤ x.2)) = chooseI l n) := by
 unfold idxP chooseI
 cases l.findIdx? (fun x => decide (n ≤ x.2)) with
 | none => exact .inl ⟨rfl, rfl⟩
 | some i => exact .inr ⟨by simp, rfl⟩
theorem choose_any {w : World} {v : Value} {l : List E} {o : Option Nat} (hr : RdE w v l o) (hsz : l.length ≤ 1000000) (ho : ∀ b, o = some b → b < w.heap.size) (hl : l ≠ []) (n : Int) :
  Calls Tryz.prog 86 #[v, .int .i64 n] w fun e w' => e = .returned (.int .i64 (chooseI l n)) ∧ Keep [] w w' := by
 obtain ⟨a, c, rfl⟩ : ∃ a c, v = .slice a l.length c := by obtain ⟨_, a, c, h, _⟩ := hr; exact ⟨a, c, h⟩
 have eg : ∀ args w, (callFunc 116 args).run Tryz.prog w = .ok (.enter 116 args) w := enters_of Tryz.func116 (by kernel_rfl) rfl
 have hcc : (w.alloc (.cells #[.int .i64 n] 3)).cell? ⟨w.heap.size, 0, none⟩ = some (.int .i64 n) := by simp
 have hcon := indexFunc_any (w := w.alloc (.cells #[.int .i64 n] 3)) (hr.keep ((Keep.refl [] w).alloc _) (by simp)) (by omega) (fun b hb => by have := ho b hb; simp; omega) 116 #[.pointer (some ⟨w.heap.size, 0, none⟩)] (fun x => decide (n ≤ x.2)) eg
  (fun x W hk => chooseClosure n x w.heap.size W (hk.cellOf hcc))
 have hmx := fun W (hk : Keep [] w W) => maxFunc_any (hr.keep hk (by simp)) hsz (fun b hb => by have := ho b hb; have := hk.size; omega) hl
 have hix := fun W (hk : Keep [] w W) => index_any (hr.keep hk (by simp)) hsz (topOf l)
 have him := idxP_max hl
 have HMX := hyd hmx
 have HIX := hyd hix
 have HIM := hyd him
 rcases chooseI_idx l n with ⟨h1, h2⟩ | ⟨h1, h2⟩
 ·rw [h1] at hcon
  rw [h2]
  clear hcc hr ho eg hmx hix him h1 h2 hl
  go_enter Tryz.func86, Tryz.ntmps86
  go_wp2_with fail
  refine hcon.mono ?_
  rintro e w1 ⟨rfl, hk1⟩
  have k1 : Keep [] w w1 := ((Keep.refl _ _).alloc _).trans hk1 (by simp)
  have hcm := HMX.o w1 k1
  have K1 := hyd k1
  clear hk1 k1 hcon
  go_wp2_with fail
  refine hcm.mono ?_
  rintro e w2 ⟨rfl, hk2⟩
  have k2 : Keep [] w w2 := K1.o.trans hk2 (by simp)
  have hcx := fun ob => HIX.o (w2.alloc ob) (k2.alloc _)
  have K2 := hyd k2
  have hm2 := HIM.o
  rw [hm2] at hcx
  clear hk2 k2 hcm hm2
  generalize topOf l = m at *
  obtain ⟨m1, m2⟩ := m
  unfold aggE at *
  have HCX := hyd hcx
  clear hcx
  go_wp2_with fail
  refine (HCX.o _).mono ?_
  rintro e w3 ⟨rfl, hk3⟩
  have K3 := hyd hk3
  clear hk3
  go_wp2_with fail
  go_ret
  exact ⟨rfl, (K2.o.alloc _).trans K3.o (by simp)⟩
 ·have h0 : (0 : Int) ≤ (chooseI l n : Int) := by omega
  rw [h2] at hcon
  clear hcc hr ho eg hmx hix him h1 h2 hl
  generalize chooseI l n = i at *
  go_enter Tryz.func86, Tryz.ntmps86
  go_wp2_with fail
  refine hcon.mono ?_
  rintro e w1 ⟨rfl, hk1⟩
  have k1 : Keep [] w w1 := ((Keep.refl _ _).alloc _).trans hk1 (by simp)
  have K1 := hyd k1
  clear hk1 k1 hcon
  go_wp2_with fail
  go_ret
  exact ⟨rfl, K1.o⟩
end Go.Proofs.YtimpadpeibgmoaaGreat
