/- A part of the proof (Su17, Su18, Su19, Su20, Ext1, Ext2, Ext3, Ext4, Ext5, Ext6, Ext7), joined by squeeze2.py. -/
import Derived.Test.YtimpadpeibgmoaaGreatYc22
import Derived.Laws.Rows
import Derived.Test.YtimpadpeibgmoaaGreatYc08
import Derived.Test.YtimpadpeibgmoaaGreatYc01
import Derived.Test.YtimpadpeibgmoaaGreatProg
import Derived.Test.YtimpadpeibgmoaaGreatYc11
import Derived.Deep.RegionHeld3
import Derived.Deep.QuietTactic
import Derived.BigQuiet
import Derived.Deep.LoopGhost
import Derived.Shelf.Abstract
import Derived.IntWalk
import Derived.Test.YtimpadpeibgmoaaGreatYc12
import Derived.Laws.StructEq
import Derived.Test.YtimpadpeibgmoaaGreatYc02
import Derived.Test.YtimpadpeibgmoaaGreatYc13
import Derived.StillTailTactics
set_option maxHeartbeats 8000000
set_option maxRecDepth 100000
namespace Go.Proofs.YtimpadpeibgmoaaGreat
open Go.RowKit Go.Emb Go.Emb.Ext
def SlotIs (d : DS) (k : Nat) (ox : Option Sup) : Prop :=
 openS (blkOf d k) = ox.map (fun x => ⟨83, x.gen, loadL x⟩) ∧ ∀ x, ox = some x → okS d.n x ∧ x.gen < 18446744073709551616 ∧ x.gen % 2 = k
theorem blk_put_same {d : DS} (h : d.ok) {k : Nat} (hk : k < d.n) {p : List UInt8} (hp : p.length = d.sz) (l : Int) : blkOf { d with left := l, L := putB d k p } k = p := by
 have hle := blk_le h hk
 have hL := h.2.2.2.2.1
 show ((putB d k p).drop (k * d.sz)).take d.sz = p
 unfold putB
 rw [hp, Nat.sub_self, List.replicate_zero, List.append_nil, List.append_assoc, List.drop_append_of_le_length (by rw [List.length_take]; omega), List.drop_of_length_le (by rw [List.length_take]; omega), List.nil_append, List.take_append_of_le_length (by omega), List.take_of_length_le (by omega)]
theorem blk_put_other {d : DS} (h : d.ok) {k j : Nat} (hk : k < d.n) (hj : j < d.n) (hjk : j ≠ k) {p : List UInt8} (hp : p.length ≤ d.sz) (l : Int) : blkOf { d with left := l, L := putB d k p } j = blkOf d j := by
 have hle := blk_le h hk
 have hlj := blk_le h hj
 have hL := h.2.2.2.2.1
 show ((putB d k p).drop (j * d.sz)).take d.sz = (d.L.drop (j * d.sz)).take d.sz
 have hpl := putB_len h hk hp
 apply List.ext_getElem?
 intro i
 rw [List.getElem?_take, List.getElem?_take]
 split
 ·rename_i hi
  rw [List.getElem?_drop, List.getElem?_drop]
  unfold putB
  rcases Nat.lt_or_gt_of_ne hjk with hlt | hlt
  ·have : (j + 1) * d.sz ≤ k * d.sz := Nat.mul_le_mul_right _ hlt
   rw [Nat.add_mul, Nat.one_mul] at this
   rw [List.append_assoc, List.append_assoc, List.getElem?_append_left (by rw [List.length_take]; omega), List.getElem?_take_of_lt (by omega)]
  ·have : (k + 1) * d.sz ≤ j * d.sz := Nat.mul_le_mul_right _ hlt
   rw [Nat.add_mul, Nat.one_mul] at this
   have hlen : (d.L.take (k * d.sz) ++ p ++ List.replicate (d.sz - p.length) 0).length = k * d.sz + d.sz := by
    simp only [List.length_append, List.length_take, List.length_replicate]; omega
   rw [List.getElem?_append_right (by rw [hlen]; omega), hlen, List.getElem?_drop]
   congr 1
   omega
 ·rfl
theorem openS_zero (n : Nat) : openS (List.replicate n 0) = none :=
 openS_none (.inr (.inr (.inl (by unfold sealKind; cases n <;> rfl))))
def SlotP (w : World) (ox : Option Sup) (e : Ending) (w' : World) : Prop :=
 (ox = none ∧ e = .returned (.tuple #[zS, .int .i64 30]) ∨ ∃ x pv po, ox = some x ∧ e = .returned (.tuple #[aggS x pv, .int .i64 0]) ∧ RowE w' pv x.ps po ∧ (∀ b, po = some b → w.heap.size ≤ b)) ∧ Keep [] w w'
theorem dk_blocks {w : World} {q : Nat} {m : List Int} {D : List Nat} {d : DS} (h : DK w q m D d) : Calls Tryz.prog 32 #[.pointer (some ⟨q, 0, none⟩)] w fun e w' => e = .returned (.int .i64 d.n) ∧ Keep [] w w' := by
 obtain ⟨gb, c, logv, logs, lo, s, r, -, h1, -, -, -, -, ok⟩ := h
 exact p_blocks h1 rfl (by have := ok.2.2.1; omega) ok.2.1
theorem DK.isok {w : World} {q : Nat} {m : List Int} {D : List Nat} {d : DS} (h : DK w q m D d) : d.ok := by
 obtain ⟨gb, c, logv, logs, lo, s, r, -, -, -, -, -, -, ok⟩ := h; exact ok
theorem s_slot {w : World} {q k : Nat} {m : List Int} {D : List Nat} {d : DS} {ox : Option Sup} (h : DK w q m D d) (hk : k < 2) (h2 : 2 ≤ d.n) (hoff : d.off = false) (hs : SlotIs d k ox) :
  Calls Tryz.prog 43 #[.pointer (some ⟨q, 0, none⟩), .int .i64 k] w (SlotP w ox) := by
 have hk1 : Keep [] w (w.alloc (.cells #[.int .u64 0, .slice none 0 0, .int .i64 0, .int .i64 0] 56)) := (Keep.refl [] w).alloc _
 have hb1 := heap_alloc_new w (.cells #[.int .u64 0, .slice none 0 0, .int .i64 0, .int .i64 0] 56)
 have hread := p_read (h.keep0 hk1) (k : Int)
 have H := hyd h
 have HO43 := hyd hoff
 have HS := hyd hs
 have HOK := hyd h.isok
 have HRD := hyd hread
 have HK1 := hyd hk1
 have HB1 := hyd hb1
 have q1 : ¬ (k : Int) < 0 := by omega
 have q2 : ¬ (2 : Int) ≤ (k : Int) := by omega
 have q3 : (0 : Int) ≤ (k : Int) ∧ (k : Int) < (d.n : Int) := by omega
 have HQ3 := hyd q3
 clear h hoff hs hread hk1 hb1 q3
 go_enter Tryz.func43, Tryz.ntmps43
 go_wp2_with fail
 refine HRD.o.mono ?_
 rintro e w2 ⟨(⟨h, -⟩ | ⟨-, h, -⟩ | ⟨-, -, v, o, rfl, hrb, hfr⟩), hk2⟩
 ·exact absurd HQ3.o h
 ·rw [HO43.o] at h; cases h
 rw [Int.toNat_natCast] at hrb
 obtain ⟨va, vc, rfl, -⟩ := hrb.form
 obtain ⟨vo, hrd, hvo⟩ := Row.rd hrb
 have hlt : ∀ c, vo = some c → c < w2.heap.size := fun c hc => by
  rcases hvo with e | e
  ·rw [e] at hc; cases hc
  ·exact hrb.lt c (by rw [← e]; exact hc)
 have hbl := blkOf_len HOK.o (k := k) (by have := HQ3.o; omega)
 have hsz4 := HOK.o.2.2.2.1
 have hbk := dk_blocks (H.o.keep0 (HK1.o.trans hk2 (by simp)))
 have HBK := hyd hbk
 have HK2 := hyd (HK1.o.trans hk2 (by simp))
 have HB2 := hyd (blkk HB1.o hk2 (by simp))
 have hcase : ∀ W : World, Keep [] w2 W → Calls Tryz.prog 71 #[.int .i64 d.n, .slice va (blkOf d k).length vc] W fun e w' => ∃ (x : Value) (ok : Bool), e = .returned (.tuple #[x, .bool ok]) ∧ Keep [] W w' ∧ (ox = none ∧ x = zS ∧ ok = false ∨ ∃ y pv po, ox = some y ∧ x = aggS y pv ∧ ok = true ∧ RowE w' pv y.ps po ∧ (∀ b, po = some b → W.heap.size ≤ b)) := by
  intro W hW
  cases ox with
  | none =>
   refine (s_read_none (hrd.keep0 hW) (fun c hc => Nat.lt_of_lt_of_le (hlt c hc) hW.size) (by omega) HS.o.1).mono ?_
   rintro e w' ⟨rfl, hk⟩
   exact ⟨_, _, rfl, hk, .inl ⟨rfl, rfl, rfl⟩⟩
  | some y =>
   have hy := HS.o.2 y rfl
   refine (s_read_some (x := y) (hrd.keep0 hW) (fun c hc => Nat.lt_of_lt_of_le (hlt c hc) hW.size) (by omega) HS.o.1 hy.1 HOK.o.2.1 hy.2.1).mono ?_
   rintro e w' ⟨pv, po, rfl, h1, h2, hk⟩
   exact ⟨_, _, rfl, hk, .inr ⟨y, pv, po, rfl, rfl, rfl, h1, h2⟩⟩
 have HCASE := hyd hcase
 clear hrb hfr hk2 hrd hvo hlt hbk hcase hbl hsz4
 go_wp2_with fail
 refine HBK.o.mono ?_
 rintro e w3 ⟨rfl, hk3⟩
 have HK3 := hyd hk3
 clear hk3
 go_wp2_with fail
 refine (HCASE.o _ HK3.o).mono ?_
 rintro e w4 ⟨xv, ok, rfl, hk4, hres⟩
 have hb4 := blkk (blkk HB2.o HK3.o (by simp)) hk4 (by simp)
 have HK4 := hyd ((HK2.o.trans HK3.o (by simp)).trans hk4 (by simp))
 have hle4 : w.heap.size ≤ w3.heap.size := (HK2.o.trans HK3.o (by simp)).size
 have HLE := hyd hle4
 clear hk4 hle4
 rcases hres with ⟨rfl, rfl, rfl⟩ | ⟨y, pv, po, rfl, rfl, rfl, hrow, hpo⟩
 ·unfold zS
  have hb5 := blkk hb4 ((Keep.refl [] w4).alloc (.cells #[.int .u64 0, .slice none 0 0, .int .i64 0, .int .i64 0] 56)) (by simp)
  have f5 := frozen4 hb5
  obtain ⟨d0, d1, d2, d3⟩ := cells4s hb5
  obtain ⟨hb6, hk6⟩ := set4 hb5 (.int .u64 0) (.slice none 0 0) (.int .i64 0) (.int .i64 0)
  have HB6 := hyd hb6
  have HK6 := hyd ((HK4.o.alloc _).trans hk6 (by simp))
  clear hb4 hb5 hb6 hk6
  go_wp2_with fail
  refine bodyPost_ret (results_cell_tmp rfl _ _ w.heap.size _ _ _ _ rfl HB6.o Tryz.underlying56 rfl super_size) rfl ?_
  exact ⟨.inl ⟨rfl, rfl⟩, HK6.o⟩
 ·have hy := HS.o.2 y rfl
  obtain ⟨pa, pc, rfl⟩ := hrow.form
  obtain ⟨gen, ps, len, ep⟩ := y
  unfold aggS
  simp only at hrow hy
  have hne : ((gen : Int) % 2 != (k : Int)) = false := by have := hy.2.2; simp; omega
  have hb5 := blkk hb4 ((Keep.refl [] w4).alloc (.cells #[.int .u64 gen, .slice pa ps.length pc, .int .i64 len, .int .i64 ep] 56)) (by simp)
  have f5 := frozen4 hb5
  obtain ⟨d0, d1, d2, d3⟩ := cells4s hb5
  obtain ⟨hb6, hk6⟩ := set4 hb5 (.int .u64 gen) (.slice pa ps.length pc) (.int .i64 len) (.int .i64 ep)
  have hka : Keep [] w4 (w4.alloc (.cells #[.int .u64 gen, .slice pa ps.length pc, .int .i64 len, .int .i64 ep] 56)) := (Keep.refl [] w4).alloc _
  have hpn : ∀ b, po = some b → b ∉ [w.heap.size] := fun b hb => by
   have h1 := hpo b hb
   have h2 := (Array.getElem?_eq_some_iff.1 HB2.o).1
   have h3 := HK3.o.size
   simp; omega
  have hrow6 := (hrow.keep hka (by simp)).keep hk6 hpn
  have HB6 := hyd hb6
  have HK6 := hyd ((HK4.o.trans hka (by simp)).trans hk6 (by simp))
  have HROW := hyd hrow6
  have HPO := hyd hpo
  clear hb4 hb5 hb6 hk6 hrow hpo hrow6 hpn hy hka
  go_wp2_with fail
  refine bodyPost_ret (results_cell_tmp rfl _ _ w.heap.size _ _ _ _ rfl HB6.o Tryz.underlying56 rfl super_size) rfl ?_
  exact ⟨.inr ⟨_, _, po, rfl, rfl, HROW.o, fun b hb => Nat.le_trans HLE.o (HPO.o b hb)⟩, HK6.o⟩
def zSup : Sup := ⟨0, [], 0, 0⟩
def stepB (b : Sup) (ox : Option Sup) : Sup := match ox with
 | none => b
 | some x => if b.gen < x.gen then x else b
def bkN (ox : Nat → Option Sup) : Nat → Sup
 | 0 => zSup
 | k + 1 => stepB (bkN ox k) (ox k)
def BestP (w : World) (b : Sup) (e : Ending) (w' : World) : Prop :=
 ∃ pv po, e = .returned (.tuple #[aggS b pv, .int .i64 (if b.gen = 0 then 7 else 0)]) ∧ RowE w' pv b.ps po ∧ (∀ c, po = some c → w.heap.size ≤ c) ∧ Keep [] w w'
theorem s_best {w : World} {q : Nat} {m : List Int} {D : List Nat} {d : DS} {ox : Nat → Option Sup} (h : DK w q m D d) (h2 : 2 ≤ d.n) (hoff : d.off = false) (hs : ∀ k, k < 2 → SlotIs d k (ox k)) :
  Calls Tryz.prog 40 #[.pointer (some ⟨q, 0, none⟩)] w (BestP w (bkN ox 2)) := by
 have hk1 : Keep [] w (w.alloc (.cells #[.int .u64 0, .slice none 0 0, .int .i64 0, .int .i64 0] 56)) := (Keep.refl [] w).alloc _
 have hb1 := heap_alloc_new w (.cells #[.int .u64 0, .slice none 0 0, .int .i64 0, .int .i64 0] 56)
 have hsl := fun (W : World) (hW : Keep [] w W) (k : Nat) (hk : k < 2) => s_slot (h.keep0 hW) hk h2 hoff (hs k hk)
 have HSL := hyd hsl
 have HK1 := hyd hk1
 have HB1 := hyd hb1
 clear h h2 hoff hs hsl hk1 hb1
 go_enter Tryz.func40, Tryz.ntmps40
 go_wp2_with fail
 go_loopw [7] (fun i wr => ∃ (k : Nat) (pv : Value) (po : Option Nat), k ≤ 2 ∧ i = .int .i64 k ∧ wr.heap[w.heap.size]? = some (.cells #[.int .u64 (bkN ox k).gen, pv, .int .i64 (bkN ox k).len, .int .i64 (bkN ox k).ep] 56) ∧ RowE wr pv (bkN ox k).ps po ∧ (∀ c, po = some c → w.heap.size < c) ∧ Keep [] w wr) (fun i _ => 2 - (RowKit.intOf i).toNat)
 case atStart => exact ⟨0, .slice none 0 0, none, by omega, rfl, HB1.o, RowE.nil _, (fun c hc => by cases hc), HK1.o⟩
 case round =>
  obtain ⟨k, pv, po, hk, rfl, hb, hrow, hpo, hkw⟩ := hrel
  have HB := hyd hb
  have HROW := hyd hrow
  have HPO := hyd hpo
  have HKW := hyd hkw
  obtain ⟨pa, pc, rfl⟩ := hrow.form
  have hlt0 := (Array.getElem?_eq_some_iff.1 hb).1
  have HLT0 := hyd hlt0
  clear hb hrow hpo hkw hlt0
  by_cases hlt : k < 2
  ·have q1 : (k : Int) < 2 := by omega
   have hcall := HSL.o wr HKW.o k hlt
   have HC := hyd hcall
   have hnext : bkN ox (k + 1) = stepB (bkN ox k) (ox k) := rfl
   have HN := hyd hnext
   clear hcall hnext
   generalize bkN ox k = bb at *
   obtain ⟨gen, ps, len, ep⟩ := bb
   simp only at *
   go_wp2_with fail
   refine HC.o.mono ?_
   rintro e w2 ⟨(⟨hox, rfl⟩ | ⟨x, xv, xo, hox, rfl, hrx, hxo⟩), hk2⟩
   ·unfold zS
    have hb3 := blkk (blkk HB.o hk2 (by simp)) ((Keep.refl [] w2).alloc (.cells #[.int .u64 0, .slice none 0 0, .int .i64 0, .int .i64 0] 56)) (by simp)
    have hrow3 := (HROW.o.keep hk2 (by simp)).keep ((Keep.refl [] w2).alloc (.cells #[.int .u64 0, .slice none 0 0, .int .i64 0, .int .i64 0] 56)) (by simp)
    have hk3 := (HKW.o.trans hk2 (by simp)).alloc (.cells #[.int .u64 0, .slice none 0 0, .int .i64 0, .int .i64 0] 56)
    have hbn : bkN ox (k + 1) = ⟨gen, ps, len, ep⟩ := by rw [HN.o, hox]; rfl
    have HB3 := hyd hb3
    have HROW3 := hyd hrow3
    have HK3 := hyd hk3
    have HBN := hyd hbn
    clear hb3 hrow3 hk3 hbn hk2 hox
    go_wp2_with fail
    go_roundw
    case rel => exact ⟨k + 1, .slice pa ps.length pc, po, by omega, by go_num, by rw [HBN.o]; exact HB3.o, by rw [HBN.o]; exact HROW3.o, HPO.o, HK3.o⟩
    case measure => first | (simp [RowKit.intOf]; omega) | omega
   ·obtain ⟨xa, xc, rfl⟩ := hrx.form
    obtain ⟨g2, p2, l2, e2⟩ := x
    unfold aggS
    simp only at hrx hox
    have hb3 := blkk (blkk HB.o hk2 (by simp)) ((Keep.refl [] w2).alloc (.cells #[.int .u64 g2, .slice xa p2.length xc, .int .i64 l2, .int .i64 e2] 56)) (by simp)
    have hrow3 := (HROW.o.keep hk2 (by simp)).keep ((Keep.refl [] w2).alloc (.cells #[.int .u64 g2, .slice xa p2.length xc, .int .i64 l2, .int .i64 e2] 56)) (by simp)
    have hrx3 := hrx.keep ((Keep.refl [] w2).alloc (.cells #[.int .u64 g2, .slice xa p2.length xc, .int .i64 l2, .int .i64 e2] 56)) (by simp)
    have hk3 := (HKW.o.trans hk2 (by simp)).alloc (.cells #[.int .u64 g2, .slice xa p2.length xc, .int .i64 l2, .int .i64 e2] 56)
    have hxo3 : ∀ c, xo = some c → w.heap.size < c := fun c hc => Nat.lt_of_lt_of_le HLT0.o (hxo c hc)
    have HB3 := hyd hb3
    have HROW3 := hyd hrow3
    have HRX3 := hyd hrx3
    have HXO3 := hyd hxo3
    have HK3 := hyd hk3
    obtain ⟨d0, d1, d2, d3⟩ := cells4s hb3
    have f3 := frozen4 hb3
    by_cases hgt : gen < g2
    ·have hgt' : (gen : Int) < (g2 : Int) := by omega
     have hbn : bkN ox (k + 1) = ⟨g2, p2, l2, e2⟩ := by rw [HN.o, hox]; exact if_pos hgt
     obtain ⟨hb6, hk6⟩ := set4 hb3 (.int .u64 g2) (.slice xa p2.length xc) (.int .i64 l2) (.int .i64 e2)
     have hrx6 := hrx3.keep hk6 (fun b hb => by have := hxo3 b hb; simp; omega)
     have HB6 := hyd hb6
     have HRX6 := hyd hrx6
     have HK6 := hyd (hk3.trans hk6 (by simp))
     have HBN := hyd hbn
     clear hb3 hrow3 hrx3 hk3 hbn hk2 hox hrx hxo hxo3 hb6 hrx6 hk6
     go_wp2_with fail
     go_roundw
     case rel => exact ⟨k + 1, .slice xa p2.length xc, xo, by omega, by go_num, by rw [HBN.o]; exact HB6.o, by rw [HBN.o]; exact HRX6.o, HXO3.o, HK6.o⟩
     case measure => first | (simp [RowKit.intOf]; omega) | omega
    ·have hgt' : ¬ (gen : Int) < (g2 : Int) := by omega
     have hbn : bkN ox (k + 1) = ⟨gen, ps, len, ep⟩ := by rw [HN.o, hox]; exact if_neg hgt
     have HBN := hyd hbn
     clear hb3 hrow3 hrx3 hk3 hbn hk2 hox hrx hxo hxo3
     go_wp2_with fail
     go_roundw
     case rel => exact ⟨k + 1, .slice pa ps.length pc, po, by omega, by go_num, by rw [HBN.o]; exact HB3.o, by rw [HBN.o]; exact HROW3.o, HPO.o, HK3.o⟩
     case measure => first | (simp [RowKit.intOf]; omega) | omega
  ·have q1 : ¬ (k : Int) < 2 := by omega
   obtain rfl : k = 2 := by omega
   clear HSL
   generalize bkN ox 2 = bb at *
   obtain ⟨gen, ps, len, ep⟩ := bb
   simp only at *
   obtain ⟨d0, d1, d2, d3⟩ := cells4s HB.o
   have f3 := frozen4 HB.o
   obtain ⟨hb6, hk6⟩ := set4 HB.o (.int .u64 gen) (.slice pa ps.length pc) (.int .i64 len) (.int .i64 ep)
   have hrow6 := HROW.o.keep hk6 (fun b hb => by have := HPO.o b hb; simp; omega)
   have HB6 := hyd hb6
   have HROW6 := hyd hrow6
   have HK6 := hyd (HKW.o.trans hk6 (by simp))
   clear hb6 hk6 hrow6
   by_cases h0 : gen = 0
   ·subst h0
    go_wp2_with fail
    refine bodyPost_ret (results_cell_tmp rfl _ _ w.heap.size _ _ _ _ rfl HB6.o Tryz.underlying56 rfl super_size) rfl ?_
    exact ⟨_, po, rfl, HROW6.o, fun c hc => Nat.le_of_lt (HPO.o c hc), HK6.o⟩
   ·have h0' : ((gen : Int) == 0) = false := beq_eq_false_iff_ne.2 (by omega)
    have h0n := hyd h0
    clear h0
    go_wp2_with fail
    refine bodyPost_ret (results_cell_tmp rfl _ _ w.heap.size _ _ _ _ rfl HB6.o Tryz.underlying56 rfl super_size) rfl ?_
    exact ⟨_, po, by rw [if_neg h0n.out]; rfl, HROW6.o, fun c hc => Nat.le_of_lt (HPO.o c hc), HK6.o⟩
theorem q_same {w : World} {x y : Sup} {xv yv : Value} {ox oy : Option Nat} (hx : RdE w xv x.ps ox) (hy : RdE w yv y.ps oy) (hsx : x.ps.length ≤ 1000000) (hsy : y.ps.length ≤ 1000000) :
  Calls Tryz.prog 29 #[aggS x xv, aggS y yv] w fun e w' => (∃ b, e = .returned (.bool b) ∧ (b = true ↔ x = y)) ∧ Keep [] w w' := by
 obtain ⟨xa, xc, rfl⟩ : ∃ a c, xv = .slice a x.ps.length c := by obtain ⟨-, a, c, h, -⟩ := hx; exact ⟨a, c, h⟩
 obtain ⟨ya, yc, rfl⟩ : ∃ a c, yv = .slice a y.ps.length c := by obtain ⟨-, a, c, h, -⟩ := hy; exact ⟨a, c, h⟩
 obtain ⟨xg, xp, xl, xe⟩ := x
 obtain ⟨yg, yp, yl, ye⟩ := y
 unfold aggS
 simp only at *
 have hk1 : Keep [] w ((w.alloc (.cells #[.int .u64 xg, .slice xa xp.length xc, .int .i64 xl, .int .i64 xe] 56)).alloc (.cells #[.int .u64 yg, .slice ya yp.length yc, .int .i64 yl, .int .i64 ye] 56)) := ((Keep.refl [] w).alloc _).alloc _
 have hb1 := lit_alloc (heap_new w (.cells #[.int .u64 xg, .slice xa xp.length xc, .int .i64 xl, .int .i64 xe] 56)) (.cells #[.int .u64 yg, .slice ya yp.length yc, .int .i64 yl, .int .i64 ye] 56)
 have hb2 := heap_new (w.alloc (.cells #[.int .u64 xg, .slice xa xp.length xc, .int .i64 xl, .int .i64 xe] 56)) (.cells #[.int .u64 yg, .slice ya yp.length yc, .int .i64 yl, .int .i64 ye] 56)
 obtain ⟨c0, c1, c2, c3⟩ := cells4s hb1
 obtain ⟨c4, c5, c6, c7⟩ := cells4s hb2
 simp only [size_alloc] at hb2 c4 c5 c6 c7
 have hex := extents_any (hx.keep hk1 (by simp)) (hy.keep hk1 (by simp)) (by omega) (by omega)
 have HEX := hyd hex
 have HK1 := hyd hk1
 clear hx hy hk1 hb1 hb2 hex
 by_cases h1 : xg = yg
 ·have h1' : ((xg : Int) == (yg : Int)) = true := by simp [h1]
  by_cases h2 : xl = yl
  ·have h2' : (xl == yl) = true := by simp [h2]
   by_cases h3 : xe = ye
   ·have h3' : (xe == ye) = true := by simp [h3]
    have HE := hyd (And.intro h1 (And.intro h2 h3))
    clear h1 h2 h3
    go_enter Tryz.func29, Tryz.ntmps29
    go_wp2_with fail
    refine HEX.o.mono ?_
    rintro e w2 ⟨rfl, n, rfl⟩
    go_wp2_with fail
    refine bodyPost_ret (results_tmp rfl _ _ _) rfl ?_
    refine ⟨⟨_, rfl, ?_⟩, HK1.o.drewN n⟩
    obtain ⟨rfl, rfl, rfl⟩ := HE.o
    simp
   ·have h3' : (xe == ye) = false := beq_eq_false_iff_ne.2 h3
    have HE := hyd h3
    clear h1 h2 h3
    go_enter Tryz.func29, Tryz.ntmps29
    go_wp2_with fail
    refine bodyPost_ret (results_tmp rfl _ _ _) rfl ?_
    exact ⟨⟨_, rfl, by simp [HE.o]⟩, HK1.o⟩
  ·have h2' : (xl == yl) = false := beq_eq_false_iff_ne.2 h2
   have HE := hyd h2
   clear h1 h2
   go_enter Tryz.func29, Tryz.ntmps29
   go_wp2_with fail
   refine bodyPost_ret (results_tmp rfl _ _ _) rfl ?_
   exact ⟨⟨_, rfl, by simp [HE.o]⟩, HK1.o⟩
 ·have h1' : ((xg : Int) == (yg : Int)) = false := beq_eq_false_iff_ne.2 (by omega)
  have HE := hyd h1
  clear h1
  go_enter Tryz.func29, Tryz.ntmps29
  go_wp2_with fail
  refine bodyPost_ret (results_tmp rfl _ _ _) rfl ?_
  exact ⟨⟨_, rfl, by simp [HE.o]⟩, HK1.o⟩
end Go.Proofs.YtimpadpeibgmoaaGreat

namespace Go.Emb
end Go.Emb
namespace Go.Proofs.YtimpadpeibgmoaaGreat
open Go.RowKit Go.Emb Go.Lib Go.Emb.Ext
def hasE (n : Int) (x : E) : Bool := right x && decide (x.1 ≤ n) && decide (n - x.1 < x.2)
open Go.RowKit Go.Emb Go.Lib Go.Emb.Ext Go.Shelf Go.Sort
theorem closureL (x y : E) (W : World) : Calls Tryz.prog 118 #[.agg #[.int .i64 x.1, .int .i64 x.2], .agg #[.int .i64 y.1, .int .i64 y.2]] W fun e w' => e = .returned (.int .i64 (cmpL x y)) ∧ Keep [] W w' := by
 obtain ⟨x1, x2⟩ := x
 obtain ⟨y1, y2⟩ := y
 unfold cmpL
 go_enter Tryz.func118, Tryz.ntmps118
 go_wp2_with (go_at_call 79; refine (compare_any _ _ _).mono ?_; rintro e w' ⟨rfl, rfl⟩)
 go_ret
 exact ⟨rfl, ((Keep.refl _ _).alloc _).alloc _⟩
end Go.Proofs.YtimpadpeibgmoaaGreat

namespace Go.Emb.Ext
theorem JoinRes.ok {l a : List E} (h : JoinRes l a 0) : (∀ x ∈ l, right x = true) ∧ JoinOk l a ∧ ∀ x ∈ a, right x = true := by
 rcases h with h | h | h
 ·exact absurd h.1 (by decide)
 ·exact absurd h.1 (by decide)
 ·exact h.2
end Go.Emb.Ext
namespace Go.Proofs.YtimpadpeibgmoaaGreat
open Go.RowKit Go.Emb Go.Lib Go.Emb.Ext Go.Shelf Go.Sort
theorem box_after {wr w2 : World} {o' : Option Nat} {ob ob2 : Obj} (hlt : ∀ b, o' = some b → b < wr.heap.size) (hk2 : Keep o'.toList ((wr.alloc ob).alloc ob2) w2) : w2.heap[wr.heap.size]? = some ob := by
 rw [hk2.block wr.heap.size (by simp; omega) (by
   cases o' with
   | none => simp
   | some b => have := hlt b rfl; simp; omega), Below.heap_alloc _ _ _ (by simp)]
 exact heap_alloc_new wr ob
theorem cells2 {w : World} {q : Nat} {x y : Value} {t : TypeId} (h : w.heap[q]? = some (.cells #[x, y] t (0, 0))) : w.cell? ⟨q, 0, none⟩ = some x ∧ w.cell? ⟨q, 1, none⟩ = some y := by
 refine ⟨?_, ?_⟩ <;> simp [World.cell?, h]
end Go.Proofs.YtimpadpeibgmoaaGreat
