/- SuperSwitches: the walk. Printed by gen-su26.py. -/
import Derived.Test.YtdeghoigpcbmcaaSu25
namespace Go.Proofs.Ytdeghoigpcbmcaa
open Go.RowKit Go.Emb Go.Emb.Ext

def sumP (l : List SpV) (k : Nat) : Nat := ((l.take k).map fun s => s.x.ps.length).sum
theorem sumP_succ {l : List SpV} {k : Nat} (h : k < l.length) : sumP l (k + 1) = sumP l k + l[k].x.ps.length := by
  unfold sumP
  rw [List.take_succ_eq_append_getElem h, List.map_append, List.sum_append]
  simp
theorem sumP_le {l : List SpV} (h : ∀ x ∈ l, x.x.ps.length ≤ 8796093022208) : ∀ k, k ≤ l.length → sumP l k ≤ k * 8796093022208
  | 0, _ => by simp [sumP]
  | k + 1, hk => by
    rw [sumP_succ (by omega)]
    have := sumP_le h k (by omega)
    have := h _ (List.getElem_mem (show k < l.length by omega))
    omega
theorem sumP_at {l : List SpV} : ∀ {n k : Nat}, k < n → n ≤ l.length → ∀ h : k < l.length, l[k].x.ps.length ≤ sumP l n
  | 0, _, h, _, _ => by omega
  | n + 1, k, h1, h2, h => by
    rw [sumP_succ (by omega)]
    rcases Nat.lt_or_ge k n with h3 | h3
    · have := sumP_at h3 (by omega) h
      omega
    · obtain rfl : k = n := by omega
      omega
theorem RdSs.at {B : Nat} {w : World} {a : Option Addr} {c n : Nat} {l : List SpV} (h : RdSs B w (.slice a n c) l) {k : Nat} (hk : k < l.length) :
    ∃ b off, a = some ⟨b, off, none⟩ ∧ b < B ∧ w.cell? ⟨b, off + k * 4, none⟩ = some (.int .u64 l[k].x.gen) ∧ w.cell? ⟨b, off + k * 4 + 1, none⟩ = some l[k].pv ∧ w.cell? ⟨b, off + k * 4 + 2, none⟩ = some (.int .i64 l[k].x.len) ∧ w.cell? ⟨b, off + k * 4 + 3, none⟩ = some (.int .i64 l[k].x.ep) := by
  obtain ⟨⟨o, ⟨hl, a', c', hv, -, -, h3⟩, h2⟩, -, -⟩ := h
  cases hv
  rcases h3 with ⟨h3, _⟩ | ⟨b, off, rfl, rfl, h3⟩
  · omega
  · have hf := flat_at (e := encS) (m := 4) (fun _ => rfl) l k hk
    have : k * 4 + 4 ≤ l.length * 4 := by omega
    refine ⟨b, off, rfl, h2 b rfl, ?_, ?_, ?_, ?_⟩
    · rw [show off + k * 4 = off + (k * 4 + 0) from rfl, h3 _ (by omega), hf 0 (by omega)]; rfl
    · rw [Nat.add_assoc, h3 _ (by omega), hf 1 (by omega)]; rfl
    · rw [Nat.add_assoc, h3 _ (by omega), hf 2 (by omega)]; rfl
    · rw [Nat.add_assoc, h3 _ (by omega), hf 3 (by omega)]; rfl
theorem RdI.at {B : Nat} {w : World} {a : Option Addr} {c n : Nat} {l : List Int} (h : RdI B w (.slice a n c) l) {k : Nat} (hk : k < l.length) :
    ∃ b off, a = some ⟨b, off, none⟩ ∧ b < B ∧ w.cell? ⟨b, off + k, none⟩ = some (.int .i64 l[k]) := by
  obtain ⟨⟨o, ⟨hl, a', c', hv, -, -, h3⟩, h2⟩, -, -⟩ := h
  cases hv
  rcases h3 with ⟨h3, _⟩ | ⟨b, off, rfl, rfl, h3⟩
  · omega
  · exact ⟨b, off, rfl, h2 b rfl, by rw [h3 k (by omega)]; simp [hk]⟩
theorem RdSs.keep0 {B : Nat} {w w' : World} {v : Value} {l : List SpV} (h : RdSs B w v l) (hk : Keep [] w w') : RdSs B w' v l := by
  obtain ⟨⟨o, h1, h2⟩, h3, h4⟩ := h
  refine ⟨⟨o, h1.keep0 hk, h2⟩, fun x hx => ?_, h4⟩
  obtain ⟨g1, g2, g3, ⟨o', g4, g5⟩, g6, g7⟩ := h3 x hx
  exact ⟨g1, g2, g3, ⟨o', g4.keep0 hk, g5⟩, g6, g7⟩
theorem RdI.keep0 {B : Nat} {w w' : World} {v : Value} {l : List Int} (h : RdI B w v l) (hk : Keep [] w w') : RdI B w' v l := by
  obtain ⟨⟨o, h1, h2⟩, h3, h4⟩ := h
  exact ⟨⟨o, h1.keep0 hk, h2⟩, h3, h4⟩
theorem LD.turnS {w0 w w' : World} {q m n sz : Nat} {ox : Nat → Option Sup} (h : LD w0 w q m n sz ox) {b : Nat} {cs : Array Value} (hb : w.heap[b]? = some (.cells cs 25 (0, 0))) (hk : Keep [b] w w') (hlo : w0.heap.size ≤ b) : LD w0 w' q m n sz ox := by
  obtain ⟨⟨D, d, h1, h2, h3⟩, h4⟩ := h
  exact ⟨⟨D, d, h1.keep hk (fun c hc => by simp; rintro rfl; exact h1.notin hb (by decide) (by decide) (by decide) hc), h2, h3⟩, h4.trans hk (fun c hc => by simp at hc; subst hc; exact .inr hlo)⟩
set_option maxRecDepth 100000 in
set_option maxHeartbeats 8000000 in
theorem switches_walk {w : World} {lv cv : Value} {l : List SpV} {cs : List Int} (hl : RdSs w.heap.size w lv l) (hc : RdI w.heap.size w cv cs) : Calls Try.prog 4 #[lv, cv] w fun e w' => e = .returned (.bool true) ∧ Keep [] w w' := by
  obtain ⟨la, lc, rfl⟩ : ∃ p c, lv = .slice p l.length c := by obtain ⟨⟨o, ⟨-, p, c, h, -⟩, -⟩, -, -⟩ := hl; exact ⟨p, c, h⟩
  obtain ⟨ca, cc, rfl⟩ : ∃ p c, cv = .slice p cs.length c := by obtain ⟨⟨o, ⟨-, p, c, h, -⟩, -⟩, -, -⟩ := hc; exact ⟨p, c, h⟩
  have hll : l.length * 48 ≤ 140737488355328 := hl.2.2
  have hcl : cs.length * 8 ≤ 140737488355328 := hc.2.2
  have hpl : ∀ x ∈ l, x.x.ps.length ≤ 8796093022208 := fun x hx => by have := (hl.2.1 x hx).2.2.2.2.2; omega
  have HL := Lib.hid hl
  have HC := Lib.hid hc
  have HPL := Lib.hid hpl
  clear hl hc hpl
  go_enter Try.func4, Try.ntmps4
  go_wp2_with fail
  go_loop [5, 6] (fun n i => ∃ k : Nat, k ≤ l.length ∧ k ≤ 61 ∧ i = .int .i64 k ∧ n = .int .i64 (sumP l k : Nat)) (fun _ i => l.length - (RowKit.intOf i).toNat)
  case atStart => exact ⟨0, Nat.zero_le _, by omega, rfl, rfl⟩
  case round =>
    obtain ⟨k, hk, hk61, rfl, rfl⟩ := hrel
    have hs1 := sumP_le HPL.out k hk
    by_cases hlt : k < l.length
    · have hlt' : (k : Int) < (l.length : Int) := by omega
      by_cases h60 : k ≤ 60
      · have h60' : (k : Int) ≤ 60 := by omega
        obtain ⟨b, off, rfl, -, c0, c1, c2, c3⟩ := HL.out.at hlt
        obtain ⟨pa, pc, hpv⟩ : ∃ p c, l[k].pv = .slice p l[k].x.ps.length c := by obtain ⟨-, -, -, ⟨o, ⟨-, p, c, h, -⟩, -⟩, -⟩ := HL.out.2.1 _ (List.getElem_mem hlt); exact ⟨p, c, h⟩
        rw [hpv] at c1
        have hpk := HPL.out _ (List.getElem_mem hlt)
        have HSS := Lib.hid (sumP_succ hlt)
        generalize l[k].x.ps.length = pl at *
        clear hpv
        go_wp2_with fail
        go_round
        case rel => exact ⟨k + 1, by omega, by omega, by go_num, by rw [HSS.out]; go_num⟩
        case measure => simp [RowKit.intOf]; omega
      · obtain rfl : k = 61 := by omega
        have hb : (60 : Int) < (l.length : Int) := by omega
        clear hlt hk
        go_wp2_with (go_at_call 7; refine live_any.mono ?_; rintro e wl ⟨rfl, hkl⟩; have HKL := Lib.hid hkl; clear hkl)
        go_ret
        exact ⟨rfl, HKL.out⟩
    · obtain rfl : k = l.length := by omega
      by_cases hn60 : l.length = 61
      · have hb : (60 : Int) < (l.length : Int) := by omega
        have HN := Lib.hid hn60
        clear hn60
        go_wp2_with (go_at_call 7; refine live_any.mono ?_; rintro e wl ⟨rfl, hkl⟩; have HKL := Lib.hid hkl; clear hkl)
        go_ret
        exact ⟨rfl, HKL.out⟩
      have hb : ¬ (60 : Int) < (l.length : Int) := by omega
      by_cases hn : 20000 < sumP l l.length
      · have hn' : (20000 : Int) < (sumP l l.length : Int) := by omega
        go_wp2_with (go_at_call 7; refine live_any.mono ?_; rintro e wl ⟨rfl, hkl⟩; have HKL := Lib.hid hkl; clear hkl)
        go_ret
        exact ⟨rfl, HKL.out⟩
      have hn' : ¬ (20000 : Int) < (sumP l l.length : Int) := by omega
      have HSP := Lib.hid (fun (k : Nat) (h : k < l.length) => Nat.le_trans (sumP_at h (Nat.le_refl _) h) (Nat.not_lt.1 hn))
      by_cases hcc : cs.length < l.length
      · have hcc' : (cs.length : Int) < (l.length : Int) := by omega
        go_wp2_with (go_at_call 7; refine live_any.mono ?_; rintro e wl ⟨rfl, hkl⟩; have HKL := Lib.hid hkl; clear hkl)
        go_ret
        exact ⟨rfl, HKL.out⟩
      have hcc' : ¬ (cs.length : Int) < (l.length : Int) := by omega
      go_wp2_with fail
      refine (l_new (n := 16) (sz := 128) (by omega) (by omega) (by omega) (by omega)).mono ?_
      rintro e w1 ⟨q, rfl, hd⟩
      have HW := Lib.hid (fun W (hW : Keep [] w1 W) => (hd.keep0 hW).put0 (x := sup1) (by omega) (by omega) rfl (sup1_ok 16) (by decide) (by decide))
      clear hd hs1
      go_wp2_with (go_at_call 9; refine (p_numF _).mono ?_; rintro e w2 ⟨rfl, rfl⟩)
      refine (HW.out _ (by repeat (first | exact Keep.refl _ _ | refine Keep.alloc ?_ _))).mono ?_
      rintro e w3 ⟨rfl, hd3⟩
      have HD3 := Lib.hid hd3
      clear hd3 HW
      go_wp2_with (go_at_call 9; refine (p_numF _).mono ?_; rintro e w2 ⟨rfl, rfl⟩)
      have hbw := heap_new w3 (.cells #[.int .u64 1, .slice none 0 0, .int .i64 0, .int .i64 0] 25)
      have HBW0 := Lib.hid hbw
      have HD4 := Lib.hid (HD3.out.keep0 ((Keep.refl [] w3).alloc (.cells #[.int .u64 1, .slice none 0 0, .int .i64 0, .int .i64 0] 25)))
      have HTOP := Lib.hid (show Top (updS (fun _ => none) sup1) sup1 from ⟨by decide, rfl, .inl rfl⟩)
      have HBLO := Lib.hid HD3.out.keep.size
      clear hbw HD3
      generalize w3.heap.size = bw at *
      go_loopw [10] (fun i wr => ∃ (k : Nat) (x : Sup) (pv : Value) (po : Option Nat) (ox : Nat → Option Sup), k ≤ l.length ∧ i = .int .i64 k ∧ LD w wr q (k + 1) 16 128 ox ∧ Top ox x ∧ x.gen ≤ k + 1 ∧ wr.heap[bw]? = some (.cells #[.int .u64 x.gen, pv, .int .i64 x.len, .int .i64 x.ep] 25) ∧ RowE wr pv x.ps po ∧ x.ps.length ≤ 8) (fun i _ => l.length - (RowKit.intOf i).toNat)
      case atStart => exact ⟨0, sup1, .slice none 0 0, none, _, Nat.zero_le _, rfl, HD4.out, HTOP.out, Nat.le_refl _, HBW0.out, RowE.nil _, by decide⟩
      case round =>
        obtain ⟨k, ⟨xg, xp, xl, xe⟩, pv, po, ox, hk, rfl, hd, htop, hxg, hbw, hrow, hx8⟩ := hrel
        obtain ⟨xa, xc, rfl⟩ := hrow.form
        simp only at hxg hbw hrow hx8
        have HD := Lib.hid hd
        have HT := Lib.hid htop
        have HBW := Lib.hid hbw
        have HRX := Lib.hid hrow
        clear hd htop hbw hrow
        by_cases hlt : k < l.length
        · have hlt' : (k : Int) < (l.length : Int) := by omega
          obtain ⟨cb, coff, rfl, -, e0⟩ := (HC.out.keep0 HD.out.keep).at (show k < cs.length by omega)
          have hcut := (HC.out.2.1 _ (List.getElem_mem (show k < cs.length by omega))).2
          have hkc : (k : Int) < (cs.length : Int) := by omega
          generalize cs[k] = ck at *
          obtain ⟨b, off, rfl, -, c0, c1, c2, c3⟩ := (HL.out.keep0 HD.out.keep).at hlt
          obtain ⟨hg2, -, -, ⟨o2, hr2, ho2⟩, -, -⟩ := (HL.out.keep0 HD.out.keep).2.1 _ (List.getElem_mem hlt)
          have hps2 := HSP.out k hlt
          generalize l[k] = sk at *
          obtain ⟨⟨sg, sp, sl, se⟩, sv⟩ := sk
          obtain ⟨pa, pc, rfl⟩ : ∃ p c, sv = .slice p sp.length c := by obtain ⟨-, p, c, h, -⟩ := hr2; exact ⟨p, c, h⟩
          simp only at hps2 hr2 c0 c1 c2 c3
          have HOWN := Lib.hid (q_own (x := ⟨sg, sp, sl, se⟩) hr2 (by simp only; omega))
          unfold aggS at HOWN
          clear hr2 hg2 ho2
          go_wp2_with fail
          refine HOWN.out.mono ?_
          rintro e w5 ⟨qv, qo, rfl, hrq, hqo, hk5⟩
          obtain ⟨qa, qc, rfl⟩ := hrq.form
          simp only at hrq
          unfold aggS
          simp only
          have hbw5 := blkk HBW.out hk5 (by simp)
          have hltw := (Array.getElem?_eq_some_iff.1 hbw5).1
          obtain ⟨d0, d1, d2, d3⟩ := cells4s hbw5
          have e5 := hk5.cellOf e0
          have hcb5 : cb < w5.heap.size := World.block_lt_of_cell? _ _ e5
          obtain ⟨g1, hg1⟩ : ∃ g1 : Nat, g1 = xg + 1 := ⟨_, rfl⟩
          have hcast : (xg : Int) + 1 = (g1 : Int) := by omega
          have hg1l : g1 ≤ k + 2 := by omega
          have HG1 := Lib.hid hg1
          have hd6 := (HD.out.keep0 hk5).keep0 ((Keep.refl [] w5).alloc (.cells #[.int .u64 (g1 : Int), .slice qa sp.length qc, .int .i64 sl, .int .i64 se] 25))
          have HCUT := Lib.hid (hd6.o.cut ck hcut)
          have HBW5 := Lib.hid hbw5
          have HRX5 := Lib.hid (HRX.out.keep hk5 (by simp))
          have HRQ := Lib.hid hrq
          have HQO := Lib.hid hqo
          clear hg1 hd6 hcut hk5 hbw5 hrq hqo e0 c0 c1 c2 c3 HOWN HBW HRX
          go_wp2_with fail
          refine HCUT.out.mono ?_
          rintro e w7 ⟨rfl, hd7, ht7⟩
          have hka := (Keep.refl [] w5).alloc (.cells #[.int .u64 (g1 : Int), .slice qa sp.length qc, .int .i64 sl, .int .i64 se] 25)
          have hb11 := ht7.blk (heap_new w5 (.cells #[.int .u64 (g1 : Int), .slice qa sp.length qc, .int .i64 sl, .int .i64 se] 25))
          have hrq7 := ht7.row (HRQ.out.keep hka (by simp))
          have HBW7 := Lib.hid (ht7.blk (lit_alloc HBW5.out (.cells #[.int .u64 (g1 : Int), .slice qa sp.length qc, .int .i64 sl, .int .i64 se] 25)))
          have HB117 := Lib.hid hb11
          have HRX7 := Lib.hid (ht7.row (HRX5.out.keep hka (by simp)))
          have HRQ7 := Lib.hid hrq7
          obtain ⟨qo', hrd7, hqo'⟩ := RowE.rde hrq7
          have HPUT := Lib.hid (hd7.put (x := ⟨g1, sp, sl, se⟩) (by omega) (by omega) (by omega) (by omega) hrd7 (fun b hb => by
            rcases hqo' with h | h
            · rw [h] at hb; cases hb
            · rw [h] at hb; exact hrq7.lt b hb) (by simp only; omega) (by simp only; omega))
          unfold aggS at HPUT
          clear d0 d1 d2 d3 e5 hcb5 hltw hd7 ht7 hrq7 hrd7 hqo' HCUT HBW5 HRX5 HRQ HQO hka hcast
          obtain ⟨d0, d1, d2, d3⟩ := cells4s hb11
          have hlt11 := (Array.getElem?_eq_some_iff.1 hb11).1
          clear hb11
          go_wp2_with fail
          refine HPUT.out.mono ?_
          rintro e w8 ⟨c, ox', rfl, hd8, hcase, ht8⟩
          have HBW8 := Lib.hid (ht8.blk HBW7.out)
          have HB118 := Lib.hid (ht8.blk HB117.out)
          have HRX8 := Lib.hid (ht8.row HRX7.out)
          have HRQ8 := Lib.hid (ht8.row HRQ7.out)
          have HREST := Lib.hid hd8.rest
          have HCASE := Lib.hid hcase
          clear hd8 hcase ht8 HBW7 HB117 HRX7 HRQ7 HPUT d0 d1 d2 d3 hlt11
          go_wp2_with fail
          refine HREST.out.mono ?_
          rintro e w9 ⟨rfl, hd9, ht9⟩
          have HBW9 := Lib.hid (ht9.blk HBW8.out)
          have HB119 := Lib.hid (ht9.blk HB118.out)
          have HRX9 := Lib.hid (ht9.row HRX8.out)
          have HRQ9 := Lib.hid (ht9.row HRQ8.out)
          have HD9 := Lib.hid hd9
          clear ht9 hd9 HBW8 HB118 HRX8 HRQ8 HREST
          rcases HCASE.out with ⟨rfl, hx1, rfl⟩ | ⟨hc2, rfl⟩
          · have htop := HT.out.next (y := ⟨g1, sp, sl, se⟩) HG1.out
            have hg0 : ¬ g1 = 0 := by have := HG1.out; omega
            have hp8 := hx1.1.2.2.2.2.2
            simp only at hp8
            clear hx1 HCASE
            have HBT := Lib.hid (HD9.out.best (by omega))
            rw [htop.best] at HBT
            have HTOP2 := Lib.hid htop
            clear htop
            go_wp2_with fail
            refine HBT.out.mono ?_
            rintro e w10 ⟨yv, yo, rfl, hry, hyo, hk10⟩
            obtain ⟨ya, yc, rfl⟩ := hry.form
            unfold aggS
            simp only [if_neg hg0] at hry ⊢
            clear hg0
            have hka := (Keep.refl [] w10).alloc (.cells #[.int .u64 (g1 : Int), .slice ya sp.length yc, .int .i64 sl, .int .i64 se] 25)
            have hbb := blkk HB119.out hk10 (by simp)
            have hltb := (Array.getElem?_eq_some_iff.1 hbb).1
            obtain ⟨d0, d1, d2, d3⟩ := cells4s hbb
            obtain ⟨o1, hrd1, -⟩ := RowE.rde (hry.keep hka (by simp))
            obtain ⟨o2', hrd2, -⟩ := RowE.rde ((HRQ9.out.keep hk10 (by simp)).keep hka (by simp))
            have HSM := Lib.hid (q_same (x := ⟨g1, sp, sl, se⟩) (y := ⟨g1, sp, sl, se⟩) hrd1 hrd2 (by simp only; omega) (by simp only; omega))
            unfold aggS at HSM
            have HRY := Lib.hid hry
            have HK10 := Lib.hid hk10
            clear hbb hrd1 hrd2 hry hyo hk10 hka HBT
            go_wp2_with (go_at_call 9; refine (p_numF _).mono ?_; rintro e w2 ⟨rfl, rfl⟩)
            refine HSM.out.mono ?_
            rintro e w11 ⟨⟨bb, rfl, hbb⟩, hk11⟩
            obtain rfl : bb = true := by first | exact hbb.2 rfl | exact hbb.2 trivial | simpa using hbb
            clear hbb d0 d1 d2 d3 hltb HSM
            have hka := (Keep.refl [] w10).alloc (.cells #[.int .u64 (g1 : Int), .slice ya sp.length yc, .int .i64 sl, .int .i64 se] 25)
            have hk := (HK10.out.trans hka (by simp)).trans hk11 (by simp)
            have hb13 := blkk (heap_new w10 (.cells #[.int .u64 (g1 : Int), .slice ya sp.length yc, .int .i64 sl, .int .i64 se] 25)) hk11 (by simp)
            obtain ⟨d0, d1, d2, d3⟩ := cells4s hb13
            have hlt13 := (Array.getElem?_eq_some_iff.1 hb13).1
            obtain ⟨o1, hrd1, -⟩ := RowE.rde ((HRY.out.keep hka (by simp)).keep hk11 (by simp))
            have HOW2 := Lib.hid (q_own (x := ⟨g1, sp, sl, se⟩) hrd1 (by simp only; omega))
            unfold aggS at HOW2
            have HBW11 := Lib.hid (blkk HBW9.out hk (by simp))
            have HD11 := Lib.hid (HD9.out.keep0 hk)
            clear hka hk hb13 hrd1 hk11 HK10 HRY
            go_wp2_with (go_at_call 9; refine (p_numF _).mono ?_; rintro e w2 ⟨rfl, rfl⟩)
            refine HOW2.out.mono ?_
            rintro e w12 ⟨zv, zo, rfl, hrz, hzo, hk12⟩
            obtain ⟨za, zc, rfl⟩ := hrz.form
            simp only at hrz
            unfold aggS
            simp only
            have hbw := blkk HBW11.out hk12 (by simp)
            obtain ⟨k0, k1, k2, k3⟩ := cells4s hbw
            have fk := frozen4 hbw
            obtain ⟨hs2, hks2⟩ := set4 hbw (.int .u64 (g1 : Int)) (.slice za sp.length zc) (.int .i64 sl) (.int .i64 se)
            have hrz2 := hrz.keep hks2 (fun b hb => by simpa using row_neS hrz hbw b hb)
            have HBWN := Lib.hid hbw
            have HFIN := Lib.hid (And.intro hs2 (And.intro hrz2 hks2))
            have HD12 := Lib.hid (HD11.out.keep0 hk12)
            clear hbw hs2 hks2 hrz2 hrz hzo hk12 hlt13 d0 d1 d2 d3 HOW2
            go_wp2_with fail
            go_roundw
            case rel => exact ⟨k + 1, ⟨g1, sp, sl, se⟩, _, zo, _, by omega, by go_num, HD12.out.turnS HBWN.out HFIN.out.2.2 HBLO.out, HTOP2.out, by simp only; omega, HFIN.out.1, HFIN.out.2.1, hp8⟩
            case measure => first | (simp [RowKit.intOf]; omega) | omega
          · have htop := HT.out
            have hg0 : ¬ xg = 0 := HT.out.1
            have hc0 : (c == 0) = false := by rcases hc2 with rfl | rfl <;> decide
            have hc1 : (c != 0) = true := by rcases hc2 with rfl | rfl <;> decide
            have hp8 := hx8
            have HC2 := Lib.hid hc2
            clear hc2 HCASE
            have HBT := Lib.hid (HD9.out.best (by omega))
            rw [htop.best] at HBT
            have HTOP2 := Lib.hid htop
            clear htop
            go_wp2_with fail
            refine HBT.out.mono ?_
            rintro e w10 ⟨yv, yo, rfl, hry, hyo, hk10⟩
            obtain ⟨ya, yc, rfl⟩ := hry.form
            unfold aggS
            simp only [if_neg hg0] at hry ⊢
            clear hg0
            have hka := (Keep.refl [] w10).alloc (.cells #[.int .u64 (xg : Int), .slice ya xp.length yc, .int .i64 xl, .int .i64 xe] 25)
            have hbb := blkk HBW9.out hk10 (by simp)
            have hltb := (Array.getElem?_eq_some_iff.1 hbb).1
            obtain ⟨d0, d1, d2, d3⟩ := cells4s hbb
            obtain ⟨o1, hrd1, -⟩ := RowE.rde (hry.keep hka (by simp))
            obtain ⟨o2', hrd2, -⟩ := RowE.rde ((HRX9.out.keep hk10 (by simp)).keep hka (by simp))
            have HSM := Lib.hid (q_same (x := ⟨xg, xp, xl, xe⟩) (y := ⟨xg, xp, xl, xe⟩) hrd1 hrd2 (by simp only; omega) (by simp only; omega))
            unfold aggS at HSM
            have HRY := Lib.hid hry
            have HK10 := Lib.hid hk10
            clear hbb hrd1 hrd2 hry hyo hk10 hka HBT
            go_wp2_with (go_at_call 9; refine (p_numF _).mono ?_; rintro e w2 ⟨rfl, rfl⟩)
            refine HSM.out.mono ?_
            rintro e w11 ⟨⟨bb, rfl, hbb⟩, hk11⟩
            obtain rfl : bb = true := by first | exact hbb.2 rfl | exact hbb.2 trivial | simpa using hbb
            clear hbb d0 d1 d2 d3 hltb HSM
            have hka := (Keep.refl [] w10).alloc (.cells #[.int .u64 (xg : Int), .slice ya xp.length yc, .int .i64 xl, .int .i64 xe] 25)
            have hk := (HK10.out.trans hka (by simp)).trans hk11 (by simp)
            have hb13 := blkk (heap_new w10 (.cells #[.int .u64 (xg : Int), .slice ya xp.length yc, .int .i64 xl, .int .i64 xe] 25)) hk11 (by simp)
            obtain ⟨d0, d1, d2, d3⟩ := cells4s hb13
            have hlt13 := (Array.getElem?_eq_some_iff.1 hb13).1
            obtain ⟨o1, hrd1, -⟩ := RowE.rde ((HRY.out.keep hka (by simp)).keep hk11 (by simp))
            have HOW2 := Lib.hid (q_own (x := ⟨xg, xp, xl, xe⟩) hrd1 (by simp only; omega))
            unfold aggS at HOW2
            have HBW11 := Lib.hid (blkk HBW9.out hk (by simp))
            have HD11 := Lib.hid (HD9.out.keep0 hk)
            clear hka hk hb13 hrd1 hk11 HK10 HRY
            go_wp2_with (go_at_call 9; refine (p_numF _).mono ?_; rintro e w2 ⟨rfl, rfl⟩)
            refine HOW2.out.mono ?_
            rintro e w12 ⟨zv, zo, rfl, hrz, hzo, hk12⟩
            obtain ⟨za, zc, rfl⟩ := hrz.form
            simp only at hrz
            unfold aggS
            simp only
            have hbw := blkk HBW11.out hk12 (by simp)
            obtain ⟨k0, k1, k2, k3⟩ := cells4s hbw
            have fk := frozen4 hbw
            obtain ⟨hs2, hks2⟩ := set4 hbw (.int .u64 (xg : Int)) (.slice za xp.length zc) (.int .i64 xl) (.int .i64 xe)
            have hrz2 := hrz.keep hks2 (fun b hb => by simpa using row_neS hrz hbw b hb)
            have HBWN := Lib.hid hbw
            have HFIN := Lib.hid (And.intro hs2 (And.intro hrz2 hks2))
            have HD12 := Lib.hid (HD11.out.keep0 hk12)
            clear hbw hs2 hks2 hrz2 hrz hzo hk12 hlt13 d0 d1 d2 d3 HOW2
            go_wp2_with fail
            go_roundw
            case rel => exact ⟨k + 1, ⟨xg, xp, xl, xe⟩, _, zo, _, by omega, by go_num, HD12.out.turnS HBWN.out HFIN.out.2.2 HBLO.out, HTOP2.out, by simp only; omega, HFIN.out.1, HFIN.out.2.1, hp8⟩
            case measure => first | (simp [RowKit.intOf]; omega) | omega
        · obtain rfl : k = l.length := by omega
          go_wp2_with (go_at_call 7; refine live_any.mono ?_; rintro e wl ⟨rfl, hkl⟩; have HKL := Lib.hid hkl; clear hkl)
          go_ret
          exact ⟨rfl, HD.out.keep.trans HKL.out (by simp)⟩
end Go.Proofs.Ytdeghoigpcbmcaa
