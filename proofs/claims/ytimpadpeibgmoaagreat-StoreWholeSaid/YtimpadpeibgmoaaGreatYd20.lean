/- A part of the proof (Su13), joined by squeeze2.py. -/
import Derived.Test.YtimpadpeibgmoaaGreatYd19
set_option maxHeartbeats 8000000
set_option maxRecDepth 100000
namespace Go.Proofs.YtimpadpeibgmoaaGreat
open Go.RowKit Go.Emb
def logW (c k : Int) (m : List Int) : List Int := if c = 0 then m ++ [k] else m
def WriteP (w : World) (q : Nat) (m : List Int) (D : List Nat) (d : DS) (k : Int) (p : List UInt8) (e : Ending) (w' : World) : Prop :=
 ∃ D', e = .returned (.int .i64 (writeD d k p).1) ∧ DK w' q (logW (writeD d k p).1 k m) D' (writeD d k p).2 ∧ (∀ b ∈ D', b ∈ D ∨ w.heap.size ≤ b) ∧ Keep D w w' ∧ D'.take 3 = D.take 3
theorem WriteP.same {w w' : World} {q : Nat} {m : List Int} {D : List Nat} {d : DS} {k : Int} {p : List UInt8} {c : Int} (h : DK w q m D d) (hk : Keep [] w w') (he : writeD d k p = (c, d)) (hc : c ≠ 0 := by decide) : WriteP w q m D d k p (.returned (.int .i64 c)) w' :=
 ⟨D, by rw [he], by rw [he]; unfold logW; rw [if_neg hc]; exact h.keep0 hk, fun b hb => .inl hb, hk.mono (by simp), rfl⟩
theorem set_log {w : World} {q sz c : Nat} {bv lv : Value} {left : Int} {t : TypeId} (h : w.heap[q]? = some (.cells (dkCells sz bv lv left c) t (0, 0))) (l2 : Value) :
  (w.setCell ⟨q, 2, none⟩ l2).heap[q]? = some (.cells (dkCells sz bv l2 left c) t (0, 0)) := heap_setCell_at h _
theorem close_keep (w : World) (c : Nat) (o : Obj) : Keep [c] w { w with heap := w.heap.setIfInBounds c o } :=
 ⟨rfl, rfl, rfl, by simp, fun b _ hn => by simp only; rw [Array.getElem?_setIfInBounds_ne (by simpa using fun h => hn (by simp [h]))]⟩
theorem dk_all {w' : World} {q sz n c gb s r lg off2 cap : Nat} {m : List Int} {k : Int} {L' : List UInt8} {logs : List Value} {left : Int} {off : Bool}
  (h1 : w'.heap[q]? = some (.cells (dkCells sz (.slice (some ⟨gb, 0, none⟩) (n * sz) (n * sz)) (.slice (some ⟨lg, off2, none⟩) (logs.length + 1) cap) left c) 78 (0, 0))) (h2 : BB w' gb L') (h3 : w'.heap[c]? = some (.chan 0 #[] off s r false))
  (h4 : Row w' 3 1 (.slice (some ⟨lg, off2, none⟩) (logs.length + 1) cap) (logs.length + 1) (logs ++ [.int .i64 k]) (some lg)) (h5 : logs = m.map (Value.int .i64)) (ok : DS.ok ⟨n, sz, L', left, off⟩) :
  DK w' q (m ++ [k]) [q, gb, c, lg] ⟨n, sz, L', left, off⟩ :=
 ⟨gb, c, _, logs ++ [.int .i64 k], some lg, s, r, rfl, h1, h2, h3, by rw [List.length_append]; exact h4, by rw [h5]; simp, ok⟩
theorem mul_lt_disk {a b k : Nat} (h1 : a ≤ 16384) (h2 : b ≤ 4096) (hk : k < a) : k * b + b ≤ 67108864 := by
 have := Nat.mul_le_mul (show k + 1 ≤ 16384 by omega) h2
 rw [Nat.succ_mul] at this
 exact this
theorem d_writeG {w : World} {q : Nat} {m : List Int} {D : List Nat} {d : DS} {lv : Value} {p : List UInt8} (h : DK w q m D d) (hm : m.length ≤ 1000000) (hcat : Calls Tryz.prog 49 #[lv] w fun e w' => ∃ v' o', e = .returned v' ∧ RB w' v' p o' ∧ (∀ b, o' = some b → w.heap.size ≤ b) ∧ Keep [] w w') (hp : p.length ≤ 1000000000) (k : Int) :
  Calls Tryz.prog 33 #[.pointer (some ⟨q, 0, none⟩), .int .i64 k, lv] w (WriteP w q m D d k p) := by
 obtain ⟨i0, hi, hz0, hz1, hz2⟩ := info_parts int_info
 have HI := hyd hi
 clear hi
 have H := hyd h
 obtain ⟨gb, c, logv, logs, lo, s, r, rfl, h1, h2, h3, h4, h5, h6⟩ := h
 have ok := h6
 obtain ⟨o1, o2, o3, o4, o5, o6, o7⟩ := h6
 have HCC := hyd hcat
 have HH := hyd (fun (w2 : World) (hk2 : Keep [] w w2) => p_has (blkk h1 hk2 (by simp)) rfl (by omega) o2 k)
 have HDD := hyd (fun (w2 : World) (hk2 : Keep [] w w2) => p_dead (blkk h1 hk2 (by simp)) ((hk2.block c (Array.getElem?_eq_some_iff.1 h3).1 (by simp)).trans h3))
 have H1 := hyd h1
 have H2 := hyd h2
 have H3 := hyd h3
 have H4 := hyd h4
 have H5 := hyd h5
 have OK := hyd ok
 clear h1 h2 h3 h4 h5 hcat o1 o2 o3 o4 o5 ok
 by_cases hk : 0 ≤ k ∧ k < (d.n : Int)
 ·rw [decide_eq_true hk] at HH
  have HK := hyd hk
  obtain ⟨kn, rfl⟩ : ∃ n : Nat, k = n := ⟨k.toNat, by omega⟩
  have hkn : kn < d.n := by omega
  have HKN := hyd hkn
  clear hk hkn
  go_enter Tryz.func33, Tryz.ntmps33
  go_wp2_with fail
  refine HCC.o.mono ?_
  rintro e w2 ⟨pv, po, rfl, hrow, hfr, hk2⟩
  obtain ⟨pa, pc, rfl, hp1, hp2⟩ := hrow.form
  have HROW := hyd hrow
  have HK2 := hyd hk2
  have HFR := hyd hfr
  clear hrow hfr hk2 hp1 hp2
  go_wp2_with fail
  refine (HH.o w2 HK2.o).mono ?_
  rintro e w3 ⟨rfl, hk3⟩
  have HK3 := hyd (HK2.o.trans hk3 (by simp))
  have hrow3 := HROW.o.keep hk3 (by simp)
  have HROW3 := hyd hrow3
  have hfr3 : ∀ b, po = some b → w.heap.size ≤ b := fun b hb => HFR.o b hb
  have HFR3 := hyd hfr3
  clear hk3 hrow3 hfr3 HROW HFR HK2
  have hq3 := blkk H1.o HK3.o (by simp)
  obtain ⟨c0, c1, c2, c3, c4⟩ := dk_cells hq3
  have f3 := frozen3 hq3
  have HQ3 := hyd hq3
  clear hq3 c1 c2
  by_cases hlen : d.sz < p.length
  ·have hlen' : (d.sz : Int) < (p.length : Int) := by omega
   have HLEN := hyd hlen
   clear hlen
   go_wp2_with fail
   refine bodyPost_ret (results_tmp rfl _ _ _) rfl ?_
   refine WriteP.same H.o HK3.o ?_
   unfold writeD
   rw [if_neg (fun h => h HK.o), if_pos HLEN.o]
  ·have hlen' : ¬ (d.sz : Int) < (p.length : Int) := by omega
   have HLEN := hyd hlen
   clear hlen
   cases hoff : d.off with
   | true =>
    rw [hoff] at HDD
    have HO33 := hyd hoff
    clear hoff
    go_wp2_with fail
    refine (HDD.o w3 HK3.o).mono ?_
    rintro e w4 ⟨rfl, rfl⟩
    go_wp2_with fail
    refine bodyPost_ret (results_tmp rfl _ _ _) rfl ?_
    refine WriteP.same H.o HK3.o ?_
    unfold writeD
    rw [if_neg (fun h => h HK.o), if_neg HLEN.o, if_pos HO33.o]
   | false =>
    rw [hoff] at HDD
    have HO33 := hyd hoff
    clear hoff
    by_cases hz : d.left = 0
    ·have HZ := hyd hz
     rw [hz] at c3
     have hch := (HK3.o.block c (Array.getElem?_eq_some_iff.1 H3.o).1 (by simp)).trans H3.o
     rw [HO33.o] at hch
     have hcl := fun ats ty => Go.run_close_open (P := Tryz.prog) (w := w3) ats ty hch
     have HCH := hyd hch
     clear hz hch
     go_wp2_with fail
     refine (HDD.o w3 HK3.o).mono ?_
     rintro e w4 ⟨rfl, rfl⟩
     go_wp2_with fail
     refine bodyPost_ret (results_tmp rfl _ _ _) rfl ?_
     have n2 := chan_ne HQ3.o HCH.o
     have n4 := chan_ne (H2.o.keep HK3.o (by simp)) HCH.o
     have hkc : Keep [c] w3 { w3 with heap := w3.heap.setIfInBounds c (.chan 0 #[] true s r false) } := close_keep w3 c _
     have hc9 : ({ w3 with heap := w3.heap.setIfInBounds c (.chan 0 #[] true s r false) } : World).heap[c]? = some (.chan 0 #[] true s r false) := by
      simp [(Array.getElem?_eq_some_iff.1 HCH.o).1]
     have n5 := row_ne (H4.o.keep HK3.o (by simp)) HCH.o (fun cs h => by injection h)
     have hdk : DK { w3 with heap := w3.heap.setIfInBounds c (.chan 0 #[] true s r false) } q m (q :: gb :: c :: lo.toList) { d with off := true } :=
      ⟨gb, c, logv, logs, lo, s, r, rfl, blkk HQ3.o hkc (by simpa using n2), (H2.o.keep HK3.o (by simp)).keep hkc (by simpa using n4), hc9, Row.keep (H4.o.keep HK3.o (by simp)) hkc (fun b hb => by simpa using n5 b hb), H5.o, OK.o⟩
     have hwd : writeD d kn p = (20, { d with off := true }) := by
      unfold writeD
      rw [if_neg (fun h => h HK.o), if_neg HLEN.o, if_neg (by rw [HO33.o]; simp), if_pos HZ.o]
     exact ⟨_, by rw [hwd]; rfl, by rw [hwd]; exact hdk, fun b hb => .inl hb, (HK3.o.mono (by simp)).trans hkc (by simp), rfl⟩
    ·have hz' : (d.left == 0) = false := beq_eq_false_iff_ne.2 hz
     have HZ := hyd hz
     have hle := blk_le OK.o HKN.o
     have hmx := mul_lt_disk OK.o.2.1 OK.o.2.2.2.1 HKN.o
     obtain ⟨x, hx⟩ : ∃ x, x = kn * d.sz := ⟨_, rfl⟩
     obtain ⟨y, hy⟩ : ∃ y, y = d.n * d.sz - x := ⟨_, rfl⟩
     have hyz : d.sz ≤ y := by omega
     have HX := hyd hx
     have HY := hyd hy
     have hxl : x + d.sz ≤ d.L.length := by rw [OK.o.2.2.2.2.1]; omega
     have hL := OK.o.2.2.2.2.1
     have hmx2 := mul_le_disk OK.o.2.1 OK.o.2.2.2.1
     have HXL := hyd hxl
     have y1 : (d.sz : Int) ≤ (y : Int) := by omega
     have y2 : (p.length : Int) ≤ (d.sz : Int) := by omega
     have y3 : y ≤ 1000000000 := by omega
     clear hx hy hle hmx hmx2 hxl hL hz
     by_cases hpos : 0 < d.left
     ·have hwl : IntKind.i64.wrap (d.left - 1) = d.left - 1 := IntWalk.i64_in _ (by omega)
      have HPOS := hyd hpos
      go_wp2_with fail
      refine (HDD.o w3 HK3.o).mono ?_
      rintro e w4 ⟨rfl, rfl⟩
      go_upto_region 15 with fail
      clear c0 c3 c4 f3
      have hq5 := set_dk HQ3.o (d.left - 1)
      have hk5 := (Keep.refl [q] w3).setCell (p := ⟨q, 3, none⟩) (.inl (by simp)) (.int .i64 (d.left - 1))
      obtain ⟨lf, hlf⟩ : ∃ l, l = d.left - 1 := ⟨_, rfl⟩
      rw [← hlf] at hq5 hk5 ⊢
      have hlf2 : (if 0 < d.left then d.left - 1 else d.left) = lf := by rw [if_pos HPOS.o, hlf]
      have hlb : -1 ≤ lf ∧ lf ≤ 9223372036854775807 := by omega
      have HQ5 := hyd hq5
      have HK5 := hyd hk5
      clear hq5 hk5 hwl hlf
      generalize w3.setCell ⟨q, 3, none⟩ (.int .i64 lf) = w5 at *
      have HLF := hyd hlf2
      have HLB := hyd hlb
      have n1 := cells_ne HQ3.o (H2.o.keep HK3.o (by simp)) (by decide)
      have n2 := chan_ne HQ3.o ((HK3.o.block c (Array.getElem?_eq_some_iff.1 H3.o).1 (by simp)).trans H3.o)
      have n3 := row_ne (H4.o.keep HK3.o (by simp)) HQ3.o (fun cs h => by injection h with _ h _; exact absurd h (by decide))
      have n4 := chan_ne H2.o H3.o
      have n5 := row_ne H4.o H2.o (fun cs h => by injection h with _ h _; exact absurd h (by decide))
      have n6 := row_ne H4.o H3.o (fun cs h => by injection h)
      have NN := hyd (And.intro n1 (And.intro n2 (And.intro n3 (And.intro n4 (And.intro n5 n6)))))
      have hpo : ∀ b, po = some b → b ≠ q := fun b hb h => by have := HFR3.o b hb; have := (Array.getElem?_eq_some_iff.1 H1.o).1; omega
      have hpg : ∀ b, po = some b → b ≠ gb := fun b hb h => by have := HFR3.o b hb; have := H2.o.lt; omega
      have hbb5 := (H2.o.keep HK3.o (by simp)).keep HK5.o (by simpa using fun h => n1 h.symm)
      have hrow5 := RB.keep HROW3.o HK5.o (by simpa using hpo)
      have hlog5 := Row.keep (H4.o.keep HK3.o (by simp)) HK5.o (by simpa using n3)
      have hch5 := (HK5.o.block c (Nat.lt_of_lt_of_le (Array.getElem?_eq_some_iff.1 H3.o).1 HK3.o.size) (by simpa using fun h => n2 h.symm)).trans ((HK3.o.block c (Array.getElem?_eq_some_iff.1 H3.o).1 (by simp)).trans H3.o)
      have HKW := hyd ((HK3.o.mono (G := [q]) (by simp)).trans HK5.o (by simp))
      have hblk := p_block HQ5.o rfl (by have := OK.o.2.2.1; omega) OK.o.2.2.2.1 OK.o.2.1 HKN.o
      rw [← HX.o, ← HY.o] at hblk
      have HBLK := hyd hblk
      have HBB5 := hyd hbb5
      have HROW5 := hyd hrow5
      have HLOG5 := hyd hlog5
      have HCH5 := hyd hch5
      have HPG := hyd hpg
      clear hblk hbb5 hrow5 hlog5 hch5 hpo hpg n1 n2 n3 n4 n5 n6 hlf2 hlb
      go_wp2_with fail
      refine HBLK.o.mono ?_
      rintro e w6 ⟨rfl, hk6⟩
      obtain ⟨po', hrd6, -⟩ := Row.rd (RB.keep HROW5.o hk6 (by simp))
      obtain ⟨w7, hcp, hbb7, hk7⟩ := copy_b (off := x) (len := d.sz) (cap := y) (ty := 3) (HBB5.o.keep hk6 (by simp)) hrd6 (by omega) HXL.o
      have HBB7 := hyd hbb7
      have HK67 := hyd ((hk6.mono (G := [gb]) (by simp)).trans hk7 (by simp))
      clear hrd6 hbb7 hk7 hk6
      by_cases hfull : p.length = d.sz
      ·by_cases hyl : y = p.length
       ·subst hyl
        have hnn := putB_full OK.o HKN.o hfull
        rw [← HX.o] at hnn
        have hb8 := HBB7.o
        rw [hnn] at hb8
        have HB8 := hyd hb8
        have hclr := fun a c ty => clear_0 w7 a c ty
        have hf0 : d.sz - p.length = 0 := by omega
        have HF := hyd hfull
        have HPL := hyd (show p.length ≤ d.sz by omega)
        have HK8 := hyd (Keep.refl [gb] w7)
        clear hb8 hnn hfull
        go_upto_region 17 with fail
        have hkW := HK67.o.trans HK8.o (by simp)
        have hq8 := blkk HQ5.o hkW (by simpa using NN.o.1)
        have hlog8 := Row.keep HLOG5.o hkW (fun b hb => by simpa using NN.o.2.2.2.2.1 b hb)
        have hch8 := (hkW.block c (Array.getElem?_eq_some_iff.1 HCH5.o).1 (by simpa using fun h => NN.o.2.2.2.1 h.symm)).trans HCH5.o
        obtain ⟨c0, c1, c2, c3, c4⟩ := dk_cells hq8
        have HQ8 := hyd hq8
        have HLOG8 := hyd hlog8
        have HCH8 := hyd hch8
        have HKX := hyd ((HKW.o.mono (G := [q, gb]) (by simp)).trans hkW (by simp))
        have h5 : logs.length ≤ 1000000 := by rw [H5.o, List.length_map]; exact hm
        have hbase : w.heap.size ≤ w7.heap.size := HKX.o.size
        clear c0 c1 c3 c4 hq8 hlog8 hch8 hkW
        go_wp2_with (at_builtin; refine wpList_append_row _ rfl _ _ 63 63 rfl 3 i0 (.int .i64 0) 1 8 Tryz.underlying63 HI.o hz0 hz1 hz2 rfl logv logs.length logs lo rfl (Row.keep HLOG8.o ((Keep.refl [] w7).alloc _) (by simp)) _ rfl 1 [.int .i64 kn] (one_src Tryz.underlying63 w7 _ rfl _) (by omega) (by unfold maxLen; omega) (by omega) ?_; intro g off2 cap w9 hrow9 hk9 hg9; have hq9 := blkk (blkk HQ8.o ((Keep.refl [] w7).alloc (.cells #[.int .i64 kn] 3)) (by simp)) hk9 (by simpa using fun h => NN.o.2.2.1 q h rfl); obtain ⟨c0, c1, c2, c3, c4⟩ := dk_cells hq9; have f9 := frozen3 hq9; have HQ9 := hyd hq9; have HROW9 := hyd hrow9; have HK9 := hyd hk9; have HG9 := hyd hg9; clear hq9 hrow9 hk9 hg9 c0 c1 c3 c4)
        refine bodyPost_ret (results_tmp rfl _ _ _) rfl ?_
        have hka := (Keep.refl [] w7).alloc (.cells #[.int .i64 kn] 3)
        have hks := (Keep.refl [q] w9).setCell (p := ⟨q, 2, none⟩) (.inl (by simp)) (.slice (some ⟨g, off2, none⟩) (logs.length + 1) cap)
        have hgq : g ≠ q := by
         intro h
         rcases HG9.o with h1 | h1
         ·exact NN.o.2.2.1 g h1 h
         ·have := (Array.getElem?_eq_some_iff.1 HQ8.o).1; simp at h1; omega
        have hbb := ((HB8.o.keep hka (by simp)).keep HK9.o (by simpa using fun h => NN.o.2.2.2.2.1 gb h rfl)).keep hks (by simpa using fun h => NN.o.1 h.symm)
        have hcc : (w9.setCell ⟨q, 2, none⟩ (.slice (some ⟨g, off2, none⟩) (logs.length + 1) cap)).heap[c]? = _ := (hks.block c (Nat.lt_of_lt_of_le (Nat.lt_of_lt_of_le (Array.getElem?_eq_some_iff.1 HCH8.o).1 hka.size) HK9.o.size) (by simpa using fun h => NN.o.2.1 h.symm)).trans ((HK9.o.block c (Nat.lt_of_lt_of_le (Array.getElem?_eq_some_iff.1 HCH8.o).1 hka.size) (by simpa using fun h => NN.o.2.2.2.2.2 c h rfl)).trans ((hka.block c (Array.getElem?_eq_some_iff.1 HCH8.o).1 (by simp)).trans HCH8.o))
        have hrr := Row.keep HROW9.o hks (by rintro b ⟨⟩; simpa using hgq)
        have okk : DS.ok ⟨d.n, d.sz, putB d kn p, lf, d.off⟩ := ⟨OK.o.1, OK.o.2.1, OK.o.2.2.1, OK.o.2.2.2.1, putB_len OK.o HKN.o HPL.o, HLB.o.1, HLB.o.2⟩
        have hdk := dk_all (set_log HQ9.o _) hbb hcc hrr H5.o okk
        have hwd : writeD d kn p = (0, ⟨d.n, d.sz, putB d kn p, lf, d.off⟩) := by
         unfold writeD
         rw [if_neg (fun h => h HK.o), if_neg HLEN.o, if_neg (by rw [HO33.o]; simp), if_neg HZ.o, HLF.o, Int.toNat_natCast]
        refine ⟨[q, gb, c, g], by rw [hwd]; rfl, by rw [hwd]; exact hdk, ?_, ?_, rfl⟩
        ·intro b hb
         simp only [List.mem_cons, List.not_mem_nil, or_false] at hb ⊢
         rcases hb with rfl | rfl | rfl | rfl
         ·simp
         ·simp
         ·simp
         ·rcases HG9.o with h1 | h1
          ·exact .inl (.inr (.inr (.inr (by simp [h1]))))
          ·simp at h1; exact .inr (by omega)
        ·refine (((HKX.o.mono (G := q :: gb :: c :: lo.toList) (by simp)).trans hka (by simp)).trans HK9.o (fun b hb => .inl (by simp only [List.mem_cons]; exact .inr (.inr (.inr hb))))).trans hks (by simp)
       ·have hnn := putB_full OK.o HKN.o hfull
        rw [← HX.o] at hnn
        have hb8 := HBB7.o
        rw [hnn] at hb8
        have HB8 := hyd hb8
        have hclr := fun a c ty => clear_0 w7 a c ty
        have hf0 : d.sz - p.length = 0 := by omega
        have HF := hyd hfull
        have HPL := hyd (show p.length ≤ d.sz by omega)
        have HK8 := hyd (Keep.refl [gb] w7)
        clear hb8 hnn hfull
        go_upto_region 17 with fail
        have hkW := HK67.o.trans HK8.o (by simp)
        have hq8 := blkk HQ5.o hkW (by simpa using NN.o.1)
        have hlog8 := Row.keep HLOG5.o hkW (fun b hb => by simpa using NN.o.2.2.2.2.1 b hb)
        have hch8 := (hkW.block c (Array.getElem?_eq_some_iff.1 HCH5.o).1 (by simpa using fun h => NN.o.2.2.2.1 h.symm)).trans HCH5.o
        obtain ⟨c0, c1, c2, c3, c4⟩ := dk_cells hq8
        have HQ8 := hyd hq8
        have HLOG8 := hyd hlog8
        have HCH8 := hyd hch8
        have HKX := hyd ((HKW.o.mono (G := [q, gb]) (by simp)).trans hkW (by simp))
        have h5 : logs.length ≤ 1000000 := by rw [H5.o, List.length_map]; exact hm
        have hbase : w.heap.size ≤ w7.heap.size := HKX.o.size
        clear c0 c1 c3 c4 hq8 hlog8 hch8 hkW
        go_wp2_with (at_builtin; refine wpList_append_row _ rfl _ _ 63 63 rfl 3 i0 (.int .i64 0) 1 8 Tryz.underlying63 HI.o hz0 hz1 hz2 rfl logv logs.length logs lo rfl (Row.keep HLOG8.o ((Keep.refl [] w7).alloc _) (by simp)) _ rfl 1 [.int .i64 kn] (one_src Tryz.underlying63 w7 _ rfl _) (by omega) (by unfold maxLen; omega) (by omega) ?_; intro g off2 cap w9 hrow9 hk9 hg9; have hq9 := blkk (blkk HQ8.o ((Keep.refl [] w7).alloc (.cells #[.int .i64 kn] 3)) (by simp)) hk9 (by simpa using fun h => NN.o.2.2.1 q h rfl); obtain ⟨c0, c1, c2, c3, c4⟩ := dk_cells hq9; have f9 := frozen3 hq9; have HQ9 := hyd hq9; have HROW9 := hyd hrow9; have HK9 := hyd hk9; have HG9 := hyd hg9; clear hq9 hrow9 hk9 hg9 c0 c1 c3 c4)
        refine bodyPost_ret (results_tmp rfl _ _ _) rfl ?_
        have hka := (Keep.refl [] w7).alloc (.cells #[.int .i64 kn] 3)
        have hks := (Keep.refl [q] w9).setCell (p := ⟨q, 2, none⟩) (.inl (by simp)) (.slice (some ⟨g, off2, none⟩) (logs.length + 1) cap)
        have hgq : g ≠ q := by
         intro h
         rcases HG9.o with h1 | h1
         ·exact NN.o.2.2.1 g h1 h
         ·have := (Array.getElem?_eq_some_iff.1 HQ8.o).1; simp at h1; omega
        have hbb := ((HB8.o.keep hka (by simp)).keep HK9.o (by simpa using fun h => NN.o.2.2.2.2.1 gb h rfl)).keep hks (by simpa using fun h => NN.o.1 h.symm)
        have hcc : (w9.setCell ⟨q, 2, none⟩ (.slice (some ⟨g, off2, none⟩) (logs.length + 1) cap)).heap[c]? = _ := (hks.block c (Nat.lt_of_lt_of_le (Nat.lt_of_lt_of_le (Array.getElem?_eq_some_iff.1 HCH8.o).1 hka.size) HK9.o.size) (by simpa using fun h => NN.o.2.1 h.symm)).trans ((HK9.o.block c (Nat.lt_of_lt_of_le (Array.getElem?_eq_some_iff.1 HCH8.o).1 hka.size) (by simpa using fun h => NN.o.2.2.2.2.2 c h rfl)).trans ((hka.block c (Array.getElem?_eq_some_iff.1 HCH8.o).1 (by simp)).trans HCH8.o))
        have hrr := Row.keep HROW9.o hks (by rintro b ⟨⟩; simpa using hgq)
        have okk : DS.ok ⟨d.n, d.sz, putB d kn p, lf, d.off⟩ := ⟨OK.o.1, OK.o.2.1, OK.o.2.2.1, OK.o.2.2.2.1, putB_len OK.o HKN.o HPL.o, HLB.o.1, HLB.o.2⟩
        have hdk := dk_all (set_log HQ9.o _) hbb hcc hrr H5.o okk
        have hwd : writeD d kn p = (0, ⟨d.n, d.sz, putB d kn p, lf, d.off⟩) := by
         unfold writeD
         rw [if_neg (fun h => h HK.o), if_neg HLEN.o, if_neg (by rw [HO33.o]; simp), if_neg HZ.o, HLF.o, Int.toNat_natCast]
        refine ⟨[q, gb, c, g], by rw [hwd]; rfl, by rw [hwd]; exact hdk, ?_, ?_, rfl⟩
        ·intro b hb
         simp only [List.mem_cons, List.not_mem_nil, or_false] at hb ⊢
         rcases hb with rfl | rfl | rfl | rfl
         ·simp
         ·simp
         ·simp
         ·rcases HG9.o with h1 | h1
          ·exact .inl (.inr (.inr (.inr (by simp [h1]))))
          ·simp at h1; exact .inr (by omega)
        ·refine (((HKX.o.mono (G := q :: gb :: c :: lo.toList) (by simp)).trans hka (by simp)).trans HK9.o (fun b hb => .inl (by simp only [List.mem_cons]; exact .inr (.inr (.inr hb))))).trans hks (by simp)
      ·skip
       ·have hlt : p.length < d.sz := by omega
        have hnn := putB_short OK.o HKN.o hlt
        rw [← HX.o] at hnn
        obtain ⟨w8, hclr, hb8, hk8⟩ := clear_b (off := x + p.length) (n := d.sz - p.length) (cap := y - p.length) (ty := 0) HBB7.o (by have := HXL.o; simp only [List.length_append, List.length_take, List.length_drop]; omega) (by omega)
        rw [hnn] at hb8
        have HB8 := hyd hb8
        have HK8 := hyd hk8
        have hf1 : ¬ y = p.length := by omega
        have HPL := hyd (show p.length ≤ d.sz by omega)
        clear hb8 hk8 hnn hfull
        go_upto_region 17 with fail
        have hkW := HK67.o.trans HK8.o (by simp)
        have hq8 := blkk HQ5.o hkW (by simpa using NN.o.1)
        have hlog8 := Row.keep HLOG5.o hkW (fun b hb => by simpa using NN.o.2.2.2.2.1 b hb)
        have hch8 := (hkW.block c (Array.getElem?_eq_some_iff.1 HCH5.o).1 (by simpa using fun h => NN.o.2.2.2.1 h.symm)).trans HCH5.o
        obtain ⟨c0, c1, c2, c3, c4⟩ := dk_cells hq8
        have HQ8 := hyd hq8
        have HLOG8 := hyd hlog8
        have HCH8 := hyd hch8
        have HKX := hyd ((HKW.o.mono (G := [q, gb]) (by simp)).trans hkW (by simp))
        have h5 : logs.length ≤ 1000000 := by rw [H5.o, List.length_map]; exact hm
        have hbase : w.heap.size ≤ w8.heap.size := HKX.o.size
        clear c0 c1 c3 c4 hq8 hlog8 hch8 hkW
        go_wp2_with (at_builtin; refine wpList_append_row _ rfl _ _ 63 63 rfl 3 i0 (.int .i64 0) 1 8 Tryz.underlying63 HI.o hz0 hz1 hz2 rfl logv logs.length logs lo rfl (Row.keep HLOG8.o ((Keep.refl [] w8).alloc _) (by simp)) _ rfl 1 [.int .i64 kn] (one_src Tryz.underlying63 w8 _ rfl _) (by omega) (by unfold maxLen; omega) (by omega) ?_; intro g off2 cap w9 hrow9 hk9 hg9; have hq9 := blkk (blkk HQ8.o ((Keep.refl [] w8).alloc (.cells #[.int .i64 kn] 3)) (by simp)) hk9 (by simpa using fun h => NN.o.2.2.1 q h rfl); obtain ⟨c0, c1, c2, c3, c4⟩ := dk_cells hq9; have f9 := frozen3 hq9; have HQ9 := hyd hq9; have HROW9 := hyd hrow9; have HK9 := hyd hk9; have HG9 := hyd hg9; clear hq9 hrow9 hk9 hg9 c0 c1 c3 c4)
        refine bodyPost_ret (results_tmp rfl _ _ _) rfl ?_
        have hka := (Keep.refl [] w8).alloc (.cells #[.int .i64 kn] 3)
        have hks := (Keep.refl [q] w9).setCell (p := ⟨q, 2, none⟩) (.inl (by simp)) (.slice (some ⟨g, off2, none⟩) (logs.length + 1) cap)
        have hgq : g ≠ q := by
         intro h
         rcases HG9.o with h1 | h1
         ·exact NN.o.2.2.1 g h1 h
         ·have := (Array.getElem?_eq_some_iff.1 HQ8.o).1; simp at h1; omega
        have hbb := ((HB8.o.keep hka (by simp)).keep HK9.o (by simpa using fun h => NN.o.2.2.2.2.1 gb h rfl)).keep hks (by simpa using fun h => NN.o.1 h.symm)
        have hcc : (w9.setCell ⟨q, 2, none⟩ (.slice (some ⟨g, off2, none⟩) (logs.length + 1) cap)).heap[c]? = _ := (hks.block c (Nat.lt_of_lt_of_le (Nat.lt_of_lt_of_le (Array.getElem?_eq_some_iff.1 HCH8.o).1 hka.size) HK9.o.size) (by simpa using fun h => NN.o.2.1 h.symm)).trans ((HK9.o.block c (Nat.lt_of_lt_of_le (Array.getElem?_eq_some_iff.1 HCH8.o).1 hka.size) (by simpa using fun h => NN.o.2.2.2.2.2 c h rfl)).trans ((hka.block c (Array.getElem?_eq_some_iff.1 HCH8.o).1 (by simp)).trans HCH8.o))
        have hrr := Row.keep HROW9.o hks (by rintro b ⟨⟩; simpa using hgq)
        have okk : DS.ok ⟨d.n, d.sz, putB d kn p, lf, d.off⟩ := ⟨OK.o.1, OK.o.2.1, OK.o.2.2.1, OK.o.2.2.2.1, putB_len OK.o HKN.o HPL.o, HLB.o.1, HLB.o.2⟩
        have hdk := dk_all (set_log HQ9.o _) hbb hcc hrr H5.o okk
        have hwd : writeD d kn p = (0, ⟨d.n, d.sz, putB d kn p, lf, d.off⟩) := by
         unfold writeD
         rw [if_neg (fun h => h HK.o), if_neg HLEN.o, if_neg (by rw [HO33.o]; simp), if_neg HZ.o, HLF.o, Int.toNat_natCast]
        refine ⟨[q, gb, c, g], by rw [hwd]; rfl, by rw [hwd]; exact hdk, ?_, ?_, rfl⟩
        ·intro b hb
         simp only [List.mem_cons, List.not_mem_nil, or_false] at hb ⊢
         rcases hb with rfl | rfl | rfl | rfl
         ·simp
         ·simp
         ·simp
         ·rcases HG9.o with h1 | h1
          ·exact .inl (.inr (.inr (.inr (by simp [h1]))))
          ·simp at h1; exact .inr (by omega)
        ·refine (((HKX.o.mono (G := q :: gb :: c :: lo.toList) (by simp)).trans hka (by simp)).trans HK9.o (fun b hb => .inl (by simp only [List.mem_cons]; exact .inr (.inr (.inr hb))))).trans hks (by simp)
     ·have hpos' : d.left < 0 := by have := HZ.o; omega
      have HPOS := hyd hpos
      go_wp2_with fail
      refine (HDD.o w3 HK3.o).mono ?_
      rintro e w4 ⟨rfl, rfl⟩
      go_upto_region 15 with fail
      clear c0 c3 c4 f3
      obtain ⟨lf, hlf⟩ : ∃ l, l = d.left := ⟨_, rfl⟩
      have hlf2 : (if 0 < d.left then d.left - 1 else d.left) = lf := by rw [if_neg (by have := HPOS.o; omega), hlf]
      have hlb : -1 ≤ lf ∧ lf ≤ 9223372036854775807 := by omega
      have hq5 := HQ3.o
      rw [← hlf] at hq5
      have HQ5 := hyd hq5
      obtain ⟨w5, hw5⟩ : ∃ x, x = w3 := ⟨_, rfl⟩
      have HK5 := hyd (show Keep [q] w3 w5 from hw5 ▸ Keep.refl _ _)
      have HQ5 := hyd (show w5.heap[q]? = some (.cells (dkCells d.sz (.slice (some ⟨gb, 0, none⟩) (d.n * d.sz) (d.n * d.sz)) logv lf c) 78 (0, 0)) by rw [hw5]; exact hq5)
      rw [← hw5]
      clear hq5 hlf hw5
      have HLF := hyd hlf2
      have HLB := hyd hlb
      have n1 := cells_ne HQ3.o (H2.o.keep HK3.o (by simp)) (by decide)
      have n2 := chan_ne HQ3.o ((HK3.o.block c (Array.getElem?_eq_some_iff.1 H3.o).1 (by simp)).trans H3.o)
      have n3 := row_ne (H4.o.keep HK3.o (by simp)) HQ3.o (fun cs h => by injection h with _ h _; exact absurd h (by decide))
      have n4 := chan_ne H2.o H3.o
      have n5 := row_ne H4.o H2.o (fun cs h => by injection h with _ h _; exact absurd h (by decide))
      have n6 := row_ne H4.o H3.o (fun cs h => by injection h)
      have NN := hyd (And.intro n1 (And.intro n2 (And.intro n3 (And.intro n4 (And.intro n5 n6)))))
      have hpo : ∀ b, po = some b → b ≠ q := fun b hb h => by have := HFR3.o b hb; have := (Array.getElem?_eq_some_iff.1 H1.o).1; omega
      have hpg : ∀ b, po = some b → b ≠ gb := fun b hb h => by have := HFR3.o b hb; have := H2.o.lt; omega
      have hbb5 := (H2.o.keep HK3.o (by simp)).keep HK5.o (by simpa using fun h => n1 h.symm)
      have hrow5 := RB.keep HROW3.o HK5.o (by simpa using hpo)
      have hlog5 := Row.keep (H4.o.keep HK3.o (by simp)) HK5.o (by simpa using n3)
      have hch5 := (HK5.o.block c (Nat.lt_of_lt_of_le (Array.getElem?_eq_some_iff.1 H3.o).1 HK3.o.size) (by simpa using fun h => n2 h.symm)).trans ((HK3.o.block c (Array.getElem?_eq_some_iff.1 H3.o).1 (by simp)).trans H3.o)
      have HKW := hyd ((HK3.o.mono (G := [q]) (by simp)).trans HK5.o (by simp))
      have hblk := p_block HQ5.o rfl (by have := OK.o.2.2.1; omega) OK.o.2.2.2.1 OK.o.2.1 HKN.o
      rw [← HX.o, ← HY.o] at hblk
      have HBLK := hyd hblk
      have HBB5 := hyd hbb5
      have HROW5 := hyd hrow5
      have HLOG5 := hyd hlog5
      have HCH5 := hyd hch5
      have HPG := hyd hpg
      clear hblk hbb5 hrow5 hlog5 hch5 hpo hpg n1 n2 n3 n4 n5 n6 hlf2 hlb
      go_wp2_with fail
      refine HBLK.o.mono ?_
      rintro e w6 ⟨rfl, hk6⟩
      obtain ⟨po', hrd6, -⟩ := Row.rd (RB.keep HROW5.o hk6 (by simp))
      obtain ⟨w7, hcp, hbb7, hk7⟩ := copy_b (off := x) (len := d.sz) (cap := y) (ty := 3) (HBB5.o.keep hk6 (by simp)) hrd6 (by omega) HXL.o
      have HBB7 := hyd hbb7
      have HK67 := hyd ((hk6.mono (G := [gb]) (by simp)).trans hk7 (by simp))
      clear hrd6 hbb7 hk7 hk6
      by_cases hfull : p.length = d.sz
      ·by_cases hyl : y = p.length
       ·subst hyl
        have hnn := putB_full OK.o HKN.o hfull
        rw [← HX.o] at hnn
        have hb8 := HBB7.o
        rw [hnn] at hb8
        have HB8 := hyd hb8
        have hclr := fun a c ty => clear_0 w7 a c ty
        have hf0 : d.sz - p.length = 0 := by omega
        have HF := hyd hfull
        have HPL := hyd (show p.length ≤ d.sz by omega)
        have HK8 := hyd (Keep.refl [gb] w7)
        clear hb8 hnn hfull
        go_upto_region 17 with fail
        have hkW := HK67.o.trans HK8.o (by simp)
        have hq8 := blkk HQ5.o hkW (by simpa using NN.o.1)
        have hlog8 := Row.keep HLOG5.o hkW (fun b hb => by simpa using NN.o.2.2.2.2.1 b hb)
        have hch8 := (hkW.block c (Array.getElem?_eq_some_iff.1 HCH5.o).1 (by simpa using fun h => NN.o.2.2.2.1 h.symm)).trans HCH5.o
        obtain ⟨c0, c1, c2, c3, c4⟩ := dk_cells hq8
        have HQ8 := hyd hq8
        have HLOG8 := hyd hlog8
        have HCH8 := hyd hch8
        have HKX := hyd ((HKW.o.mono (G := [q, gb]) (by simp)).trans hkW (by simp))
        have h5 : logs.length ≤ 1000000 := by rw [H5.o, List.length_map]; exact hm
        have hbase : w.heap.size ≤ w7.heap.size := HKX.o.size
        clear c0 c1 c3 c4 hq8 hlog8 hch8 hkW
        go_wp2_with (at_builtin; refine wpList_append_row _ rfl _ _ 63 63 rfl 3 i0 (.int .i64 0) 1 8 Tryz.underlying63 HI.o hz0 hz1 hz2 rfl logv logs.length logs lo rfl (Row.keep HLOG8.o ((Keep.refl [] w7).alloc _) (by simp)) _ rfl 1 [.int .i64 kn] (one_src Tryz.underlying63 w7 _ rfl _) (by omega) (by unfold maxLen; omega) (by omega) ?_; intro g off2 cap w9 hrow9 hk9 hg9; have hq9 := blkk (blkk HQ8.o ((Keep.refl [] w7).alloc (.cells #[.int .i64 kn] 3)) (by simp)) hk9 (by simpa using fun h => NN.o.2.2.1 q h rfl); obtain ⟨c0, c1, c2, c3, c4⟩ := dk_cells hq9; have f9 := frozen3 hq9; have HQ9 := hyd hq9; have HROW9 := hyd hrow9; have HK9 := hyd hk9; have HG9 := hyd hg9; clear hq9 hrow9 hk9 hg9 c0 c1 c3 c4)
        refine bodyPost_ret (results_tmp rfl _ _ _) rfl ?_
        have hka := (Keep.refl [] w7).alloc (.cells #[.int .i64 kn] 3)
        have hks := (Keep.refl [q] w9).setCell (p := ⟨q, 2, none⟩) (.inl (by simp)) (.slice (some ⟨g, off2, none⟩) (logs.length + 1) cap)
        have hgq : g ≠ q := by
         intro h
         rcases HG9.o with h1 | h1
         ·exact NN.o.2.2.1 g h1 h
         ·have := (Array.getElem?_eq_some_iff.1 HQ8.o).1; simp at h1; omega
        have hbb := ((HB8.o.keep hka (by simp)).keep HK9.o (by simpa using fun h => NN.o.2.2.2.2.1 gb h rfl)).keep hks (by simpa using fun h => NN.o.1 h.symm)
        have hcc : (w9.setCell ⟨q, 2, none⟩ (.slice (some ⟨g, off2, none⟩) (logs.length + 1) cap)).heap[c]? = _ := (hks.block c (Nat.lt_of_lt_of_le (Nat.lt_of_lt_of_le (Array.getElem?_eq_some_iff.1 HCH8.o).1 hka.size) HK9.o.size) (by simpa using fun h => NN.o.2.1 h.symm)).trans ((HK9.o.block c (Nat.lt_of_lt_of_le (Array.getElem?_eq_some_iff.1 HCH8.o).1 hka.size) (by simpa using fun h => NN.o.2.2.2.2.2 c h rfl)).trans ((hka.block c (Array.getElem?_eq_some_iff.1 HCH8.o).1 (by simp)).trans HCH8.o))
        have hrr := Row.keep HROW9.o hks (by rintro b ⟨⟩; simpa using hgq)
        have okk : DS.ok ⟨d.n, d.sz, putB d kn p, lf, d.off⟩ := ⟨OK.o.1, OK.o.2.1, OK.o.2.2.1, OK.o.2.2.2.1, putB_len OK.o HKN.o HPL.o, HLB.o.1, HLB.o.2⟩
        have hdk := dk_all (set_log HQ9.o _) hbb hcc hrr H5.o okk
        have hwd : writeD d kn p = (0, ⟨d.n, d.sz, putB d kn p, lf, d.off⟩) := by
         unfold writeD
         rw [if_neg (fun h => h HK.o), if_neg HLEN.o, if_neg (by rw [HO33.o]; simp), if_neg HZ.o, HLF.o, Int.toNat_natCast]
        refine ⟨[q, gb, c, g], by rw [hwd]; rfl, by rw [hwd]; exact hdk, ?_, ?_, rfl⟩
        ·intro b hb
         simp only [List.mem_cons, List.not_mem_nil, or_false] at hb ⊢
         rcases hb with rfl | rfl | rfl | rfl
         ·simp
         ·simp
         ·simp
         ·rcases HG9.o with h1 | h1
          ·exact .inl (.inr (.inr (.inr (by simp [h1]))))
          ·simp at h1; exact .inr (by omega)
        ·refine (((HKX.o.mono (G := q :: gb :: c :: lo.toList) (by simp)).trans hka (by simp)).trans HK9.o (fun b hb => .inl (by simp only [List.mem_cons]; exact .inr (.inr (.inr hb))))).trans hks (by simp)
       ·have hnn := putB_full OK.o HKN.o hfull
        rw [← HX.o] at hnn
        have hb8 := HBB7.o
        rw [hnn] at hb8
        have HB8 := hyd hb8
        have hclr := fun a c ty => clear_0 w7 a c ty
        have hf0 : d.sz - p.length = 0 := by omega
        have HF := hyd hfull
        have HPL := hyd (show p.length ≤ d.sz by omega)
        have HK8 := hyd (Keep.refl [gb] w7)
        clear hb8 hnn hfull
        go_upto_region 17 with fail
        have hkW := HK67.o.trans HK8.o (by simp)
        have hq8 := blkk HQ5.o hkW (by simpa using NN.o.1)
        have hlog8 := Row.keep HLOG5.o hkW (fun b hb => by simpa using NN.o.2.2.2.2.1 b hb)
        have hch8 := (hkW.block c (Array.getElem?_eq_some_iff.1 HCH5.o).1 (by simpa using fun h => NN.o.2.2.2.1 h.symm)).trans HCH5.o
        obtain ⟨c0, c1, c2, c3, c4⟩ := dk_cells hq8
        have HQ8 := hyd hq8
        have HLOG8 := hyd hlog8
        have HCH8 := hyd hch8
        have HKX := hyd ((HKW.o.mono (G := [q, gb]) (by simp)).trans hkW (by simp))
        have h5 : logs.length ≤ 1000000 := by rw [H5.o, List.length_map]; exact hm
        have hbase : w.heap.size ≤ w7.heap.size := HKX.o.size
        clear c0 c1 c3 c4 hq8 hlog8 hch8 hkW
        go_wp2_with (at_builtin; refine wpList_append_row _ rfl _ _ 63 63 rfl 3 i0 (.int .i64 0) 1 8 Tryz.underlying63 HI.o hz0 hz1 hz2 rfl logv logs.length logs lo rfl (Row.keep HLOG8.o ((Keep.refl [] w7).alloc _) (by simp)) _ rfl 1 [.int .i64 kn] (one_src Tryz.underlying63 w7 _ rfl _) (by omega) (by unfold maxLen; omega) (by omega) ?_; intro g off2 cap w9 hrow9 hk9 hg9; have hq9 := blkk (blkk HQ8.o ((Keep.refl [] w7).alloc (.cells #[.int .i64 kn] 3)) (by simp)) hk9 (by simpa using fun h => NN.o.2.2.1 q h rfl); obtain ⟨c0, c1, c2, c3, c4⟩ := dk_cells hq9; have f9 := frozen3 hq9; have HQ9 := hyd hq9; have HROW9 := hyd hrow9; have HK9 := hyd hk9; have HG9 := hyd hg9; clear hq9 hrow9 hk9 hg9 c0 c1 c3 c4)
        refine bodyPost_ret (results_tmp rfl _ _ _) rfl ?_
        have hka := (Keep.refl [] w7).alloc (.cells #[.int .i64 kn] 3)
        have hks := (Keep.refl [q] w9).setCell (p := ⟨q, 2, none⟩) (.inl (by simp)) (.slice (some ⟨g, off2, none⟩) (logs.length + 1) cap)
        have hgq : g ≠ q := by
         intro h
         rcases HG9.o with h1 | h1
         ·exact NN.o.2.2.1 g h1 h
         ·have := (Array.getElem?_eq_some_iff.1 HQ8.o).1; simp at h1; omega
        have hbb := ((HB8.o.keep hka (by simp)).keep HK9.o (by simpa using fun h => NN.o.2.2.2.2.1 gb h rfl)).keep hks (by simpa using fun h => NN.o.1 h.symm)
        have hcc : (w9.setCell ⟨q, 2, none⟩ (.slice (some ⟨g, off2, none⟩) (logs.length + 1) cap)).heap[c]? = _ := (hks.block c (Nat.lt_of_lt_of_le (Nat.lt_of_lt_of_le (Array.getElem?_eq_some_iff.1 HCH8.o).1 hka.size) HK9.o.size) (by simpa using fun h => NN.o.2.1 h.symm)).trans ((HK9.o.block c (Nat.lt_of_lt_of_le (Array.getElem?_eq_some_iff.1 HCH8.o).1 hka.size) (by simpa using fun h => NN.o.2.2.2.2.2 c h rfl)).trans ((hka.block c (Array.getElem?_eq_some_iff.1 HCH8.o).1 (by simp)).trans HCH8.o))
        have hrr := Row.keep HROW9.o hks (by rintro b ⟨⟩; simpa using hgq)
        have okk : DS.ok ⟨d.n, d.sz, putB d kn p, lf, d.off⟩ := ⟨OK.o.1, OK.o.2.1, OK.o.2.2.1, OK.o.2.2.2.1, putB_len OK.o HKN.o HPL.o, HLB.o.1, HLB.o.2⟩
        have hdk := dk_all (set_log HQ9.o _) hbb hcc hrr H5.o okk
        have hwd : writeD d kn p = (0, ⟨d.n, d.sz, putB d kn p, lf, d.off⟩) := by
         unfold writeD
         rw [if_neg (fun h => h HK.o), if_neg HLEN.o, if_neg (by rw [HO33.o]; simp), if_neg HZ.o, HLF.o, Int.toNat_natCast]
        refine ⟨[q, gb, c, g], by rw [hwd]; rfl, by rw [hwd]; exact hdk, ?_, ?_, rfl⟩
        ·intro b hb
         simp only [List.mem_cons, List.not_mem_nil, or_false] at hb ⊢
         rcases hb with rfl | rfl | rfl | rfl
         ·simp
         ·simp
         ·simp
         ·rcases HG9.o with h1 | h1
          ·exact .inl (.inr (.inr (.inr (by simp [h1]))))
          ·simp at h1; exact .inr (by omega)
        ·refine (((HKX.o.mono (G := q :: gb :: c :: lo.toList) (by simp)).trans hka (by simp)).trans HK9.o (fun b hb => .inl (by simp only [List.mem_cons]; exact .inr (.inr (.inr hb))))).trans hks (by simp)
      ·skip
       ·have hlt : p.length < d.sz := by omega
        have hnn := putB_short OK.o HKN.o hlt
        rw [← HX.o] at hnn
        obtain ⟨w8, hclr, hb8, hk8⟩ := clear_b (off := x + p.length) (n := d.sz - p.length) (cap := y - p.length) (ty := 0) HBB7.o (by have := HXL.o; simp only [List.length_append, List.length_take, List.length_drop]; omega) (by omega)
        rw [hnn] at hb8
        have HB8 := hyd hb8
        have HK8 := hyd hk8
        have hf1 : ¬ y = p.length := by omega
        have HPL := hyd (show p.length ≤ d.sz by omega)
        clear hb8 hk8 hnn hfull
        go_upto_region 17 with fail
        have hkW := HK67.o.trans HK8.o (by simp)
        have hq8 := blkk HQ5.o hkW (by simpa using NN.o.1)
        have hlog8 := Row.keep HLOG5.o hkW (fun b hb => by simpa using NN.o.2.2.2.2.1 b hb)
        have hch8 := (hkW.block c (Array.getElem?_eq_some_iff.1 HCH5.o).1 (by simpa using fun h => NN.o.2.2.2.1 h.symm)).trans HCH5.o
        obtain ⟨c0, c1, c2, c3, c4⟩ := dk_cells hq8
        have HQ8 := hyd hq8
        have HLOG8 := hyd hlog8
        have HCH8 := hyd hch8
        have HKX := hyd ((HKW.o.mono (G := [q, gb]) (by simp)).trans hkW (by simp))
        have h5 : logs.length ≤ 1000000 := by rw [H5.o, List.length_map]; exact hm
        have hbase : w.heap.size ≤ w8.heap.size := HKX.o.size
        clear c0 c1 c3 c4 hq8 hlog8 hch8 hkW
        go_wp2_with (at_builtin; refine wpList_append_row _ rfl _ _ 63 63 rfl 3 i0 (.int .i64 0) 1 8 Tryz.underlying63 HI.o hz0 hz1 hz2 rfl logv logs.length logs lo rfl (Row.keep HLOG8.o ((Keep.refl [] w8).alloc _) (by simp)) _ rfl 1 [.int .i64 kn] (one_src Tryz.underlying63 w8 _ rfl _) (by omega) (by unfold maxLen; omega) (by omega) ?_; intro g off2 cap w9 hrow9 hk9 hg9; have hq9 := blkk (blkk HQ8.o ((Keep.refl [] w8).alloc (.cells #[.int .i64 kn] 3)) (by simp)) hk9 (by simpa using fun h => NN.o.2.2.1 q h rfl); obtain ⟨c0, c1, c2, c3, c4⟩ := dk_cells hq9; have f9 := frozen3 hq9; have HQ9 := hyd hq9; have HROW9 := hyd hrow9; have HK9 := hyd hk9; have HG9 := hyd hg9; clear hq9 hrow9 hk9 hg9 c0 c1 c3 c4)
        refine bodyPost_ret (results_tmp rfl _ _ _) rfl ?_
        have hka := (Keep.refl [] w8).alloc (.cells #[.int .i64 kn] 3)
        have hks := (Keep.refl [q] w9).setCell (p := ⟨q, 2, none⟩) (.inl (by simp)) (.slice (some ⟨g, off2, none⟩) (logs.length + 1) cap)
        have hgq : g ≠ q := by
         intro h
         rcases HG9.o with h1 | h1
         ·exact NN.o.2.2.1 g h1 h
         ·have := (Array.getElem?_eq_some_iff.1 HQ8.o).1; simp at h1; omega
        have hbb := ((HB8.o.keep hka (by simp)).keep HK9.o (by simpa using fun h => NN.o.2.2.2.2.1 gb h rfl)).keep hks (by simpa using fun h => NN.o.1 h.symm)
        have hcc : (w9.setCell ⟨q, 2, none⟩ (.slice (some ⟨g, off2, none⟩) (logs.length + 1) cap)).heap[c]? = _ := (hks.block c (Nat.lt_of_lt_of_le (Nat.lt_of_lt_of_le (Array.getElem?_eq_some_iff.1 HCH8.o).1 hka.size) HK9.o.size) (by simpa using fun h => NN.o.2.1 h.symm)).trans ((HK9.o.block c (Nat.lt_of_lt_of_le (Array.getElem?_eq_some_iff.1 HCH8.o).1 hka.size) (by simpa using fun h => NN.o.2.2.2.2.2 c h rfl)).trans ((hka.block c (Array.getElem?_eq_some_iff.1 HCH8.o).1 (by simp)).trans HCH8.o))
        have hrr := Row.keep HROW9.o hks (by rintro b ⟨⟩; simpa using hgq)
        have okk : DS.ok ⟨d.n, d.sz, putB d kn p, lf, d.off⟩ := ⟨OK.o.1, OK.o.2.1, OK.o.2.2.1, OK.o.2.2.2.1, putB_len OK.o HKN.o HPL.o, HLB.o.1, HLB.o.2⟩
        have hdk := dk_all (set_log HQ9.o _) hbb hcc hrr H5.o okk
        have hwd : writeD d kn p = (0, ⟨d.n, d.sz, putB d kn p, lf, d.off⟩) := by
         unfold writeD
         rw [if_neg (fun h => h HK.o), if_neg HLEN.o, if_neg (by rw [HO33.o]; simp), if_neg HZ.o, HLF.o, Int.toNat_natCast]
        refine ⟨[q, gb, c, g], by rw [hwd]; rfl, by rw [hwd]; exact hdk, ?_, ?_, rfl⟩
        ·intro b hb
         simp only [List.mem_cons, List.not_mem_nil, or_false] at hb ⊢
         rcases hb with rfl | rfl | rfl | rfl
         ·simp
         ·simp
         ·simp
         ·rcases HG9.o with h1 | h1
          ·exact .inl (.inr (.inr (.inr (by simp [h1]))))
          ·simp at h1; exact .inr (by omega)
        ·refine (((HKX.o.mono (G := q :: gb :: c :: lo.toList) (by simp)).trans hka (by simp)).trans HK9.o (fun b hb => .inl (by simp only [List.mem_cons]; exact .inr (.inr (.inr hb))))).trans hks (by simp)
 ·rw [decide_eq_false hk] at HH
  have HK := hyd hk
  clear hk
  go_enter Tryz.func33, Tryz.ntmps33
  go_wp2_with fail
  refine HCC.o.mono ?_
  rintro e w2 ⟨pv, po, rfl, hrow, hfr, hk2⟩
  obtain ⟨pa, pc, rfl, hp1, hp2⟩ := hrow.form
  have HROW := hyd hrow
  have HK2 := hyd hk2
  clear hrow hfr hk2 hp1 hp2
  go_wp2_with fail
  refine (HH.o w2 HK2.o).mono ?_
  rintro e w3 ⟨rfl, hk3⟩
  have HK3 := hyd (HK2.o.trans hk3 (by simp))
  clear hk3
  go_wp2_with fail
  refine bodyPost_ret (results_tmp rfl _ _ _) rfl ?_
  refine WriteP.same H.o HK3.o ?_
  unfold writeD
  rw [if_pos HK.o]
theorem d_write {w : World} {q lb lo' lc : Nat} {m : List Int} {D : List Nat} {d : DS} {bv : Value} {p : List UInt8} {o : Option Nat} (h : DK w q m D d) (hm : m.length ≤ 1000000) (hcell : w.cell? ⟨lb, lo', none⟩ = some bv) (hr : Rd w 1 bv p.length (Lib.byteCells p) o) (hp : p.length ≤ 1000000000) (k : Int) :
  Calls Tryz.prog 33 #[.pointer (some ⟨q, 0, none⟩), .int .i64 k, .slice (some ⟨lb, lo', none⟩) 1 lc] w (WriteP w q m D d k p) :=
 d_writeG h hm (p_concat1 (lc := lc) hcell hr hp) hp k
end Go.Proofs.YtimpadpeibgmoaaGreat
