/- A part of the proof (ExtRHas), joined by squeeze2.py. -/
import Derived.Test.YtimpadpeibgmoaaGreatYc45
set_option maxHeartbeats 8000000
set_option maxRecDepth 100000
namespace Go.Proofs.YtimpadpeibgmoaaGreat
open Go.RowKit Go.Emb Go.Lib Go.Emb.Ext Go.Shelf Go.Sort
theorem wpAnyH_takeL {P : Program} {l : List Oper} {Q : Exit → Act → World → Prop} {md : Region.Mode} {S : World → Prop} {i : Nat} {oi : Oper} {v : Value} {fuel : Nat} {listed : Array Bool} {a : Act} {w : World} (hi : l[i]? = some oi)
  (hs : Region.noSelect l.toArray = true) (hf : Region.free md l.toArray listed i = true) (hr : (Region.ready md l.toArray listed).contains i = true)
  (hQ : ∀ c a w, Q (.panic c) (a.put oi.dst v) w → Q (.panic c) a w) (hy : YieldsIf P l.toArray S oi v a) (hS : S w)
  (h : wpAnyH P md l.toArray Q S fuel (listed.setIfInBounds i true) (a.put oi.dst v) w) : wpAnyH P md l.toArray Q S (fuel + 1) listed a w :=
 wpAnyH_take (by simpa using hi) hs hf hr hQ hy hS h
theorem any_snoc_has (l : List E) (k : Nat) (hk : k < l.length) (n : Int) (h : (l.take k).any (hasE n) = false) : (hasE n l[k] = true → l.any (hasE n) = true) ∧ (hasE n l[k] = false → (l.take (k + 1)).any (hasE n) = false) := by
 refine ⟨fun h1 => List.any_eq_true.2 ⟨_, List.getElem_mem hk, h1⟩, fun h1 => ?_⟩
 rw [List.take_succ_eq_append_getElem hk, List.any_append, h]
 simp [h1]
theorem r_has {w : World} {v : Value} {l : List E} (hr : HasE w v l) (hsz : l.length ≤ 1000000) (n : Int) (hn : -9223372036854775808 ≤ n) (hn2 : n ≤ 9223372036854775807) :
  Calls Tryz.prog 30 #[.int .i64 n, v] w fun e w' => e = .returned (.bool (l.any (hasE n))) ∧ Keep [] w w' := by
 obtain ⟨a, c, rfl⟩ := hr.slice
 have HR := hyd hr
 clear hr
 go_enter Tryz.func30, Tryz.ntmps30
 go_wp2_with fail
 go_loopw [5] (fun i wr => ∃ k : Nat, k ≤ l.length ∧ i = .int .i64 k ∧ Keep [] w wr ∧ (l.take k).any (hasE n) = false) (fun i _ => l.length - (intOf i).toNat)
 case atStart => exact ⟨0, Nat.zero_le _, rfl, Keep.refl _ _, by simp⟩
 case round =>
  obtain ⟨k, hk, rfl, hK, hno⟩ := hrel
  have HK := hyd hK
  have HNO := hyd hno
  clear hK hno
  by_cases hlt : k < l.length
  ·obtain ⟨o, hrd, -⟩ := HR.o
   obtain ⟨b, off, rfl, rfl, g0, g1⟩ := hrd.at hlt
   have c0 := HK.o.cellOf g0
   have c1 := HK.o.cellOf g1
   clear g0 g1 hrd
   obtain ⟨hy, hnn⟩ := any_snoc_has l k hlt n HNO.o
   have HY := hyd hy
   have HN := hyd hnn
   clear hy hnn
   generalize l[k] = x at *
   have i0 : (0 : Int) ≤ (k : Int) := by omega
   have i1 : (k : Int) < (l.length : Int) := by omega
   have hcall := fun W => r_right x W
   obtain ⟨f, m⟩ := x
   simp only at c0 c1
   unfold aggE at hcall
   have HSS : Hid (∀ w', Keep [] wr w' → w'.cell? ⟨b, off + k * 2, none⟩ = some (.int .i64 f) ∧ w'.cell? ⟨b, off + k * 2 + 1, none⟩ = some (.int .i64 m)) := fun w' hk' => ⟨hk'.cellOf c0, hk'.cellOf c1⟩
   cases hq : right (f, m) with
   | true =>
    have hb := (right_iff _).1 hq
    simp only at hb
    rw [hq] at hcall
    have HCALL := hyd hcall
    have hw9 : IntKind.i64.wrap (f + m) = f + m := IntWalk.i64_in _ (by omega)
    by_cases h1 : f ≤ n
    ·have hd1 : decide (f ≤ n) = true := by simpa using h1
     by_cases h2 : n < f + m
     ·have hd2 : decide (n < f + m) = true := by simpa using h2
      have hres := HY.o (by unfold hasE; rw [hq]; simp; omega)
      have HRES := hyd hres
      clear hres hq hcall
      go_wp2_with fail
      refine wp_region_held_drew (S := fun w' => Keep [] wr w') (by kernel_rfl) ((Keep.refl [] wr).drew) (fun hHeld => ?_)
      refine tkL 0 ?v0 rfl ?run0 hHeld ?_
      case run0 => (intro w9 hS9; obtain ⟨e0, e1⟩ := HSS.o w9 hS9; go_simp; try exact rfl)
      try simp only [Act.put, lA, lZ, lS]
      refine tkL 1 ?v1 rfl ?run1 hHeld ?_
      case run1 => (intro w9 hS9; obtain ⟨e0, e1⟩ := HSS.o w9 hS9; go_simp; try exact rfl)
      try simp only [Act.put, lA, lZ, lS]
      refine tkL 2 ?v2 rfl ?run2 hHeld ?_
      case run2 => (intro w9 hS9; obtain ⟨e0, e1⟩ := HSS.o w9 hS9; go_simp; try exact rfl)
      try simp only [Act.put, lA, lZ, lS]
      refine tkL 3 ?v3 rfl ?run3 hHeld ?_
      case run3 => (intro w9 hS9; obtain ⟨e0, e1⟩ := HSS.o w9 hS9; go_simp; try exact rfl)
      try simp only [Act.put, lA, lZ, lS]
      refine wpAnyH_ready (rs := [4]) (by kernel_rfl) (by simp) ?_
      refine AllReadyH.cons rfl (fun K hK => ?_) AllReadyH.nil
      go_simp
      refine (HCALL.o _).mono ?_
      rintro e w2 ⟨rfl, hk2⟩
      go_wp2_with fail
      refine hK.out _ _ ((Keep.refl [] wr).drew.trans hk2 (by simp)) (fun hHeld2 => ?_)
      clear hK K hHeld; have hHeld := hHeld2; clear hHeld2
      try simp only [Act.put, lA, lZ, lS]
      refine tkL 5 ?v5 rfl ?run5 hHeld ?_
      case run5 => (intro w9 hS9; obtain ⟨e0, e1⟩ := HSS.o w9 hS9; go_simp; try exact rfl)
      try simp only [Act.put, lA, lZ, lS]
      refine tkL 6 ?v6 rfl ?run6 hHeld ?_
      case run6 => (intro w9 hS9; obtain ⟨e0, e1⟩ := HSS.o w9 hS9; go_simp; try exact rfl)
      try simp only [Act.put, lA, lZ, lS]
      refine tkL 7 ?v7 rfl ?run7 hHeld ?_
      case run7 => (intro w9 hS9; obtain ⟨e0, e1⟩ := HSS.o w9 hS9; go_simp; try exact rfl)
      try simp only [Act.put, lA, lZ, lS]
      refine tkL 8 ?v8 rfl ?run8 hHeld ?_
      case run8 => (intro w9 hS9; obtain ⟨e0, e1⟩ := HSS.o w9 hS9; go_simp; try exact rfl)
      try simp only [Act.put, lA, lZ, lS]
      refine tkL 9 ?v9 rfl ?run9 hHeld ?_
      case run9 => (intro w9 hS9; obtain ⟨e0, e1⟩ := HSS.o w9 hS9; go_simp; try exact rfl)
      try simp only [Act.put, lA, lZ, lS]
      refine tkL 10 ?v10 rfl ?run10 hHeld ?_
      case run10 => (intro w9 hS9; obtain ⟨e0, e1⟩ := HSS.o w9 hS9; go_simp; try exact rfl)
      try simp only [Act.put, lA, lZ, lS]
      refine tkL 11 ?v11 rfl ?run11 hHeld ?_
      case run11 => (intro w9 hS9; obtain ⟨e0, e1⟩ := HSS.o w9 hS9; go_simp; try exact rfl)
      try simp only [Act.put, lA, lZ, lS]
      refine tkL 12 (.bool true) rfl ?run12 hHeld ?_
      case run12 => (intro w9 hS9; obtain ⟨e0, e1⟩ := HSS.o w9 hS9; go_simp; first | done | exact rfl | (simp [*]; done) | (simp; omega))
      try simp only [Act.put, lA, lZ, lS]
      refine tkL 13 ?v13 rfl ?run13 hHeld ?_
      case run13 => (intro w9 hS9; obtain ⟨e0, e1⟩ := HSS.o w9 hS9; go_simp; try exact rfl)
      try simp only [Act.put, lA, lZ, lS]
      refine tkL 14 ?v14 rfl ?run14 hHeld ?_
      case run14 => (intro w9 hS9; obtain ⟨e0, e1⟩ := HSS.o w9 hS9; go_simp; try exact rfl)
      try simp only [Act.put, lA, lZ, lS]
      refine tkL 15 ?v15 rfl ?run15 hHeld ?_
      case run15 => (intro w9 hS9; obtain ⟨e0, e1⟩ := HSS.o w9 hS9; go_simp; try exact rfl)
      try simp only [Act.put, lA, lZ, lS]
      refine tkL 16 ?v16 rfl ?run16 hHeld ?_
      case run16 => (intro w9 hS9; obtain ⟨e0, e1⟩ := HSS.o w9 hS9; go_simp; try exact rfl)
      try simp only [Act.put, lA, lZ, lS]
      refine tkL 17 ?v17 rfl ?run17 hHeld ?_
      case run17 => (intro w9 hS9; obtain ⟨e0, e1⟩ := HSS.o w9 hS9; go_simp; try exact rfl)
      try simp only [Act.put, lA, lZ, lS]
      refine tkL 18 ?v18 rfl ?run18 hHeld ?_
      case run18 => (intro w9 hS9; obtain ⟨e0, e1⟩ := HSS.o w9 hS9; go_simp; try exact rfl)
      try simp only [Act.put, lA, lZ, lS]
      refine tkL 19 ?v19 rfl ?run19 hHeld ?_
      case run19 => (intro w9 hS9; obtain ⟨e0, e1⟩ := HSS.o w9 hS9; go_simp; try exact rfl)
      try simp only [Act.put, lA, lZ, lS]
      refine tkL 20 ?v20 rfl ?run20 hHeld ?_
      case run20 => (intro w9 hS9; obtain ⟨e0, e1⟩ := HSS.o w9 hS9; go_simp; try exact rfl)
      try simp only [Act.put, lA, lZ, lS]
      refine tkL 21 ?v21 rfl ?run21 hHeld ?_
      case run21 => (intro w9 hS9; obtain ⟨e0, e1⟩ := HSS.o w9 hS9; go_simp; try exact rfl)
      try simp only [Act.put, lA, lZ, lS]
      refine tkL 22 ?v22 rfl ?run22 hHeld ?_
      case run22 => (intro w9 hS9; obtain ⟨e0, e1⟩ := HSS.o w9 hS9; go_simp; try exact rfl)
      try simp only [Act.put, lA, lZ, lS]
      refine tkL 23 ?v23 rfl ?run23 hHeld ?_
      case run23 => (intro w9 hS9; obtain ⟨e0, e1⟩ := HSS.o w9 hS9; go_simp; try exact rfl)
      try simp only [Act.put, lA, lZ, lS]
      refine tkL 24 ?v24 rfl ?run24 hHeld ?_
      case run24 => (intro w9 hS9; obtain ⟨e0, e1⟩ := HSS.o w9 hS9; go_simp; try exact rfl)
      try simp only [Act.put, lA, lZ, lS]
      refine tkL 25 ?v25 rfl ?run25 hHeld ?_
      case run25 => (intro w9 hS9; obtain ⟨e0, e1⟩ := HSS.o w9 hS9; go_simp; try exact rfl)
      try simp only [Act.put, lA, lZ, lS]
      refine tkL 26 (.int .i64 (f + m)) rfl ?run26 hHeld ?_
      case run26 => (intro w9 hS9; obtain ⟨e0, e1⟩ := HSS.o w9 hS9; go_simp; first | done | exact rfl | (simp [*]; done) | (simp; omega))
      try simp only [Act.put, lA, lZ, lS]
      refine tkL 27 (.bool true) rfl ?run27 hHeld ?_
      case run27 => (intro w9 hS9; obtain ⟨e0, e1⟩ := HSS.o w9 hS9; go_simp; first | done | exact rfl | (simp [*]; done) | (simp; omega))
      try simp only [Act.put, lA, lZ, lS]
      refine tkL 28 ?v28 rfl ?run28 hHeld ?_
      case run28 => (intro w9 hS9; obtain ⟨e0, e1⟩ := HSS.o w9 hS9; go_simp; try exact rfl)
      try simp only [Act.put, lA, lZ, lS]
      refine wpAnyH_done (by kernel_rfl) ?_ _
      go_wp2_with fail
      go_ret
      exact ⟨by rw [HRES.o]; rfl, HK.o.trans ((Keep.refl [] wr).drew.trans hk2 (by simp)) (by simp)⟩
     ·have hd2 : decide (n < f + m) = false := by simpa using h2
      have hres := HN.o (by unfold hasE; rw [hq]; simp; omega)
      have HRES := hyd hres
      clear hres hq hcall
      go_wp2_with fail
      refine wp_region_held_drew (S := fun w' => Keep [] wr w') (by kernel_rfl) ((Keep.refl [] wr).drew) (fun hHeld => ?_)
      refine tkL 0 ?v0 rfl ?run0 hHeld ?_
      case run0 => (intro w9 hS9; obtain ⟨e0, e1⟩ := HSS.o w9 hS9; go_simp; try exact rfl)
      try simp only [Act.put, lA, lZ, lS]
      refine tkL 1 ?v1 rfl ?run1 hHeld ?_
      case run1 => (intro w9 hS9; obtain ⟨e0, e1⟩ := HSS.o w9 hS9; go_simp; try exact rfl)
      try simp only [Act.put, lA, lZ, lS]
      refine tkL 2 ?v2 rfl ?run2 hHeld ?_
      case run2 => (intro w9 hS9; obtain ⟨e0, e1⟩ := HSS.o w9 hS9; go_simp; try exact rfl)
      try simp only [Act.put, lA, lZ, lS]
      refine tkL 3 ?v3 rfl ?run3 hHeld ?_
      case run3 => (intro w9 hS9; obtain ⟨e0, e1⟩ := HSS.o w9 hS9; go_simp; try exact rfl)
      try simp only [Act.put, lA, lZ, lS]
      refine wpAnyH_ready (rs := [4]) (by kernel_rfl) (by simp) ?_
      refine AllReadyH.cons rfl (fun K hK => ?_) AllReadyH.nil
      go_simp
      refine (HCALL.o _).mono ?_
      rintro e w2 ⟨rfl, hk2⟩
      go_wp2_with fail
      refine hK.out _ _ ((Keep.refl [] wr).drew.trans hk2 (by simp)) (fun hHeld2 => ?_)
      clear hK K hHeld; have hHeld := hHeld2; clear hHeld2
      try simp only [Act.put, lA, lZ, lS]
      refine tkL 5 ?v5 rfl ?run5 hHeld ?_
      case run5 => (intro w9 hS9; obtain ⟨e0, e1⟩ := HSS.o w9 hS9; go_simp; try exact rfl)
      try simp only [Act.put, lA, lZ, lS]
      refine tkL 6 ?v6 rfl ?run6 hHeld ?_
      case run6 => (intro w9 hS9; obtain ⟨e0, e1⟩ := HSS.o w9 hS9; go_simp; try exact rfl)
      try simp only [Act.put, lA, lZ, lS]
      refine tkL 7 ?v7 rfl ?run7 hHeld ?_
      case run7 => (intro w9 hS9; obtain ⟨e0, e1⟩ := HSS.o w9 hS9; go_simp; try exact rfl)
      try simp only [Act.put, lA, lZ, lS]
      refine tkL 8 ?v8 rfl ?run8 hHeld ?_
      case run8 => (intro w9 hS9; obtain ⟨e0, e1⟩ := HSS.o w9 hS9; go_simp; try exact rfl)
      try simp only [Act.put, lA, lZ, lS]
      refine tkL 9 ?v9 rfl ?run9 hHeld ?_
      case run9 => (intro w9 hS9; obtain ⟨e0, e1⟩ := HSS.o w9 hS9; go_simp; try exact rfl)
      try simp only [Act.put, lA, lZ, lS]
      refine tkL 10 ?v10 rfl ?run10 hHeld ?_
      case run10 => (intro w9 hS9; obtain ⟨e0, e1⟩ := HSS.o w9 hS9; go_simp; try exact rfl)
      try simp only [Act.put, lA, lZ, lS]
      refine tkL 11 ?v11 rfl ?run11 hHeld ?_
      case run11 => (intro w9 hS9; obtain ⟨e0, e1⟩ := HSS.o w9 hS9; go_simp; try exact rfl)
      try simp only [Act.put, lA, lZ, lS]
      refine tkL 12 (.bool true) rfl ?run12 hHeld ?_
      case run12 => (intro w9 hS9; obtain ⟨e0, e1⟩ := HSS.o w9 hS9; go_simp; first | done | exact rfl | (simp [*]; done) | (simp; omega))
      try simp only [Act.put, lA, lZ, lS]
      refine tkL 13 ?v13 rfl ?run13 hHeld ?_
      case run13 => (intro w9 hS9; obtain ⟨e0, e1⟩ := HSS.o w9 hS9; go_simp; try exact rfl)
      try simp only [Act.put, lA, lZ, lS]
      refine tkL 14 ?v14 rfl ?run14 hHeld ?_
      case run14 => (intro w9 hS9; obtain ⟨e0, e1⟩ := HSS.o w9 hS9; go_simp; try exact rfl)
      try simp only [Act.put, lA, lZ, lS]
      refine tkL 15 ?v15 rfl ?run15 hHeld ?_
      case run15 => (intro w9 hS9; obtain ⟨e0, e1⟩ := HSS.o w9 hS9; go_simp; try exact rfl)
      try simp only [Act.put, lA, lZ, lS]
      refine tkL 16 ?v16 rfl ?run16 hHeld ?_
      case run16 => (intro w9 hS9; obtain ⟨e0, e1⟩ := HSS.o w9 hS9; go_simp; try exact rfl)
      try simp only [Act.put, lA, lZ, lS]
      refine tkL 17 ?v17 rfl ?run17 hHeld ?_
      case run17 => (intro w9 hS9; obtain ⟨e0, e1⟩ := HSS.o w9 hS9; go_simp; try exact rfl)
      try simp only [Act.put, lA, lZ, lS]
      refine tkL 18 ?v18 rfl ?run18 hHeld ?_
      case run18 => (intro w9 hS9; obtain ⟨e0, e1⟩ := HSS.o w9 hS9; go_simp; try exact rfl)
      try simp only [Act.put, lA, lZ, lS]
      refine tkL 19 ?v19 rfl ?run19 hHeld ?_
      case run19 => (intro w9 hS9; obtain ⟨e0, e1⟩ := HSS.o w9 hS9; go_simp; try exact rfl)
      try simp only [Act.put, lA, lZ, lS]
      refine tkL 20 ?v20 rfl ?run20 hHeld ?_
      case run20 => (intro w9 hS9; obtain ⟨e0, e1⟩ := HSS.o w9 hS9; go_simp; try exact rfl)
      try simp only [Act.put, lA, lZ, lS]
      refine tkL 21 ?v21 rfl ?run21 hHeld ?_
      case run21 => (intro w9 hS9; obtain ⟨e0, e1⟩ := HSS.o w9 hS9; go_simp; try exact rfl)
      try simp only [Act.put, lA, lZ, lS]
      refine tkL 22 ?v22 rfl ?run22 hHeld ?_
      case run22 => (intro w9 hS9; obtain ⟨e0, e1⟩ := HSS.o w9 hS9; go_simp; try exact rfl)
      try simp only [Act.put, lA, lZ, lS]
      refine tkL 23 ?v23 rfl ?run23 hHeld ?_
      case run23 => (intro w9 hS9; obtain ⟨e0, e1⟩ := HSS.o w9 hS9; go_simp; try exact rfl)
      try simp only [Act.put, lA, lZ, lS]
      refine tkL 24 ?v24 rfl ?run24 hHeld ?_
      case run24 => (intro w9 hS9; obtain ⟨e0, e1⟩ := HSS.o w9 hS9; go_simp; try exact rfl)
      try simp only [Act.put, lA, lZ, lS]
      refine tkL 25 ?v25 rfl ?run25 hHeld ?_
      case run25 => (intro w9 hS9; obtain ⟨e0, e1⟩ := HSS.o w9 hS9; go_simp; try exact rfl)
      try simp only [Act.put, lA, lZ, lS]
      refine tkL 26 (.int .i64 (f + m)) rfl ?run26 hHeld ?_
      case run26 => (intro w9 hS9; obtain ⟨e0, e1⟩ := HSS.o w9 hS9; go_simp; first | done | exact rfl | (simp [*]; done) | (simp; omega))
      try simp only [Act.put, lA, lZ, lS]
      refine tkL 27 (.bool false) rfl ?run27 hHeld ?_
      case run27 => (intro w9 hS9; obtain ⟨e0, e1⟩ := HSS.o w9 hS9; go_simp; first | done | exact rfl | (simp [*]; done) | (simp; omega))
      try simp only [Act.put, lA, lZ, lS]
      refine tkL 28 (.bool false) rfl ?run28 hHeld ?_
      case run28 => (intro w9 hS9; obtain ⟨e0, e1⟩ := HSS.o w9 hS9; go_simp; first | done | exact rfl | (simp [*]; done) | (simp; omega))
      try simp only [Act.put, lA, lZ, lS]
      refine wpAnyH_done (by kernel_rfl) ?_ _
      go_wp2_with fail
      go_roundw
      case rel => exact ⟨k + 1, by omega, by go_num, HK.o.trans ((Keep.refl [] wr).drew.trans hk2 (by simp)) (by simp), HRES.o⟩
      case measure => simp [intOf]; omega
    ·have hd1 : decide (f ≤ n) = false := by simpa using h1
     have hres := HN.o (by unfold hasE; rw [hq]; simp; omega)
     have HRES := hyd hres
     clear hres hq hcall
     go_wp2_with fail
     refine wp_region_held_drew (S := fun w' => Keep [] wr w') (by kernel_rfl) ((Keep.refl [] wr).drew) (fun hHeld => ?_)
     refine tkL 0 ?v0 rfl ?run0 hHeld ?_
     case run0 => (intro w9 hS9; obtain ⟨e0, e1⟩ := HSS.o w9 hS9; go_simp; try exact rfl)
     try simp only [Act.put, lA, lZ, lS]
     refine tkL 1 ?v1 rfl ?run1 hHeld ?_
     case run1 => (intro w9 hS9; obtain ⟨e0, e1⟩ := HSS.o w9 hS9; go_simp; try exact rfl)
     try simp only [Act.put, lA, lZ, lS]
     refine tkL 2 ?v2 rfl ?run2 hHeld ?_
     case run2 => (intro w9 hS9; obtain ⟨e0, e1⟩ := HSS.o w9 hS9; go_simp; try exact rfl)
     try simp only [Act.put, lA, lZ, lS]
     refine tkL 3 ?v3 rfl ?run3 hHeld ?_
     case run3 => (intro w9 hS9; obtain ⟨e0, e1⟩ := HSS.o w9 hS9; go_simp; try exact rfl)
     try simp only [Act.put, lA, lZ, lS]
     refine wpAnyH_ready (rs := [4]) (by kernel_rfl) (by simp) ?_
     refine AllReadyH.cons rfl (fun K hK => ?_) AllReadyH.nil
     go_simp
     refine (HCALL.o _).mono ?_
     rintro e w2 ⟨rfl, hk2⟩
     go_wp2_with fail
     refine hK.out _ _ ((Keep.refl [] wr).drew.trans hk2 (by simp)) (fun hHeld2 => ?_)
     clear hK K hHeld; have hHeld := hHeld2; clear hHeld2
     try simp only [Act.put, lA, lZ, lS]
     refine tkL 5 ?v5 rfl ?run5 hHeld ?_
     case run5 => (intro w9 hS9; obtain ⟨e0, e1⟩ := HSS.o w9 hS9; go_simp; try exact rfl)
     try simp only [Act.put, lA, lZ, lS]
     refine tkL 6 ?v6 rfl ?run6 hHeld ?_
     case run6 => (intro w9 hS9; obtain ⟨e0, e1⟩ := HSS.o w9 hS9; go_simp; try exact rfl)
     try simp only [Act.put, lA, lZ, lS]
     refine tkL 7 ?v7 rfl ?run7 hHeld ?_
     case run7 => (intro w9 hS9; obtain ⟨e0, e1⟩ := HSS.o w9 hS9; go_simp; try exact rfl)
     try simp only [Act.put, lA, lZ, lS]
     refine tkL 8 ?v8 rfl ?run8 hHeld ?_
     case run8 => (intro w9 hS9; obtain ⟨e0, e1⟩ := HSS.o w9 hS9; go_simp; try exact rfl)
     try simp only [Act.put, lA, lZ, lS]
     refine tkL 9 ?v9 rfl ?run9 hHeld ?_
     case run9 => (intro w9 hS9; obtain ⟨e0, e1⟩ := HSS.o w9 hS9; go_simp; try exact rfl)
     try simp only [Act.put, lA, lZ, lS]
     refine tkL 10 ?v10 rfl ?run10 hHeld ?_
     case run10 => (intro w9 hS9; obtain ⟨e0, e1⟩ := HSS.o w9 hS9; go_simp; try exact rfl)
     try simp only [Act.put, lA, lZ, lS]
     refine tkL 11 ?v11 rfl ?run11 hHeld ?_
     case run11 => (intro w9 hS9; obtain ⟨e0, e1⟩ := HSS.o w9 hS9; go_simp; try exact rfl)
     try simp only [Act.put, lA, lZ, lS]
     refine tkL 12 (.bool false) rfl ?run12 hHeld ?_
     case run12 => (intro w9 hS9; obtain ⟨e0, e1⟩ := HSS.o w9 hS9; go_simp; first | done | exact rfl | (simp [*]; done) | (simp; omega))
     try simp only [Act.put, lA, lZ, lS]
     refine tkL 13 (.bool false) rfl ?run13 hHeld ?_
     case run13 => (intro w9 hS9; obtain ⟨e0, e1⟩ := HSS.o w9 hS9; go_simp; first | done | exact rfl | (simp [*]; done) | (simp; omega))
     try simp only [Act.put, lA, lZ, lS]
     refine tkL 14 (.bool false) rfl ?run14 hHeld ?_
     case run14 => (intro w9 hS9; obtain ⟨e0, e1⟩ := HSS.o w9 hS9; go_simp; first | done | exact rfl | (simp [*]; done) | (simp; omega))
     try simp only [Act.put, lA, lZ, lS]
     refine skL 15 rfl hHeld ?_
     try simp only [Act.put, lA, lZ, lS]
     refine skL 16 rfl hHeld ?_
     try simp only [Act.put, lA, lZ, lS]
     refine skL 17 rfl hHeld ?_
     try simp only [Act.put, lA, lZ, lS]
     refine skL 18 rfl hHeld ?_
     try simp only [Act.put, lA, lZ, lS]
     refine skL 19 rfl hHeld ?_
     try simp only [Act.put, lA, lZ, lS]
     refine skL 20 rfl hHeld ?_
     try simp only [Act.put, lA, lZ, lS]
     refine skL 21 rfl hHeld ?_
     try simp only [Act.put, lA, lZ, lS]
     refine skL 22 rfl hHeld ?_
     try simp only [Act.put, lA, lZ, lS]
     refine skL 23 rfl hHeld ?_
     try simp only [Act.put, lA, lZ, lS]
     refine skL 24 rfl hHeld ?_
     try simp only [Act.put, lA, lZ, lS]
     refine skL 25 rfl hHeld ?_
     try simp only [Act.put, lA, lZ, lS]
     refine skL 26 rfl hHeld ?_
     try simp only [Act.put, lA, lZ, lS]
     refine skL 27 rfl hHeld ?_
     try simp only [Act.put, lA, lZ, lS]
     refine tkL 28 (.bool false) rfl ?run28 hHeld ?_
     case run28 => (intro w9 hS9; obtain ⟨e0, e1⟩ := HSS.o w9 hS9; go_simp; first | done | exact rfl | (simp [*]; done) | (simp; omega))
     try simp only [Act.put, lA, lZ, lS]
     refine wpAnyH_done (by kernel_rfl) ?_ _
     go_wp2_with fail
     go_roundw
     case rel => exact ⟨k + 1, by omega, by go_num, HK.o.trans ((Keep.refl [] wr).drew.trans hk2 (by simp)) (by simp), HRES.o⟩
     case measure => simp [intOf]; omega
   | false =>
    rw [hq] at hcall
    have HCALL := hyd hcall
    have hres := HN.o (by unfold hasE; rw [hq]; rfl)
    have HRES := hyd hres
    clear hres hq hcall
    go_wp2_with fail
    refine wp_region_held_drew (S := fun w' => Keep [] wr w') (by kernel_rfl) ((Keep.refl [] wr).drew) (fun hHeld => ?_)
    refine tkL 0 ?v0 rfl ?run0 hHeld ?_
    case run0 => (intro w9 hS9; obtain ⟨e0, e1⟩ := HSS.o w9 hS9; go_simp; try exact rfl)
    try simp only [Act.put, lA, lZ, lS]
    refine tkL 1 ?v1 rfl ?run1 hHeld ?_
    case run1 => (intro w9 hS9; obtain ⟨e0, e1⟩ := HSS.o w9 hS9; go_simp; try exact rfl)
    try simp only [Act.put, lA, lZ, lS]
    refine tkL 2 ?v2 rfl ?run2 hHeld ?_
    case run2 => (intro w9 hS9; obtain ⟨e0, e1⟩ := HSS.o w9 hS9; go_simp; try exact rfl)
    try simp only [Act.put, lA, lZ, lS]
    refine tkL 3 ?v3 rfl ?run3 hHeld ?_
    case run3 => (intro w9 hS9; obtain ⟨e0, e1⟩ := HSS.o w9 hS9; go_simp; try exact rfl)
    try simp only [Act.put, lA, lZ, lS]
    refine wpAnyH_ready (rs := [4]) (by kernel_rfl) (by simp) ?_
    refine AllReadyH.cons rfl (fun K hK => ?_) AllReadyH.nil
    go_simp
    refine (HCALL.o _).mono ?_
    rintro e w2 ⟨rfl, hk2⟩
    go_wp2_with fail
    refine hK.out _ _ ((Keep.refl [] wr).drew.trans hk2 (by simp)) (fun hHeld2 => ?_)
    clear hK K hHeld; have hHeld := hHeld2; clear hHeld2
    try simp only [Act.put, lA, lZ, lS]
    refine tkL 5 (.bool false) rfl ?run5 hHeld ?_
    case run5 => (intro w9 hS9; obtain ⟨e0, e1⟩ := HSS.o w9 hS9; go_simp; first | done | exact rfl | (simp [*]; done) | (simp; omega))
    try simp only [Act.put, lA, lZ, lS]
    refine skL 6 rfl hHeld ?_
    try simp only [Act.put, lA, lZ, lS]
    refine skL 7 rfl hHeld ?_
    try simp only [Act.put, lA, lZ, lS]
    refine skL 8 rfl hHeld ?_
    try simp only [Act.put, lA, lZ, lS]
    refine skL 9 rfl hHeld ?_
    try simp only [Act.put, lA, lZ, lS]
    refine skL 10 rfl hHeld ?_
    try simp only [Act.put, lA, lZ, lS]
    refine skL 11 rfl hHeld ?_
    try simp only [Act.put, lA, lZ, lS]
    refine skL 12 rfl hHeld ?_
    try simp only [Act.put, lA, lZ, lS]
    refine tkL 13 (.bool false) rfl ?run13 hHeld ?_
    case run13 => (intro w9 hS9; obtain ⟨e0, e1⟩ := HSS.o w9 hS9; go_simp; first | done | exact rfl | (simp [*]; done) | (simp; omega))
    try simp only [Act.put, lA, lZ, lS]
    refine tkL 14 (.bool false) rfl ?run14 hHeld ?_
    case run14 => (intro w9 hS9; obtain ⟨e0, e1⟩ := HSS.o w9 hS9; go_simp; first | done | exact rfl | (simp [*]; done) | (simp; omega))
    try simp only [Act.put, lA, lZ, lS]
    refine skL 15 rfl hHeld ?_
    try simp only [Act.put, lA, lZ, lS]
    refine skL 16 rfl hHeld ?_
    try simp only [Act.put, lA, lZ, lS]
    refine skL 17 rfl hHeld ?_
    try simp only [Act.put, lA, lZ, lS]
    refine skL 18 rfl hHeld ?_
    try simp only [Act.put, lA, lZ, lS]
    refine skL 19 rfl hHeld ?_
    try simp only [Act.put, lA, lZ, lS]
    refine skL 20 rfl hHeld ?_
    try simp only [Act.put, lA, lZ, lS]
    refine skL 21 rfl hHeld ?_
    try simp only [Act.put, lA, lZ, lS]
    refine skL 22 rfl hHeld ?_
    try simp only [Act.put, lA, lZ, lS]
    refine skL 23 rfl hHeld ?_
    try simp only [Act.put, lA, lZ, lS]
    refine skL 24 rfl hHeld ?_
    try simp only [Act.put, lA, lZ, lS]
    refine skL 25 rfl hHeld ?_
    try simp only [Act.put, lA, lZ, lS]
    refine skL 26 rfl hHeld ?_
    try simp only [Act.put, lA, lZ, lS]
    refine skL 27 rfl hHeld ?_
    try simp only [Act.put, lA, lZ, lS]
    refine tkL 28 (.bool false) rfl ?run28 hHeld ?_
    case run28 => (intro w9 hS9; obtain ⟨e0, e1⟩ := HSS.o w9 hS9; go_simp; first | done | exact rfl | (simp [*]; done) | (simp; omega))
    try simp only [Act.put, lA, lZ, lS]
    refine wpAnyH_done (by kernel_rfl) ?_ _
    go_wp2_with fail
    go_roundw
    case rel => exact ⟨k + 1, by omega, by go_num, HK.o.trans ((Keep.refl [] wr).drew.trans hk2 (by simp)) (by simp), HRES.o⟩
    case measure => simp [intOf]; omega
  ·have hres := HNO.o
   rw [List.take_of_length_le (by omega)] at hres
   have HRES := hyd hres
   clear hres
   go_wp2_with fail
   go_ret
   exact ⟨by rw [HRES.o]; rfl, HK.o⟩
end Go.Proofs.YtimpadpeibgmoaaGreat
