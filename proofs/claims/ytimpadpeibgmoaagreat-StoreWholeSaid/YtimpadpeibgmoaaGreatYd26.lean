/- A part of the proof (Ext11, Ext12), joined by squeeze2.py. -/
import Derived.Test.YtimpadpeibgmoaaGreatYd25
import Derived.Test.YtimpadpeibgmoaaGreatYd23
set_option maxHeartbeats 8000000
set_option maxRecDepth 100000
namespace Go.Emb.Ext
theorem sumL_le {l : List E} (h : Plain l) (hr : ∀ x ∈ l, right x = true) : sumL l ≤ 16384 := by
 obtain ⟨i1, _, i3, _⟩ := freeFrom_ok 16384 l 0 h (fun x hx => by have := (right_iff x).1 (hr x hx); omega) (by omega)
 have := (sumL_pos i1.pos).1
 omega
end Go.Emb.Ext
namespace Go.Proofs.YtimpadpeibgmoaaGreat
open Go.RowKit Go.Emb Go.Lib Go.Emb.Ext Go.Shelf Go.Sort
theorem take_any {w : World} {v : Value} {l : List E} {o : Option Nat} (n most : Int) (hr : RdE w v l o) (hsz : l.length ≤ 1000000) (ho : ∀ b, o = some b → b < w.heap.size) (hmost : most ≤ 9223372036854775807) :
  Calls Tryz.prog 60 #[.int .i64 n, .int .i64 most, v] w (TakeP w n most l) := by
 obtain ⟨i0, hi, hz0, hz1, hz2⟩ := info_parts ext_info
 have HI := hyd hi
 obtain ⟨a, c, rfl⟩ : ∃ a c, v = .slice a l.length c := by obtain ⟨_, a, c, h, _⟩ := hr; exact ⟨a, c, h⟩
 have hjn := join_any hr hsz ho
 clear hr ho hi
 by_cases hn1 : n < 0
 ·clear hjn
  go_enter Tryz.func60, Tryz.ntmps60
  go_wp2_with fail
  go_ret3
  exact ⟨_, _, none, none, [], [], 2, rfl, .inl ⟨.inl hn1, rfl, rfl, rfl⟩, Row.nil _ _ _, Row.nil _ _ _, by simp, by simp, Keep.refl _ _⟩
 by_cases hm1 : most < 0
 ·clear hjn
  go_enter Tryz.func60, Tryz.ntmps60
  go_wp2_with fail
  go_ret3
  exact ⟨_, _, none, none, [], [], 2, rfl, .inl ⟨.inr hm1, rfl, rfl, rfl⟩, Row.nil _ _ _, Row.nil _ _ _, by simp, by simp, Keep.refl _ _⟩
 have hn2 : 0 ≤ n := by omega
 have hm2 : 0 ≤ most := by omega
 go_enter Tryz.func60, Tryz.ntmps60
 go_wp2_with fail
 refine hjn.mono ?_
 rintro e w1 ⟨v1, o1, s, err, rfl, hres, hrow1, hnew1, hk1⟩
 clear hjn
 by_cases hne : err = 0
 ·subst hne
  obtain ⟨hlr, hok, hsr⟩ := hres.ok
  have hsl : s.length ≤ 1000000 := Nat.le_trans hok.len hsz
  have hcs := countE_right hsr
  have hcb := countE_bd s
  rw [hcs] at hcb
  obtain ⟨a1, c1, rfl⟩ := RowE.slice hrow1
  obtain ⟨o2, hrd, ho2⟩ := RowE.rd hrow1
  have hcnt := count_any hrd (by omega) (fun b hb => Row.lt hrow1 b (ho2 b hb))
  rw [hcs] at hcnt
  have hs16 := sumL_le hok.plain hsr
  have HRES := hyd hres
  have HSR := hyd hsr
  have HK1 := hyd hk1
  have HROW1 := hyd hrow1
  have HNEW1 := hyd hnew1
  have HPL := hyd hok.plain
  clear hres hlr hok hsr hrow1 hnew1 hk1 hrd ho2 hcs
  go_wp2_with fail
  refine hcnt.mono ?_
  rintro e w2 ⟨rfl, hk2⟩
  have HK2 := hyd hk2
  clear hk2 hcnt
  by_cases hful : sumL s < n
  ·have HFUL := hyd hful
   go_wp2_with fail
   go_ret3
   exact ⟨_, _, none, none, [], [], 5, rfl, .inr ⟨⟨hn2, hm2⟩, s, 0, HRES.o, .inr (.inl ⟨rfl, .inl HFUL.o, rfl, rfl, rfl⟩)⟩, Row.nil _ _ _, Row.nil _ _ _, by simp, by simp, HK1.o.trans HK2.o (by simp)⟩
  ·have hle : n ≤ sumL s := by omega
   have hstart : TakeR w s most.toNat n most.toNat n (.slice none 0 0) (.slice a1 s.length c1) s [] none o1 w2 :=
    ⟨rfl, TInv.start HPL.o n, hn2, hle, HSR.o, by simp, HROW1.o.keep HK2.o (by simp), Row.nil _ _ _, by simp, by simp, HNEW1.o, HK1.o.trans HK2.o (by simp), Nat.le_refl _, by simp⟩
   have HST := hyd hstart
   have HLE := hyd hle
   clear hstart hle HROW1 HNEW1 HK1 HK2 HPL HSR
   have hsb : n ≤ 16384 := by omega
   obtain ⟨m0, rfl⟩ := Int.eq_ofNat_of_zero_le hm2
   rw [Int.toNat_natCast] at HST
   go_wp2_with fail
   go_loopw [0, 1, 6, 7] (fun sn sm sg sl wr => ∃ (m : Nat) (k : Int) (vg vl : Value) (left got : List E) (og ol : Option Nat), .int .i64 k = sn ∧ .int .i64 (m : Int) = sm ∧ vg = sg ∧ vl = sl ∧ m ≤ m0 ∧ TakeR w s m0 n m k vg vl left got og ol wr) (fun sn _ _ _ _ => (intOf sn).toNat)
   case atStart => exact ⟨m0, n, _, _, s, [], none, o1, rfl, rfl, rfl, rfl, Nat.le_refl _, HST.o⟩
   case round =>
    obtain ⟨m, k, vg, vl, left, got, og, ol, rfl, rfl, rfl, rfl, hmm, hT⟩ := hrel
    have HT := hyd hT
    have hk0 := hT.n0'
    have hkn : k ≤ n := by have := hT.lg; omega
    have hll := hT.ll
    have hlg := hT.lg
    clear hT HST
    obtain ⟨al, cl, rfl⟩ := RowE.slice HT.o.rowl
    obtain ⟨ag, cg, rfl⟩ := RowE.slice HT.o.rowg
    by_cases hkz : 0 < k
    ·by_cases hm : m = 0
     ·subst hm
      have hres5 : takeL m0 n s [] = none := by rw [HT.o.same]; unfold takeL; rw [if_neg (by omega)]
      have HR5 := hyd hres5
      clear hres5
      go_wp2_with fail
      go_ret3
      exact ⟨_, _, none, none, [], [], 5, rfl, .inr ⟨⟨hn2, hm2⟩, s, 0, HRES.o, .inr (.inl ⟨rfl, .inr ⟨HLE.o, by rw [Int.toNat_natCast]; exact HR5.o⟩, rfl, rfl, rfl⟩)⟩, Row.nil _ _ _, Row.nil _ _ _, by simp, by simp, HT.o.keep⟩
     ·have hmb : ((m : Int) == 0) = false := by simp; exact hm
      have hlne : left ≠ [] := by
       rintro rfl
       have := HT.o.nle
       simp [sumL] at this
       omega
      obtain ⟨ol2, hrdl, hol2⟩ := RowE.rd HT.o.rowl
      have hch := choose_any hrdl (by omega) (fun b hb => Row.lt HT.o.rowl b (hol2 b hb)) hlne k
      have hilt := chooseI_lt hlne k
      have hxs : left[chooseI left k]? = some left[chooseI left k] := List.getElem?_eq_getElem hilt
      obtain ⟨b, off, rfl, hob, g0, g1⟩ := hrdl.at hilt
      obtain rfl := hol2 b hob
      have hxr := HT.o.rl _ (List.getElem_mem hilt)
      have htl : takeL m k left got = takeL (m - 1) (k - min left[chooseI left k].2 k) (updI left (chooseI left k) (min left[chooseI left k].2 k)) (got ++ [(left[chooseI left k].1, min left[chooseI left k].2 k)]) := by
       obtain ⟨m', rfl⟩ : ∃ m', m = m' + 1 := ⟨m - 1, by omega⟩
       conv => lhs; unfold takeL
       rw [if_neg (by omega)]
       simp only [hxs, Nat.add_sub_cancel]
      have HXS := hyd hxs
      have HTL := hyd htl
      have HXR := hyd hxr
      have hxb := (right_iff _).1 hxr
      clear hxs htl hxr hrdl hol2 hob hlne
      generalize hII : chooseI left k = i at *
      have HII := hyd hII
      clear hII
      generalize left[i] = x at *
      obtain ⟨x1, x2⟩ := x
      simp only at g0 g1 hxb
      have hbl : b < wr.heap.size := World.block_lt_of_cell? _ _ g0
      go_wp2_with fail
      refine hch.mono ?_
      rintro e w3 ⟨rfl, hk3⟩
      have c0 := hk3.cellOf g0
      have c1' := hk3.cellOf g1
      have HK3 := hyd hk3
      clear hk3 hch g0 g1
      have q0 : (0 : Int) ≤ (i : Int) := by omega
      have q1 : (i : Int) < (left.length : Int) := by omega
      have hrowg3 : RowE w3 (.slice ag got.length cg) got og := HT.o.rowg.keep HK3.o (by simp)
      have hrowl3 : RowE w3 (.slice (some ⟨b, off, none⟩) left.length cl) left (some b) := HT.o.rowl.keep HK3.o (by simp)
      have hltg : ∀ b, og = some b → b < w3.heap.size := Row.lt hrowg3
      have hnbg : b ∉ og.toList := by
       intro hb
       cases og with
       | none => simp at hb
       | some b' => simp at hb; subst hb; exact HT.o.apart b rfl rfl
      have hb3 : b < w3.heap.size := by have := HK3.o.size; omega
      have hbB : w3.heap.size ≠ b := by omega
      have hrowl4 : ∀ ob1 ob2 w4, Keep og.toList ((w3.alloc ob1).alloc ob2) w4 → RowE w4 (.slice (some ⟨b, off, none⟩) left.length cl) left (some b) := fun ob1 ob2 w4 hk => (hrowl3.keep (((Keep.refl [] w3).alloc ob1).alloc ob2) (by simp)).keep hk (by rintro b' ⟨⟩; exact hnbg)
      have hlc : ∀ ob1 ob2 w4, Keep og.toList ((w3.alloc ob1).alloc ob2) w4 → w4.cell? ⟨b, off + i * 2, none⟩ = some (.int .i64 x1) ∧ w4.cell? ⟨b, off + i * 2 + 1, none⟩ = some (.int .i64 x2) ∧ w4.frozen? ⟨b, off + i * 2, none⟩ = false ∧ w4.frozen? ⟨b, off + i * 2 + 1, none⟩ = false := by
       intro ob1 ob2 w4 hk
       have hk' : Keep og.toList w3 w4 := (((Keep.refl og.toList w3).alloc ob1).alloc ob2).trans hk (fun x hx => .inl hx)
       exact ⟨(hk'.cell (p := ⟨b, off + i * 2, none⟩) hb3 hnbg).trans c0, (hk'.cell (p := ⟨b, off + i * 2 + 1, none⟩) hb3 hnbg).trans c1', Row.notFrozen (hrowl4 ob1 ob2 w4 hk) _, Row.notFrozen (hrowl4 ob1 ob2 w4 hk) _⟩
      have hpos2 : ((got.length : Int)) ≤ 17000000000 := by omega
      have HROWG := hyd hrowg3
      have HROWL := hyd hrowl4
      have HLTG := hyd hltg
      have HLC := hyd hlc
      have HNBG := hyd hnbg
      clear hrowg3 hrowl3 hrowl4 hltg hlc hnbg
      by_cases hcase : k < x2
      ·have hmin : min x2 k = k := by omega
       have hzb : (x2 - k == 0) = false := by simp; omega
       have htl2 : takeL m k left got = takeL (m - 1) 0 (left.set i (x1 + k, x2 - k)) (got ++ [(x1, k)]) := by
        rw [HTL.o, hmin, updI_set HXS.o hcase, Int.sub_self]
       have hinv : TInv s n (k - k) (left.set i (x1 + k, x2 - k)) (got ++ [(x1, k)]) := by
        rw [← updI_set HXS.o hcase]; exact HT.o.inv.step HXS.o (by omega) (by simp; omega)
       have hrl2 : ∀ y ∈ left.set i (x1 + k, x2 - k), right y = true := by
        rw [← updI_set HXS.o hcase]; exact updI_right HXS.o (by omega) HT.o.rl
       have hxk : right (x1, k) = true := by rw [right_iff]; simp; omega
       have HTL2 := hyd htl2
       have HINV := hyd hinv
       have HRL2 := hyd hrl2
       have HXK := hyd hxk
       clear htl2 hinv hrl2 hxk
       go_wp2_with (at_builtin; refine wpList_append_row _ rfl _ _ 46 46 rfl 34 i0 _ 2 16 Tryz.underlying46 HI.o hz0 hz1 hz2 rfl _ _ _ og rfl (Row.keep HROWG.o (F := []) (by repeat (first | exact Keep.refl _ _ | refine Keep.drewN ?_ _ | refine Keep.drew ?_ | refine Keep.alloc ?_ _)) (by simp)) _ rfl 1 _ (two_srcB Tryz.underlying46 _ _ (by first | rfl | simp) _ _ rfl rfl _) (by omega) (by first | (unfold maxLen; omega) | (simp [maxLen] <;> omega)) (by first | omega | (simp <;> omega)) ?_; intro g offg capg w4 hrow4 hk4 hg4; obtain ⟨hcb0, hcb1, -, -⟩ := cells2f (box_after HLTG.o hk4); obtain ⟨d0, d1, df0, df1⟩ := HLC.o _ _ _ hk4)
       have HROW4 := hyd hrow4
       have hk5 : Keep og.toList w3 w4 := (((Keep.refl og.toList w3).alloc _).alloc _).trans hk4 (fun x hx => .inl hx)
       have hgb : g ≠ b := by
        rintro rfl
        rcases hg4 with h | h
        ·exact HNBG.o (by simp [h])
        ·simp at h; omega
       have hgw : w.heap.size ≤ g := by
        rcases hg4 with h | h
        ·exact HT.o.newg g h
        ·have := HT.o.keep.size; have := HK3.o.size; simp at h; omega
       have hkw4 : Keep [] w w4 := (HT.o.keep.trans HK3.o (by simp)).trans hk5 (fun x hx => by
         cases og with
         | none => simp at hx
         | some b' => simp at hx; subst hx; exact .inr (HT.o.newg _ rfl))
       have hrow5 := HROWL.o _ _ _ hk4
       have HROW5 := hyd hrow5
       have HKW4 := hyd hkw4
       have hbw : w.heap.size ≤ b := HT.o.newl b rfl
       clear hrow4 hk4 hk5 hg4 hkw4 hrow5
       go_region
       all_goals go_wp2_with fail
       all_goals go_region
       all_goals go_wp2_with fail
       all_goals
        go_roundw
        case rel =>
         have hset := (RowE.set2 HROW5.o hilt (x1 + k) (x2 - k) 0)
         have hkb : Keep [b] w4 (((w4.setCell ⟨b, off + i * 2, none⟩ (.int .i64 (x1 + k))).setCell ⟨b, off + i * 2 + 1, none⟩ (.int .i64 (x2 - k))).drew.drew) := ((((Keep.refl [b] w4).setCell (p := ⟨b, off + i * 2, none⟩) (.inl (by simp)) _).setCell (p := ⟨b, off + i * 2 + 1, none⟩) (.inl (by simp)) _).drew).drew
         have hkw : Keep [] w (((w4.setCell ⟨b, off + i * 2, none⟩ (.int .i64 (x1 + k))).setCell ⟨b, off + i * 2 + 1, none⟩ (.int .i64 (x2 - k))).drew.drew) := HKW4.o.trans hkb (fun x hx => by simp at hx; subst hx; exact .inr hbw)
         have HKB := hyd hkb
         have HKW := hyd hkw
         refine ⟨m - 1, 0, _, _, left.set i (x1 + k, x2 - k), got ++ [(x1, k)], some g, some b, rfl, by congr 1; omega, rfl, rfl, by omega, ⟨HT.o.same.trans HTL2.o, (by have := HINV.o; rwa [Int.sub_self] at this), by omega, ?_, HRL2.o, ?_, ?_, ?_, ?_, ?_, HT.o.newl, ?_, ?_, ?_⟩⟩
         ·exact (sumL_pos (fun y hy => ((right_iff y).1 (HRL2.o y hy)).2.2.1)).1
         ·intro y hy
          rcases List.mem_append.1 hy with hy | hy
          ·exact HT.o.rg y hy
          ·simp at hy; subst hy; exact HXK.o
         ·exact hset.keep (((Keep.refl [] _).drew).drew) (by simp)
         ·unfold RowE
          have h4 : Row w4 34 2 (.slice (some ⟨g, offg, none⟩) (got.length + 1) capg) (got ++ [(x1, k)]).length ((got ++ [(x1, k)]).flatMap encE) (some g) := by simpa [encE] using HROW4.o
          exact h4.keep HKB.o (by rintro b' ⟨⟩; simpa using hgb)
         ·rintro b' ⟨⟩ h; cases h; exact hgb rfl
         ·rintro b' ⟨⟩; exact hgw
         ·exact HKW.o
         ·simpa using hll
         ·simp; omega
        case measure => simp [intOf]; omega
      ·have hmin : min x2 k = x2 := by omega
       have hzb : ((0 : Int) == 0) = true := rfl
       have htl2 : takeL m k left got = takeL (m - 1) (k - x2) (left.eraseIdx i) (got ++ [(x1, x2)]) := by
        rw [HTL.o, hmin, updI_erase HXS.o (by simp)]
       have hinv : TInv s n (k - x2) (left.eraseIdx i) (got ++ [(x1, x2)]) := by
        rw [← updI_erase (k := x2) HXS.o (by simp)]; exact HT.o.inv.step HXS.o (by omega) (by simp)
       have hrl2 : ∀ y ∈ left.eraseIdx i, right y = true := by
        rw [← updI_erase (k := x2) HXS.o (by simp)]; exact updI_right HXS.o (by omega) HT.o.rl
       have hsum2 : k - x2 ≤ sumL (left.eraseIdx i) := by
        have h1 := HT.o.nle
        have h2 := HT.o.inv.sum
        have h3 := hinv.sum
        rw [sumL_append] at h3
        simp [sumL] at h3
        unfold sumL at *
        omega
       have HTL2 := hyd htl2
       have HINV := hyd hinv
       have HRL2 := hyd hrl2
       have HXK := HXR
       have HSUM2 := hyd hsum2
       clear htl2 hinv hrl2 hsum2
       go_wp2_with (at_builtin; refine wpList_append_row _ rfl _ _ 46 46 rfl 34 i0 _ 2 16 Tryz.underlying46 HI.o hz0 hz1 hz2 rfl _ _ _ og rfl (Row.keep HROWG.o (F := []) (by repeat (first | exact Keep.refl _ _ | refine Keep.drewN ?_ _ | refine Keep.drew ?_ | refine Keep.alloc ?_ _)) (by simp)) _ rfl 1 _ (two_srcB Tryz.underlying46 _ _ (by first | rfl | simp) _ _ rfl rfl _) (by omega) (by first | (unfold maxLen; omega) | (simp [maxLen] <;> omega)) (by first | omega | (simp <;> omega)) ?_; intro g offg capg w4 hrow4 hk4 hg4; obtain ⟨hcb0, hcb1, -, -⟩ := cells2f (box_after HLTG.o hk4); obtain ⟨d0, d1, df0, df1⟩ := HLC.o _ _ _ hk4)
       have HROW4 := hyd hrow4
       have hk5 : Keep og.toList w3 w4 := (((Keep.refl og.toList w3).alloc _).alloc _).trans hk4 (fun x hx => .inl hx)
       have hgb : g ≠ b := by
        rintro rfl
        rcases hg4 with h | h
        ·exact HNBG.o (by simp [h])
        ·simp at h; omega
       have hgw : w.heap.size ≤ g := by
        rcases hg4 with h | h
        ·exact HT.o.newg g h
        ·have := HT.o.keep.size; have := HK3.o.size; simp at h; omega
       have hkw4 : Keep [] w w4 := (HT.o.keep.trans HK3.o (by simp)).trans hk5 (fun x hx => by
         cases og with
         | none => simp at hx
         | some b' => simp at hx; subst hx; exact .inr (HT.o.newg _ rfl))
       have hrow5 := HROWL.o _ _ _ hk4
       have HROW5 := hyd hrow5
       have HKW4 := hyd hkw4
       have hbw : w.heap.size ≤ b := HT.o.newl b rfl
       clear hrow4 hk4 hk5 hg4 hkw4 hrow5
       go_region
       all_goals go_wp2_with fail
       all_goals go_region
       all_goals go_wp2_with fail
       all_goals
        have hset := (RowE.set2 HROW5.o hilt (x1 + x2) 0 0)
        have hkb : Keep [b] w4 (((w4.setCell ⟨b, off + i * 2, none⟩ (.int .i64 (x1 + x2))).setCell ⟨b, off + i * 2 + 1, none⟩ (.int .i64 0)).drew.drew) := ((((Keep.refl [b] w4).setCell (p := ⟨b, off + i * 2, none⟩) (.inl (by simp)) _).setCell (p := ⟨b, off + i * 2 + 1, none⟩) (.inl (by simp)) _).drew).drew
        have hset2 := hset.keep (((Keep.refl [] _).drew).drew) (by simp)
        have hdel := delete_any (l := left.set i (x1 + x2, 0)) (i := i) (by rw [List.length_set]; exact hset2) (by simpa using hilt) (by simp; omega)
        rw [List.length_set] at hdel
        have HKB0 := hyd hkb
        clear hset hset2 hkb
        refine hdel.mono ?_
        rintro e w6 ⟨rfl, hrow6, hk6⟩
        have hrow6' : RowE w6 (.slice (some ⟨b, off, none⟩) (left.length - 1) cl) (left.eraseIdx i) (some b) := by
         rw [List.eraseIdx_set_eq] at hrow6
         exact hrow6
        have HROW6 := hyd hrow6'
        have hkb : Keep [b] w4 w6 := HKB0.o.trans hk6 (fun x hx => .inl hx)
        have hkw : Keep [] w w6 := HKW4.o.trans hkb (fun x hx => by simp at hx; subst hx; exact .inr hbw)
        have HKB := hyd hkb
        have HKW := hyd hkw
        clear hrow6 hrow6' hk6 hkb hkw hdel HKB0
        go_wp2_with fail
        go_roundw
        case rel =>
         refine ⟨m - 1, k - x2, _, _, left.eraseIdx i, got ++ [(x1, x2)], some g, some b, rfl, by congr 1; omega, rfl, rfl, by omega, ⟨HT.o.same.trans HTL2.o, HINV.o, by omega, ?_, HRL2.o, ?_, ?_, ?_, ?_, ?_, HT.o.newl, ?_, ?_, ?_⟩⟩
         ·exact HSUM2.o
         ·intro y hy
          rcases List.mem_append.1 hy with hy | hy
          ·exact HT.o.rg y hy
          ·simp at hy; subst hy; exact HXK.o
         ·unfold RowE; rw [List.length_eraseIdx_of_lt hilt]; have h6 := HROW6.o; unfold RowE at h6; rw [List.length_eraseIdx_of_lt hilt] at h6; exact h6
         ·unfold RowE
          have h4 : Row w4 34 2 (.slice (some ⟨g, offg, none⟩) (got.length + 1) capg) (got ++ [(x1, x2)]).length ((got ++ [(x1, x2)]).flatMap encE) (some g) := by simpa [encE] using HROW4.o
          exact h4.keep HKB.o (by rintro b' ⟨⟩; simpa using hgb)
         ·rintro b' ⟨⟩ h; cases h; exact hgb rfl
         ·rintro b' ⟨⟩; exact hgw
         ·exact HKW.o
         ·rw [List.length_eraseIdx_of_lt hilt]; omega
         ·simp; omega
        case measure => simp [intOf]; omega
    ·have hkz0 : k = 0 := by omega
     subst hkz0
     have hsame : takeL m0 n s [] = some (got, left) := by rw [HT.o.same]; unfold takeL; rw [if_pos (Int.le_refl _)]
     obtain ⟨og2, hrdg, hog2⟩ := RowE.rd HT.o.rowg
     have hjg := join_any hrdg (by omega) (fun b hb => Row.lt HT.o.rowg b (hog2 b hb))
     have HSAME := hyd hsame
     clear hsame hrdg hog2
     go_wp2_with fail
     refine hjg.mono ?_
     rintro e w3 ⟨v3, o3, got2, err3, rfl, hres3, hrow3, hnew3, hk3⟩
     have HRES3 := hyd hres3
     have HROW3 := hyd hrow3
     have HNEW3 := hyd hnew3
     have HK3 := hyd hk3
     clear hres3 hrow3 hnew3 hk3 hjg
     go_wp2_with fail
     go_ret3
     refine ⟨v3, _, o3, ol, got2, left, err3, rfl, .inr ⟨⟨hn2, hm2⟩, s, 0, HRES.o, .inr (.inr ⟨rfl, HLE.o, got, by rw [Int.toNat_natCast]; exact HSAME.o, HT.o.rg, HRES3.o⟩)⟩, HROW3.o, HT.o.rowl.keep HK3.o (by simp), fun b hb => ?_, HT.o.newl, HT.o.keep.trans HK3.o (by simp)⟩
     have h1 := HNEW3.o b hb
     have h2 := HT.o.keep.size
     omega
 ·have hneb : (err != 0) = true := by simp [hne]
  have HRES := hyd hres
  have HNE := hyd hne
  have HK1 := hyd hk1
  clear hres hrow1 hnew1 hk1 hne
  go_wp2_with fail
  go_ret3
  exact ⟨_, _, none, none, [], [], err, rfl, .inr ⟨⟨hn2, hm2⟩, s, err, HRES.o, .inl ⟨HNE.o, rfl, rfl, rfl⟩⟩, Row.nil _ _ _, Row.nil _ _ _, by simp, by simp, HK1.o⟩
end Go.Proofs.YtimpadpeibgmoaaGreat

namespace Go.Emb.Ext
theorem JoinRes.sorted {l a out : List E} {e : Int} (hs : l.Pairwise (fun x y => x.1 ≤ y.1)) (hr : ∀ x ∈ l, right x = true) (hj : joinS l = some out) (h : JoinRes l a e) : e = 0 ∧ a = out := by
 have hok := joinS_some hs (List.Perm.refl _) (fun x hx => ((right_iff x).1 (hr x hx)).2.2.1) hj
 rcases h with ⟨_, _, x, hx, hn⟩ | ⟨_, _, _, hd⟩ | ⟨h0, _, hok2, _⟩
 ·rw [hr x hx] at hn; cases hn
 ·exact absurd hok.disj hd
 ·exact ⟨h0, hok2.uniq hok (fun _ => Iff.rfl)⟩
end Go.Emb.Ext
namespace Go.Proofs.YtimpadpeibgmoaaGreat
open Go.RowKit Go.Emb Go.Lib Go.Emb.Ext Go.Shelf Go.Sort
end Go.Proofs.YtimpadpeibgmoaaGreat
