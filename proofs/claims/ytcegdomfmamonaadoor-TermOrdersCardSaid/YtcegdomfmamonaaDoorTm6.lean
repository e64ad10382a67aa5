/- Terms: the program's Check. -/
import Derived.Test.YtcegdomfmamonaaDoorTm5
import Derived.Test.YtcegdomfmamonaaDoorTm4
namespace Go.Proofs.YtcegdomfmamonaaDoor
open Go.RowKit Go.Emb Go.Lib

theorem count_any {t : Tm} {cb m : Nat} {w : World} (h : RdTm cb w t) (hc : w.heap[cb]? = some (.cells #[.int .i64 m] 54)) (hm : m ≤ 4096) : Calls Tryd.prog 45 #[.pointer (some ⟨cb, 0, none⟩), aggTm t] w (CountP w cb m t.sz) :=
  countN t.sz t (Nat.le_refl _) cb m w h hc hm

set_option maxRecDepth 100000 in
set_option maxHeartbeats 1000000 in
theorem p_check {B : Nat} {w : World} {v : Value} {l : List Tm} (h : HasT B w v l) (hB : B ≤ w.heap.size) : Calls Tryd.prog 11 #[v] w fun e w' => e = .returned (.int .i64 (checkTm l)) ∧ Keep [] w w' := by
  obtain ⟨a, c, rfl, hc1, hc2⟩ := h.form
  unfold maxLen at hc2
  have HH := Lib.hid h
  clear h
  go_enter Tryd.func11, Tryd.ntmps11
  go_wp2_with fail
  go_loopw [5, 8] (fun _ i wr => ∃ j : Nat, j ≤ l.length ∧ i = .int .i64 j ∧ szL (l.take j) ≤ 4096 ∧ wr.heap[w.heap.size]? = some (.cells #[.int .i64 (szL (l.take j) : Nat)] 54) ∧ Keep [] w wr) (fun _ i _ => l.length - (intOf i).toNat)
  case atStart => exact ⟨0, Nat.zero_le _, rfl, by simp [szL_nil], by rw [List.take_zero, szL_nil]; exact heap_alloc_new w _, (Keep.refl [] w).alloc _⟩
  case round =>
    obtain ⟨j, hj, rfl, hle, hcj, hK⟩ := hrel
    have HK := Lib.hid hK
    have HCJ := Lib.hid hcj
    clear hK hcj
    by_cases hlt : j < l.length
    · obtain ⟨b, off, rfl, c0, c1, c2, c3, hrx⟩ := HH.out.at HK.out hlt
      have hts := szL_take_succ l j hlt
      have hcall := fun ob => count_any (w := wr.alloc ob) ((hrx.up hB).keep0 ((Keep.refl [] wr).alloc ob)) ((((Keep.refl [] wr).alloc ob).block w.heap.size (Array.getElem?_eq_some_iff.1 HCJ.out).1 (by simp)).trans HCJ.out) hle
      obtain ⟨xa, xc, hxv, -, -⟩ := hrx.has.form
      unfold CountP at hcall
      rw [← hts] at hcall
      unfold aggTm at hcall
      rw [hxv] at c3 hcall
      have i0 : (0 : Int) ≤ (j : Int) := by omega
      have i1 : (j : Int) < (l.length : Int) := by omega
      have htl := szL_take_le l (j + 1)
      have hcn : szL (l.take (j + 1)) ≤ 4096 → cntN (szL (l.take j)) l[j].sz = szL (l.take (j + 1)) := by unfold cntN; omega
      clear hrx hts hxv
      generalize l[j].kind = xk at *
      generalize l[j].num = xn at *
      generalize l[j].name = xs at *
      generalize l[j].items.length = xl at *
      by_cases hfit : szL (l.take (j + 1)) ≤ 4096
      · have hd : decide (szL (l.take (j + 1)) ≤ 4096) = true := by simpa using hfit
        rw [hcn hfit] at hcall
        simp only [hd] at hcall
        have HC := Lib.hid hcall
        clear hcall hd htl hcn
        go_wp2_with fail
        refine (HC.out _).mono ?_
        rintro e w2 ⟨rfl, hc2', hk2⟩
        have HC2' := Lib.hid hc2'
        clear hc2'
        go_wp2_with fail
        go_roundw
        case rel => exact ⟨j + 1, by omega, by go_num, hfit, HC2'.out, HK.out.trans (((Keep.refl [w.heap.size] wr).alloc _).trans hk2 (by simp)) (by simp)⟩
        case measure => simp [intOf]; omega
      · have hd : decide (szL (l.take (j + 1)) ≤ 4096) = false := by simpa using hfit
        simp only [hd] at hcall
        have hres : checkTm l = 6 := by unfold checkTm; rw [if_neg (by omega)]
        have HRES := Lib.hid hres
        have HC := Lib.hid hcall
        clear hcall hd htl hcn hres
        go_wp2_with fail
        refine (HC.out _).mono ?_
        rintro e w2 ⟨rfl, -, hk2⟩
        go_wp2_with fail
        go_ret
        exact ⟨by rw [HRES.out]; rfl, HK.out.trans (((Keep.refl [w.heap.size] wr).alloc _).trans hk2 (by simp)) (by simp)⟩
    · obtain rfl : j = l.length := by omega
      rw [List.take_length] at hle
      have hcall := containsFuncT (HH.out.keep0 HK.out) 47 (fun x => !isTm x) (enters_of Tryd.func47 (by kernel_rfl) rfl) (fun x hx W hW => check_closure (fun ob => p_is ((((RdTms_iff _).1 HH.out.2.2 x hx).keep0 HK.out).keep0 (hW.alloc ob))))
      have hany := isTms_any l
      have hres : checkTm l = if isTms l then 0 else 70 := by unfold checkTm; rw [if_pos hle]
      generalize l.any (fun x => !isTm x) = an at *
      rw [← hany] at hres
      have HRES := Lib.hid hres
      have HC := Lib.hid hcall
      clear hcall hany hres
      cases an with
      | true =>
        go_wp2_with fail
        refine HC.out.mono ?_
        rintro e w2 ⟨rfl, hk2⟩
        go_wp2_with fail
        go_ret
        exact ⟨by rw [HRES.out]; rfl, HK.out.trans hk2 (by simp)⟩
      | false =>
        go_wp2_with fail
        refine HC.out.mono ?_
        rintro e w2 ⟨rfl, hk2⟩
        go_wp2_with fail
        go_ret
        exact ⟨by rw [HRES.out]; rfl, HK.out.trans hk2 (by simp)⟩
end Go.Proofs.YtcegdomfmamonaaDoor
