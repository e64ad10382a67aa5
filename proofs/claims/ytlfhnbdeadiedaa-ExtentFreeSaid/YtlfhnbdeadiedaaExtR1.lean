/- Extents, the document's: Right, Need, Count, Has. -/
import Derived.Test.YtlfhnbdeadiedaaExt12
namespace Go.Proofs.Ytlfhnbdeadiedaa
open Go.RowKit Go.Emb Go.Lib Go.Emb.Ext Go.Shelf Go.Sort

set_option maxHeartbeats 400000 in
theorem r_right (x : E) (w : World) : Calls Try.prog 35 #[aggE x] w fun e w' => e = .returned (.bool (right x)) ∧ Keep [] w w' := by
  obtain ⟨f, n⟩ := x
  unfold right aggE
  simp only
  by_cases h1 : 0 ≤ f
  · by_cases h2 : f ≤ 16384
    · by_cases h3 : 1 ≤ n
      · go_enter Try.func35, Try.ntmps35
        go_wp2_with fail
        go_ret
        exact ⟨by simp [h1, h2, h3], (Keep.refl _ _).alloc _⟩
      · go_enter Try.func35, Try.ntmps35
        go_wp2_with fail
        go_ret
        exact ⟨by simp; omega, (Keep.refl _ _).alloc _⟩
    · go_enter Try.func35, Try.ntmps35
      go_wp2_with fail
      go_ret
      exact ⟨by simp; omega, (Keep.refl _ _).alloc _⟩
  · go_enter Try.func35, Try.ntmps35
    go_wp2_with fail
    go_ret
    exact ⟨by simp; omega, (Keep.refl _ _).alloc _⟩

theorem r_need (b r : Int) (w : World) (hb : b ≤ 9223372036854775807) (hr : r ≤ 9223372036854775807) : Calls Try.prog 23 #[.int .i64 b, .int .i64 r] w fun e w' => e = .returned (.int .i64 (needE b r)) ∧ w = w' := by
  unfold needE
  by_cases h1 : b < 1
  · go_enter Try.func23, Try.ntmps23
    go_wp2_with fail
    go_ret
    exact ⟨rfl, rfl⟩
  · by_cases h2 : r < 1
    · go_enter Try.func23, Try.ntmps23
      go_wp2_with fail
      go_ret
      exact ⟨rfl, rfl⟩
    · have h3 : (r == 0) = false := beq_eq_false_iff_ne.2 (by omega)
      have h4 : (0 : Int) ≤ (b - 1) / r := Int.ediv_nonneg (by omega) (by omega)
      have h5 : (b - 1) / r ≤ b - 1 := Int.ediv_le_self _ (by omega)
      go_enter Try.func23, Try.ntmps23
      go_wp2_with fail
      go_ret
      exact ⟨by rw [Int.add_comm]; rfl, rfl⟩


set_option maxHeartbeats 400000 in
theorem r_count {w : World} {v : Value} {l : List E} (hr : HasE w v l) (hsz : l.length ≤ 1000000) :
    Calls Try.prog 19 #[v] w fun e w' => e = .returned (.int .i64 (countE l)) ∧ Keep [] w w' := by
  obtain ⟨a, c, rfl⟩ := hr.slice
  have HR := Lib.hid hr
  clear hr
  go_enter Try.func19, Try.ntmps19
  go_wp2_with fail
  go_loopw [3, 4] (fun n i wr => ∃ k : Nat, k ≤ l.length ∧ i = .int .i64 k ∧ Keep [] w wr ∧ n = .int .i64 (countE (l.take k))) (fun _ i _ => l.length - (intOf i).toNat)
  case atStart => exact ⟨0, Nat.zero_le _, rfl, Keep.refl _ _, by simp [countE, sumL]⟩
  case round =>
    obtain ⟨k, hk, rfl, hK, rfl⟩ := hrel
    have HK := Lib.hid hK
    clear hK
    have hbd := countE_bd (l.take k)
    have hll : (l.take k).length ≤ 1000000000 := by simp; omega
    by_cases hlt : k < l.length
    · obtain ⟨o, hrd, -⟩ := HR.out
      obtain ⟨b, off, rfl, rfl, g0, g1⟩ := hrd.at hlt
      have c0 := HK.out.cellOf g0
      have c1 := HK.out.cellOf g1
      clear g0 g1 hrd
      have hs : countE (l.take (k + 1)) = countE (l.take k) + if right l[k] then l[k].2 else 0 := by
        rw [List.take_succ_eq_append_getElem hlt, countE_snoc]
      have HS := Lib.hid hs
      clear hs
      generalize countE (l.take k) = s at *
      generalize l[k] = x at *
      have i0 : (0 : Int) ≤ (k : Int) := by omega
      have i1 : (k : Int) < (l.length : Int) := by omega
      have hcall := fun W => r_right x W
      obtain ⟨f, n⟩ := x
      simp only at c0 c1
      unfold aggE at hcall
      cases hq : right (f, n) with
      | true =>
        have hb := (right_iff _).1 hq
        simp only at hb
        rw [hq] at hcall
        have hs2 : countE (l.take (k + 1)) = s + n := by rw [HS.out, if_pos hq]
        have HS2 := Lib.hid hs2
        clear hs2 HS hq
        go_wp2_with (go_at_call 35; refine (hcall _).mono ?_; rintro e w' ⟨rfl, hk'⟩; have hc1 := hk'.cellOf c1)
        go_roundw
        case rel => exact ⟨k + 1, by omega, by go_num, HK.out.trans hk' (by simp), by rw [HS2.out]⟩
        case measure => simp [intOf]; omega
      | false =>
        rw [hq] at hcall
        have hs2 : countE (l.take (k + 1)) = s := by rw [HS.out, if_neg (by simp [hq])]; omega
        have HS2 := Lib.hid hs2
        clear hs2 HS hq
        go_wp2_with (go_at_call 35; refine (hcall _).mono ?_; rintro e w' ⟨rfl, hk'⟩)
        go_roundw
        case rel => exact ⟨k + 1, by omega, by go_num, HK.out.trans hk' (by simp), by rw [HS2.out]⟩
        case measure => simp [intOf]; omega
    · go_wp2_with fail
      go_ret
      exact ⟨by rw [List.take_of_length_le (by omega)]; rfl, HK.out⟩

end Go.Proofs.Ytlfhnbdeadiedaa
