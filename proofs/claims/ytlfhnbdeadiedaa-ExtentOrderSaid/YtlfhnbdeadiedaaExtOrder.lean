/- The walk of ExtentOrder. -/
import Derived.Test.YtlfhnbdeadiedaaExtLaws2
namespace Go.Proofs.Ytlfhnbdeadiedaa
open Go.RowKit Go.Emb Go.Lib Go.Emb.Ext Go.Shelf Go.Sort

def BackR (w : World) (l : List E) (k : Nat) (v : Value) (wr : World) : Prop :=
  ∃ o, RowE wr v (l.drop k).reverse o ∧ (∀ b, o = some b → w.heap.size ≤ b) ∧ Keep [] w wr

set_option maxRecDepth 100000 in
set_option maxHeartbeats 2000000 in
theorem order_row {w : World} {v : Value} {l : List E} (blocks : Int) (_ : -9223372036854775808 ≤ blocks ∧ blocks ≤ 9223372036854775807) (hr : HasE w v l) :
    Calls Try.prog 5 #[.int .i64 blocks, v] w fun e w' => e = .returned (.bool true) ∧ Keep [] w w' := by
  obtain ⟨a, c, rfl⟩ := hr.slice
  obtain ⟨i0, hi, hz0, hz1, hz2⟩ := info_parts ext_info
  have HI := Lib.hid hi
  have HR := Lib.hid hr
  clear hr hi
  by_cases h60 : 60 < l.length
  · have h60' : (60 : Int) < (l.length : Int) := by omega
    go_enter Try.func5, Try.ntmps5
    go_wp2_with (go_at_call 9; refine (live_any _).mono ?_; rintro e w' ⟨rfl, hk⟩)
    go_ret
    exact ⟨rfl, hk⟩
  have h60' : ¬ (60 : Int) < (l.length : Int) := by omega
  go_enter Try.func5, Try.ntmps5
  go_wp2_with fail
  go_loopw [5, 6] (fun u i wr => ∃ (k : Nat) (v : Value) (j : Int), v = u ∧ .int .i64 j = i ∧ k ≤ l.length ∧ j = (k : Int) - 1 ∧ BackR w l k v wr) (fun _ i _ => (intOf i + 1).toNat)
  case atStart => exact ⟨l.length, _, _, rfl, rfl, Nat.le_refl _, rfl, none, by rw [List.drop_length]; exact Row.nil _ _ _, by simp, Keep.refl _ _⟩
  case round =>
    obtain ⟨k, v, j, rfl, rfl, hk, hj, o', hrow, hnew, hK⟩ := hrel
    have HROW := Lib.hid hrow
    have HNEW := Lib.hid hnew
    have HK := Lib.hid hK
    clear hrow hnew hK
    cases k with
    | zero =>
      obtain rfl : j = -1 := by omega
      clear hj hk
      have hback : HasE wr v l.reverse := by have := HROW.out; rw [List.drop_zero] at this; exact RowE.has this
      have HB := Lib.hid hback
      have HR1 := Lib.hid (HR.out.keep HK.out)
      clear hback HROW HNEW HR
      go_wp2_with fail
      refine (join_h HR1.out (by omega)).mono ?_
      rintro e w1 ⟨va, A, e1, rfl, hresA, hA, hk1⟩
      have hlA := hresA.len
      have HRESA := Lib.hid hresA
      have HA1 := Lib.hid hA
      have HB1 := Lib.hid (HB.out.keep hk1)
      have HR2 := Lib.hid (HR1.out.keep hk1)
      have K1 := Lib.hid (HK.out.trans hk1 (by simp))
      clear hresA hA hk1 HB HR1 HK
      go_wp2_with fail
      refine (join_h HB1.out (by simp; omega)).mono ?_
      rintro e w2 ⟨vb, B, e2, rfl, hresB, hB, hk2⟩
      obtain ⟨rfl, rfl⟩ := HRESA.out.uniq (hresB.perm (List.reverse_perm l))
      have HA2 := Lib.hid (HA1.out.keep hk2)
      have HB2 := Lib.hid hB
      have HR3 := Lib.hid (HR2.out.keep hk2)
      have K2 := Lib.hid (K1.out.trans hk2 (by simp))
      clear hresB hB hk2 HA1 HB1 HR2 K1
      go_wp2_with fail
      refine (join_h HA2.out (by omega)).mono ?_
      rintro e w3 ⟨vc, C, e3, rfl, hresC, hC, hk3⟩
      have HRESC := Lib.hid hresC
      have HA3 := Lib.hid (HA2.out.keep hk3)
      have HB3 := Lib.hid (HB2.out.keep hk3)
      have HC3 := Lib.hid hC
      have HR4 := Lib.hid (HR3.out.keep hk3)
      have K3 := Lib.hid (K2.out.trans hk3 (by simp))
      clear hresC hC hk3 HA2 HB2 HR3 K2
      go_wp2_with fail
      refine (extents_t HA3.out HB3.out (by omega) rfl).mono ?_
      rintro e w4 ⟨rfl, hk4⟩
      have HA4 := Lib.hid (HA3.out.keep hk4)
      have HC4 := Lib.hid (HC3.out.keep hk4)
      have HR5 := Lib.hid (HR4.out.keep hk4)
      have K4 := Lib.hid (K3.out.trans hk4 (by simp))
      clear hk4 HA3 HB3 HC3 HR4 K3
      have hself : (e1 != e1) = false := by simp
      by_cases hz : e1 = 0
      · subst hz
        obtain ⟨hlr, hok, hpr⟩ := HRESA.out.ok
        obtain ⟨rfl, rfl⟩ := JoinRes.plain hok.plain hpr HRESC.out
        clear hlr hok hpr
        go_wp2_with (go_at_call 13; refine (num_any _ _).mono ?_; rintro e w' ⟨rfl, rfl⟩)
        refine (extents_t HA4.out HC4.out (by omega) rfl).mono ?_
        rintro e w5 ⟨rfl, hk5⟩
        have HAX := Lib.hid (HA4.out.keep hk5)
        have HRX := Lib.hid (HR5.out.keep hk5)
        have KX := Lib.hid (K4.out.trans hk5 (by simp))
        clear hk5 HA4 HC4 HR5 K4
        go_wp2_with fail
        refine (free_h blocks HRX.out (by omega)).mono ?_
        rintro e w6 ⟨vx, X, e4, rfl, hresX, hX, hk6⟩
        have hlX := hresX.len
        have HX := Lib.hid hX
        have HA6 := Lib.hid (HAX.out.keep hk6)
        have K6 := Lib.hid (KX.out.trans hk6 (by simp))
        obtain ⟨ax, cx, rfl⟩ := HX.out.slice
        by_cases hz4 : e4 = 0
        · subst hz4
          have HRESX := Lib.hid hresX
          clear hresX hX hk6 HAX KX HRX
          go_wp2_with (go_at_call 13; refine (num_any _ _).mono ?_; rintro e w' ⟨rfl, rfl⟩)
          refine (free_h blocks HX.out (by omega)).mono ?_
          rintro e w7 ⟨vy, Y, e5, rfl, hresY, hY, hk7⟩
          have HRESA0 := HRESA.out
          obtain ⟨rfl, rfl⟩ := free_free HRESX.out HRESA0 hresY
          have HY := Lib.hid hY
          have HA7 := Lib.hid (HA6.out.keep hk7)
          have K7 := Lib.hid (K6.out.trans hk7 (by simp))
          clear hresY hY hk7 HA6 K6 HX
          go_wp2_with (go_at_call 13; refine (num_any _ _).mono ?_; rintro e w' ⟨rfl, rfl⟩)
          refine (extents_t HY.out HA7.out (by omega) rfl).mono ?_
          rintro e w8 ⟨rfl, hk8⟩
          have K8 := Lib.hid (K7.out.trans hk8 (by simp))
          clear hk8 K7 HY HA7
          go_wp2_with fail
          refine (live_any _).mono ?_
          rintro e w9 ⟨rfl, hk9⟩
          go_wp2_with fail
          go_ret
          exact ⟨rfl, K8.out.trans hk9 (by simp)⟩
        · obtain rfl := hresX.nil hz4
          have hneb : (e4 != 0) = true := by simp [hz4]
          clear hresX hX hk6 HAX KX HRX hz4
          go_wp2_with (go_at_call 13; refine (num_any _ _).mono ?_; rintro e w' ⟨rfl, rfl⟩)
          refine (live_any _).mono ?_
          rintro e w9 ⟨rfl, hk9⟩
          go_wp2_with fail
          go_ret
          exact ⟨rfl, K6.out.trans hk9 (by simp)⟩
      · have hzb : (e1 == 0) = false := by simp [hz]
        have HZ := Lib.hid hz
        have HAX := HA4
        have HRX := HR5
        have KX := K4
        clear hz HA4 HC4 HR5 K4
        go_wp2_with (go_at_call 13; refine (num_any _ _).mono ?_; rintro e w' ⟨rfl, rfl⟩)
        refine (free_h blocks HRX.out (by omega)).mono ?_
        rintro e w6 ⟨vx, X, e4, rfl, hresX, hX, hk6⟩
        have hlX := hresX.len
        have HX := Lib.hid hX
        have HA6 := Lib.hid (HAX.out.keep hk6)
        have K6 := Lib.hid (KX.out.trans hk6 (by simp))
        obtain ⟨ax, cx, rfl⟩ := HX.out.slice
        by_cases hz4 : e4 = 0
        · subst hz4
          have HRESX := Lib.hid hresX
          clear hresX hX hk6 HAX KX HRX
          go_wp2_with (go_at_call 13; refine (num_any _ _).mono ?_; rintro e w' ⟨rfl, rfl⟩)
          refine (free_h blocks HX.out (by omega)).mono ?_
          rintro e w7 ⟨vy, Y, e5, rfl, hresY, hY, hk7⟩
          obtain ⟨a9, hj9, _⟩ := free_facts HRESX.out
          exact absurd (HRESA.out.uniq hj9).2 HZ.out
        · obtain rfl := hresX.nil hz4
          have hneb : (e4 != 0) = true := by simp [hz4]
          clear hresX hX hk6 HAX KX HRX hz4
          go_wp2_with (go_at_call 13; refine (num_any _ _).mono ?_; rintro e w' ⟨rfl, rfl⟩)
          refine (live_any _).mono ?_
          rintro e w9 ⟨rfl, hk9⟩
          go_wp2_with fail
          go_ret
          exact ⟨rfl, K6.out.trans hk9 (by simp)⟩
    | succ k =>
      obtain rfl : j = (k : Int) := by omega
      clear hj
      obtain ⟨ol, hrd, hol⟩ := HR.out
      obtain ⟨b, off, rfl, rfl, g0, g1⟩ := hrd.at (show k < l.length by omega)
      have c0 := HK.out.cellOf g0
      have c1 := HK.out.cellOf g1
      have hds : (l.drop k).reverse = (l.drop (k + 1)).reverse ++ [l[k]] := by rw [List.drop_eq_getElem_cons (by omega)]; simp
      have HDS := Lib.hid hds
      have hlen : (l.drop (k + 1)).reverse.length ≤ 60 := by simp; omega
      clear hrd hol g0 g1 hds
      generalize l[k] = x at *
      obtain ⟨x1, x2⟩ := x
      simp only at c0 c1
      have q0 : (0 : Int) ≤ (k : Int) := by omega
      have q1 : (k : Int) < (l.length : Int) := by omega
      obtain ⟨av, cv, rfl⟩ := RowE.slice HROW.out
      generalize (l.drop (k + 1)).reverse = pre at *
      go_wp2_with (at_builtin; refine wpList_append_row _ rfl _ _ 22 22 rfl 36 i0 _ 2 16 Try.underlying22 HI.out hz0 hz1 hz2 rfl _ _ _ o' rfl (Row.keep HROW.out (F := []) ((Keep.refl [] _).alloc _) (by simp)) _ rfl 1 _ (two_srcB Try.underlying22 _ _ (by first | rfl | simp) _ _ rfl rfl _) (by omega) (by first | (unfold maxLen; omega) | (simp [maxLen] <;> omega)) (by first | omega | (simp <;> omega)) ?_; intro g off2 cap w2 hrow2 hk2 hg2)
      go_roundw
      case rel =>
        refine ⟨k, _, _, rfl, rfl, by omega, rfl, some g, ?_, ?_, ?_⟩
        · rw [HDS.out]
          unfold RowE
          simpa [encE] using hrow2
        · rintro b ⟨⟩
          rcases hg2 with h | h
          · exact HNEW.out g h
          · have := HK.out.size
            simp at h
            omega
        · exact (HK.out.alloc _).trans hk2 (fun z hz => by
            cases o' with
            | none => simp at hz
            | some b => simp at hz; subst hz; exact .inr (HNEW.out _ rfl))
      case measure => simp [intOf] <;> omega
end Go.Proofs.Ytlfhnbdeadiedaa
