import Derived.Test.YtdmmhfbafinkpaaGreatDoorPb14
import Derived.Test.YtdmmhfbafinkpaaGreatDoorPbA
import Derived.Test.YtdmmhfbafinkpaaGreatDoorPa24
/- ParseBack: the walk of the statement. -/
namespace Go.Proofs.YtdmmhfbafinkpaaGreatDoor
open Go.RowKit Go.Emb Go.Shelf

/-- what Parse answers, slot by slot -/
theorem ProgP.formB {w : World} {bs : List UInt8} {e : Ending} {w' : World} (h : ProgP w bs e w') : ∃ l s', Ev (fun n => funsL n true) (beginS bs) l s' ∧ Keep [] w w' ∧ ∃ (a : Option Addr) (n c : Nat) (at_ : Int), e = .returned (.tuple #[.slice a n c, .int .i64 s'.err, .int .i64 at_]) ∧ (s'.err ≠ 0 → at_ = s'.at_ ∧ n = 0) ∧ (s'.err = 0 → n = l.length ∧ FsR (Frs w.heap.size w') w' (.slice a n c) l) := by
  obtain ⟨l, s', h1, h2, h3⟩ := h
  refine ⟨l, s', h1, h2, ?_⟩
  rcases h3 with ⟨he, v, rfl, hfs⟩ | ⟨he, rfl⟩
  · obtain ⟨a, c, rfl⟩ := hfs.form
    exact ⟨a, l.length, c, 0, by rw [he], fun h => absurd he h, fun _ => ⟨rfl, hfs⟩⟩
  · exact ⟨none, 0, 0, _, rfl, fun _ => ⟨rfl, rfl⟩, fun h => absurd h he⟩
theorem prok_ne {l : List UInt8} {fs : List (List Nd)} (h : PrOk l fs) : fs ≠ [] := by
  obtain ⟨ts, s1, hts, ⟨N, hev⟩, he⟩ := h
  have h1 := hev (N + 1) (by omega)
  simp only at h1
  rw [funs_go ⟨rfl, .inl rfl⟩] at h1
  injection h1 with h2 h3
  rw [← h2]
  simp
set_option maxRecDepth 100000 in
set_option maxHeartbeats 4000000 in
theorem back_walk {w : World} (hv : VarOk w ∧ ∃ B, TabOk B w) (s : ByteArray) (hs : s.size ≤ 140737488355328) : Calls Tryz.prog 4 #[.string s] w (YesP w) := by
  obtain ⟨hv, B, ht⟩ := hv
  have HV := Lib.hid hv
  have HT := Lib.hid ht
  clear hv ht
  by_cases hbig : 4000 < s.size
  · have hb' : (4000 : Int) < (s.size : Int) := by omega
    go_enter Tryz.func4, Tryz.ntmps4
    go_wp2_with fail
    refine (p_live HV.out).mono ?_
    rintro e w1 ⟨rfl, hk⟩
    have HK := Lib.hid hk
    clear hk
    go_wp2_with fail
    go_ret
    exact ⟨rfl, HK.out⟩
  · have hb' : ¬ (4000 : Int) < (s.size : Int) := by omega
    go_enter Tryz.func4, Tryz.ntmps4
    go_wp2_with fail
    refine (p_program _ w HV.out.err (by omega) HV.out.lv).mono ?_
    intro e w1 hres
    obtain ⟨lA, sA, hevA, hk1, aA, nA, cA, atA, rfl, hxA, hyA⟩ := hres.formB
    clear hres
    obtain ⟨erA, herA⟩ : ∃ er, er = sA.err := ⟨_, rfl⟩
    rw [← herA]
    have HEA := Lib.hid (And.intro herA (And.intro hevA (And.intro hxA hyA)))
    have HK1 := Lib.hid hk1
    have HV1 := Lib.hid (HV.out.keep hk1)
    have HT1 := Lib.hid (HT.out.keep0 hk1)
    clear hevA hxA herA hyA hk1
    by_cases h0 : erA = 0
    · have he0 : sA.err = 0 := by rw [← HEA.out.1]; exact h0
      have hpr := PrOk.of HEA.out.2.1 he0
      obtain ⟨hnA, hfA⟩ := HEA.out.2.2.2 he0
      obtain ⟨xs, hx, hxl⟩ := law_print hpr
      have hne := prok_ne hpr
      rw [show s.data.toList.length = s.size by rw [size_list s]] at hxl
      have hfine := flat_len _ (PrG.fine _ _ hx)
      have hsm : Sm xs.flatten := ⟨by omega, by omega⟩
      have HP := Lib.hid (p_print HT1.out hfA (fun b hb => hb.2) hx hne hsm (by omega))
      have HX := Lib.hid (And.intro hx hne)
      have HFA := Lib.hid hfA
      have HSM := Lib.hid (And.intro hsm (show (flat xs.flatten).length ≤ 90000000000000 by omega))
      subst h0
      clear hpr hnA hfA hx hxl hne hfine hsm he0
      go_wp2_with (go_at_call 13; refine (num_any _ _).mono ?_; rintro e w' ⟨rfl, rfl⟩)
      refine HP.out.mono ?_
      rintro e w2 ⟨⟨X, rfl, hX⟩, hk2⟩
      have HK2 := Lib.hid (HK1.out.trans hk2 (by simp))
      have HK12 := Lib.hid hk2
      have HV2 := Lib.hid (HV1.out.keep hk2)
      have HT2 := Lib.hid (HT1.out.keep0 hk2)
      have HXX := Lib.hid hX
      clear hX hk2
      by_cases hlong : 16384 < X.size
      · have hl' : (16384 : Int) < (X.size : Int) := by omega
        go_wp2_with fail
        refine (p_live HV2.out).mono ?_
        rintro e w5 ⟨rfl, hk5⟩
        have HK5 := Lib.hid (HK2.out.trans hk5 (by simp))
        clear hk5
        go_wp2_with fail
        go_ret
        exact ⟨rfl, HK5.out⟩
      · have hl' : ¬ (16384 : Int) < (X.size : Int) := by omega
        go_wp2_with fail
        refine (p_program _ w2 HV2.out.err (by omega) HV2.out.lv).mono ?_
        intro e w3 hres
        obtain ⟨lB, sB, hevB, hk3, aB, nB, cB, atB, rfl, -, hyB⟩ := hres.formB
        clear hres
        rw [HXX.out] at hevB
        have hag := law_again HX.out.1 HX.out.2 hevB
        obtain ⟨erB, herB⟩ : ∃ er, er = sB.err := ⟨_, rfl⟩
        rw [← herB] at hag hyB ⊢
        have HK3 := Lib.hid (HK2.out.trans hk3 (by simp))
        have HK13 := Lib.hid (HK12.out.trans hk3 (by simp))
        have HV3 := Lib.hid (HV2.out.keep hk3)
        have HT3 := Lib.hid (HT2.out.keep0 hk3)
        clear hevB hk3 herB
        rcases hag with rfl | ⟨rfl, rfl⟩
        · clear hyB
          go_wp2_with (go_at_call 13; refine (num_any _ _).mono ?_; rintro e w' ⟨rfl, rfl⟩)
          refine (p_live HV3.out).mono ?_
          rintro e w5 ⟨rfl, hk5⟩
          have HK5 := Lib.hid (HK3.out.trans hk5 (by simp))
          clear hk5
          go_wp2_with fail
          go_ret
          exact ⟨rfl, HK5.out⟩
        · obtain ⟨-, hfB⟩ := hyB rfl
          have HSA := Lib.hid (p_sameAll (HFA.out.keep HK13.out (by simp)) hfB)
          have HP2 := Lib.hid (fun W (k : Keep [] w3 W) => p_print (w := W) (HT3.out.keep0 k) (hfB.keep k (by simp)) (fun b hb => Nat.lt_of_lt_of_le hb.2 k.size) HX.out.1 HX.out.2 HSM.out.1 HSM.out.2)
          clear hyB hfB
          go_wp2_with (go_at_call 13; refine (num_any _ _).mono ?_; rintro e w' ⟨rfl, rfl⟩)
          refine HSA.out.mono ?_
          rintro e w4 ⟨rfl, hk4⟩
          have HK4 := Lib.hid hk4
          clear hk4
          go_wp2_with fail
          refine (HP2.out _ HK4.out).mono ?_
          rintro e w5 ⟨⟨Y, rfl, hY⟩, hk5⟩
          obtain rfl : Y = X := by
            have h := hY.trans HXX.out.symm
            cases Y; cases X
            simp at h
            simp [h]
          have HK5 := Lib.hid ((HK3.out.trans HK4.out (by simp)).trans hk5 (by simp))
          have HV5 := Lib.hid (HV.out.keep HK5.out)
          clear hk5 hY
          go_wp2_with fail
          refine (p_live HV5.out).mono ?_
          rintro e w6 ⟨rfl, hk6⟩
          have HK6 := Lib.hid (HK5.out.trans hk6 (by simp))
          clear hk6
          go_wp2_with fail
          go_ret
          exact ⟨rfl, HK6.out⟩
    · have hne : (erA != 0) = true := by simpa using h0
      obtain ⟨hat, hn0⟩ := HEA.out.2.2.1 (by rw [← HEA.out.1]; exact h0)
      obtain ⟨hb1, hb2⟩ := err_at HEA.out.2.1 (by rw [← HEA.out.1]; exact h0)
      rw [← hat] at hb1 hb2
      rw [show s.data.toList.length = s.size by rw [size_list s]] at hb2
      subst hn0
      clear hat
      go_wp2_with (go_at_call 13; refine (num_any _ _).mono ?_; rintro e w' ⟨rfl, rfl⟩)
      refine (p_live HV1.out).mono ?_
      rintro e w5 ⟨rfl, hk5⟩
      have HK5 := Lib.hid (HK1.out.trans hk5 (by simp))
      clear hk5
      go_wp2_with fail
      go_ret
      exact ⟨rfl, HK5.out⟩
end Go.Proofs.YtdmmhfbafinkpaaGreatDoor
