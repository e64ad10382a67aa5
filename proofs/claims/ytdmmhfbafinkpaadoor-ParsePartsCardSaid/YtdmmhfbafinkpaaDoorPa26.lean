import Derived.Test.YtdmmhfbafinkpaaDoorPa25
/- Parse: ParseEnds. -/
namespace Go.Proofs.YtdmmhfbafinkpaaDoor
open Go.RowKit Go.Emb Go.Shelf

/-- what Parse answers, slot by slot -/
theorem ProgP.form {w : World} {bs : List UInt8} {e : Ending} {w' : World} (h : ProgP w bs e w') : ∃ l s', Ev (fun n => funsL n true) (beginS bs) l s' ∧ Keep [] w w' ∧ ∃ (a : Option Addr) (n c : Nat) (at_ : Int), e = .returned (.tuple #[.slice a n c, .int .i64 s'.err, .int .i64 at_]) ∧ (s'.err ≠ 0 → at_ = s'.at_ ∧ n = 0) ∧ (s'.err = 0 → n = l.length ∧ FsR (Frs w.heap.size w') w' (.slice a n c) l) := by
  obtain ⟨l, s', h1, h2, h3⟩ := h
  refine ⟨l, s', h1, h2, ?_⟩
  rcases h3 with ⟨he, v, rfl, hfs⟩ | ⟨he, rfl⟩
  · obtain ⟨a, c, rfl⟩ := hfs.form
    exact ⟨a, l.length, c, 0, by rw [he], fun h => absurd he h, fun _ => ⟨rfl, hfs⟩⟩
  · exact ⟨none, 0, 0, _, rfl, fun _ => ⟨rfl, rfl⟩, fun h => absurd h he⟩
set_option maxRecDepth 100000 in
set_option maxHeartbeats 4000000 in
theorem ends_walk {w : World} (hv : VarOk w) (s : ByteArray) (hs : s.size ≤ 140737488355328) : Calls Tryd.prog 5 #[.string s] w (YesP w) := by
  have HV := Lib.hid hv
  clear hv
  by_cases hbig : 4000 < s.size
  · have hb' : (4000 : Int) < (s.size : Int) := by omega
    go_enter Tryd.func5, Tryd.ntmps5
    go_wp2_with fail
    refine (p_live HV.out).mono ?_
    rintro e w1 ⟨rfl, hk⟩
    have HK := Lib.hid hk
    clear hk
    go_wp2_with fail
    go_ret
    exact ⟨rfl, HK.out⟩
  · have hb' : ¬ (4000 : Int) < (s.size : Int) := by omega
    have hw1 : IntKind.i64.wrap ((s.size : Int) + 1) = (s.size : Int) + 1 := IntWalk.i64_in _ (by omega)
    go_enter Tryd.func5, Tryd.ntmps5
    go_wp2_with fail
    refine (p_program _ w HV.out.err (by rw [ByteArray.size_append]; show s.size + 2 ≤ 16384; omega) HV.out.lv).mono ?_
    intro e w1 hres
    obtain ⟨lA, sA, hevA, hk1, aA, nA, cA, atA, rfl, hxA, -⟩ := hres.form
    clear hres
    rw [show (s ++ (⟨#[10, 46]⟩ : ByteArray)).data.toList = s.data.toList ++ [10, 46] from by simp] at hevA
    obtain ⟨erA, herA⟩ : ∃ er, er = sA.err := ⟨_, rfl⟩
    rw [← herA]
    have HEA := Lib.hid (And.intro herA (And.intro hevA hxA))
    have HK1 := Lib.hid hk1
    have HV1 := Lib.hid (HV.out.keep hk1)
    clear hevA hxA herA hk1
    go_wp2_with fail
    refine (p_program _ w1 HV1.out.err (by omega) HV1.out.lv).mono ?_
    intro e w2 hres
    obtain ⟨lB, sB, hevB, hk2, aB, nB, cB, atB, rfl, -, -⟩ := hres.form
    clear hres
    obtain ⟨erB, herB⟩ : ∃ er, er = sB.err := ⟨_, rfl⟩
    rw [← herB]
    have HEB := Lib.hid (And.intro herB hevB)
    have HK2 := Lib.hid (HK1.out.trans hk2 (by simp))
    have HV2 := Lib.hid (HV1.out.keep hk2)
    clear hevB herB hk2
    by_cases h0 : erB = 0
    · have hpr := PrOk.of HEB.out.2 (by rw [← HEB.out.1]; exact h0)
      obtain ⟨hd1, hd2⟩ := law_dot hpr HEA.out.2.1
      have heA : erA = 110 := by rw [HEA.out.1]; exact hd1
      have hatA : atA = (s.size : Int) + 1 := by
        rw [(HEA.out.2.2 (by rw [hd1]; decide)).1, hd2]
        simp
      have HPR := Lib.hid hpr
      subst h0 heA hatA
      clear hpr hd1 hd2
      go_wp2_with (go_at_call 8; refine (num_any _ _).mono ?_; rintro e w' ⟨rfl, rfl⟩)
      refine (p_program _ w2 HV2.out.err (by rw [ByteArray.size_append]; show s.size + 9 ≤ 16384; omega) HV2.out.lv).mono ?_
      intro e w3 hres
      obtain ⟨lC, sC, hevC, hk3, aC, nC, cC, atC, rfl, hxC, -⟩ := hres.form
      clear hres
      rw [show (s ++ (⟨#[10, 120, 40, 41, 32, 45, 62, 32, 49]⟩ : ByteArray)).data.toList = s.data.toList ++ [10, 120, 40, 41, 32, 45, 62, 32, 49] from by simp] at hevC
      have hcut := law_cut HPR.out hevC
      obtain ⟨hq1, rfl⟩ := hxC (by rw [hcut]; decide)
      rw [hcut]
      have HK3 := Lib.hid (HK2.out.trans hk3 (by simp))
      have HV3 := Lib.hid (HV2.out.keep hk3)
      clear hevC hxC hk3 hq1 hcut
      go_wp2_with fail
      refine (p_program _ w3 HV3.out.err (by rw [ByteArray.size_append]; show s.size + 10 ≤ 16384; omega) HV3.out.lv).mono ?_
      intro e w4 hres
      obtain ⟨lD, sD, hevD, hk4, aD, nD, cD, atD, rfl, -, hyD⟩ := hres.form
      clear hres
      rw [show (s ++ (⟨#[10, 120, 40, 41, 32, 45, 62, 32, 49, 46]⟩ : ByteArray)).data.toList = s.data.toList ++ [10, 120, 40, 41, 32, 45, 62, 32, 49, 46] from by simp] at hevD
      obtain ⟨hm1, hm2⟩ := law_more1 HPR.out hevD
      obtain ⟨hq1, -⟩ := hyD hm1
      rw [hm1]
      have hlen : (1 : Int) < (nD : Int) := by rw [hq1]; omega
      have HK4 := Lib.hid (HK3.out.trans hk4 (by simp))
      have HV4 := Lib.hid (HV3.out.keep hk4)
      clear hevD hyD hk4 hq1 hm1 hm2
      go_wp2_with (go_at_call 8; refine (num_any _ _).mono ?_; rintro e w' ⟨rfl, rfl⟩)
      refine (p_live HV4.out).mono ?_
      rintro e w5 ⟨rfl, hk5⟩
      have HK5 := Lib.hid (HK4.out.trans hk5 (by simp))
      clear hk5
      go_wp2_with fail
      go_ret
      exact ⟨rfl, HK5.out⟩
    · have hne : (erB != 0) = true := by simpa using h0
      go_wp2_with (go_at_call 8; refine (num_any _ _).mono ?_; rintro e w' ⟨rfl, rfl⟩)
      refine (p_live HV2.out).mono ?_
      rintro e w5 ⟨rfl, hk5⟩
      have HK5 := Lib.hid (HK2.out.trans hk5 (by simp))
      clear hk5
      go_wp2_with fail
      go_ret
      exact ⟨rfl, HK5.out⟩
end Go.Proofs.YtdmmhfbafinkpaaDoor
