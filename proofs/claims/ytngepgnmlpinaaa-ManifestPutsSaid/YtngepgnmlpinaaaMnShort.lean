/- ManifestShort: the walk. -/
import Derived.Test.YtngepgnmlpinaaaMnBack
namespace Go.Proofs.Ytngepgnmlpinaaa
open Go.RowKit Go.Emb Go.Emb.Ext

theorem rdB_hi {B : Nat} {w : World} {a : Option Addr} {c : Nat} {bs : List UInt8} (h : RdB B w (.slice a bs.length c) bs) {k : Nat} (hk : k < bs.length) :
    (∀ W, (Instr.slice 24 (.slice a bs.length c) none (some (.int .i64 (k : Int))) none).run Try.prog W = .ok (.slice a k c) W) ∧ RdB B w (.slice a k c) (bs.take k) := by
  obtain ⟨i0, hi, hz0, hz1, hz2⟩ := info_parts byte_info
  obtain ⟨⟨o, ⟨h1, a', c', hv, h2, h3, h4⟩, h5⟩, h6⟩ := h
  cases hv
  rcases h4 with ⟨h4, -⟩ | ⟨b, off, rfl, rfl, h4⟩
  · omega
  · have hl : (bs.take k).length = k := by rw [List.length_take]; omega
    refine ⟨fun W => ?_, ⟨⟨some b, ⟨by simp [Lib.byteCells], _, _, by rw [hl], by rw [hl]; omega, h3, .inr ⟨b, off, rfl, rfl, fun i hi => ?_⟩⟩, h5⟩, by rw [hl]; omega⟩⟩
    · have hsk : ∀ w, (sizeOf 5).run Try.prog w = .ok 1 w := fun w => by simp [sizeOf, typeInfo, hi, hz1]
      have hb := run_sliceBound (P := Try.prog) W .i64 (k : Int) c .sliceAcap (by omega) (by omega)
      unfold Instr.slice Instr.sliceBounds
      simp [run_underlying Try.underlying24, hb, hsk, Result.andThen]
      by_cases hc : c = 0
      · simp [hc]
      · simp [hc, Addr.add]
    · have hik : i < k := by rw [hl] at hi; omega
      rw [h4 i (by omega)]
      simp only [Lib.byteCells, List.map_take]
      rw [List.getElem?_take_of_lt hik]
theorem zero_rdm (w : World) : RdM w.heap.size w ⟨⟨#[]⟩, (0, 0), .slice none 0 0, [], .slice none 0 0, []⟩ :=
  ⟨by decide, ⟨by constructor <;> decide, by constructor <;> decide⟩, ⟨⟨none, ⟨by simp [Lib.byteCells], none, 0, rfl, by simp, by simp [maxLen], .inl ⟨rfl, rfl⟩⟩, by simp⟩, by simp⟩, ⟨none, ⟨by simp, none, 0, rfl, by simp, by simp [maxLen], .inl ⟨rfl, rfl⟩⟩, by simp⟩, by simp, by simp⟩
theorem same_zero (w : World) : Calls Try.prog 15 #[.agg #[.string ⟨#[]⟩, .int .i64 0, .int .i64 0, .slice none 0 0, .slice none 0 0], .agg #[.string ⟨#[]⟩, .int .i64 0, .int .i64 0, .slice none 0 0, .slice none 0 0]] w fun e w' => e = .returned (.bool true) ∧ Keep [] w w' := by
  have h := r_same (zero_rdm w) (zero_rdm w) (fun x hx => by cases hx) (fun x hx => by cases hx)
  rw [(manB_iff _ _).2 rfl] at h
  exact h
theorem get_none {bs : List UInt8} (h : pMan bs = none) : (oMan bs).2 ≠ some [] := by
  intro h2
  rw [pMan_oMan, if_pos h2] at h
  cases h
set_option maxRecDepth 100000 in
set_option maxHeartbeats 4000000 in
theorem short_walk {w : World} {m : MnV} (hm : RdM w.heap.size w m) {cut more : Int} (hc : -9223372036854775808 ≤ cut ∧ cut ≤ 9223372036854775807) (hmo : 0 ≤ more ∧ more ≤ 255) :
    Calls Try.prog 5 #[aggM m, .int .i64 cut, .int .u8 more] w fun e w' => e = .returned (.bool true) ∧ Keep [] w w' := by
  obtain ⟨mo, rfl⟩ : ∃ x : Nat, more = (x : Int) := ⟨more.toNat, by omega⟩
  have hcs := cells_of mo (by omega)
  have HCS := Lib.hid hcs
  have HC := Lib.hid hc
  clear hcs hmo hc
  obtain ⟨i0, hi, hz0, hz1, hz2⟩ := info_parts byte_info
  have HI := Lib.hid hi
  clear hi
  obtain ⟨⟨ra, rc, hrv, -, -⟩, pa, pc, hpv, -, -⟩ := hm.forms
  obtain ⟨ms, me, mrv, ml, mpv, mps⟩ := m
  simp only at hrv hpv
  subst hrv hpv
  have hk1 : Keep [] w (w.alloc (.cells #[.string ms, .int .i64 me.1, .int .i64 me.2, .slice ra ml.length rc, .slice pa mps.length pc] 27)) := (Keep.refl [] w).alloc _
  have hb1 := heap_new w (.cells #[.string ms, .int .i64 me.1, .int .i64 me.2, .slice ra ml.length rc, .slice pa mps.length pc] 27)
  have hm1 := hm.next hk1
  have hsm := q_small hm1
  unfold aggM at hsm ⊢
  simp only at hsm ⊢
  obtain ⟨m0, m1, m2, m3, m4⟩ := cells5 hb1
  have HK1 := Lib.hid hk1
  have HB1 := Lib.hid hb1
  have HM1 := Lib.hid hm1
  have HSM := Lib.hid hsm
  clear hk1 hb1 hm1 hsm hm
  go_enter Try.func5, Try.ntmps5
  go_wp2_with fail
  generalize w.alloc (.cells #[.string ms, .int .i64 me.1, .int .i64 me.2, .slice ra ml.length rc, .slice pa mps.length pc] 27) = w1 at *
  refine HSM.out.mono ?_
  rintro e w2 ⟨b, rfl, hb, hk2⟩
  have HK2 := Lib.hid (HK1.out.trans hk2 (by simp))
  have HB2 := Lib.hid (blk_keep HB1.out hk2 (by simp))
  have HM2 := Lib.hid (HM1.out.next hk2)
  clear hk2 HK1 HB1 HM1 HSM m0 m1 m2 m3 m4
  cases b with
  | false =>
    clear hb
    go_wp2_with fail
    refine (q_live w2).mono ?_
    rintro e w3 ⟨rfl, hk3⟩
    go_wp2_with fail
    go_ret
    exact ⟨rfl, HK2.out.trans hk3 (by simp)⟩
  | true =>
    have hsz := (hb rfl).bytes
    clear hb
    have hput := p_putB HM2.out (by omega)
    have hml := pMan_longer HM2.out.ok (UInt8.ofNat mo)
    have hmc := pMan_cut HM2.out.ok
    obtain ⟨L, hL⟩ : ∃ L, L = manL (MnV.man ⟨ms, me, .slice ra ml.length rc, ml, .slice pa mps.length pc, mps⟩) := ⟨_, rfl⟩
    rw [← hL] at hput hml hmc hsz
    clear hL
    unfold aggM at hput
    simp only at hput
    obtain ⟨m0, m1, m2, m3, m4⟩ := cells5 HB2.out
    have HP := Lib.hid hput
    have HML := Lib.hid (get_none hml)
    have HMC := Lib.hid hmc
    clear hput hml hmc
    go_wp2_with fail
    refine HP.out.mono ?_
    rintro e w3 ⟨pv, rfl, hr3, hk3⟩
    obtain ⟨pva, pvc, rfl, hp1, hp2⟩ := hr3.forms
    have HR3 := Lib.hid hr3
    have HK3 := Lib.hid (HK2.out.trans hk3 (by simp))
    obtain ⟨⟨ol, hrd, hol⟩, hrl⟩ := hr3
    have HRD := Lib.hid hrd
    clear hrd hk3 HK2 HP m0 m1 m2 m3 m4 HB2 HM2
    go_wp2_with (at_builtin; refine wpList_append_rd _ rfl _ _ 24 24 rfl 5 5 i0 (.int .u8 0) 1 1 Try.underlying24 Try.underlying24 HI.out hz0 hz1 hz2 rfl w3.heap.size 0 0 0 [] rfl (Row.made0 w3 _ _) _ rfl L.length (Lib.byteCells L) ol (HRD.out.keep ((Keep.refl [] w3).alloc _) (by simp)) (byteCells_one _) (by unfold maxLen; omega) (by omega) ?_)
    intro g off cap w4 hr4 hk4 hg4
    try simp only [Nat.zero_add, List.nil_append] at hr4
    try simp only [Nat.zero_add, List.nil_append]
    have hk4' : Keep [] w3 w4 := ((Keep.refl [] w3).alloc _).trans hk4 (by simp)
    have HRW4 := Lib.hid hr4
    have HR4 := Lib.hid (HR3.out.next hk4')
    have HK4 := Lib.hid hk4'
    clear hr4 hk4 hk4'
    go_wp2_with (at_builtin; refine wpList_append_row _ rfl _ _ 24 24 rfl 5 i0 (.int .u8 0) 1 1 Try.underlying24 HI.out hz0 hz1 hz2 rfl _ _ _ (some g) rfl (Row.keep HRW4.out (F := []) ((Keep.refl [] _).alloc _) (by simp)) _ rfl 1 _ (src_one _ _ rfl _ rfl _) (by omega) (by first | (unfold maxLen; omega) | (simp [maxLen] <;> omega)) (by first | omega | (simp <;> omega)) ?_)
    intro g5 off5 cap5 w5 hr5 hk5 hg5
    obtain ⟨n1, n2, n3⟩ := RB.next (w0 := w4) (news := [UInt8.ofNat mo]) (o := some g) (o0 := some g) rfl HCS.out ((Keep.refl (some g).toList w4).alloc _) (.inl rfl) hr5 hk5 (by simpa using hg5)
    have hk5' : Keep [] w3 w5 := HK4.out.trans n2 (fun x hx => .inr (by simp at hx; subst hx; rcases hg4 with h | h <;> (try simp at h) <;> omega))
    have hget := p_getB (n1.rdb (by simp; omega)) (by simp; omega)
    have HR5 := Lib.hid (HR3.out.next hk5')
    have HK5 := Lib.hid (HK3.out.trans hk5' (by simp))
    have HG := Lib.hid hget
    clear hr5 hk5 n1 n2 n3 hk5' hget HR4 HK4 HRW4 HR3 HK3 HRD hg4 hg5 HCS
    go_wp2_with fail
    refine HG.out.mono ?_
    rintro e w6 ⟨hk6, hif⟩
    rw [if_neg HML.out] at hif
    subst hif
    have hk6' : Keep [] w5 (w6.alloc (.cells #[.string ⟨#[]⟩, .int .i64 0, .int .i64 0, .slice none 0 0, .slice none 0 0] 27)) := hk6.trans ((Keep.refl [] w6).alloc _) (by simp)
    have HR6 := Lib.hid (HR5.out.next hk6')
    have HK6 := Lib.hid (HK5.out.trans hk6' (by simp))
    clear hk6 hk6' HR5 HK5 HML HG
    go_wp2_with fail
    generalize hw7 : w6.alloc (.cells #[.string ⟨#[]⟩, .int .i64 0, .int .i64 0, .slice none 0 0, .slice none 0 0] 27) = w7 at *
    clear hw7
    refine (q_num _ _).mono ?_
    rintro e w8 ⟨rfl, rfl⟩
    by_cases hcut : cut < 0
    · go_wp2_with fail
      refine (q_live _).mono ?_
      rintro e w9 ⟨rfl, hk9⟩
      go_wp2_with fail
      go_ret
      exact ⟨rfl, HK6.out.trans hk9 (by simp)⟩
    · by_cases hge : (L.length : Int) ≤ cut
      · go_wp2_with fail
        refine (q_live _).mono ?_
        rintro e w9 ⟨rfl, hk9⟩
        go_wp2_with fail
        go_ret
        exact ⟨rfl, HK6.out.trans hk9 (by simp)⟩
      · obtain ⟨k, rfl⟩ : ∃ k : Nat, cut = (k : Int) := ⟨cut.toNat, by omega⟩
        have hk : k < L.length := by omega
        obtain ⟨hsl, hrs⟩ := rdB_hi HR6.out hk
        have hget := p_getB hrs (by simp; omega)
        have HG := Lib.hid hget
        have hno := get_none (HMC.out k hk)
        have HN := Lib.hid hno
        clear hget hrs hno hk
        go_wp2_with fail
        refine HG.out.mono ?_
        rintro e w9 ⟨hk9, hif⟩
        rw [if_neg HN.out] at hif
        subst hif
        have HK10 := Lib.hid ((HK6.out.trans hk9 (by simp)).trans ((Keep.refl [] w9).alloc (.cells #[.string ⟨#[]⟩, .int .i64 0, .int .i64 0, .slice none 0 0, .slice none 0 0] 27)) (by simp))
        have hb10 := heap_new w9 (.cells #[.string ⟨#[]⟩, .int .i64 0, .int .i64 0, .slice none 0 0, .slice none 0 0] 27)
        have HB10 := Lib.hid hb10
        clear hk9 hb10 HG HN hsl
        go_wp2_with fail
        generalize hw10 : w9.alloc (.cells #[.string ⟨#[]⟩, .int .i64 0, .int .i64 0, .slice none 0 0, .slice none 0 0] 27) = w10 at *
        clear hw10
        refine (q_num _ _).mono ?_
        rintro e w11 ⟨rfl, rfl⟩
        obtain ⟨z0, z1, z2, z3, z4⟩ := cells5 HB10.out
        go_wp2_with fail
        refine (same_zero _).mono ?_
        rintro e w11 ⟨rfl, hk11⟩
        go_wp2_with fail
        refine (q_live _).mono ?_
        rintro e w12 ⟨rfl, hk12⟩
        go_wp2_with fail
        go_ret
        exact ⟨rfl, (HK10.out.trans hk11 (by simp)).trans hk12 (by simp)⟩
end Go.Proofs.Ytngepgnmlpinaaa
