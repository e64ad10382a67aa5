/- The walk of ExtentWhole. -/
import Derived.Test.YtlfhnbdeadiedaaExtLaws2
import Derived.Test.YtlfhnbdeadiedaaBaseApp
namespace Go.Proofs.Ytlfhnbdeadiedaa
open Go.RowKit Go.Emb Go.Lib Go.Emb.Ext Go.Shelf Go.Sort

/-- two lists, one behind the other, in a new row -/
theorem has_append {w : World} {f u : List E} {v : Value} {n : Nat} {o : Option Nat} (h : Row w 36 2 v n ([] ++ f.flatMap encE ++ u.flatMap encE) o) (hn : n = (f ++ u).length) : HasE w v (f ++ u) := by
  subst hn
  refine RowE.has (o := o) ?_
  unfold RowE
  simpa using h

set_option maxRecDepth 100000 in
set_option maxHeartbeats 2000000 in
theorem whole_row {w : World} {v : Value} {used : List E} (blocks : Int) (_ : -9223372036854775808 ≤ blocks ∧ blocks ≤ 9223372036854775807) (hr : HasE w v used) (n : Int) (_ : -9223372036854775808 ≤ n ∧ n ≤ 9223372036854775807) (most : Int) (hmost : -9223372036854775808 ≤ most ∧ most ≤ 9223372036854775807) :
    Calls Try.prog 4 #[.int .i64 blocks, v, .int .i64 n, .int .i64 most] w fun e w' => e = .returned (.bool true) ∧ Keep [] w w' := by
  obtain ⟨a, c, rfl⟩ := hr.slice
  obtain ⟨i0, hi, hz0, hz1, hz2⟩ := info_parts ext_info
  have HI := Lib.hid hi
  have HR := Lib.hid hr
  clear hr hi
  by_cases h60 : 60 < used.length
  · have h60' : (60 : Int) < (used.length : Int) := by omega
    go_enter Try.func4, Try.ntmps4
    go_wp2_with (go_at_call 9; refine (live_any _).mono ?_; rintro e w' ⟨rfl, hk⟩)
    go_ret
    exact ⟨rfl, hk⟩
  have h60' : ¬ (60 : Int) < (used.length : Int) := by omega
  go_enter Try.func4, Try.ntmps4
  go_wp2_with fail
  refine (free_h blocks HR.out (by omega)).mono ?_
  rintro e w1 ⟨vf, F, e1, rfl, hresF, hF, hk1⟩
  have hlF := hresF.len
  have HRESF := Lib.hid hresF
  have HF := Lib.hid hF
  have HR1 := Lib.hid (HR.out.keep hk1)
  have K1 := Lib.hid hk1
  obtain ⟨af, cf, rfl⟩ := HF.out.slice
  by_cases hz : e1 = 0
  · subst hz
    clear hresF hF hk1 HR
    obtain ⟨of, hrf, hbf⟩ := HF.out
    obtain ⟨ou, hru, hbu⟩ := HR1.out
    have HRF := Lib.hid hrf
    have HRU := Lib.hid hru
    clear hrf hru hbf hbu
    go_wp2_with (first | (go_at_call 13; refine (num_any _ _).mono ?_; rintro e w' ⟨rfl, rfl⟩) | (at_builtin; refine wpList_append_rd _ rfl (.tmp 40) (.tmp 41) 22 22 rfl 36 36 i0 _ 2 16 Try.underlying22 Try.underlying22 HI.out hz0 hz1 hz2 rfl g1 off1 F.length cap1 _ rfl hrowA _ rfl used.length _ ou (RdE.keep HRU.out hKA (by simp)) (encE_one _) (by unfold maxLen; omega) (by omega) ?_; intro g2 off2 cap2 wB hrowB hkB hgB; have hKB : Keep [] w1 wB := hKA.trans hkB (fun x hx => .inr (by simp at hx; subst hx; rcases hgA with h | h; exact Nat.le_of_eq h; simp at h; omega))) | (at_builtin; go_loud (refine wpList_append_rd _ rfl (.tmp 38) (.tmp 39) 22 22 rfl 36 36 i0 _ 2 16 Try.underlying22 Try.underlying22 HI.out hz0 hz1 hz2 rfl w1.heap.size 0 0 0 [] rfl (Row.made0 w1 _ _) _ rfl F.length _ of (RdE.keep HRF.out ((Keep.refl [] _).alloc _) (by simp)) (encE_one _) (by unfold maxLen; omega) (by omega) ?_); intro g1 off1 cap1 wA hrowA hkA hgA; have hKA : Keep [] w1 wA := ((Keep.refl [] _).alloc _).trans hkA (fun x hx => .inr (by simp at hx; omega)); simp only [Nat.zero_add] at hrowA))
    have hh := has_append hrowB (by simp)
    have HF2 := Lib.hid (HF.out.keep hKB)
    have HR2 := Lib.hid (HR1.out.keep hKB)
    have K2 := Lib.hid (K1.out.trans hKB (by simp))
    have HH := Lib.hid hh
    clear hh hrowA hkA hgA hKA hrowB hkB hgB hKB HF HR1 K1 HRF HRU
    refine (join_h (l := F ++ used) (by simpa using HH.out) (by simp; omega)).mono ?_
    rintro e w2 ⟨vall, All, e2, rfl, hresA, hA, hk2⟩
    obtain ⟨rfl, rfl, hsum, hFr, hUr, hFp, hFl⟩ := whole_law1 HRESF.out hresA
    have hcF := countE_right hFr
    have hcU := countE_right hUr
    have hcb := countE_bd F
    have hcb2 := countE_bd used
    have hb3 : (countE F + countE used != blocks) = false := by rw [hcF, hcU, hsum]; simp
    have HA3 := Lib.hid hA
    have HF3 := Lib.hid (HF2.out.keep hk2)
    have HR3 := Lib.hid (HR2.out.keep hk2)
    have K3 := Lib.hid (K2.out.trans hk2 (by simp))
    have HFR := Lib.hid hFr
    have HFP := Lib.hid hFp
    clear hresA hA hk2 HF2 HR2 K2 HH hcF hcU hsum hFr hUr hFp
    go_wp2_with (go_at_call 13; refine (num_any _ _).mono ?_; rintro e w' ⟨rfl, rfl⟩)
    refine (extents_t (HA3.out.keep ((Keep.refl [] w2).alloc _)) (has_lit1 _ _ _ _) (by simp) rfl).mono ?_
    rintro e w3 ⟨rfl, hk3⟩
    have k3 : Keep [] w2 w3 := ((Keep.refl [] w2).alloc _).trans hk3 (by simp)
    have HF4 := Lib.hid (HF3.out.keep k3)
    have HR4 := Lib.hid (HR3.out.keep k3)
    have K4 := Lib.hid (K3.out.trans k3 (by simp))
    clear hk3 k3 HF3 HR3 K3 HA3
    go_wp2_with fail
    refine (count_h HF4.out (by omega)).mono ?_
    rintro e w4 ⟨rfl, hk4⟩
    have HF5 := Lib.hid (HF4.out.keep hk4)
    have HR5 := Lib.hid (HR4.out.keep hk4)
    have K5 := Lib.hid (K4.out.trans hk4 (by simp))
    clear hk4 HF4 HR4 K4
    go_wp2_with fail
    refine (count_h HR5.out (by omega)).mono ?_
    rintro e w5 ⟨rfl, hk5⟩
    have HF6 := Lib.hid (HF5.out.keep hk5)
    have K6 := Lib.hid (K5.out.trans hk5 (by simp))
    clear hk5 HF5 HR5 K5
    go_wp2_with fail
    refine (take_h n most HF6.out (by omega) hmost.2).mono ?_
    rintro e w6 ⟨vg, vl, got, left, e3, rfl, hresT, hg, hl, hk6⟩
    obtain ⟨hB, hC, hgl, hll⟩ := whole_law2 HFP.out HFR.out hresT
    have HG := Lib.hid hg
    have HL := Lib.hid hl
    have HF7 := Lib.hid (HF6.out.keep hk6)
    have K7 := Lib.hid (K6.out.trans hk6 (by simp))
    clear hresT hg hl hk6 HF6 K6
    obtain ⟨ag, cg, rfl⟩ := HG.out.slice
    obtain ⟨al, cl, rfl⟩ := HL.out.slice
    by_cases hz3 : e3 = 0
    · subst hz3
      obtain ⟨hagain, hsn, hgr, hgm⟩ := hC rfl
      have hcg := countE_right hgr
      have hcn : (countE got == n) = true := by rw [hcg, hsn]; simp
      have HAG := Lib.hid hagain
      have hle : decide ((got.length : Int) ≤ most) = true := by simpa using hgm
      obtain ⟨og, hrg, -⟩ := HG.out
      obtain ⟨ol, hrl, -⟩ := HL.out
      have HRG := Lib.hid hrg
      have HRL := Lib.hid hrl
      clear hB hC hagain hsn hgr hcg hrg hrl
      go_wp2_with (first | (go_at_call 13; refine (num_any _ _).mono ?_; rintro e w' ⟨rfl, rfl⟩) | (at_builtin; refine wpList_append_rd _ rfl (.tmp 89) (.tmp 90) 22 22 rfl 36 36 i0 _ 2 16 Try.underlying22 Try.underlying22 HI.out hz0 hz1 hz2 rfl g1 off1 got.length cap1 _ rfl hrowA _ rfl left.length _ ol (RdE.keep HRL.out hKA (by simp)) (encE_one _) (by unfold maxLen; omega) (by omega) ?_; intro g2 off2 cap2 wB hrowB hkB hgB; have hKB : Keep [] w6 wB := hKA.trans hkB (fun x hx => .inr (by simp at hx; subst hx; rcases hgA with h | h; exact Nat.le_of_eq h; simp at h; omega))) | (at_builtin; go_loud (refine wpList_append_rd _ rfl (.tmp 87) (.tmp 88) 22 22 rfl 36 36 i0 _ 2 16 Try.underlying22 Try.underlying22 HI.out hz0 hz1 hz2 rfl w6.heap.size 0 0 0 [] rfl (Row.made0 w6 _ _) _ rfl got.length _ og (RdE.keep HRG.out ((Keep.refl [] _).alloc _) (by simp)) (encE_one _) (by unfold maxLen; omega) (by omega) ?_); intro g1 off1 cap1 wA hrowA hkA hgA; have hKA : Keep [] w6 wA := ((Keep.refl [] _).alloc _).trans hkA (fun x hx => .inr (by simp at hx; omega)); simp only [Nat.zero_add] at hrowA))
      have hh := has_append hrowB (by simp)
      have HF8 := Lib.hid (HF7.out.keep hKB)
      have HG8 := Lib.hid (HG.out.keep hKB)
      have K8 := Lib.hid (K7.out.trans hKB (by simp))
      have HH := Lib.hid hh
      clear hh hrowA hkA hgA hKA hrowB hkB hgB hKB HF7 HG HL K7 HRG HRL
      refine (join_h (l := got ++ left) (by simpa using HH.out) (by simp; omega)).mono ?_
      rintro e w7 ⟨vag, Again, e4, rfl, hresAg, hAg, hk7⟩
      obtain ⟨rfl, rfl⟩ := HAG.out _ _ hresAg
      have HAg := Lib.hid hAg
      have HF9 := Lib.hid (HF8.out.keep hk7)
      have HG9 := Lib.hid (HG8.out.keep hk7)
      have K9 := Lib.hid (K8.out.trans hk7 (by simp))
      clear hresAg hAg hk7 HF8 HG8 K8 HH HAG
      go_wp2_with (go_at_call 13; refine (num_any _ _).mono ?_; rintro e w' ⟨rfl, rfl⟩)
      refine (extents_t HAg.out HF9.out (by omega) rfl).mono ?_
      rintro e w8 ⟨rfl, hk8⟩
      have HG10 := Lib.hid (HG9.out.keep hk8)
      have K10 := Lib.hid (K9.out.trans hk8 (by simp))
      clear hk8 HF9 HG9 K9 HAg
      go_wp2_with fail
      refine (count_h HG10.out (by omega)).mono ?_
      rintro e w9 ⟨rfl, hk9⟩
      have K11 := Lib.hid (K10.out.trans hk9 (by simp))
      clear hk9 HG10 K10
      go_wp2_with fail
      refine (live_any _).mono ?_
      rintro e w10 ⟨rfl, hk10⟩
      go_wp2_with fail
      go_ret
      exact ⟨rfl, K11.out.trans hk10 (by simp)⟩
    · obtain ⟨rfl, rfl⟩ := hB hz3
      have hneb : (e3 != 0) = true := by simp [hz3]
      clear hB hC hz3
      go_wp2_with (go_at_call 13; refine (num_any _ _).mono ?_; rintro e w' ⟨rfl, rfl⟩)
      refine (live_any _).mono ?_
      rintro e w9 ⟨rfl, hk9⟩
      go_wp2_with fail
      go_ret
      exact ⟨rfl, K7.out.trans hk9 (by simp)⟩
  · obtain rfl := hresF.nil hz
    have hneb : (e1 != 0) = true := by simp [hz]
    clear hresF hF hk1 HR hz
    go_wp2_with (go_at_call 13; refine (num_any _ _).mono ?_; rintro e w' ⟨rfl, rfl⟩)
    refine (live_any _).mono ?_
    rintro e w9 ⟨rfl, hk9⟩
    go_wp2_with fail
    go_ret
    exact ⟨rfl, K1.out.trans hk9 (by simp)⟩
end Go.Proofs.Ytlfhnbdeadiedaa
