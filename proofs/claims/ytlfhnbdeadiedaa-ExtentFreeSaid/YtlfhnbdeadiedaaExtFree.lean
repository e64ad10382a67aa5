/- The walk of ExtentFree. -/
import Derived.Test.YtlfhnbdeadiedaaExtR6
import Derived.Test.YtlfhnbdeadiedaaExtRHas
namespace Go.Proofs.Ytlfhnbdeadiedaa
open Go.RowKit Go.Emb Go.Lib Go.Emb.Ext Go.Shelf Go.Sort

set_option maxHeartbeats 4000000 in
theorem free_row {w : World} {v : Value} {l : List E} (blocks : Int) (_ : -9223372036854775808 ≤ blocks ∧ blocks ≤ 9223372036854775807) (hr : HasE w v l) (n : Int) (hn : -9223372036854775808 ≤ n ∧ n ≤ 9223372036854775807) (bytes : Int) (hb : -9223372036854775808 ≤ bytes ∧ bytes ≤ 9223372036854775807) (room : Int) (hrm : -9223372036854775808 ≤ room ∧ room ≤ 9223372036854775807) :
    Calls Try.prog 7 #[.int .i64 blocks, v, .int .i64 n, .int .i64 bytes, .int .i64 room] w fun e w' => e = .returned (.bool true) ∧ Keep [] w w' := by
  obtain ⟨a, c, rfl⟩ := hr.slice
  obtain ⟨i0, hi, hz0, hz1, hz2⟩ := info_parts ext_info
  have HI := Lib.hid hi
  have HR := Lib.hid hr
  clear hr hi
  by_cases h60 : 60 < l.length
  · have h60' : (60 : Int) < (l.length : Int) := by omega
    go_enter Try.func7, Try.ntmps7
    go_wp2_with (go_at_call 9; refine (live_any _).mono ?_; rintro e w' ⟨rfl, hk⟩)
    go_ret
    exact ⟨rfl, hk⟩
  have h60' : ¬ (60 : Int) < (l.length : Int) := by omega
  obtain ⟨ol, hrl, -⟩ := HR.out
  have HRL := Lib.hid hrl
  clear hrl
  go_enter Try.func7, Try.ntmps7
  go_wp2_with (at_builtin; refine wpList_append_rd _ rfl (.tmp 24) (.tmp 25) 22 22 rfl 36 36 i0 _ 2 16 Try.underlying22 Try.underlying22 HI.out hz0 hz1 hz2 rfl w.heap.size 0 0 0 [] rfl (Row.made0 w _ _) _ rfl l.length _ ol (RdE.keep HRL.out ((Keep.refl [] _).alloc _) (by simp)) (encE_one _) (by unfold maxLen; omega) (by omega) ?_; intro g1 off1 cap1 wA hrowA hkA hgA; simp only [Nat.zero_add, List.nil_append] at hrowA)
  have hKA : Keep [] w wA := ((Keep.refl [] _).alloc _).trans hkA (fun x hx => .inr (by simp at hx; omega))
  have hhA : HasE wA (.slice (some ⟨g1, off1, none⟩) l.length cap1) l := RowE.has (o := some g1) hrowA
  have HHA := Lib.hid hhA
  have HR1 := Lib.hid (HR.out.keep hKA)
  have K1 := Lib.hid hKA
  clear hhA hrowA hkA hgA hKA HR HRL
  refine (join_h HHA.out (by omega)).mono ?_
  rintro e w2 ⟨vj, js, e2, rfl, hres, hg, hk2⟩
  have HRES := Lib.hid hres
  have HJ := Lib.hid hg
  have HR2 := Lib.hid (HR1.out.keep hk2)
  have K2 := Lib.hid (K1.out.trans hk2 (by simp))
  clear hres hg hk2 HHA HR1 K1
  go_wp2_with fail
  refine (r_join HR2.out (by omega)).mono ?_
  rintro e w3 ⟨vj', js', e3, rfl, hres3, hg3, hk3⟩
  obtain ⟨rfl, rfl⟩ := HRES.out.uniq hres3
  have hlj := HRES.out.len
  have HJ3 := Lib.hid (HJ.out.keep hk3)
  have HJ4 := Lib.hid hg3
  have HR3 := Lib.hid (HR2.out.keep hk3)
  have K3 := Lib.hid (K2.out.trans hk3 (by simp))
  have hself : (e2 == e2) = true := by simp
  clear hres3 hg3 hk3 HJ K2 HR2 HRES
  obtain ⟨ol3, hrl3, -⟩ := HR3.out
  have HRL3 := Lib.hid hrl3
  clear hrl3
  go_wp2_with (at_builtin; refine wpList_append_rd _ rfl (.tmp 37) (.tmp 38) 22 22 rfl 36 36 i0 _ 2 16 Try.underlying22 Try.underlying22 HI.out hz0 hz1 hz2 rfl w3.heap.size 0 0 0 [] rfl (Row.made0 w3 _ _) _ rfl l.length _ ol3 (RdE.keep HRL3.out ((Keep.refl [] _).alloc _) (by simp)) (encE_one _) (by unfold maxLen; omega) (by omega) ?_; intro g2 off2 cap2 wB hrowB hkB hgB; simp only [Nat.zero_add, List.nil_append] at hrowB)
  have hKB : Keep [] w3 wB := ((Keep.refl [] _).alloc _).trans hkB (fun x hx => .inr (by simp at hx; omega))
  have hhB : HasE wB (.slice (some ⟨g2, off2, none⟩) l.length cap2) l := RowE.has (o := some g2) hrowB
  have HHB := Lib.hid hhB
  have HR4 := Lib.hid (HR3.out.keep hKB)
  have HJ5 := Lib.hid (HJ3.out.keep hKB)
  have HJ6 := Lib.hid (HJ4.out.keep hKB)
  have K4 := Lib.hid (K3.out.trans hKB (by simp))
  clear hhB hrowB hkB hgB hKB HR3 HRL3 HJ3 HJ4 K3
  refine (free_h blocks HHB.out (by omega)).mono ?_
  rintro e w5 ⟨vf, fs, e5, rfl, hres, hg, hk5⟩
  have HRES := Lib.hid hres
  have HF := Lib.hid hg
  have HR5 := Lib.hid (HR4.out.keep hk5)
  have HJ7 := Lib.hid (HJ5.out.keep hk5)
  have HJ8 := Lib.hid (HJ6.out.keep hk5)
  have K5 := Lib.hid (K4.out.trans hk5 (by simp))
  clear hres hg hk5 HHB HR4 K4 HJ5 HJ6
  go_wp2_with fail
  refine (r_free blocks HR5.out (by omega)).mono ?_
  rintro e w6 ⟨vf', fs', e6, rfl, hres6, hg6, hk6⟩
  obtain ⟨rfl, rfl⟩ := HRES.out.uniq hres6
  have hlf := HRES.out.len
  have HF1 := Lib.hid (HF.out.keep hk6)
  have HF2 := Lib.hid hg6
  have HR6 := Lib.hid (HR5.out.keep hk6)
  have HJ9 := Lib.hid (HJ7.out.keep hk6)
  have HJ10 := Lib.hid (HJ8.out.keep hk6)
  have K6 := Lib.hid (K5.out.trans hk6 (by simp))
  have hself2 : (e5 == e5) = true := by simp
  clear hres6 hg6 hk6 HF K5 HR5 HRES HJ7 HJ8
  go_wp2_with fail
  refine (extents_t HJ9.out HJ10.out (by omega) rfl).mono ?_
  rintro e w7 ⟨rfl, hk7⟩
  have HF3 := Lib.hid (HF1.out.keep hk7)
  have HF4 := Lib.hid (HF2.out.keep hk7)
  have HR7 := Lib.hid (HR6.out.keep hk7)
  have K7 := Lib.hid (K6.out.trans hk7 (by simp))
  clear hk7 HF1 HF2 K6 HR6 HJ9 HJ10
  go_wp2_with (go_at_call 13; refine (num_any _ _).mono ?_; rintro e w' ⟨rfl, rfl⟩)
  refine (extents_t HF3.out HF4.out (by omega) rfl).mono ?_
  rintro e w8 ⟨rfl, hk8⟩
  have HR8 := Lib.hid (HR7.out.keep hk8)
  have K8 := Lib.hid (K7.out.trans hk8 (by simp))
  clear hk8 HF3 HF4 K7 HR7
  go_wp2_with (go_at_call 13; refine (num_any _ _).mono ?_; rintro e w' ⟨rfl, rfl⟩)
  have hselfC : (countE l == countE l) = true := by simp
  refine (count_h HR8.out (by omega)).mono ?_
  rintro e w9 ⟨rfl, hk9⟩
  have HR9 := Lib.hid (HR8.out.keep hk9)
  have K9 := Lib.hid (K8.out.trans hk9 (by simp))
  clear hk9 K8 HR8
  go_wp2_with fail
  refine (r_count HR9.out (by omega)).mono ?_
  rintro e w10 ⟨rfl, hk10⟩
  have HR10 := Lib.hid (HR9.out.keep hk10)
  have K10 := Lib.hid (K9.out.trans hk10 (by simp))
  clear hk10 K9 HR9
  go_wp2_with fail
  refine (has_h HR10.out (by omega) n hn.1 hn.2).mono ?_
  rintro e w11 ⟨rfl, hk11⟩
  have HR11 := Lib.hid (HR10.out.keep hk11)
  have K11 := Lib.hid (K10.out.trans hk11 (by simp))
  clear hk11 K10 HR10
  go_wp2_with fail
  refine (r_has HR11.out (by omega) n hn.1 hn.2).mono ?_
  rintro e w12 ⟨rfl, hk12⟩
  have K12 := Lib.hid (K11.out.trans hk12 (by simp))
  have hselfH : (l.any (hasE n) == l.any (hasE n)) = true := by simp
  have hselfN : (needE bytes room == needE bytes room) = true := by simp
  clear hk12 K11 HR11
  go_wp2_with (first | (go_at_call 22; refine (need_any _ _ _ hb.2 hrm.2).mono ?_; rintro e w' ⟨rfl, rfl⟩) | (go_at_call 23; refine (r_need _ _ _ hb.2 hrm.2).mono ?_; rintro e w' ⟨rfl, rfl⟩) | (go_at_call 9; refine (live_any _).mono ?_; rintro e w' ⟨rfl, hk⟩))
  go_ret
  exact ⟨rfl, K12.out.trans hk (by simp)⟩
end Go.Proofs.Ytlfhnbdeadiedaa
