/- The walk of ExtentTakes. -/
import Derived.Test.YtlfhnbdeadiedaaExtR5
namespace Go.Emb.Ext
theorem TakeRes.uniq {n most : Int} {l g g' r r' : List E} {e e' : Int} (h : TakeRes n most l g r e) (h' : TakeRes n most l g' r' e') : g = g' ∧ r = r' ∧ e = e' := by
  rcases h with ⟨h0, h1, h2, h3⟩ | ⟨h0, a, e1, hj, h⟩ <;> rcases h' with ⟨k0, k1, k2, k3⟩ | ⟨k0, a', e1', hj', h'⟩
  · exact ⟨by rw [h2, k2], by rw [h3, k3], by rw [h1, k1]⟩
  · omega
  · omega
  · obtain ⟨rfl, rfl⟩ := hj.uniq hj'
    rcases h with ⟨h1, h2, h3, h4⟩ | ⟨h1, h2, h3, h4, h5⟩ | ⟨h1, h2, gg, h3, _, h4⟩ <;> rcases h' with ⟨k1, k2, k3, k4⟩ | ⟨k1, k2, k3, k4, k5⟩ | ⟨k1, k2, gg', k3, _, k4⟩
    · exact ⟨by rw [h3, k3], by rw [h4, k4], by rw [h2, k2]⟩
    · exact absurd k1 h1
    · exact absurd k1 h1
    · exact absurd h1 k1
    · exact ⟨by rw [h4, k4], by rw [h5, k5], by rw [h3, k3]⟩
    · rw [k3] at h2
      rcases h2 with h2 | ⟨_, h2⟩
      · omega
      · cases h2
    · exact absurd h1 k1
    · rw [h3] at k2
      rcases k2 with k2 | ⟨_, k2⟩
      · omega
      · cases k2
    · rw [h3] at k3
      cases k3
      obtain ⟨r1, r2⟩ := h4.uniq k4
      exact ⟨r1, rfl, r2⟩
theorem TakeRes.len {n most : Int} {l g r : List E} {e : Int} (h : TakeRes n most l g r e) : g.length ≤ 16384 ∧ r.length ≤ 16384 := by
  rcases h with ⟨_, _, rfl, rfl⟩ | ⟨h0, a, e1, hj, h⟩
  · simp
  · by_cases he : e1 = 0
    · subst he
      obtain ⟨_, hok, har⟩ := hj.ok
      have hja : JoinRes a a 0 := JoinRes.of har hok.plain.disj hok.plain (fun _ => Iff.rfl)
      have := whole_law2 hok.plain har (.inr ⟨h0, a, 0, hja, h⟩)
      exact this.2.2
    · rcases h with ⟨_, _, rfl, rfl⟩ | ⟨h1, _⟩ | ⟨h1, _⟩
      · simp
      · exact absurd h1 he
      · exact absurd h1 he
end Go.Emb.Ext
namespace Go.Proofs.Ytlfhnbdeadiedaa
open Go.RowKit Go.Emb Go.Lib Go.Emb.Ext Go.Shelf Go.Sort

set_option maxHeartbeats 1000000 in
theorem takes_row {w : World} {v : Value} {l : List E} (n : Int) (_ : -9223372036854775808 ≤ n ∧ n ≤ 9223372036854775807) (most : Int) (hmost : -9223372036854775808 ≤ most ∧ most ≤ 9223372036854775807) (hr : HasE w v l) :
    Calls Try.prog 3 #[.int .i64 n, .int .i64 most, v] w fun e w' => e = .returned (.bool true) ∧ Keep [] w w' := by
  obtain ⟨a, c, rfl⟩ := hr.slice
  obtain ⟨i0, hi, hz0, hz1, hz2⟩ := info_parts ext_info
  have HI := Lib.hid hi
  have HR := Lib.hid hr
  clear hr hi
  by_cases h60 : 60 < l.length
  · have h60' : (60 : Int) < (l.length : Int) := by omega
    go_enter Try.func3, Try.ntmps3
    go_wp2_with (go_at_call 9; refine (live_any _).mono ?_; rintro e w' ⟨rfl, hk⟩)
    go_ret
    exact ⟨rfl, hk⟩
  have h60' : ¬ (60 : Int) < (l.length : Int) := by omega
  obtain ⟨ol, hrl, -⟩ := HR.out
  have HRL := Lib.hid hrl
  clear hrl
  go_enter Try.func3, Try.ntmps3
  go_wp2_with (at_builtin; refine wpList_append_rd _ rfl (.tmp 20) (.tmp 21) 22 22 rfl 36 36 i0 _ 2 16 Try.underlying22 Try.underlying22 HI.out hz0 hz1 hz2 rfl w.heap.size 0 0 0 [] rfl (Row.made0 w _ _) _ rfl l.length _ ol (RdE.keep HRL.out ((Keep.refl [] _).alloc _) (by simp)) (encE_one _) (by unfold maxLen; omega) (by omega) ?_; intro g1 off1 cap1 wA hrowA hkA hgA; simp only [Nat.zero_add, List.nil_append] at hrowA)
  have hKA : Keep [] w wA := ((Keep.refl [] _).alloc _).trans hkA (fun x hx => .inr (by simp at hx; omega))
  have hhA : HasE wA (.slice (some ⟨g1, off1, none⟩) l.length cap1) l := RowE.has (o := some g1) hrowA
  have HHA := Lib.hid hhA
  have HR1 := Lib.hid (HR.out.keep hKA)
  have K1 := Lib.hid hKA
  clear hhA hrowA hkA hgA hKA HR HRL
  refine (take_h n most HHA.out (by omega) hmost.2).mono ?_
  rintro e w2 ⟨vg, vl, got, left, e2, rfl, hres, hg, hl, hk2⟩
  have HRES := Lib.hid hres
  have HG := Lib.hid hg
  have HL := Lib.hid hl
  have HR2 := Lib.hid (HR1.out.keep hk2)
  have K2 := Lib.hid (K1.out.trans hk2 (by simp))
  clear hres hg hl hk2 HHA HR1 K1
  go_wp2_with fail
  refine (r_take n most HR2.out (by omega) hmost.2).mono ?_
  rintro e w3 ⟨vg', vl', got', left', e3, rfl, hres3, hg3, hl3, hk3⟩
  obtain ⟨rfl, rfl, rfl⟩ := HRES.out.uniq hres3
  obtain ⟨hlg, hll⟩ := HRES.out.len
  have HG3 := Lib.hid (HG.out.keep hk3)
  have HL3 := Lib.hid (HL.out.keep hk3)
  have HG4 := Lib.hid hg3
  have HL4 := Lib.hid hl3
  have K3 := Lib.hid (K2.out.trans hk3 (by simp))
  have hself : (e2 == e2) = true := by simp
  clear hres3 hg3 hl3 hk3 HG HL K2 HR2 HRES
  go_wp2_with fail
  refine (extents_t HG3.out HG4.out (by omega) rfl).mono ?_
  rintro e w4 ⟨rfl, hk4⟩
  have HL5 := Lib.hid (HL3.out.keep hk4)
  have HL6 := Lib.hid (HL4.out.keep hk4)
  have K4 := Lib.hid (K3.out.trans hk4 (by simp))
  clear hk4 HL3 HL4 K3 HG3 HG4
  go_wp2_with fail
  refine (extents_t HL5.out HL6.out (by omega) rfl).mono ?_
  rintro e w5 ⟨rfl, hk5⟩
  have K5 := Lib.hid (K4.out.trans hk5 (by simp))
  clear hk5 HL5 HL6 K4
  go_wp2_with (first | (go_at_call 13; refine (num_any _ _).mono ?_; rintro e w' ⟨rfl, rfl⟩) | (go_at_call 9; refine (live_any _).mono ?_; rintro e w' ⟨rfl, hk⟩))
  go_ret
  exact ⟨rfl, K5.out.trans hk (by simp)⟩
end Go.Proofs.Ytlfhnbdeadiedaa
