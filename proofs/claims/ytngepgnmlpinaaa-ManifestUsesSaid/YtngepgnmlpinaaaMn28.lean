/- live. -/
import Derived.Test.YtngepgnmlpinaaaMn27
namespace Go.Proofs.Ytngepgnmlpinaaa
open Go.RowKit Go.Emb Go.Emb.Ext

theorem JoinRes.one {l a out : List E} {e : Int} (hs : l.Pairwise (fun x y => x.1 ≤ y.1)) (hr : ∀ x ∈ l, right x = true) (hj : joinS l = some out) (h : JoinRes l a e) : e = 0 ∧ a = out := by
  have hok := joinS_some hs (List.Perm.refl _) (fun x hx => ((right_iff x).1 (hr x hx)).2.2.1) hj
  rcases h with ⟨_, _, x, hx, hn⟩ | ⟨_, _, _, hd⟩ | ⟨h0, _, hok2, _⟩
  · rw [hr x hx] at hn; cases hn
  · exact absurd hok.disj hd
  · exact ⟨h0, hok2.uniq hok (fun _ => Iff.rfl)⟩
def manLive : MnV := ⟨⟨#[109, 97, 105, 110]⟩, (2, 4), .slice none 0 0, [], .slice none 0 0, []⟩
theorem rdLive (w : World) : RdM w.heap.size w manLive :=
  ⟨by show 4 ≤ 140737488355328; omega, ⟨⟨by simp [manLive], by simp [manLive]⟩, ⟨by simp [manLive], by simp [manLive]⟩⟩, ⟨⟨none, ⟨rfl, none, 0, rfl, Nat.le_refl _, by simp, .inl ⟨rfl, rfl⟩⟩, by simp⟩, by simp [manLive]⟩, ⟨⟨none, ⟨rfl, none, 0, rfl, Nat.le_refl _, by simp, .inl ⟨rfl, rfl⟩⟩, by simp⟩, by simp [manLive], by simp [manLive]⟩⟩
theorem manLive_bytes : manL manLive.man = [1, 4, 109, 97, 105, 110, 1, 2, 1, 4, 0, 0] := by decide
theorem manOk_live : ManOk manLive.man := by
  refine ⟨by decide, ⟨⟨by decide, by decide⟩, ⟨by decide, by decide⟩⟩, by decide, by decide, fun p hp => by cases hp⟩
theorem live_back : (oMan [1, 4, 109, 97, 105, 110, 1, 2, 1, 4, 0, 0]).2 = some [] ∧ (oMan [1, 4, 109, 97, 105, 110, 1, 2, 1, 4, 0, 0]).1 = manLive.man := by
  have h := pMan_man _ manOk_live
  rw [manLive_bytes, pMan_oMan] at h
  split at h
  · rename_i h1
    exact ⟨h1, by simpa using h⟩
  · cases h
theorem live_nil : (oMan []).2 ≠ some [] := by decide
theorem okLive : OkM 16 64 manLive.area manLive.places := by
  refine ⟨by decide, by decide, by decide, fun x hx => ?_, fun x hx => ?_, ?_, trivial⟩
  · simp [manLive, allL] at hx; subst hx; decide
  · simp [manLive, allL] at hx; subst hx; decide
  · simp [manLive, allL, Disj]
set_option maxRecDepth 100000 in
set_option maxHeartbeats 4000000 in
theorem q_live (w : World) : Calls Try.prog 9 #[] w fun e w' => e = .returned (.bool true) ∧ Keep [] w w' := by
  have hk1 : Keep [] w (w.alloc (.cells #[.string ⟨#[109, 97, 105, 110]⟩, .int .i64 2, .int .i64 4, .slice none 0 0, .slice none 0 0] 27)) := (Keep.refl [] w).alloc _
  have hb1 := heap_new w (.cells #[.string ⟨#[109, 97, 105, 110]⟩, .int .i64 2, .int .i64 4, .slice none 0 0, .slice none 0 0] 27)
  obtain ⟨m0, m1, m2, m3, m4⟩ := cells5 hb1
  have hput := fun W => p_put (rdLive W) (by rw [manLive_bytes]; simp)
  unfold aggM manLive at hput
  simp only at hput
  have HP := Lib.hid hput
  have HK1 := Lib.hid hk1
  have HB1 := Lib.hid hb1
  clear hput hk1 hb1
  go_enter Try.func9, Try.ntmps9
  go_wp2_with fail
  generalize w.alloc (.cells #[.string ⟨#[109, 97, 105, 110]⟩, .int .i64 2, .int .i64 4, .slice none 0 0, .slice none 0 0] 27) = w1 at *
  refine (HP.out _).mono ?_
  rintro e w2 ⟨v, o, rfl, hr, ho, hk2⟩
  clear m0 m1 m2 m3 m4
  have hr' : RB w2 v [1, 4, 109, 97, 105, 110, 1, 2, 1, 4, 0, 0] o := by rw [← manLive_bytes]; exact hr
  obtain ⟨o', hrd, ho'⟩ := hr'.rd
  have hlt : ∀ b, o' = some b → b < w2.heap.size := fun b hb => by
    rcases ho' with h | h
    · rw [h] at hb; cases hb
    · exact hr'.lt b (h ▸ hb)
  have hget := p_get hrd hlt (by simp)
  have HG := Lib.hid hget
  have HRD := Lib.hid hrd
  have HK2 := Lib.hid (HK1.out.trans hk2 (by simp))
  have HB2 := Lib.hid (blk_keep HB1.out hk2 (by simp))
  obtain ⟨-, va, vc, hv, -, -, -⟩ := id hrd
  subst hv
  clear hr hr' ho hk2 hrd ho' hlt hget HP HK1 HB1
  go_wp2_with fail
  refine HG.out.mono ?_
  rintro e w3 ⟨hk3, hif⟩
  rw [if_pos live_back.1] at hif
  obtain ⟨x, rfl, hx, hxr⟩ := hif
  rw [live_back.2] at hx
  obtain ⟨⟨ra, rc, hrv, -, -⟩, pa, pc, hpv, -, -⟩ := hxr.forms
  obtain ⟨xs, xe, xrv, xl, xpv, xps⟩ := x
  simp only at hrv hpv
  subst hrv hpv
  unfold aggM
  simp only
  have hb3 := heap_new w3 (.cells #[.string xs, .int .i64 xe.1, .int .i64 xe.2, .slice ra xl.length rc, .slice pa xps.length pc] 27)
  have hk3' : Keep [] w3 (w3.alloc (.cells #[.string xs, .int .i64 xe.1, .int .i64 xe.2, .slice ra xl.length rc, .slice pa xps.length pc] 27)) := (Keep.refl [] w3).alloc _
  have HX := Lib.hid hx
  have HXR := Lib.hid (hxr.next hk3')
  have HB3 := Lib.hid hb3
  have HB2' := Lib.hid (blk_keep HB2.out (hk3.trans hk3' (by simp)) (by simp))
  have HRD3 := Lib.hid (HRD.out.keep0 (hk3.trans hk3' (by simp)))
  have HK3 := Lib.hid ((HK2.out.trans hk3 (by simp)).trans hk3' (by simp))
  clear hx hxr hb3 hk3 hk3' HB2 HRD HK2 HG
  go_wp2_with fail
  generalize hw4 : w3.alloc (.cells #[.string xs, .int .i64 xe.1, .int .i64 xe.2, .slice ra xl.length rc, .slice pa xps.length pc] 27) = w4 at *
  clear hw4
  have hget2 := p_get (w := w4) (v := .slice none 0 0) (bs := []) (o := none) ⟨rfl, none, 0, rfl, Nat.le_refl _, by simp, .inl ⟨rfl, rfl⟩⟩ (by simp) (by simp)
  refine hget2.mono ?_
  rintro e w5 ⟨hk5, hif⟩
  rw [if_neg live_nil] at hif
  subst hif
  have hk5' : Keep [] w5 (w5.alloc (.cells #[.string ⟨#[]⟩, .int .i64 0, .int .i64 0, .slice none 0 0, .slice none 0 0] 27)) := (Keep.refl [] w5).alloc _
  have HB5 := Lib.hid (blk_keep HB3.out (hk5.trans hk5' (by simp)) (by simp))
  have HB5' := Lib.hid (blk_keep HB2'.out (hk5.trans hk5' (by simp)) (by simp))
  have hcv := rd_text (P := Try.prog) (src := 24) (e := 5) (dst := 9) (HRD3.out.keep0 (hk5.trans hk5' (by simp))) Try.underlying24 Try.underlying5 Try.underlying9
  have hcv2 : (convert 24 9 (.slice va 12 vc)).run Try.prog (w5.alloc (.cells #[.string ⟨#[]⟩, .int .i64 0, .int .i64 0, .slice none 0 0, .slice none 0 0] 27)) = .ok (.string ⟨#[1, 4, 109, 97, 105, 110, 1, 2, 1, 4, 0, 0]⟩) (w5.alloc (.cells #[.string ⟨#[]⟩, .int .i64 0, .int .i64 0, .slice none 0 0, .slice none 0 0] 27)) := hcv
  clear hcv
  have HXR5 := Lib.hid (HXR.out.next (hk5.trans hk5' (by simp)))
  have HK5 := Lib.hid ((HK3.out.trans hk5 (by simp)).trans hk5' (by simp))
  clear hk5 hk5' hget2 HB3 HB2' HRD3 HXR HK3
  go_wp2_with fail
  generalize hw6 : w5.alloc (.cells #[.string ⟨#[]⟩, .int .i64 0, .int .i64 0, .slice none 0 0, .slice none 0 0] 27) = w6 at *
  clear hw6
  refine (q_num 0 w6).mono ?_
  rintro e w7 ⟨rfl, rfl⟩
  obtain ⟨m0, m1, m2, m3, m4⟩ := cells5 HB5.out
  obtain ⟨n0, n1, n2, n3, n4⟩ := cells5 HB5'.out
  have hsx : SmallV ⟨xs, xe, .slice ra xl.length rc, xl, .slice pa xps.length pc, xps⟩ := fun y hy => by
    have h1 := congrArg (fun m : Man => m.places.length) HX.out
    simp [MnV.man, manLive] at h1
    rw [h1] at hy; cases hy
  have hsame := r_same HXR5.out (rdLive w6) hsx (fun y hy => by cases hy)
  rw [HX.out, (manB_iff _ _).2 rfl] at hsame
  unfold aggM manLive at hsame
  simp only at hsame
  have HS := Lib.hid hsame
  clear hsame hsx hcv2
  go_wp2_with fail
  refine HS.out.mono ?_
  rintro e w7 ⟨rfl, hk7⟩
  have HB7 := Lib.hid (blk_keep HB5'.out hk7 (by simp))
  have HK7 := Lib.hid (HK5.out.trans hk7 (by simp))
  clear hk7 HS m0 m1 m2 m3 m4 n0 n1 n2 n3 n4 HB5 HB5' HK5 HXR5 HX
  go_wp2_with fail
  refine (q_num 230 w7).mono ?_
  rintro e w8 ⟨rfl, rfl⟩
  obtain ⟨n0, n1, n2, n3, n4⟩ := cells5 HB7.out
  have hchk := p_check (blocks := 16) (size := 64) (rdLive w7) (by simp [manLive, allL]) (by omega) (by omega)
  unfold aggM at hchk
  have HC := Lib.hid hchk
  clear hchk
  go_wp2_with fail
  refine HC.out.mono ?_
  rintro e w8 ⟨r, rfl, hr, hk8⟩
  have hr0 : r = 0 := by
    rcases hr with ⟨h, -⟩ | ⟨-, h⟩
    · exact h
    · exact absurd okLive h
  subst hr0
  have HB8 := Lib.hid (blk_keep HB7.out hk8 (by simp))
  have HK8 := Lib.hid (HK7.out.trans hk8 (by simp))
  clear hr hk8 n0 n1 n2 n3 n4 HB7 HK7 HC
  go_wp2_with fail
  refine (q_num 0 w8).mono ?_
  rintro e w9 ⟨rfl, rfl⟩
  obtain ⟨n0, n1, n2, n3, n4⟩ := cells5 HB8.out
  have hus := p_used (rdLive w8) (by simp [manLive, allL])
  unfold aggM at hus
  have HU := Lib.hid hus
  clear hus
  go_wp2_with fail
  refine HU.out.mono ?_
  rintro e w9 ⟨v9, o9, out, err, rfl, hj, hr9, ho9, hk9⟩
  obtain ⟨-, rfl⟩ := JoinRes.one (out := [(2, 4)]) (by simp [manLive, allL]) (by decide) (by decide) hj
  obtain ⟨o9', hrd9, -⟩ := hr9.rd
  have hk10 : Keep [] w9 (w9.alloc (.cells #[.int .i64 2, .int .i64 4] 23)) := (Keep.refl [] w9).alloc _
  have hex := extents_any (hrd9.keep hk10 (by simp)) (xs := [(2, 4)]) (ys := [(2, 4)]) (v := .slice (some ⟨w9.heap.size, 0, none⟩) 1 1) (oy := some w9.heap.size) (rd_block (n := 1) (k := 2) (xs := [.int .i64 2, .int .i64 4]) (heap_new w9 _) rfl (by simp [maxLen])) (by simp) (by simp)
  have HE := Lib.hid hex
  have HK10 := Lib.hid ((HK8.out.trans hk9 (by simp)).trans hk10 (by simp))
  clear hj hr9 ho9 hk9 hrd9 hk10 hex n0 n1 n2 n3 n4 HK8 HU
  go_wp2_with fail
  refine HE.out.mono ?_
  rintro e w10 ⟨rfl, n, rfl⟩
  go_wp2_with fail
  go_ret
  exact ⟨rfl, HK10.out.trans ((Keep.refl [] _).drewN n) (by simp)⟩
end Go.Proofs.Ytngepgnmlpinaaa
