/- Super: own, the document's Same, num, a nil disk. Printed by gen-su20.py. -/
import Derived.Test.YtdeghoigpcbmcaaSu19
import Derived.Laws.Rows
namespace Go.Proofs.Ytdeghoigpcbmcaa
open Go.RowKit Go.Emb Go.Emb.Ext

theorem exti_info : (Try.prog.info? 54).map (fun i => (i.zero, i.size, i.bytes)) = some (some (.agg #[.int .i64 0, .int .i64 0]), 2, 16) := by kernel_rfl
theorem encEs_one (l : List E) : ∀ u ∈ l.flatMap encE, u.oneCell' = true := by
  intro u hu
  obtain ⟨x, -, hx⟩ := List.mem_flatMap.1 hu
  simp [encE] at hx
  rcases hx with rfl | rfl <;> rfl
theorem p_numF {w : World} (x : Int) : Calls Try.prog 9 #[.int .i64 x] w fun e w' => e = .returned (.int .i64 x) ∧ w = w' := by
  go_enter Try.func9, Try.ntmps9
  go_wp2_with fail
  go_ret
  exact ⟨rfl, rfl⟩
/-- what own answers: the same super, in a new row -/
def OwnP (w : World) (x : Sup) (e : Ending) (w' : World) : Prop := ∃ pv po, e = .returned (aggS x pv) ∧ RowE w' pv x.ps po ∧ (∀ c, po = some c → w.heap.size ≤ c) ∧ Keep [] w w'
set_option maxRecDepth 100000 in
set_option maxHeartbeats 2000000 in
theorem q_own {w : World} {x : Sup} {pv : Value} {o : Option Nat} (hr : RdE w pv x.ps o) (hsz : x.ps.length ≤ 1000000) : Calls Try.prog 12 #[aggS x pv] w (OwnP w x) := by
  obtain ⟨i0, hi, hz0, hz1, hz2⟩ := info_parts exti_info
  obtain ⟨pa, pc, rfl⟩ : ∃ a c, pv = .slice a x.ps.length c := by obtain ⟨-, a, c, h, -⟩ := hr; exact ⟨a, c, h⟩
  obtain ⟨gen, ps, len, ep⟩ := x
  unfold aggS
  simp only at *
  have hk1 : Keep [] w ((w.alloc (.cells #[.int .u64 gen, .slice pa ps.length pc, .int .i64 len, .int .i64 ep] 25)).alloc (.cells #[.int .u64 0, .slice none 0 0, .int .i64 0, .int .i64 0] 25)) := ((Keep.refl [] w).alloc _).alloc _
  have hb1 := lit_alloc (heap_new w (.cells #[.int .u64 gen, .slice pa ps.length pc, .int .i64 len, .int .i64 ep] 25)) (.cells #[.int .u64 0, .slice none 0 0, .int .i64 0, .int .i64 0] 25)
  have hb2 := heap_new (w.alloc (.cells #[.int .u64 gen, .slice pa ps.length pc, .int .i64 len, .int .i64 ep] 25)) (.cells #[.int .u64 0, .slice none 0 0, .int .i64 0, .int .i64 0] 25)
  obtain ⟨c0, c1, c2, c3⟩ := cells4s hb1
  obtain ⟨c4, c5, c6, c7⟩ := cells4s hb2
  simp only [size_alloc] at hb2 c4 c5 c6 c7
  have hmade : Row (((w.alloc (.cells #[.int .u64 gen, .slice pa ps.length pc, .int .i64 len, .int .i64 ep] 25)).alloc (.cells #[.int .u64 0, .slice none 0 0, .int .i64 0, .int .i64 0] 25)).alloc (.cells #[] 54)) 54 2 (.slice (some ⟨w.heap.size + 1 + 1, 0, none⟩) 0 0) 0 [] (some (w.heap.size + 1 + 1)) := by have := Row.made0 ((w.alloc (.cells #[.int .u64 gen, .slice pa ps.length pc, .int .i64 len, .int .i64 ep] 25)).alloc (.cells #[.int .u64 0, .slice none 0 0, .int .i64 0, .int .i64 0] 25)) 54 2; simpa using this
  have HMADE := Lib.hid hmade
  clear hmade
  have HI := Lib.hid hi
  have HB1 := Lib.hid hb1
  have HB2 := Lib.hid hb2
  have HK1 := Lib.hid hk1
  have HR := Lib.hid (hr.keep (hk1.alloc (.cells #[] 54)) (by simp))
  clear hi hk1 hr
  go_enter Try.func12, Try.ntmps12
  go_wp2_with (at_builtin; refine wpList_append_rd _ rfl (.tmp 3) (.tmp 5) 23 23 rfl 54 54 i0 (.agg #[.int .i64 0, .int .i64 0]) 2 16 Try.underlying23 Try.underlying23 HI.out hz0 hz1 hz2 rfl (w.heap.size + 1 + 1) 0 0 0 [] rfl HMADE.out _ rfl ps.length _ o HR.out (encEs_one ps) (by unfold maxLen; omega) (by omega) ?_; intro g off cap w3 hrow3 hk3 hg3; simp only [Nat.zero_add, List.nil_append] at hrow3; have hs1 := blkk (lit_alloc HB1.out (.cells #[] 54)) hk3 (by simp; omega); have hs2 := blkk (lit_alloc HB2.out (.cells #[] 54)) hk3 (by simp); obtain ⟨a0, a1, a2, a3⟩ := cells4s hs1; obtain ⟨a4, a5, a6, a7⟩ := cells4s hs2; have fs1 := frozen4 hs1; have fs2 := frozen4 hs2; clear c0 c1 c2 c3 c4 c5 c6 c7 hb1 hb2; have HS1 := Lib.hid hs1; have HS2 := Lib.hid hs2; clear hs1 hs2; have HR3 := Lib.hid hrow3; have HK3 := Lib.hid hk3; have HG3 := Lib.hid hg3; clear hrow3 hk3 hg3)
  have hk4 : Keep [w.heap.size] w3 (w3.setCell ⟨w.heap.size, 1, none⟩ (.slice (some ⟨g, off, none⟩) ps.length cap)) := Keep.set1 w3 ⟨w.heap.size, 1, none⟩ _
  obtain ⟨hb5, hk5⟩ := set4 (blkk HS2.out hk4 (by simp)) (.int .u64 gen) (.slice (some ⟨g, off, none⟩) ps.length cap) (.int .i64 len) (.int .i64 ep)
  refine bodyPost_ret (results_cell_row (ty := 25) rfl _ _ (w.heap.size + 1) _ _ _ _ rfl hb5 Try.underlying25 rfl super_size) rfl ?_
  have hgn : w.heap.size + 2 ≤ g := by
    rcases HG3.out with h | h
    · omega
    · have : w.heap.size + 1 + 1 + 1 ≤ g := by simpa using h
      omega
  refine ⟨_, some g, rfl, (Row.keep HR3.out hk4 (fun b hb => by cases hb; simp; omega)).keep hk5 (fun b hb => by cases hb; simp; omega), fun c hc => by cases hc; omega, ?_⟩
  have h1 : Keep [] w w3 := (HK1.out.alloc _).trans HK3.out (fun b hb => by simp at hb; subst hb; exact .inr (by omega))
  exact (h1.trans hk4 (fun b hb => by simp at hb; subst hb; exact .inr (Nat.le_refl _))).trans hk5 (fun b hb => by simp at hb; subst hb; exact .inr (by omega))
set_option maxRecDepth 100000 in
set_option maxHeartbeats 2000000 in
theorem q_same {w : World} {x y : Sup} {xv yv : Value} {ox oy : Option Nat} (hx : RdE w xv x.ps ox) (hy : RdE w yv y.ps oy) (hsx : x.ps.length ≤ 1000000) (hsy : y.ps.length ≤ 1000000) :
    Calls Try.prog 14 #[aggS x xv, aggS y yv] w fun e w' => (∃ b, e = .returned (.bool b) ∧ (b = true ↔ x = y)) ∧ Keep [] w w' := by
  obtain ⟨xa, xc, rfl⟩ : ∃ a c, xv = .slice a x.ps.length c := by obtain ⟨-, a, c, h, -⟩ := hx; exact ⟨a, c, h⟩
  obtain ⟨ya, yc, rfl⟩ : ∃ a c, yv = .slice a y.ps.length c := by obtain ⟨-, a, c, h, -⟩ := hy; exact ⟨a, c, h⟩
  obtain ⟨xg, xp, xl, xe⟩ := x
  obtain ⟨yg, yp, yl, ye⟩ := y
  unfold aggS
  simp only at *
  have hk1 : Keep [] w ((w.alloc (.cells #[.int .u64 xg, .slice xa xp.length xc, .int .i64 xl, .int .i64 xe] 25)).alloc (.cells #[.int .u64 yg, .slice ya yp.length yc, .int .i64 yl, .int .i64 ye] 25)) := ((Keep.refl [] w).alloc _).alloc _
  have hb1 := lit_alloc (heap_new w (.cells #[.int .u64 xg, .slice xa xp.length xc, .int .i64 xl, .int .i64 xe] 25)) (.cells #[.int .u64 yg, .slice ya yp.length yc, .int .i64 yl, .int .i64 ye] 25)
  have hb2 := heap_new (w.alloc (.cells #[.int .u64 xg, .slice xa xp.length xc, .int .i64 xl, .int .i64 xe] 25)) (.cells #[.int .u64 yg, .slice ya yp.length yc, .int .i64 yl, .int .i64 ye] 25)
  obtain ⟨c0, c1, c2, c3⟩ := cells4s hb1
  obtain ⟨c4, c5, c6, c7⟩ := cells4s hb2
  simp only [size_alloc] at hb2 c4 c5 c6 c7
  have hex := extents_any (hx.keep hk1 (by simp)) (hy.keep hk1 (by simp)) (by omega) (by omega)
  have HEX := Lib.hid hex
  have HK1 := Lib.hid hk1
  clear hx hy hk1 hb1 hb2 hex
  by_cases h1 : xg = yg
  · have h1' : ((xg : Int) == (yg : Int)) = true := by simp [h1]
    by_cases h2 : xl = yl
    · have h2' : (xl == yl) = true := by simp [h2]
      by_cases h3 : xe = ye
      · have h3' : (xe == ye) = true := by simp [h3]
        have HE := Lib.hid (And.intro h1 (And.intro h2 h3))
        clear h1 h2 h3
        go_enter Try.func14, Try.ntmps14
        go_wp2_with fail
        refine HEX.out.mono ?_
        rintro e w2 ⟨rfl, n, rfl⟩
        go_wp2_with fail
        refine bodyPost_ret (results_tmp rfl _ _ _) rfl ?_
        refine ⟨⟨_, rfl, ?_⟩, HK1.out.drewN n⟩
        obtain ⟨rfl, rfl, rfl⟩ := HE.out
        simp
      · have h3' : (xe == ye) = false := beq_eq_false_iff_ne.2 h3
        have HE := Lib.hid h3
        clear h1 h2 h3
        go_enter Try.func14, Try.ntmps14
        go_wp2_with fail
        refine bodyPost_ret (results_tmp rfl _ _ _) rfl ?_
        exact ⟨⟨_, rfl, by simp [HE.out]⟩, HK1.out⟩
    · have h2' : (xl == yl) = false := beq_eq_false_iff_ne.2 h2
      have HE := Lib.hid h2
      clear h1 h2
      go_enter Try.func14, Try.ntmps14
      go_wp2_with fail
      refine bodyPost_ret (results_tmp rfl _ _ _) rfl ?_
      exact ⟨⟨_, rfl, by simp [HE.out]⟩, HK1.out⟩
  · have h1' : ((xg : Int) == (yg : Int)) = false := beq_eq_false_iff_ne.2 (by omega)
    have HE := Lib.hid h1
    clear h1
    go_enter Try.func14, Try.ntmps14
    go_wp2_with fail
    refine bodyPost_ret (results_tmp rfl _ _ _) rfl ?_
    exact ⟨⟨_, rfl, by simp [HE.out]⟩, HK1.out⟩
end Go.Proofs.Ytdeghoigpcbmcaa
