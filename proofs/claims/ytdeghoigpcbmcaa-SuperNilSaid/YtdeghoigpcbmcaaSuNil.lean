/- SuperNil: the walk. Printed by gen-su22.py. -/
import Derived.Test.YtdeghoigpcbmcaaSuOpen
namespace Go.Proofs.Ytdeghoigpcbmcaa
open Go.RowKit Go.Emb Go.Emb.Ext

set_option maxRecDepth 100000 in
set_option maxHeartbeats 4000000 in
theorem nil_walk {w : World} {s : SpV} {n : Int} (hs : RdS w.heap.size w s) (hn : I64 n) : Calls Try.prog 6 #[aggS s.x s.pv, .int .i64 n] w fun e w' => e = .returned (.bool true) ∧ Keep [] w w' := by
  obtain ⟨h1, h2, h3, ⟨o, hr, ho⟩, h4, h5⟩ := hs
  obtain ⟨pa, pc, hpv⟩ : ∃ a c, s.pv = .slice a s.x.ps.length c := by obtain ⟨-, a, c, h, -⟩ := hr; exact ⟨a, c, h⟩
  obtain ⟨⟨gen, ps, len, ep⟩, pv⟩ := s
  simp only at hpv
  subst hpv
  unfold aggS
  simp only at *
  have hb1 := heap_new w (.cells #[.int .u64 gen, .slice pa ps.length pc, .int .i64 len, .int .i64 ep] 25)
  obtain ⟨c0, c1, c2, c3⟩ := cells4s hb1
  have HK1 := Lib.hid ((Keep.refl [] w).alloc (.cells #[.int .u64 gen, .slice pa ps.length pc, .int .i64 len, .int .i64 ep] 25))
  have HB1 := Lib.hid hb1
  clear hr ho h1 h2 h3 h4 hb1
  by_cases hl : 20000 < ps.length
  · have hl' : (20000 : Int) < (ps.length : Int) := by omega
    go_enter Try.func6, Try.ntmps6
    go_wp2_with fail
    refine live_any.mono ?_
    rintro e w2 ⟨rfl, hk2⟩
    go_wp2_with fail
    go_ret
    exact ⟨rfl, HK1.out.trans hk2 (by simp)⟩
  · have hl' : ¬ (20000 : Int) < (ps.length : Int) := by omega
    go_enter Try.func6, Try.ntmps6
    go_wp2_with fail
    refine (s_slot_nil _).mono ?_
    rintro e w2 ⟨rfl, hk2⟩
    have HK2 := Lib.hid (HK1.out.trans hk2 (by simp))
    have HB2 := Lib.hid (blkk HB1.out hk2 (by simp))
    clear hk2 c0 c1 c2 c3
    unfold zS
    go_wp2_with fail
    refine s_best_nil.mono ?_
    rintro e w3 ⟨rfl, hk3⟩
    unfold zS
    have hb3 := blkk (lit_alloc HB2.out (.cells #[.int .u64 0, .slice none 0 0, .int .i64 0, .int .i64 0] 25)) hk3 (by simp)
    have HK3 := Lib.hid ((HK2.out.alloc (.cells #[.int .u64 0, .slice none 0 0, .int .i64 0, .int .i64 0] 25)).trans hk3 (by simp))
    have hlt3 := (Array.getElem?_eq_some_iff.1 hb3).1
    obtain ⟨c0, c1, c2, c3⟩ := cells4s hb3
    have HB3 := Lib.hid hb3
    clear hk3 hb3
    go_wp2_with fail
    refine (s_load_nil (x := ⟨gen, ps, len, ep⟩) (pv := .slice pa ps.length pc)).mono ?_
    rintro e w4 ⟨rfl, hk4⟩
    have hb4 := blkk (lit_alloc HB3.out (.cells #[.int .u64 0, .slice none 0 0, .int .i64 0, .int .i64 0] 25)) hk4 (by simp)
    have HK4 := Lib.hid ((HK3.out.alloc (.cells #[.int .u64 0, .slice none 0 0, .int .i64 0, .int .i64 0] 25)).trans hk4 (by simp))
    clear hlt3 c0 c1 c2 c3 hk4
    obtain ⟨c0, c1, c2, c3⟩ := cells4s hb4
    clear hb4
    go_wp2_with fail
    refine (s_write_nil (x := ⟨gen, ps, len, ep⟩) (pv := .slice pa ps.length pc)).mono ?_
    rintro e w5 ⟨rfl, hk5⟩
    have HK5 := Lib.hid (HK4.out.trans hk5 (by simp))
    clear hk5 c0 c1 c2 c3
    go_wp2_with (first | (go_at_call 9; refine (p_numF _).mono ?_; rintro e w2 ⟨rfl, rfl⟩) | (go_at_call 7; refine live_any.mono ?_; rintro e w6 ⟨rfl, hk6⟩; have HK6 := Lib.hid (HK5.out.trans hk6 (by simp)); clear hk6))
    go_ret
    exact ⟨rfl, HK6.out⟩
end Go.Proofs.Ytdeghoigpcbmcaa
