/- The document's writers: Uint, Int, Text. -/
import Derived.Test.YtngepgnmlpinaaaMn4
namespace Go.Proofs.Ytngepgnmlpinaaa
open Go.RowKit Go.Emb

set_option maxHeartbeats 1000000 in
theorem r_uint {w : World} {v : Value} {bs : List UInt8} {o : Option Nat} (h : RB w v bs o) (hl : bs.length ≤ 1000000000) {n : Nat} (hn : n < 18446744073709551616) :
    Calls Try.prog 46 #[v, .int .u64 (n : Int)] w (GrewP o w (bs ++ numL n 0)) := by
  have hcall := r_laid h hl hn (more := 0) (fl := 0) rfl (.inl rfl)
  have HC := Lib.hid hcall
  clear h hl hn hcall
  go_enter Try.func46, Try.ntmps46
  go_wp2_with fail
  refine HC.out.mono ?_
  rintro e w3 ⟨v3, o3, rfl, hg⟩
  have HG := Lib.hid hg
  clear hg
  go_wp2_with fail
  go_ret
  exact ⟨v3, o3, rfl, HG.out⟩
set_option maxRecDepth 100000 in
set_option maxHeartbeats 1000000 in
theorem r_int1 {w : World} {v : Value} {bs : List UInt8} {o : Option Nat} (h : RB w v bs o) (hl : bs.length ≤ 1000000000) {x : Int} (h0 : -9223372036854775808 ≤ x) (h1 : x ≤ 9223372036854775807) :
    Calls Try.prog 45 #[v, .int .i64 x] w (GrewP o w (bs ++ intL x)) := by
  by_cases hneg : x < 0
  · obtain ⟨m, hm⟩ : ∃ m : Nat, (m : Int) = -(x + 1) := ⟨(-(x + 1)).toNat, by omega⟩
    have hcall := r_laid h hl (n := m) (by omega) (more := 128) (fl := 128) rfl (.inr rfl)
    have hnew : intL x = numL m 128 := by unfold intL; rw [if_pos hneg, ← hm]; rfl
    rw [← hnew] at hcall
    have w1 : IntKind.i64.wrap (x + 1) = x + 1 := IntWalk.i64_in _ (by omega)
    have w2 : IntKind.i64.wrap (-(x + 1)) = -(x + 1) := IntWalk.i64_in _ (by omega)
    have w3 : IntKind.u64.wrap (-(x + 1)) = -(x + 1) := IntWalk.u64_in _ (by omega)
    have HM := Lib.hid hm
    have HC := Lib.hid hcall
    clear h hcall hnew hm hl
    go_enter Try.func45, Try.ntmps45
    go_wp2_with fail
    rw [show (-(x + 1)) = (m : Int) from HM.out.symm]
    refine HC.out.mono ?_
    rintro e w3 ⟨v3, o3, rfl, hg⟩
    have HG := Lib.hid hg
    clear hg
    go_wp2_with fail
    go_ret
    exact ⟨v3, o3, rfl, HG.out⟩
  · obtain ⟨m, hm⟩ : ∃ m : Nat, (m : Int) = x := ⟨x.toNat, by omega⟩
    have hcall := r_laid h hl (n := m) (by omega) (more := 0) (fl := 0) rfl (.inl rfl)
    have hnew : intL x = numL m 0 := by unfold intL; rw [if_neg hneg, ← hm]; rfl
    rw [← hnew, hm] at hcall
    have w3 : IntKind.u64.wrap x = x := IntWalk.u64_in _ (by omega)
    have h0x : 0 ≤ x := by omega
    have HC := Lib.hid hcall
    clear h hcall hnew hm hl hneg h0 h1
    go_enter Try.func45, Try.ntmps45
    go_wp2_with fail
    refine HC.out.mono ?_
    rintro e w3 ⟨v3, o3, rfl, hg⟩
    have HG := Lib.hid hg
    clear hg
    go_wp2_with fail
    go_ret
    exact ⟨v3, o3, rfl, HG.out⟩
set_option maxRecDepth 100000 in
set_option maxHeartbeats 1000000 in
theorem r_text {w : World} {v : Value} {bs : List UInt8} {o : Option Nat} (h : RB w v bs o) {s : ByteArray} (hl : bs.length + (strL s.data.toList).length ≤ 1000000000) :
    Calls Try.prog 44 #[v, .string s] w (GrewP o w (bs ++ strL s.data.toList)) := by
  obtain ⟨i0, hi, hz0, hz1, hz2⟩ := info_parts byte_info
  have hnl := numL_length s.size 0
  have hsl : (strL s.data.toList).length = (numL s.size 0).length + s.size := by unfold strL; rw [List.length_append, show s.data.toList.length = s.size from by simp]
  rw [hsl] at hl
  have hcall := r_uint h (by omega) (n := s.size) (by omega)
  have hq9 : (s.size : Int) ≤ 1000000000 := by omega
  have hu : IntKind.u64.wrap (s.size : Int) = (s.size : Int) := IntWalk.u64_in _ (by omega)
  have HC := Lib.hid hcall
  have HI := Lib.hid hi
  clear h hcall hsl hi
  go_enter Try.func44, Try.ntmps44
  go_wp2_with fail
  refine HC.out.mono ?_
  rintro e w3 ⟨v3, o3, rfl, hrow3, hk3, ho3⟩
  obtain ⟨b3, off3, cap3, rfl, rfl, hr3⟩ := hrow3.block (by rw [List.length_append]; omega)
  have HR3 := Lib.hid hr3
  have HK3 := Lib.hid hk3
  have HO3 := Lib.hid ho3
  obtain ⟨l3, hl3⟩ : ∃ q, q = bs ++ numL s.size 0 := ⟨_, rfl⟩
  have hl3s : l3.length + s.size ≤ 1000000000 := by rw [hl3, List.length_append]; omega
  have hst3 : l3 ++ s.data.toList = bs ++ strL s.data.toList := by rw [hl3]; unfold strL; rw [show s.data.toList.length = s.size from by simp, List.append_assoc]
  rw [← hl3] at HR3
  rw [← hl3]
  have HST3 := Lib.hid hst3
  clear hrow3 hr3 hk3 ho3 hl3 hst3 HC hu
  go_wp2_with (at_builtin; refine wpList_append_str _ rfl _ _ 24 9 rfl 5 i0 (.int .u8 0) 1 Try.underlying24 Try.underlying9 HI.out hz0 hz1 hz2 rfl b3 off3 _ cap3 _ rfl HR3.out s rfl (by first | (unfold maxLen; omega) | (simp [maxLen] <;> omega)) (by first | omega | (simp <;> omega)) ?_)
  intro g off cap w4 hr4 hk4 hg4
  obtain ⟨n1, n2, n3⟩ := RB.next (w0 := w) (o0 := o) (o := some b3) (news := s.data.toList) (by simp) rfl HK3.out HO3.out hr4 hk4 (hg4.imp (fun h => by rw [h]) id)
  rw [HST3.out] at n1
  have N := Lib.hid (And.intro n1 (And.intro n2 n3))
  clear n1 n2 n3 hr4 hk4 hg4
  go_wp2_with fail
  go_ret
  exact ⟨_, _, rfl, N.out⟩
end Go.Proofs.Ytngepgnmlpinaaa
