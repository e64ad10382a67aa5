/- The program's tape: End, Open. -/
import Derived.Test.YtdeghoigpcbmcaaSuT12
import Derived.Lib.LazyBuf
namespace Go.Proofs.Ytdeghoigpcbmcaa
open Go.RowKit Go.Emb

set_option maxRecDepth 100000 in
set_option maxHeartbeats 1000000 in
theorem p_end {w : World} {q : Nat} {bs : List UInt8} {v : Value} {bo : Option Nat} {st : Option (List UInt8)} (h : TSt 108 w q bs v bo st) :
    Calls Try.prog 57 #[.pointer (some ⟨q, 0, none⟩)] w fun e w' => ∃ E : Int, e = .returned (.int .i64 E) ∧ (E = 0 ↔ st = some []) ∧ -9223372036854775808 ≤ E ∧ E ≤ 9223372036854775807 ∧ Keep [] w w' := by
  obtain ⟨pos, fa, sp, ht, ⟨rfl, hfa, hf1, hf2⟩ | ⟨rfl, rfl, rfl⟩⟩ := h
  · have hr := p_runs ht
    rw [show decide (fa = 0) = false from by simp [hfa]] at hr
    have hfl := p_fault ht
    have HR := Lib.hid hr
    have HF := Lib.hid hfl
    have HA := Lib.hid hfa
    clear hr hfl ht hfa
    go_enter Try.func57, Try.ntmps57
    go_wp2_with fail
    refine HR.out.mono ?_
    rintro e w1 ⟨rfl, rfl⟩
    go_wp2_with fail
    refine HF.out.mono ?_
    rintro e w1 ⟨rfl, hk⟩
    go_wp2_with fail
    go_ret
    exact ⟨fa, rfl, by simp [HA.out], hf1, hf2, hk⟩
  · have hr := p_runs ht
    rw [show decide ((0 : Int) = 0) = true from rfl] at hr
    have hrest := p_rest ht
    have hle := ht.le
    have hsz := ht.sz
    have HR := Lib.hid hr
    have HT := Lib.hid ht
    have HRE := Lib.hid hrest
    clear hr ht hrest
    by_cases hp : pos < bs.length
    · have hp' : (0 : Int) < (bs.length : Int) - (pos : Int) := by omega
      go_enter Try.func57, Try.ntmps57
      go_wp2_with fail
      refine HR.out.mono ?_
      rintro e w1 ⟨rfl, rfl⟩
      go_wp2_with fail
      refine HRE.out.mono ?_
      rintro e w1 ⟨rfl, hk⟩
      go_wp2_with fail
      go_ret
      refine ⟨4, rfl, ?_, by omega, by omega, hk⟩
      constructor
      · intro h; omega
      · intro h
        have := congrArg (Option.map List.length) h
        simp at this
        omega
    · have hp' : ¬ (0 : Int) < (bs.length : Int) - (pos : Int) := by omega
      go_enter Try.func57, Try.ntmps57
      go_wp2_with fail
      refine HR.out.mono ?_
      rintro e w1 ⟨rfl, rfl⟩
      go_wp2_with fail
      refine HRE.out.mono ?_
      rintro e w1 ⟨rfl, hk⟩
      have hfl := p_fault (HT.out.keep0 hk)
      have HF := Lib.hid hfl
      clear hfl
      go_wp2_with fail
      refine HF.out.mono ?_
      rintro e w2 ⟨rfl, hk2⟩
      go_wp2_with fail
      go_ret
      exact ⟨0, rfl, by simp; omega, by omega, by omega, hk.trans hk2 (by simp)⟩
theorem byteCells_one (bs : List UInt8) : ∀ u ∈ Lib.byteCells bs, u.oneCell' = true := by
  intro u hu
  obtain ⟨x, -, rfl⟩ := List.mem_map.1 hu
  rfl
/-- an owned row is read -/
theorem RB.rd {w : World} {v : Value} {bs : List UInt8} {o : Option Nat} (h : RB w v bs o) : ∃ o', Rd w 1 v bs.length (Lib.byteCells bs) o' ∧ (o' = none ∨ o' = o) := Row.rd h
set_option maxRecDepth 100000 in
set_option maxHeartbeats 1000000 in
theorem p_clone {w : World} {v : Value} {bs : List UInt8} {o : Option Nat} (h : Rd w 1 v bs.length (Lib.byteCells bs) o) (hsz : bs.length ≤ 1000000000) :
    Calls Try.prog 33 #[v] w fun e w' => ∃ v' o', e = .returned v' ∧ RB w' v' bs o' ∧ (∀ b, o' = some b → w.heap.size ≤ b) ∧ Keep [] w w' := by
  obtain ⟨i0, hi, hz0, hz1, hz2⟩ := info_parts byte_info
  obtain ⟨-, a, c, rfl, hc1, hc2, hrd⟩ := id h
  unfold maxLen at hc2
  have heq := fun wx : World => Lib.run_eql_slice_nil (P := Try.prog) (w := wx) (t := 38) (e := 5) (a := a) (n := bs.length) (c := c) (n' := 0) (c' := 0) (h := Try.underlying38)
  have H := Lib.hid h
  have HI := Lib.hid hi
  cases a with
  | none =>
    have hbs : bs = [] := by
      rcases hrd with ⟨h0, -⟩ | ⟨b, off, h0, -⟩
      · exact List.eq_nil_of_length_eq_zero h0
      · cases h0
    subst hbs
    clear h hrd hi
    go_enter Try.func33, Try.ntmps33
    have heq0 : ∀ wx : World, (binOp .eql 38 (.slice none 0 c) (.slice none 0 0)).run Try.prog wx = .ok (.bool true) wx := heq
    clear heq
    go_wp2_with fail
    go_ret
    exact ⟨_, none, rfl, RB.nil _, by simp, Keep.refl _ _⟩
  | some p =>
    clear h hrd hi
    go_enter Try.func33, Try.ntmps33
    go_wp2_with (at_builtin; refine wpList_append_rd _ rfl _ _ 38 38 rfl 5 5 i0 (.int .u8 0) 1 1 Try.underlying38 Try.underlying38 HI.out hz0 hz1 hz2 rfl w.heap.size 0 0 0 [] rfl (Row.made0 w _ _) _ rfl bs.length (Lib.byteCells bs) o (H.out.keep ((Keep.refl [] w).alloc _) (by simp)) (byteCells_one _) (by unfold maxLen; omega) (by omega) ?_)
    intro g off cap w2 hr hk hg
    try simp only [Nat.zero_add, List.nil_append] at hr
    try simp only [Nat.zero_add, List.nil_append]
    have hk2 : Keep [] w w2 := ((Keep.refl [] w).alloc _).trans hk (by simp)
    have hg2 : w.heap.size ≤ g := by
      rcases hg with h | h
      · omega
      · first | omega | (simp at h; omega)
    have HR := Lib.hid (show RB w2 (.slice (some ⟨g, off, none⟩) bs.length cap) bs (some g) from hr)
    clear hr hk hg
    go_wp2_with fail
    go_ret
    exact ⟨_, some g, rfl, HR.out, fun b hb => by cases hb; exact hg2, hk2⟩
set_option maxRecDepth 100000 in
set_option maxHeartbeats 1000000 in
theorem p_open {w : World} {v : Value} {bs : List UInt8} {o : Option Nat} (h : Rd w 1 v bs.length (Lib.byteCells bs) o) (hsz : bs.length ≤ 1000000000) :
    Calls Try.prog 53 #[v] w fun e w' => ∃ q v' bo, e = .returned (.pointer (some ⟨q, 0, none⟩)) ∧ TSt 108 w' q bs v' bo (some bs) ∧ w.heap.size ≤ q ∧ (∀ b, bo = some b → w.heap.size ≤ b) ∧ (∀ b, bo = some b → b < w'.heap.size) ∧ Keep [] w w' := by
  have HC := Lib.hid (p_clone h hsz)
  clear h
  go_enter Try.func53, Try.ntmps53
  go_wp2_with fail
  refine HC.out.mono ?_
  rintro e w1 ⟨v', o', rfl, hr, ho, hk⟩
  obtain ⟨bo, hrd, hbo⟩ := hr.rd
  have hlt := hr.lt
  obtain ⟨a2, c2, rfl, -, -⟩ := hr.form
  have H := Lib.hid (And.intro hrd (And.intro hbo (And.intro ho (And.intro hk hlt))))
  clear hr hrd hbo ho hk hlt HC
  go_wp2_with fail
  go_ret
  obtain ⟨hrd, hbo, ho, hk, hlt⟩ := H.out
  have hk2 : Keep [] w1 (w1.alloc (.cells #[.slice a2 bs.length c2, .int .i64 0, .int .i64 0, .int .i64 0] 108)) := (Keep.refl [] w1).alloc _
  have hbo2 : ∀ b, bo = some b → o' = some b := fun b hb => by
    rcases hbo with h | h
    · rw [h] at hb; cases hb
    · rw [← h]; exact hb
  refine ⟨w1.heap.size, _, bo, rfl, ⟨0, 0, 0, ⟨heap_alloc_new w1 _, hrd.keep hk2 (by simp), fun b hb => by have := hlt b (hbo2 b hb); omega, Nat.zero_le _, hsz⟩, .inr ⟨rfl, rfl, rfl⟩⟩, hk.size, fun b hb => ho b (hbo2 b hb), fun b hb => by have := hlt b (hbo2 b hb); simp; omega, hk.trans hk2 (by simp)⟩
end Go.Proofs.Ytdeghoigpcbmcaa
