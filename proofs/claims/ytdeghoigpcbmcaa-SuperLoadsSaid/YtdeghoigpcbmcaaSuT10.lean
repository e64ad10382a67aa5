/- The program's tape: stops, runs, cut. -/
import Derived.Test.YtdeghoigpcbmcaaSuT9
namespace Go.Proofs.Ytdeghoigpcbmcaa
open Go.RowKit Go.Emb

theorem p_stops {w : World} {q : Nat} {bs : List UInt8} {pos : Nat} {fa sp : Int} {v : Value} {bo : Option Nat} (h : TP 108 w q bs pos fa sp v bo) (er : Int) {m : Nat} (hm : m ≤ bs.length) :
    Calls Try.prog 65 #[.pointer (some ⟨q, 0, none⟩), .int .i64 er, .int .i64 (m : Int)] w fun e w' => e = .returned (.tuple #[]) ∧ TP 108 w' q bs m er (m : Int) v bo ∧ Keep [q] w w' := by
  obtain ⟨c0, c1, c2, c3, f0, f1, f2, f3⟩ := cells4 h.blk
  have H := Lib.hid h
  clear h
  go_enter Try.func65, Try.ntmps65
  go_wp2_with fail
  refine bodyPost_end (results_none rfl _ _ _) rfl ?_
  have hk : Keep [q] w (((w.setCell ⟨q, 2, none⟩ (.int .i64 er)).setCell ⟨q, 3, none⟩ (.int .i64 (m : Int))).setCell ⟨q, 1, none⟩ (.int .i64 (m : Int))) := (((Keep.refl [q] w).setCell (.inl (by simp)) _).setCell (.inl (by simp)) _).setCell (.inl (by simp)) _
  refine ⟨rfl, H.out.turn hk hm ?_, hk⟩
  have := heap_setCell_at (i := 1) (heap_setCell_at (i := 3) (heap_setCell_at (i := 2) H.out.blk (.int .i64 er)) (.int .i64 (m : Int))) (.int .i64 (m : Int))
  simpa using this
theorem p_runs {w : World} {q : Nat} {bs : List UInt8} {pos : Nat} {fa sp : Int} {v : Value} {bo : Option Nat} (h : TP 108 w q bs pos fa sp v bo) :
    Calls Try.prog 64 #[.pointer (some ⟨q, 0, none⟩)] w fun e w' => e = .returned (.bool (decide (fa = 0))) ∧ w = w' := by
  obtain ⟨c0, c1, c2, c3, f0, f1, f2, f3⟩ := cells4 h.blk
  clear h
  by_cases hf : fa = 0
  · subst hf
    go_enter Try.func64, Try.ntmps64
    go_wp2_with fail
    go_ret
    exact ⟨by simp, rfl⟩
  · have hb : (fa == 0) = false := beq_eq_false_iff_ne.2 hf
    go_enter Try.func64, Try.ntmps64
    go_wp2_with fail
    go_ret
    exact ⟨by simp [hf], rfl⟩
theorem p_pos {w : World} {q : Nat} {bs : List UInt8} {pos : Nat} {fa sp : Int} {v : Value} {bo : Option Nat} (h : TP 108 w q bs pos fa sp v bo) :
    Calls Try.prog 63 #[.pointer (some ⟨q, 0, none⟩)] w fun e w' => e = .returned (.int .i64 (pos : Int)) ∧ w = w' := by
  obtain ⟨c0, c1, c2, c3, f0, f1, f2, f3⟩ := cells4 h.blk
  clear h
  go_enter Try.func63, Try.ntmps63
  go_wp2_with fail
  go_ret
  exact ⟨rfl, rfl⟩
theorem p_fault {w : World} {q : Nat} {bs : List UInt8} {pos : Nat} {fa sp : Int} {v : Value} {bo : Option Nat} (h : TP 108 w q bs pos fa sp v bo) :
    Calls Try.prog 68 #[.pointer (some ⟨q, 0, none⟩)] w fun e w' => e = .returned (.tuple #[.int .i64 fa, .int .i64 sp]) ∧ Keep [] w w' := by
  obtain ⟨c0, c1, c2, c3, f0, f1, f2, f3⟩ := cells4 h.blk
  clear h
  go_enter Try.func68, Try.ntmps68
  go_wp2_with fail
  go_quiet (fail)
  go_wp2_with fail
  go_ret2
  exact ⟨rfl, (Keep.refl [] w).drewN _⟩
theorem p_rest {w : World} {q : Nat} {bs : List UInt8} {pos : Nat} {fa sp : Int} {v : Value} {bo : Option Nat} (h : TP 108 w q bs pos fa sp v bo) :
    Calls Try.prog 67 #[.pointer (some ⟨q, 0, none⟩)] w fun e w' => e = .returned (.int .i64 ((bs.length : Int) - (pos : Int))) ∧ Keep [] w w' := by
  obtain ⟨c0, c1, c2, c3, f0, f1, f2, f3⟩ := cells4 h.blk
  obtain ⟨-, a, c, rfl, -, -, -⟩ := h.rd
  have q1 := h.le
  have q2 := h.sz
  have hw : IntKind.i64.wrap ((bs.length : Int) - (pos : Int)) = (bs.length : Int) - (pos : Int) := IntWalk.i64_in _ (by omega)
  clear h
  go_enter Try.func67, Try.ntmps67
  go_wp2_with fail
  go_quiet (fail)
  go_wp2_with fail
  go_ret
  exact ⟨rfl, (Keep.refl [] w).drewN _⟩
/-- what a cut leaves: the part, or a fault -/
def CutP (T : TypeId) (w : World) (q : Nat) (bs : List UInt8) (pos n fr : Nat) (v : Value) (bo : Option Nat) (e : Ending) (w' : World) : Prop :=
  (bs.length - pos < n ∧ e = .returned (.tuple #[.slice none 0 0, .bool false]) ∧ TP T w' q bs fr 3 (fr : Int) v bo ∧ Keep [q] w w') ∨
  (n ≤ bs.length - pos ∧ ∃ sv so, e = .returned (.tuple #[sv, .bool true]) ∧ TP T w' q bs (pos + n) 0 0 v bo ∧ Keep [q] w w' ∧ Rd w' 1 sv n (Lib.byteCells ((bs.drop pos).take n)) so ∧ ∀ b, so = some b → bo = some b)
set_option maxHeartbeats 1000000 in
theorem p_cut {w : World} {q : Nat} {bs : List UInt8} {pos n fr : Nat} {v : Value} {bo : Option Nat} (h : TP 108 w q bs pos 0 0 v bo) (hn : n ≤ 1000000000) (hfr : fr ≤ bs.length) :
    Calls Try.prog 66 #[.pointer (some ⟨q, 0, none⟩), .int .i64 (n : Int), .int .i64 (fr : Int)] w (CutP 108 w q bs pos n fr v bo) := by
  obtain ⟨c0, c1, c2, c3, f0, f1, f2, f3⟩ := cells4 h.blk
  obtain ⟨-, a, c, rfl, -, -, -⟩ := id h.rd
  have q1 := h.le
  have q2 := h.sz
  have hw : IntKind.i64.wrap ((bs.length : Int) - (pos : Int)) = (bs.length : Int) - (pos : Int) := IntWalk.i64_in _ (by omega)
  by_cases hlt : bs.length - pos < n
  · have hg : ((bs.length : Int) - (pos : Int) < (n : Int)) := by omega
    have hst := fun k => p_stops (h.keep0 ((Keep.refl [] w).drewN k)) 3 hfr
    have HS := Lib.hid hst
    have HL := Lib.hid hlt
    clear h hst hlt
    go_enter Try.func66, Try.ntmps66
    go_wp2_with fail
    go_quiet (fail)
    go_wp2_with fail
    refine (HS.out _).mono ?_
    rintro e w1 ⟨rfl, h1, h2⟩
    have H1 := Lib.hid h1
    have H2 := Lib.hid h2
    clear h1 h2
    go_wp2_with fail
    go_ret2
    exact .inl ⟨HL.out, rfl, H1.out, ((Keep.refl [q] w).drewN _).trans H2.out (fun _ h => .inl h)⟩
  · obtain ⟨i0, hi0, hz0, hz1, hz2⟩ := info_parts byte_info
    have hg : ¬ ((bs.length : Int) - (pos : Int) < (n : Int)) := by omega
    have hle : n ≤ bs.length - pos := by omega
    have hw2 : IntKind.i64.wrap ((pos : Int) + (n : Int)) = (pos : Int) + (n : Int) := IntWalk.i64_in _ (by omega)
    obtain ⟨sv, so, hrun, hrd, hso⟩ := rd_slice (P := Try.prog) (T := 38) Try.underlying38 (fun w => by simp [sizeOf, typeInfo, hi0, hz1]) h.rd (lo := pos) (m := n) (by omega) (hi := (pos : Int) + (n : Int)) (by omega)
    rw [byteCells_part] at hrd
    have H := Lib.hid h
    have HR := Lib.hid hrd
    have HSO := Lib.hid hso
    clear h hrd hso hlt hi0 hz0 hz1 hz2
    go_enter Try.func66, Try.ntmps66
    go_wp2_with fail
    go_quiet (fail)
    generalize nq = n8 at *
    go_wp2_with fail
    go_quiet (fail)
    go_wp2_with fail
    go_ret2
    obtain ⟨k9, hk9⟩ : ∃ k9, k9 = n8 + nq := ⟨_, rfl⟩
    rw [← hk9]
    have hk : Keep [q] w ((w.drewN k9).setCell ⟨q, 1, none⟩ (.int .i64 ((pos : Int) + (n : Int)))) := ((Keep.refl [q] w).drewN _).setCell (.inl (by simp)) _
    have hb := heap_setCell_at (w := w.drewN k9) (i := 1) H.out.blk (.int .i64 ((pos : Int) + (n : Int)))
    refine .inr ⟨hle, sv, so, rfl, H.out.turn hk (by omega) (by simpa using hb), hk, HR.out.keep hk (fun b hb hm => ?_), fun b hb => ?_⟩
    · rcases HSO.out with h1 | h1
      · rw [h1] at hb; cases hb
      · exact H.out.ne b (h1 ▸ hb) (by simpa using hm)
    · rcases HSO.out with h1 | h1
      · rw [h1] at hb; cases hb
      · exact h1 ▸ hb
end Go.Proofs.Ytdeghoigpcbmcaa
