/- Extents: contracts, continued: Has, Need, Extents, num. -/
import Derived.Test.YtlfhnbdeadiedaaExt1
import Derived.IntWalk
namespace Go.Emb
theorem Keep.cellOf {w W : World} (hk : Keep [] w W) {p : Addr} {v : Value} (hc : w.cell? p = some v) : W.cell? p = some v :=
  (hk.cell (p := p) (World.block_lt_of_cell? _ _ hc) (by simp)).trans hc
theorem Keep.cellA {w W : World} {ob : Obj} (hk : Keep [] (w.alloc ob) W) {p : Addr} {v : Value} (hc : w.cell? p = some v) : W.cell? p = some v :=
  (((Keep.refl [] w).alloc ob).trans hk (by simp)).cellOf hc
end Go.Emb
namespace Go.Proofs.Ytlfhnbdeadiedaa
open Go.RowKit Go.Emb Go.Lib Go.Emb.Ext

theorem num_any (n : Int) (w : World) : Calls Try.prog 13 #[.int .i64 n] w fun e w' => e = .returned (.int .i64 n) ∧ w = w' := by
  go_enter Try.func13, Try.ntmps13
  go_wp2_with fail
  go_ret
  exact ⟨rfl, rfl⟩

def needE (b r : Int) : Int := if b < 1 ∨ r < 1 then 0 else 1 + (b - 1) / r
theorem need_any (b r : Int) (w : World) (hb : b ≤ 9223372036854775807) (hr : r ≤ 9223372036854775807) : Calls Try.prog 22 #[.int .i64 b, .int .i64 r] w fun e w' => e = .returned (.int .i64 (needE b r)) ∧ w = w' := by
  unfold needE
  by_cases h1 : b < 1
  · go_enter Try.func22, Try.ntmps22
    go_wp2_with fail
    go_ret
    exact ⟨rfl, rfl⟩
  · by_cases h2 : r < 1
    · go_enter Try.func22, Try.ntmps22
      go_wp2_with fail
      go_ret
      exact ⟨rfl, rfl⟩
    · have h3 : (r == 0) = false := beq_eq_false_iff_ne.2 (by omega)
      have h4 : (0 : Int) ≤ (b - 1) / r := Int.ediv_nonneg (by omega) (by omega)
      have h5 : (b - 1) / r ≤ b - 1 := Int.ediv_le_self _ (by omega)
      go_enter Try.func22, Try.ntmps22
      go_wp2_with fail
      go_ret
      exact ⟨rfl, rfl⟩

/-- is a block in it? -/
def hasE (n : Int) (x : E) : Bool := right x && decide (x.1 ≤ n) && decide (n - x.1 < x.2)
set_option maxHeartbeats 400000 in
theorem hasClosure (n : Int) (x : E) (B : Nat) (w : World) (hc : w.cell? ⟨B, 0, none⟩ = some (.int .i64 n)) (hn : -9223372036854775808 ≤ n) (hn2 : n ≤ 9223372036854775807) :
    Calls Try.prog 36 #[aggE x, .pointer (some ⟨B, 0, none⟩)] w fun e w' => e = .returned (.bool (hasE n x)) ∧ Keep [] w w' := by
  have hcall := fun W => right_any x W
  obtain ⟨f, m⟩ := x
  unfold hasE
  unfold aggE at *
  cases hq : right (f, m) with
  | true =>
    have hb := (right_iff _).1 hq
    simp only at hb
    rw [hq] at hcall
    clear hq
    by_cases h1 : f ≤ n
    · go_enter Try.func36, Try.ntmps36
      go_wp2_with (go_at_call 28; refine (hcall _).mono ?_; rintro e w' ⟨rfl, hk'⟩; have hc1 := (hk'.cell (p := ⟨w.heap.size, 1, none⟩) (by simp) (by simp)); have hc0 := (hk'.cell (p := ⟨w.heap.size, 0, none⟩) (by simp) (by simp)); have hcB := hk'.cellA hc)
      go_ret
      exact ⟨by simp [h1], ((Keep.refl _ _).alloc _).trans hk' (by simp)⟩
    · go_enter Try.func36, Try.ntmps36
      go_wp2_with (go_at_call 28; refine (hcall _).mono ?_; rintro e w' ⟨rfl, hk'⟩; have hc1 := (hk'.cell (p := ⟨w.heap.size, 1, none⟩) (by simp) (by simp)); have hc0 := (hk'.cell (p := ⟨w.heap.size, 0, none⟩) (by simp) (by simp)); have hcB := hk'.cellA hc)
      go_ret
      exact ⟨by simp; omega, ((Keep.refl _ _).alloc _).trans hk' (by simp)⟩
  | false =>
    rw [hq] at hcall
    clear hq
    go_enter Try.func36, Try.ntmps36
    go_wp2_with (go_at_call 28; refine (hcall _).mono ?_; rintro e w' ⟨rfl, hk'⟩)
    go_ret
    exact ⟨by simp, ((Keep.refl _ _).alloc _).trans hk' (by simp)⟩

theorem has_any {w : World} {v : Value} {l : List E} {o : Option Nat} (hr : RdE w v l o) (hsz : l.length ≤ 1000000000) (ho : ∀ b, o = some b → b < w.heap.size) (n : Int) (hn : -9223372036854775808 ≤ n) (hn2 : n ≤ 9223372036854775807) :
    Calls Try.prog 20 #[.int .i64 n, v] w fun e w' => e = .returned (.bool (l.any (hasE n))) ∧ Keep [] w w' := by
  have eg : ∀ args w, (callFunc 36 args).run Try.prog w = .ok (.enter 36 args) w := enters_of Try.func36 (by kernel_rfl) rfl
  have hc : (w.alloc (.cells #[.int .i64 n] 3)).cell? ⟨w.heap.size, 0, none⟩ = some (.int .i64 n) := by simp
  have hcon := containsFunc_any (w := w.alloc (.cells #[.int .i64 n] 3)) (hr.keep ((Keep.refl [] w).alloc _) (by simp)) hsz (fun b hb => by have := ho b hb; simp; omega) 36 #[.pointer (some ⟨w.heap.size, 0, none⟩)] (hasE n) eg
    (fun x W hk => hasClosure n x w.heap.size W ((hk.cell (p := ⟨w.heap.size, 0, none⟩) (by simp) (by simp)).trans hc) hn hn2)
  clear hc hr ho eg
  generalize l.any (hasE n) = r at *
  go_enter Try.func20, Try.ntmps20
  go_wp2_with (go_at_call 26; refine hcon.mono ?_; rintro e w' ⟨rfl, hk⟩)
  go_ret
  exact ⟨rfl, ((Keep.refl _ _).alloc _).trans hk (by simp)⟩

end Go.Proofs.Ytlfhnbdeadiedaa
