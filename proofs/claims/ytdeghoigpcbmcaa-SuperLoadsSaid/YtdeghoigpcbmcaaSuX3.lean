/- (of XExt, by exs.py, for the super seat) Extents: contracts, continued: comparing two lists. -/
import Derived.Test.YtdeghoigpcbmcaaSuX1
import Derived.Laws.StructEq
namespace Go.Proofs.Ytdeghoigpcbmcaa
open Go.RowKit Go.Emb Go.Lib Go.Emb.Ext

set_option maxRecDepth 100000 in
theorem equalE (a b c d : Int) (W : World) : (Op.equalIn 10000 54 (.agg #[.int .i64 a, .int .i64 b]) (.agg #[.int .i64 c, .int .i64 d])).run Try.prog W = .ok (a == c && b == d) W := by
  rw [run_equalIn_agg W 9999 _ _ _ Try.underlying54 (by kernel_rfl)]
  unfold Program.fieldsOf
  rw [Try.underlying54]
  by_cases h1 : a = c
  · by_cases h2 : b = d
    · simp [Op.eqFields, go_sem, run_equalIn_int _ 9998 _ _ _ _ _ Try.underlying3, h1, h2]
    · simp [Op.eqFields, go_sem, run_equalIn_int _ 9998 _ _ _ _ _ Try.underlying3, h1, h2]
  · simp [Op.eqFields, go_sem, run_equalIn_int _ 9998 _ _ _ _ _ Try.underlying3, h1]
set_option maxRecDepth 100000 in
theorem guardE (op : BinOp) (x y : Operand) (a b c d : Int) (W : World) : (eqGuard op 54 x y (.agg #[.int .i64 a, .int .i64 b]) (.agg #[.int .i64 c, .int .i64 d])).run Try.prog W = .ok () W :=
  run_eqGuard_agg W op _ x y _ _ (by kernel_rfl)
set_option maxRecDepth 100000 in
theorem neqE (a b c d : Int) (W : World) : (binOp .neq 54 (.agg #[.int .i64 a, .int .i64 b]) (.agg #[.int .i64 c, .int .i64 d])).run Try.prog W = .ok (.bool (!(a == c && b == d))) W := by
  rw [run_neq_struct, equalE]; rfl
set_option maxRecDepth 100000 in
theorem eqlE (a b c d : Int) (W : World) : (binOp .eql 54 (.agg #[.int .i64 a, .int .i64 b]) (.agg #[.int .i64 c, .int .i64 d])).run Try.prog W = .ok (.bool (a == c && b == d)) W := by
  rw [run_eql_struct, equalE]; rfl

set_option maxRecDepth 100000 in
set_option maxHeartbeats 400000 in
/-- two lists of extents -/
theorem extents_any {w : World} {u v : Value} {xs ys : List E} {ox oy : Option Nat} (hx : RdE w u xs ox) (hy : RdE w v ys oy) (hsx : xs.length ≤ 1000000000) (hsy : ys.length ≤ 1000000000) :
    Calls Try.prog 30 #[u, v] w fun e w' => e = .returned (.bool (decide (xs = ys))) ∧ ∃ n, w' = w.drewN n := by
  obtain ⟨a, c, rfl⟩ : ∃ a c, u = .slice a xs.length c := by obtain ⟨_, a, c, h, _⟩ := hx; exact ⟨a, c, h⟩
  obtain ⟨a', c', rfl⟩ : ∃ a c, v = .slice a ys.length c := by obtain ⟨_, a, c, h, _⟩ := hy; exact ⟨a, c, h⟩
  have HX := Lib.hid hx
  have HY := Lib.hid hy
  clear hx hy
  have hneq := neqE
  have hgu := guardE
  by_cases hne : xs.length = ys.length
  · have hb : ((xs.length : Int) != (ys.length : Int)) = false := by simp [hne]
    have HN := Lib.hid hne
    clear hne
    go_enter Try.func30, Try.ntmps30
    go_wp2_with fail
    go_loopw [5] (fun i wr => ∃ k n : Nat, k ≤ xs.length ∧ i = .int .i64 k ∧ xs.take k = ys.take k ∧ wr = w.drewN n) (fun i _ => xs.length - (intOf i).toNat)
    case atStart => exact ⟨0, 0, Nat.zero_le _, rfl, by simp, rfl⟩
    case round =>
      obtain ⟨k, n, hk, rfl, htk, rfl⟩ := hrel
      have HT := Lib.hid htk
      clear htk
      by_cases hlt : k < xs.length
      · have hlt' : k < ys.length := by have := HN.out; omega
        obtain ⟨b, off, rfl, -, c0, c1⟩ := HX.out.at hlt
        obtain ⟨b', off', rfl, -, d0, d1⟩ := HY.out.at hlt'
        have i0 : (0 : Int) ≤ (k : Int) := by omega
        have i1 : (k : Int) < (xs.length : Int) := by omega
        have i2 : (k : Int) < (ys.length : Int) := by omega
        have hts : xs.take (k + 1) = xs.take k ++ [xs[k]] := List.take_succ_eq_append_getElem hlt
        have hts' : ys.take (k + 1) = ys.take k ++ [ys[k]] := List.take_succ_eq_append_getElem hlt'
        have hxy : xs[k] ≠ ys[k] → xs ≠ ys := by rintro h rfl; exact h rfl
        have HXY := Lib.hid hxy
        have HTS := Lib.hid hts
        have HTS' := Lib.hid hts'
        clear hts hts' hxy
        generalize xs[k] = x at *
        generalize ys[k] = y at *
        obtain ⟨x1, x2⟩ := x
        obtain ⟨y1, y2⟩ := y
        simp only at c0 c1 d0 d1
        by_cases hxy : ((x1, x2) : E) = (y1, y2)
        · have hb' : (x1 == y1 && x2 == y2) = true := by simp at hxy; simp [hxy]
          have HE := Lib.hid hxy
          clear hxy
          have hneq' : ∀ W, (binOp .neq 54 (.agg #[.int .i64 x1, .int .i64 x2]) (.agg #[.int .i64 y1, .int .i64 y2])).run Try.prog W = .ok (.bool false) W := fun W => by rw [hneq, hb']; rfl
          clear hneq hb'
          go_wp2_with fail
          go_quiet (fail)
          go_wp2_with fail
          go_roundw
          case rel => exact ⟨k + 1, _, by omega, by go_num, by rw [HTS.out, HTS'.out, HT.out, HE.out], rfl⟩
          case measure => simp [intOf]; omega
        · have hb' : (x1 == y1 && x2 == y2) = false := by
            simp at hxy ⊢; exact hxy
          have hneq' : ∀ W, (binOp .neq 54 (.agg #[.int .i64 x1, .int .i64 x2]) (.agg #[.int .i64 y1, .int .i64 y2])).run Try.prog W = .ok (.bool true) W := fun W => by rw [hneq, hb']; rfl
          have hd := HXY.out hxy
          have HD := Lib.hid hd
          clear hd hneq hb' hxy
          go_wp2_with fail
          go_quiet (fail)
          go_wp2_with fail
          go_ret
          exact ⟨by simp [HD.out], n + nq, by rw [World.drewN_drewN]⟩
      · go_wp2_with fail
        go_ret
        have h1 := HT.out
        rw [List.take_of_length_le (by omega), List.take_of_length_le (by have := HN.out; omega)] at h1
        exact ⟨by simp [h1], n, rfl⟩
  · have hb : ((xs.length : Int) != (ys.length : Int)) = true := by simp; omega
    have hd : decide (xs = ys) = false := by simp; rintro rfl; exact hne rfl
    go_enter Try.func30, Try.ntmps30
    go_wp2_with fail
    go_ret
    exact ⟨by rw [hd]; rfl, 0, rfl⟩
end Go.Proofs.Ytdeghoigpcbmcaa
