/- Super: Grow of nothing, Concat of one list, Sum. -/
import Derived.Test.YtdeghoigpcbmcaaMn1
import Derived.Test.YtdeghoigpcbmcaaSpP
import Derived.Test.YtdeghoigpcbmcaaBaseApp
import Derived.Lib.AppendZeros
import Derived.Deep.Upon
namespace Go.Proofs.Ytdeghoigpcbmcaa
open Go.RowKit Go.Emb

theorem run_append_any {P : Program} {w : World} {T tx ty E e' : TypeId} {i : TypeInfo} {z : Value} {k bytes : Nat} (ht : P.underlying T = some (.slice E)) (htx : P.underlying tx = some (.slice e')) (hi : P.info? E = some i) (hz : i.zero = some z) (hik : i.size = k) (hib : i.bytes = bytes)
    (hzs : z.cells.size = k) {v : Value} {n : Nat} {xs : List Value} {o : Option Nat} (h : Row w E k v n xs o) {x : Value} {m : Nat} {news : List Value} {ox : Option Nat} (hx : Rd w k x m news ox) (h1 : ∀ u ∈ news, u.oneCell' = true)
    (h63 : n + m ≤ maxLen) (hbytes : (n + m) * bytes ≤ 140737488355328) :
    ∃ v' o' w', (Builtin.append_ #[T, tx] ty #[v, x]).run P w = .ok v' w' ∧ Row w' E k v' (n + m) (xs ++ news) o' ∧ Keep o.toList w w' ∧ (o' = o ∨ ∀ b, o' = some b → w.heap.size ≤ b) := by
  by_cases hm : m = 0
  · subst hm
    have hn : news = [] := List.eq_nil_of_length_eq_zero (by simpa using hx.1)
    subst hn
    have hv : ∃ a c, v = .slice a n c ∧ n ≤ c := by
      obtain ⟨-, ⟨-, h, hn⟩ | ⟨_, _, c, _, -, h, -, hc, -⟩⟩ := h
      · exact ⟨none, 0, by rw [h, hn], by omega⟩
      · exact ⟨_, c, h, hc⟩
    obtain ⟨a, c, rfl, hc⟩ := hv
    have hs : Src P i.size tx x 0 [] w := by
      obtain ⟨-, xa, xc, rfl, -⟩ := hx
      cases xa with
      | none => exact Src.ofNil _ htx _
      | some xa => exact Src.ofSlice _ htx xa 0 xc [] (by simp) (fun j u hu => by simp at hu) (by simp)
    exact ⟨_, o, w, run_append_nothing w T tx ty E i ht hi a n c hc x hs, by simpa using h, Keep.refl _ _, .inl rfl⟩
  · obtain ⟨g, off', cap', w', r1, r2, r3, r4⟩ := run_append_row (P := P) (w := w) (ty := ty) ht hi hz hik hib hzs h (hx.src htx (by omega) h1) (by omega) h63 hbytes
    refine ⟨_, some g, w', r1, r2, r3, ?_⟩
    rcases r4 with r4 | r4
    · exact .inl r4.symm
    · exact .inr (fun b hb => by cases hb; exact r4)
theorem size_zc (z : Value) (hz : z.cells = #[z]) (n : Nat) : (Builtin.zeroCells z.cells n).size = n := by
  rw [size_zeroCells, hz]; simp
set_option maxRecDepth 100000 in
theorem p_grow {w : World} {n : Nat} (hn : n ≤ 1000000000) : Calls Try.prog 49 #[.slice none 0 0, .int .i64 n] w fun e w' => ∃ v o, e = .returned v ∧ RB w' v [] o ∧ (∀ b, o = some b → w.heap.size ≤ b) ∧ Keep [] w w' := by
  obtain ⟨i0, hi, hz0, hz1, hz2⟩ := info_parts byte_info
  have HI := Lib.hid hi
  clear hi
  by_cases h0 : n = 0
  · subst h0
    go_enter Try.func49, Try.ntmps49
    go_wp2_with fail
    go_ret
    exact ⟨_, none, rfl, RB.nil w, by simp, Keep.refl _ _⟩
  · have h1 : (0 : Int) < (n : Int) := by omega
    have h2 : ¬ (n : Int) < 0 := by omega
    have hw : IntKind.i64.wrap (n : Int) = (n : Int) := IntWalk.i64_in _ (by omega)
    have hrun := Lib.run_append_nil_zeros (P := Try.prog) w 38 3 38 5 i0 (.int .u8 0) .i64 .i64 Try.underlying38 Try.underlying3 HI.out hz0 n (by omega) (by rw [hz1]; decide) (by omega) (by rw [hz2]; omega)
    have hge := grownCap_ge w n 0 5
    have hcm := grownCap_le_maxLen w n 0 5 (by unfold maxLen; omega)
    obtain ⟨C, hC⟩ : ∃ C, C = grownCap w n 0 5 := ⟨_, rfl⟩
    rw [← hC] at hrun hge hcm
    have hrow : RB (w.drew.alloc (.cells (Builtin.zeroCells (Value.int .u8 0).cells n ++ Builtin.zeroCells (Value.int .u8 0).cells (C - n)) 5)) (.slice (some ⟨w.heap.size, 0, none⟩) 0 C) [] (some w.heap.size) := by
      refine ⟨by simp [Lib.byteCells], .inr ⟨w.heap.size, 0, C, _, rfl, rfl, heap_alloc_new w.drew _, Nat.zero_le _, hcm, ?_, fun i hi => by simp at hi⟩⟩
      rw [Array.size_append, size_zc _ rfl, size_zc _ rfl]; omega
    have hk : Keep [] w (w.drew.alloc (.cells (Builtin.zeroCells (Value.int .u8 0).cells n ++ Builtin.zeroCells (Value.int .u8 0).cells (C - n)) 5)) := (Keep.refl [] w).drew.alloc _
    have HROW := Lib.hid hrow
    have HK := Lib.hid hk
    have HRUN := Lib.hid hrun
    clear hrun hrow hk hC
    unfold maxLen at hcm
    have q1 : (0 : Int) ≤ (C : Int) := by omega
    go_enter Try.func49, Try.ntmps49
    go_wp2_with (at_builtin; refine Lib.wpList_append_run _ rfl _ _ _ _ rfl _ _ rfl rfl _ _ HRUN.out ?_)
    go_wp2_with fail
    go_ret
    exact ⟨_, rfl, some w.heap.size, HROW.out, by rintro b ⟨⟩; omega, HK.out⟩
set_option maxRecDepth 100000 in
set_option maxHeartbeats 1000000 in
/-- Concat of one list of bytes -/
theorem p_concat1 {w : World} {lb lo lc : Nat} {bv : Value} {bs : List UInt8} {o : Option Nat} (hc : w.cell? ⟨lb, lo, none⟩ = some bv) (hr : Rd w 1 bv bs.length (Lib.byteCells bs) o) (hn : bs.length ≤ 1000000000) :
    Calls Try.prog 35 #[.slice (some ⟨lb, lo, none⟩) 1 lc] w fun e w' => ∃ v' o', e = .returned v' ∧ RB w' v' bs o' ∧ (∀ b, o' = some b → w.heap.size ≤ b) ∧ Keep [] w w' := by
  obtain ⟨ba, bc, rfl⟩ : ∃ a c, bv = .slice a bs.length c := by obtain ⟨-, a, c, h, -⟩ := hr; exact ⟨a, c, h⟩
  obtain ⟨i0, hi, hz0, hz1, hz2⟩ := info_parts byte_info
  have HI := Lib.hid hi
  have HR := Lib.hid hr
  have HC := Lib.hid hc
  have hone : ∀ u ∈ Lib.byteCells bs, u.oneCell' = true := fun u hu => by
    unfold Lib.byteCells at hu
    obtain ⟨c, -, rfl⟩ := List.mem_map.1 hu
    rfl
  have HONE := Lib.hid hone
  have hgr := p_grow (w := w) (n := bs.length) hn
  have HGR := Lib.hid hgr
  clear hi hr hone hgr
  have hw0 : IntKind.i64.wrap (0 + (bs.length : Int)) = (bs.length : Int) := (IntWalk.i64_in _ (by omega)).trans (by omega)
  go_enter Try.func35, Try.ntmps35
  go_wp2_with fail
  go_loop [3, 11] (fun n i => ∃ k : Nat, k ≤ 1 ∧ i = .int .i64 k ∧ n = .int .i64 ((k * bs.length : Nat) : Int)) (fun _ i => 1 - (RowKit.intOf i).toNat)
  case atStart => exact ⟨0, by omega, rfl, by simp⟩
  case round =>
    obtain ⟨k, hk, rfl, rfl⟩ := hrel
    by_cases h0 : k = 0
    · subst h0
      have q1 : ¬ (bs.length : Int) < 0 := by omega
      go_wp2_with fail
      go_round
      case rel => exact ⟨1, by omega, by go_num, by simp⟩
      case measure => decide
    · obtain rfl : k = 1 := by omega
      rw [Nat.one_mul]
      go_wp2_with fail
      refine HGR.out.mono ?_
      rintro e w2 ⟨v2, o2, rfl, hr2, ho2, hk2⟩
      have HR2 := Lib.hid hr2
      have HO2 := Lib.hid ho2
      have HK2 := Lib.hid hk2
      clear hr2 ho2 hk2 HGR
      go_wp2_with fail
      go_loopw [6, 27] (fun v i wr => ∃ k : Nat, k ≤ 1 ∧ i = .int .i64 k ∧ ∃ o, RB wr v (if k = 0 then [] else bs) o ∧ (∀ b, o = some b → w.heap.size ≤ b) ∧ Keep [] w wr) (fun _ i _ => 1 - (RowKit.intOf i).toNat)
      case atStart => exact ⟨0, by omega, rfl, o2, HR2.out, HO2.out, HK2.out⟩
      case round =>
        obtain ⟨k, hk, rfl, o3, hr3, ho3, hk3⟩ := hrel
        have HO3 := Lib.hid ho3
        have HK3 := Lib.hid hk3
        by_cases h0 : k = 0
        · subst h0
          rw [if_pos rfl] at hr3
          have hc3 : wr.cell? ⟨lb, lo, none⟩ = some (.slice ba bs.length bc) := by rw [hk3.cell (World.block_lt_of_cell? _ _ HC.out) (by simp)]; exact HC.out
          have hrd := HR.out.keep hk3 (by simp)
          have HRD := Lib.hid hrd
          obtain ⟨v4, o4, w4, hrun, hr4, hk4, ho4⟩ := run_append_any (P := Try.prog) (ty := 38) (T := 38) (tx := 38) Try.underlying38 Try.underlying38 HI.out hz0 hz1 hz2 rfl hr3 hrd HONE.out (by unfold maxLen; simp; omega) (by simp; omega)
          obtain ⟨va, vc, rfl, -, -⟩ := hr3.form
          have hlt := Row.lt hr3
          have HRUN := Lib.hid hrun
          have hnew : ∀ b, o4 = some b → w.heap.size ≤ b := fun b hb => by
            rcases ho4 with h | h
            · exact ho3 b (by rw [← h]; exact hb)
            · have := h b hb; have := hk3.size; omega
          have hk5 : Keep [] w w4 := hk3.trans hk4 (fun x hx => .inr (by
            cases o3 with
            | none => simp at hx
            | some y => simp at hx; subst hx; exact ho3 _ rfl))
          have hr5 : RB w4 v4 bs o4 := by
            unfold RB
            simpa [Lib.byteCells] using hr4
          have HR5 := Lib.hid hr5
          have HK5 := Lib.hid hk5
          have HNEW := Lib.hid hnew
          clear hr3 ho3 hk3 hrd hr4 hk4 ho4 hrun hr5 hk5 hnew hlt hc
          go_wp2_with (at_builtin; refine Lib.wpList_append_run _ rfl _ _ _ _ rfl _ _ rfl rfl _ _ HRUN.out ?_)
          go_wp2_with fail
          go_roundw
          case rel => exact ⟨1, by omega, by go_num, o4, by rw [if_neg (by omega)]; exact HR5.out, HNEW.out, HK5.out⟩
          case measure => decide
        · obtain rfl : k = 1 := by omega
          rw [if_neg (by omega)] at hr3
          have HR3 := Lib.hid hr3
          clear hr3 ho3 hk3
          go_wp2_with fail
          go_ret
          exact ⟨_, o3, rfl, HR3.out, HO3.out, HK3.out⟩
end Go.Proofs.Ytdeghoigpcbmcaa
