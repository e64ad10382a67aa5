/- The queue's functions: contracts, continued: Waiting, Set, Clear, At, Numbers. -/
import Derived.Test.YtphfmbkfcjiciaaQueue
import Derived.Deep.QuietTactic
import Derived.BigQuiet
namespace Go.Proofs.Ytphfmbkfcjiciaa
open Go.RowKit Go.Emb

/-- a copy: what was read, in a block of its own -/
def CloneP (w : World) (xs : List Value) (e : Ending) (w' : World) : Prop := ∃ v o, e = .returned v ∧ Row w' 2 1 v xs.length xs o ∧ (∀ b, o = some b → w.heap.size ≤ b) ∧ Keep [] w w'

theorem clone_any {w : World} {v : Value} {xs : List Value} {o : Option Nat} (ha : Rd w 1 v xs.length xs o) (h1 : ∀ u ∈ xs, u.oneCell' = true) (hsz : xs.length ≤ 1000000000) :
    Calls Try.prog 28 #[v] w (CloneP w xs) := by
  obtain ⟨i0, hi, hz0, hz1, hz2⟩ := info_parts i64_info
  have HI := Lib.hid hi
  have HA := Lib.hid ha
  have hnz := @Lib.run_eql_slice_nil Try.prog
  obtain ⟨hl, a, c, rfl, _, h2, h3⟩ := ha
  have H1 := Lib.hid h1
  clear hi hl h3 h1
  rcases a with _ | a
  · have hn : xs = [] := by
      rcases HA.out.2 with ⟨a, c, hv, _, _, h | ⟨b, off, h, _⟩⟩
      · exact List.eq_nil_of_length_eq_zero h.1
      · cases hv; cases h
    subst hn
    go_enter Try.func28, Try.ntmps28
    go_wp2_with fail
    go_ret
    exact ⟨_, none, rfl, Row.nil _ _ _, by simp, Keep.refl _ _⟩
  · by_cases hn : xs.length = 0
    · have hx : xs = [] := List.eq_nil_of_length_eq_zero hn
      subst hx
      have happ : ∀ W : World, ∀ b, (Builtin.append_ #[22, 22] 22 #[.slice (some ⟨b, 0, none⟩) 0 0, .slice (some a) 0 c]).run Try.prog W = .ok (.slice (some ⟨b, 0, none⟩) 0 0) W := by
        intro W b
        simp [Builtin.append_, run_underlying Try.underlying22, sizeOf, typeInfo, HI.out, hz1, Builtin.lenOf, Builtin.firstCells, loadCells, loadCellsFrom, storeCells]
      go_enter Try.func28, Try.ntmps28
      go_wp2_with fail
      go_ret
      refine ⟨_, some w.heap.size, rfl, ⟨rfl, .inr ⟨w.heap.size, 0, 0, #[], rfl, rfl, heap_alloc_new w _, Nat.le_refl _, by simp, by simp, by simp⟩⟩, by simp, (Keep.refl _ _).alloc _⟩
    · have hrow : Row (w.alloc (.cells #[] 2)) 2 1 (.slice (some ⟨w.heap.size, 0, none⟩) 0 0) 0 [] (some w.heap.size) := ⟨by simp, .inr ⟨w.heap.size, 0, 0, #[], rfl, rfl, heap_alloc_new w _, Nat.le_refl _, by simp, by simp, by simp⟩⟩
      have hsrc : Src Try.prog 1 22 (.slice (some a) xs.length c) xs.length xs (w.alloc (.cells #[] 2)) := (HA.out.keep0 ((Keep.refl _ _).alloc _)).src Try.underlying22 (by omega) H1.out
      have HR := Lib.hid hrow
      have HS := Lib.hid hsrc
      clear hrow hsrc
      go_enter Try.func28, Try.ntmps28
      go_wp2_with (at_builtin; refine wpList_append_row _ rfl _ _ 22 22 rfl 2 i0 (.int .i64 0) 1 8 Try.underlying22 HI.out hz0 hz1 hz2 rfl _ 0 [] _ rfl HR.out _ rfl xs.length xs HS.out (by omega) (by unfold maxLen; omega) (by omega) ?_; intro g off2 cap w2 hrow2 hk2 hg2)
      go_ret
      simp only [Nat.zero_add, List.nil_append] at hrow2
      refine ⟨_, some g, by simp, hrow2, ?_, ?_⟩
      · rintro b ⟨⟩
        rcases hg2 with h | h
        · cases h; exact Nat.le_refl _
        · simp at h; omega
      · exact ((Keep.refl [] w).alloc _).trans hk2 (by simp)

theorem waiting_any {w : World} {q : Nat} {l : List Int} {T : List (Int × Int)} {F : List Nat} (h : IsQ w q l T F) (hsz : l.length ≤ 1000000000) :
    Calls Try.prog 10 #[.pointer (some ⟨q, 0, none⟩)] w (CloneP w (l.map (Value.int .i64))) := by
  obtain ⟨v, bi, bt, o, pi, h, rfl⟩ := h
  obtain ⟨c0, c1, c2, f0⟩ := cells3 h.here
  obtain ⟨o', hrd, _⟩ := h.row.rd
  have hcl := clone_any (w := w) (v := v) (xs := l.map (Value.int .i64)) (o := o') (by simpa using hrd) (by simp [Value.oneCell']) (by simpa using hsz)
  have HC := Lib.hid hcl
  clear hcl hrd h
  go_enter Try.func10, Try.ntmps10
  go_wp2_with fail
  refine HC.out.mono ?_
  rintro e w' ⟨v, o, rfl, h⟩
  go_wp2_with fail
  go_ret
  exact ⟨v, o, rfl, h⟩

theorem isQ_timers {w : World} {q : Nat} {l : List Int} {T T' : List (Int × Int)} {v : Value} {bi bt : Nat} {o : Option Nat} {pi : List (Int × Value)} (h : IsQ' w q l T v bi bt o pi) {w1 : World} (k : Keep [bt] w w1) (hm : MapA (Value.int .i64) w1 bt (T'.map fun p => (p.1, Value.int .i64 p.2))) :
    IsQ w1 q l T' (q :: bi :: bt :: o.toList) ∧ Keep (q :: bi :: bt :: o.toList) w w1 :=
  ⟨⟨v, bi, bt, o, pi, ⟨(k.block q (Array.getElem?_eq_some_iff.1 h.here).1 (by simpa using h.qt)).trans h.here, h.row.keep k (fun b hb => by simpa using (h.ob b hb).2.2), h.mis.keep k (by simpa using h.it), h.is, hm, h.nd, h.qi, h.qt, h.it, h.ob⟩, rfl⟩, k.mono (by simp)⟩

theorem zero64 (w : World) : (zeroValue 2).run Try.prog w = .ok (.int .i64 0) w := by kernel_rfl

theorem at_any {w : World} {q : Nat} {l : List Int} {T : List (Int × Int)} {F : List Nat} (h : IsQ w q l T F) (p : Int) :
    Calls Try.prog 17 #[.pointer (some ⟨q, 0, none⟩), .int .i64 p] w fun e w' => e = .returned (.tuple #[.int .i64 ((mfind T p).getD 0), .bool (mfind T p).isSome]) ∧ w = w' := by
  obtain ⟨v, bi, bt, o, pi, h, rfl⟩ := h
  obtain ⟨c0, c1, c2, f0⟩ := cells3 h.here
  have HM := Lib.hid h.mt
  have hfm : mfind (T.map fun p => (p.1, Value.int .i64 p.2)) p = (mfind T p).map (Value.int .i64) := mfind_map _ _ _
  have HF := Lib.hid hfm
  clear h hfm
  go_enter Try.func17, Try.ntmps17
  go_wp2_with (at_lookup; refine wpList_mapA_look_ok _ rfl _ _ 52 rfl 2 2 keyI Try.underlying52 (zero64 _) bt _ rfl HM.out p rfl ?_)
  go_ret2
  rw [HF.out]
  refine ⟨?_, rfl⟩
  cases mfind T p <;> rfl

theorem set_any {w : World} {q : Nat} {l : List Int} {T : List (Int × Int)} {F : List Nat} (h : IsQ w q l T F) (p t : Int) :
    Calls Try.prog 13 #[.pointer (some ⟨q, 0, none⟩), .int .i64 p, .int .i64 t] w fun e w' => e = .returned (.bool (mfind T p).isNone) ∧ IsQ w' q l (mput T p t) F ∧ Keep F w w' := by
  obtain ⟨v, bi, bt, o, pi, h, rfl⟩ := h
  obtain ⟨c0, c1, c2, f0⟩ := cells3 h.here
  have HH := Lib.hid h
  have HM := Lib.hid h.mt
  have hfm : mfind (T.map fun p => (p.1, Value.int .i64 p.2)) p = (mfind T p).map (Value.int .i64) := mfind_map _ _ _
  have HF := Lib.hid hfm
  clear h hfm
  go_enter Try.func13, Try.ntmps13
  go_wp2_with (first
    | (at_lookup; refine wpList_mapA_look_ok _ rfl _ _ 52 rfl 2 2 keyI Try.underlying52 (zero64 _) bt _ rfl HM.out p rfl ?_)
    | (at_mapUpdate; refine wpList_mapA_update _ rfl _ _ _ 52 rfl 2 2 keyI Try.underlying52 bt _ rfl HM.out p rfl (.int .i64 t) rfl ?_; intro w1 hm1 hk1))
  go_ret
  rw [HF.out]
  rw [mput_map] at hm1
  refine ⟨?_, isQ_timers HH.out hk1 hm1⟩
  cases mfind T p <;> rfl

theorem clear_any {w : World} {q : Nat} {l : List Int} {T : List (Int × Int)} {F : List Nat} (h : IsQ w q l T F) (p : Int) :
    Calls Try.prog 18 #[.pointer (some ⟨q, 0, none⟩), .int .i64 p] w fun e w' => e = .returned (.bool (mfind T p).isSome) ∧ IsQ w' q l (mdel T p) F ∧ Keep F w w' := by
  obtain ⟨v, bi, bt, o, pi, h, rfl⟩ := h
  obtain ⟨c0, c1, c2, f0⟩ := cells3 h.here
  have HH := Lib.hid h
  have HM := Lib.hid h.mt
  have hfm : mfind (T.map fun p => (p.1, Value.int .i64 p.2)) p = (mfind T p).map (Value.int .i64) := mfind_map _ _ _
  have HF := Lib.hid hfm
  clear h hfm
  go_enter Try.func18, Try.ntmps18
  go_wp2_with (first
    | (at_lookup; refine wpList_mapA_look_ok _ rfl _ _ 52 rfl 2 2 keyI Try.underlying52 (zero64 _) bt _ rfl HM.out p rfl ?_)
    | (at_delete; refine wpList_mapA_delete _ rfl _ _ 52 2 rfl 2 keyI Try.underlying52 bt _ rfl HM.out p rfl ?_; intro w1 hm1 hk1))
  go_ret
  rw [HF.out]
  rw [mdel_map] at hm1
  refine ⟨?_, isQ_timers HH.out hk1 hm1⟩
  cases mfind T p <;> rfl

/-- two lists of numbers -/
theorem numbers_any {w : World} {u v : Value} {xs ys : List Int} {ox oy : Option Nat} (hx : Rd w 1 u xs.length (xs.map (Value.int .i64)) ox) (hy : Rd w 1 v ys.length (ys.map (Value.int .i64)) oy) (hsx : xs.length ≤ 1000000000) (hsy : ys.length ≤ 1000000000) :
    Calls Try.prog 15 #[u, v] w fun e w' => e = .returned (.bool (decide (xs = ys))) ∧ ∃ n, w' = w.drewN n := by
  obtain ⟨_, a, c, rfl, _, _, h3⟩ := hx
  obtain ⟨_, a', c', rfl, _, _, h3'⟩ := hy
  by_cases hne : xs.length = ys.length
  · have hb : ((xs.length : Int) != (ys.length : Int)) = false := by simp [hne]
    have HN := Lib.hid hne
    have H3 := Lib.hid h3
    have H3' := Lib.hid h3'
    clear h3 h3' hne
    go_enter Try.func15, Try.ntmps15
    go_wp2_with fail
    go_loopw [5] (fun i wr => ∃ k n : Nat, k ≤ xs.length ∧ i = .int .i64 k ∧ xs.take k = ys.take k ∧ wr = w.drewN n) (fun i _ => xs.length - (intOf i).toNat)
    case atStart => exact ⟨0, 0, Nat.zero_le _, rfl, by simp, rfl⟩
    case round =>
      obtain ⟨k, n, hk, rfl, htk, rfl⟩ := hrel
      have HT := Lib.hid htk
      clear htk
      by_cases hlt : k < xs.length
      · rcases H3.out with ⟨h0, _⟩ | ⟨b, off, rfl, rfl, h3⟩
        · omega
        rcases H3'.out with ⟨h0, _⟩ | ⟨b', off', rfl, rfl, h3'⟩
        · have := HN.out; omega
        have hc1 : w.cell? ⟨b, off + k, none⟩ = some (.int .i64 xs[k]) := by
          have hb := h3 k (by omega)
          rw [List.getElem?_map, List.getElem?_eq_getElem hlt] at hb
          exact hb
        have hlt' : k < ys.length := by have := HN.out; omega
        have hc2 : w.cell? ⟨b', off' + k, none⟩ = some (.int .i64 ys[k]) := by
          have hb := h3' k (by omega)
          rw [List.getElem?_map, List.getElem?_eq_getElem hlt'] at hb
          exact hb
        have i0 : (0 : Int) ≤ (k : Int) := by omega
        have i1 : (k : Int) < (xs.length : Int) := by omega
        have i2 : (k : Int) < (ys.length : Int) := by omega
        have hts : xs.take (k + 1) = xs.take k ++ [xs[k]] := List.take_succ_eq_append_getElem hlt
        have hts' : ys.take (k + 1) = ys.take k ++ [ys[k]] := List.take_succ_eq_append_getElem hlt'
        have hxy : xs[k] ≠ ys[k] → xs ≠ ys := by rintro h rfl; exact h rfl
        have HX := Lib.hid hxy
        have HTS := Lib.hid hts
        have HTS' := Lib.hid hts'
        clear h3 h3' hts hts' hxy
        generalize xs[k] = x at *
        generalize ys[k] = y at *
        by_cases hxy : x = y
        · have hb' : (x != y) = false := by simp [hxy]
          have HE := Lib.hid hxy
          clear hxy
          go_wp2_with fail
          go_quiet (fail)
          go_wp2_with fail
          go_roundw
          case rel => exact ⟨k + 1, _, by omega, by go_num, by rw [HTS.out, HTS'.out, HT.out, HE.out], rfl⟩
          case measure => simp [intOf]; omega
        · have hb' : (x != y) = true := by simp [hxy]
          have hd := HX.out hxy
          go_wp2_with fail
          go_quiet (fail)
          go_wp2_with fail
          go_ret
          exact ⟨by simp [hd], n + nq, by rw [World.drewN_drewN]⟩
      · go_wp2_with fail
        go_ret
        have h1 := HT.out
        rw [List.take_of_length_le (by omega), List.take_of_length_le (by have := HN.out; omega)] at h1
        exact ⟨by simp [h1], n, rfl⟩
  · have hb : ((xs.length : Int) != (ys.length : Int)) = true := by simp; omega
    have hd : decide (xs = ys) = false := by simp; rintro rfl; exact hne rfl
    go_enter Try.func15, Try.ntmps15
    go_wp2_with fail
    go_ret
    exact ⟨by rw [hd]; rfl, 0, rfl⟩

end Go.Proofs.Ytphfmbkfcjiciaa
