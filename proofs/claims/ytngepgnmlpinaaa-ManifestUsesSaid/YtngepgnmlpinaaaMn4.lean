/- The document's writers: many, laid, Uint, Int, Text. -/
import Derived.Test.YtngepgnmlpinaaaMn3
namespace Go.Proofs.Ytngepgnmlpinaaa
open Go.RowKit Go.Emb

theorem beL_zero : (beL 0).length = 0 := rfl
set_option maxRecDepth 100000 in
set_option maxHeartbeats 1000000 in
theorem r_many {w : World} {n : Nat} (hn : n < 18446744073709551616) : Calls Try.prog 83 #[.int .u64 (n : Int)] w fun e w' => e = .returned (.int .i64 ((beL n).length : Int)) ∧ w = w' := by
  obtain ⟨W, hW⟩ : ∃ W, W = (beL n).length := ⟨_, rfl⟩
  have hW8 := beL_length n
  rw [← hW] at hW8
  rw [← hW]
  have HW := Lib.hid hW
  have HN := Lib.hid hn
  clear hW hn
  go_enter Try.func83, Try.ntmps83
  go_wp2_with fail
  go_loop [0, 3] (fun v k => ∃ (m j : Nat), m < 18446744073709551616 ∧ v = .int .u64 (m : Int) ∧ k = .int .i64 (j : Int) ∧ W = j + (beL m).length) (fun v _ => (intOf v).toNat)
  case atStart => exact ⟨n, 0, HN.out, rfl, rfl, by rw [HW.out]; omega⟩
  case round =>
    obtain ⟨m, j, hm, rfl, rfl, hj⟩ := hrel
    by_cases h0 : m = 0
    · subst h0
      rw [beL_zero] at hj
      obtain rfl : W = j := by omega
      clear hm hj
      go_wp2_with fail
      go_ret
      exact ⟨rfl, rfl⟩
    · have hd := beL_div m h0 hm
      have hpos : (0 : Int) < (m : Int) := by omega
      have hj2 : W = j + 1 + (beL (m / 256)).length := by omega
      have HJ := Lib.hid hj2
      have hj8 : (j : Int) ≤ 8 := by omega
      have hdv : IntKind.u64.wrap ((m : Int) / 256) = ((m / 256 : Nat) : Int) := (IntWalk.u64_in _ (by omega)).trans (by omega)
      have htd : (m : Int).tdiv 256 = (m : Int) / 256 := Int.tdiv_eq_ediv_of_nonneg (by omega)
      have HM := Lib.hid hm
      clear hj hj2 hd hm h0
      go_wp2_with fail
      go_round
      case rel => exact ⟨m / 256, j + 1, by have := HM.out; omega, by first | rfl | go_num, by go_num, HJ.out⟩
      case measure => simp [intOf]; omega
set_option maxRecDepth 100000 in
set_option maxHeartbeats 1000000 in
theorem r_laid {w : World} {v : Value} {bs : List UInt8} {o : Option Nat} (h : RB w v bs o) (hl : bs.length ≤ 1000000000) {n : Nat} (hn : n < 18446744073709551616) {more : Int} {fl : Nat} (hf : more = (fl : Int)) (hfl : fl = 0 ∨ fl = 128) :
    Calls Try.prog 72 #[v, .int .u64 (n : Int), .int .i64 more] w (GrewP o w (bs ++ numL n fl)) := by
  subst hf
  obtain ⟨a, c, rfl, hc1, hc2⟩ := h.form
  obtain ⟨i0, hi, hz0, hz1, hz2⟩ := info_parts byte_info
  obtain ⟨W, hW⟩ : ∃ W, W = (beL n).length := ⟨_, rfl⟩
  have hcall := r_many (w := w) hn
  have hw8 := beL_length n
  rw [← hW] at hw8 hcall
  have hfl2 : (fl : Int) ≤ 128 := by omega
  have hu8 : IntKind.u8.wrap ((W : Int) + (fl : Int)) = (W : Int) + (fl : Int) := IntWalk.u8_in _ (by omega)
  have hcs := cells_of (fl + W) (by omega)
  rw [show ((fl + W : Nat) : Int) = (W : Int) + (fl : Int) from by omega] at hcs
  have HCS := Lib.hid hcs
  have HH : Hid (Row w 5 1 (.slice a bs.length c) bs.length (Lib.byteCells bs) o) := h
  have HI := Lib.hid hi
  have HC := Lib.hid hcall
  have HW := Lib.hid hW
  clear h hi hcall hW hcs
  go_enter Try.func72, Try.ntmps72
  go_wp2_with fail
  refine HC.out.mono ?_
  rintro e w1 ⟨rfl, rfl⟩
  go_wp2_with (at_builtin; refine wpList_append_row _ rfl _ _ 24 24 rfl 5 i0 (.int .u8 0) 1 1 Try.underlying24 HI.out hz0 hz1 hz2 rfl _ _ _ o rfl (Row.keep HH.out (F := []) ((Keep.refl [] _).alloc _) (by simp)) _ rfl 1 _ (src_one _ _ rfl _ rfl _) (by omega) (by first | (unfold maxLen; omega) | (simp [maxLen] <;> omega)) (by first | omega | (simp <;> omega)) ?_)
  intro g off cap w2 hr2 hk2 hg2
  obtain ⟨n1, n2, n3⟩ := RB.next (w0 := w) (news := [UInt8.ofNat (fl + W)]) (o := o) (o0 := o) rfl HCS.out ((Keep.refl o.toList w).alloc _) (.inl rfl) hr2 hk2 (by simpa using hg2)
  have N1 := Lib.hid n1
  have N2 := Lib.hid n2
  have N3 := Lib.hid n3
  clear n1 n2 n3 hr2 hk2 hg2 hu8
  go_wp2_with fail
  go_loopw [0, 7] (fun v i wr => ∃ (j : Nat) (o' : Option Nat), j ≤ W ∧ i = .int .i64 (j : Int) ∧ RB wr v (bs ++ (UInt8.ofNat (fl + W) :: (beL n).take (W - j))) o' ∧ Keep o.toList w wr ∧ (o' = o ∨ ∀ b, o' = some b → w.heap.size ≤ b)) (fun _ i _ => (intOf i).toNat)
  case atStart => exact ⟨W, some g, Nat.le_refl _, rfl, by rw [Nat.sub_self]; exact N1.out, N2.out, N3.out⟩
  case round =>
    obtain ⟨j, o', hj, rfl, hrow, hk, ho⟩ := hrel
    obtain ⟨a', c', rfl, hc3, hc4⟩ := hrow.form
    have HR := Lib.hid hrow
    have HK := Lib.hid hk
    have HO := Lib.hid ho
    clear hrow hk ho N1 N2 N3
    by_cases hj0 : j = 0
    · subst hj0
      have hfin : bs ++ (UInt8.ofNat (fl + W) :: (beL n).take (W - 0)) = bs ++ numL n fl := by
        unfold numL
        rw [Nat.sub_zero, HW.out, List.take_length]
      obtain ⟨lk, hlk⟩ : ∃ x, x = bs ++ (UInt8.ofNat (fl + W) :: (beL n).take (W - 0)) := ⟨_, rfl⟩
      rw [← hlk] at HR hfin
      rw [← hlk]
      have HFIN := Lib.hid hfin
      clear hfin hlk
      go_wp2_with fail
      go_ret
      exact ⟨_, o', rfl, by rw [← HFIN.out]; exact HR.out, HK.out, HO.out⟩
    · obtain ⟨k, rfl⟩ : ∃ k : Nat, j = k + 1 := ⟨j - 1, by omega⟩
      have hsn := beL_snoc hn k (by have := HW.out; omega)
      rw [← HW.out] at hsn
      have hby := byte_cell n k
      obtain ⟨lk, hlk⟩ : ∃ x, x = bs ++ (UInt8.ofNat (fl + W) :: (beL n).take (W - (k + 1))) := ⟨_, rfl⟩
      have hll : lk.length ≤ 1000000100 := by
        rw [hlk, List.length_append, List.length_cons, List.length_take]; omega
      have hstep : bs ++ (UInt8.ofNat (fl + W) :: (beL n).take (W - k)) = lk ++ [UInt8.ofNat (n / 256 ^ k)] := by rw [hsn, hlk]; simp
      rw [← hlk] at HR
      rw [← hlk]
      have HR2 : Hid (Row wr 5 1 (.slice a' lk.length c') lk.length (Lib.byteCells lk) o') := HR.out
      have HSTEP := Lib.hid hstep
      have HBY := Lib.hid hby
      have q0 : (0 : Int) < ((k + 1 : Nat) : Int) := by omega
      have q1 : (k : Int) ≤ 7 := by omega
      clear hsn hby hlk hstep HR
      go_wp2_with (at_builtin; refine wpList_append_row _ rfl _ _ 24 24 rfl 5 i0 (.int .u8 0) 1 1 Try.underlying24 HI.out hz0 hz1 hz2 rfl _ _ _ o' rfl (Row.keep HR2.out (F := []) ((Keep.refl [] _).alloc _) (by simp)) _ rfl 1 _ (src_one _ _ rfl _ rfl _) (by omega) (by first | (unfold maxLen; omega) | (simp [maxLen] <;> omega)) (by first | omega | (simp <;> omega)) ?_)
      intro g2 off2 cap2 w3 hr3 hk3 hg3
      obtain ⟨n1, n2, n3⟩ := RB.next (w0 := w) (news := [UInt8.ofNat (n / 256 ^ k)]) (o := o') (o0 := o) rfl HBY.out (HK.out.alloc _) HO.out hr3 hk3 (by simpa using hg3)
      rw [← HSTEP.out] at n1
      have N1 := Lib.hid n1
      have N2 := Lib.hid n2
      have N3 := Lib.hid n3
      clear n1 n2 n3 hr3 hk3 hg3
      go_wp2_with fail
      go_roundw
      case rel => exact ⟨k, some g2, by omega, rfl, N1.out, N2.out, N3.out⟩
      case measure => simp [intOf]
end Go.Proofs.Ytngepgnmlpinaaa
