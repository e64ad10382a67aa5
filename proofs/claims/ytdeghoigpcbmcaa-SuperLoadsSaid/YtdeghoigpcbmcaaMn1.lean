/- The writers of numbers: counted, many, laid. -/
import Derived.Test.YtdeghoigpcbmcaaMnB
import Derived.Test.YtdeghoigpcbmcaaShelf
import Derived.IntWalk
import Derived.Test.YtdeghoigpcbmcaaBaseCut
import Derived.Lib.Hide
namespace Go.Proofs.Ytdeghoigpcbmcaa
open Go.RowKit Go.Emb

theorem src_one (w : World) (B : Nat) (hB : w.heap.size = B) (x : Value) (hx : x.oneCell' = true) (t : TypeId) : Src Try.prog 1 38 (.slice (some ⟨B, 0, none⟩) 1 1) 1 [x] (w.alloc (.cells #[x] t)) := by
  subst hB
  exact Src.ofSlice _ Try.underlying38 ⟨w.heap.size, 0, none⟩ 1 1 [x] rfl (fun j u hj => by
    match j, hj with
    | 0, hj => simp at hj; subst hj; simp [Addr.add]) (fun u hu => by simp at hu; subst hu; exact hx)
theorem or_flag {W fl : Nat} (hW : W ≤ 8) (hfl : fl = 0 ∨ fl = 128) : bits BinOp.or IntKind.u8 (W : Int) (fl : Int) = ((fl + W : Nat) : Int) := by
  have : W = 0 ∨ W = 1 ∨ W = 2 ∨ W = 3 ∨ W = 4 ∨ W = 5 ∨ W = 6 ∨ W = 7 ∨ W = 8 := by omega
  rcases hfl with rfl | rfl <;> rcases this with rfl | rfl | rfl | rfl | rfl | rfl | rfl | rfl | rfl <;> rfl
theorem byte_cell (n k : Nat) : Lib.byteCells [UInt8.ofNat (n / 256 ^ k)] = [.int .u8 ((n : Int) / 2 ^ (8 * k) % 256)] := by
  have h1 : (2 : Int) ^ (8 * k) = ((256 ^ k : Nat) : Int) := by
    rw [show (256 : Nat) ^ k = 2 ^ (8 * k) from by rw [Nat.pow_mul]]
    simp
  rw [h1]
  simp only [Lib.byteCells, List.map_cons, List.map_nil, UInt8.toNat_ofNat']
  congr 2
theorem beL_snoc {n : Nat} (hn : n < 18446744073709551616) (k : Nat) (hk : k + 1 ≤ (beL n).length) : (beL n).take ((beL n).length - k) = (beL n).take ((beL n).length - (k + 1)) ++ [UInt8.ofNat (n / 256 ^ k)] := by
  have h : (beL n).length - (k + 1) < (beL n).length := by omega
  rw [show (beL n).length - k = (beL n).length - (k + 1) + 1 from by omega, List.take_succ_eq_append_getElem h, beL_get hn _ h, show (beL n).length - 1 - ((beL n).length - (k + 1)) = k from by omega]
theorem cells_of (m : Nat) (h : m < 256) : Lib.byteCells [UInt8.ofNat m] = [.int .u8 ((m : Nat) : Int)] := by
  simp [Lib.byteCells]; omega
set_option maxRecDepth 100000 in
set_option maxHeartbeats 1000000 in
theorem p_counted {w : World} {v : Value} {bs : List UInt8} {o : Option Nat} (h : RB w v bs o) (hl : bs.length ≤ 1000000000) {n : Nat} (hn : n < 18446744073709551616) {flag : Int} {fl : Nat} (hf : flag = (fl : Int)) (hfl : fl = 0 ∨ fl = 128) :
    Calls Try.prog 45 #[v, .int .u64 (n : Int), .int .u8 flag] w (GrewP o w (bs ++ numL n fl)) := by
  subst hf
  obtain ⟨a, c, rfl, hc1, hc2⟩ := h.form
  obtain ⟨i0, hi, hz0, hz1, hz2⟩ := info_parts byte_info
  obtain ⟨L, hL⟩ : ∃ L, L = Lib.bitLen n := ⟨_, rfl⟩
  obtain ⟨W, hW⟩ : ∃ W, W = (beL n).length := ⟨_, rfl⟩
  have hcall : Calls Try.prog 61 #[.int .u64 (n : Int)] w fun e w' => e = .returned (.int .i64 (L : Int)) ∧ w = w' := (Try.bits_Len64 (n : Int) w (by omega) (by omega)).mono fun e w' ⟨h1, h2⟩ => ⟨by rw [h1, hL]; rfl, h2.symm⟩
  have hbl := bitLen_beL hn
  have hw8 := beL_length n
  rw [← hL, ← hW] at hbl
  rw [← hW] at hw8
  have hL64 : L ≤ 64 := by omega
  have hd : ((L : Int) + 7) / 8 = (W : Int) := by omega
  have hu8 : IntKind.u8.wrap (W : Int) = (W : Int) := IntWalk.u8_in _ (by omega)
  have hor := or_flag hw8 hfl
  have hcs := cells_of (fl + W) (by omega)
  have HCS := Lib.hid hcs
  have HH : Hid (Row w 5 1 (.slice a bs.length c) bs.length (Lib.byteCells bs) o) := h
  have HI := Lib.hid hi
  have HC := Lib.hid hcall
  have HW := Lib.hid hW
  clear h hi hcall hL hW hbl hcs
  go_enter Try.func45, Try.ntmps45
  go_wp2_with fail
  refine HC.out.mono ?_
  rintro e w1 ⟨rfl, rfl⟩
  go_upto_region 2 with fail
  rw [hd]
  clear hd
  go_wp2_with (at_builtin; refine wpList_append_row _ rfl _ _ 38 38 rfl 5 i0 (.int .u8 0) 1 1 Try.underlying38 HI.out hz0 hz1 hz2 rfl _ _ _ o rfl (Row.keep HH.out (F := []) ((Keep.refl [] _).alloc _) (by simp)) _ rfl 1 _ (src_one _ _ rfl _ rfl _) (by omega) (by first | (unfold maxLen; omega) | (simp [maxLen] <;> omega)) (by first | omega | (simp <;> omega)) ?_)
  intro g off cap w2 hr2 hk2 hg2
  obtain ⟨n1, n2, n3⟩ := RB.next (w0 := w) (news := [UInt8.ofNat (fl + W)]) (o := o) (o0 := o) rfl HCS.out ((Keep.refl o.toList w).alloc _) (.inl rfl) hr2 hk2 (by simpa using hg2)
  have N1 := Lib.hid n1
  have N2 := Lib.hid n2
  have N3 := Lib.hid n3
  clear n1 n2 n3 hr2 hk2 hg2 hor hu8
  go_wp2_with fail
  go_loopw [0, 8] (fun v i wr => ∃ (j : Nat) (J : Int) (o' : Option Nat), j ≤ W ∧ .int .i64 J = i ∧ J = 8 * ((j : Int) - 1) ∧ RB wr v (bs ++ (UInt8.ofNat (fl + W) :: (beL n).take (W - j))) o' ∧ Keep o.toList w wr ∧ (o' = o ∨ ∀ b, o' = some b → w.heap.size ≤ b)) (fun _ i _ => (intOf i + 8).toNat)
  case atStart => exact ⟨W, _, some g, Nat.le_refl _, rfl, rfl, by rw [Nat.sub_self]; exact N1.out, N2.out, N3.out⟩
  case round =>
    obtain ⟨j, J, o', hj, rfl, hJ, hrow, hk, ho⟩ := hrel
    obtain ⟨a', c', rfl, hc3, hc4⟩ := hrow.form
    have HR := Lib.hid hrow
    have HK := Lib.hid hk
    have HO := Lib.hid ho
    clear hrow hk ho N1 N2 N3
    by_cases hj0 : j = 0
    · subst hj0
      have q1 : ¬ (0 : Int) ≤ J := by omega
      have q2 : J < 0 := by omega
      clear hJ
      have hfin : bs ++ (UInt8.ofNat (fl + W) :: (beL n).take (W - 0)) = bs ++ numL n fl := by
        unfold numL
        rw [Nat.sub_zero, HW.out, List.take_length]
      obtain ⟨lk, hlk⟩ : ∃ x, x = bs ++ (UInt8.ofNat (fl + W) :: (beL n).take (W - 0)) := ⟨_, rfl⟩
      rw [← hlk] at HR hfin
      rw [← hlk]
      have HFIN := Lib.hid hfin
      clear hfin hlk
      go_wp2_with fail
      go_ret
      exact ⟨_, o', rfl, by rw [← HFIN.out]; exact HR.out, HK.out, HO.out⟩
    · obtain ⟨k, rfl⟩ : ∃ k : Nat, j = k + 1 := ⟨j - 1, by omega⟩
      obtain rfl : J = 8 * (k : Int) := by omega
      have hsn := beL_snoc hn k (by have := HW.out; omega)
      rw [← HW.out] at hsn
      have hby := byte_cell n k
      obtain ⟨lk, hlk⟩ : ∃ x, x = bs ++ (UInt8.ofNat (fl + W) :: (beL n).take (W - (k + 1))) := ⟨_, rfl⟩
      have hll : lk.length ≤ 1000000100 := by
        rw [hlk, List.length_append, List.length_cons, List.length_take]; omega
      have hstep : bs ++ (UInt8.ofNat (fl + W) :: (beL n).take (W - k)) = lk ++ [UInt8.ofNat (n / 256 ^ k)] := by rw [hsn, hlk]; simp
      rw [← hlk] at HR
      rw [← hlk]
      have HR2 : Hid (Row wr 5 1 (.slice a' lk.length c') lk.length (Lib.byteCells lk) o') := HR.out
      have HSTEP := Lib.hid hstep
      have HBY := Lib.hid hby
      have q0 : (0 : Int) ≤ 8 * (k : Int) := by omega
      have q1 : 8 * (k : Int) ≤ 56 := by omega
      clear hsn hby hlk hstep HR
      go_wp2_with (at_builtin; refine wpList_append_row _ rfl _ _ 38 38 rfl 5 i0 (.int .u8 0) 1 1 Try.underlying38 HI.out hz0 hz1 hz2 rfl _ _ _ o' rfl (Row.keep HR2.out (F := []) ((Keep.refl [] _).alloc _) (by simp)) _ rfl 1 _ (src_one _ _ rfl _ rfl _) (by omega) (by first | (unfold maxLen; omega) | (simp [maxLen] <;> omega)) (by first | omega | (simp <;> omega)) ?_)
      intro g2 off2 cap2 w3 hr3 hk3 hg3
      obtain ⟨n1, n2, n3⟩ := RB.next (w0 := w) (news := [UInt8.ofNat (n / 256 ^ k)]) (o := o') (o0 := o) rfl HBY.out (HK.out.alloc _) HO.out hr3 hk3 (by simpa using hg3)
      rw [← HSTEP.out] at n1
      have N1 := Lib.hid n1
      have N2 := Lib.hid n2
      have N3 := Lib.hid n3
      clear n1 n2 n3 hr3 hk3 hg3
      go_wp2_with fail
      go_roundw
      case rel => exact ⟨k, _, some g2, by omega, rfl, by omega, N1.out, N2.out, N3.out⟩
      case measure => simp [intOf]; omega
end Go.Proofs.Ytdeghoigpcbmcaa
