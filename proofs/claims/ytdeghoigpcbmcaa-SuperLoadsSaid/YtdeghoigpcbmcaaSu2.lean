/- Super: Sum (CRC-32C). -/
import Derived.Test.YtdeghoigpcbmcaaSu1
import Derived.Laws.Entries
namespace Go.Proofs.Ytdeghoigpcbmcaa
open Go.RowKit Go.Emb

theorem wrap_u32 (n : Int) : IntKind.u32.wrap n = n % 4294967296 := by simp [IntKind.wrap, IntKind.bits, IntKind.signed]
theorem bits_xor32 (a b : Nat) (ha : a < 4294967296) (hb : b < 4294967296) : bits BinOp.xor IntKind.u32 (a : Int) (b : Int) = ((a ^^^ b : Nat) : Int) := by
  have hx : a ^^^ b < 2 ^ 32 := Nat.xor_lt_two_pow (by omega) (by omega)
  have h1 : (BitVec.ofInt 32 (a : Int)).toNat = a := by
    rw [BitVec.ofInt_natCast, BitVec.toNat_ofNat]; exact Nat.mod_eq_of_lt (by omega)
  have h2 : (BitVec.ofInt 32 (b : Int)).toNat = b := by
    rw [BitVec.ofInt_natCast, BitVec.toNat_ofNat]; exact Nat.mod_eq_of_lt (by omega)
  show IntKind.u32.wrap ((BitVec.ofInt 32 (a : Int) ^^^ BitVec.ofInt 32 (b : Int)).toNat : Int) = _
  rw [BitVec.toNat_xor, h1, h2, wrap_u32]
  omega
theorem bits_and32 (a : Nat) (ha : a < 4294967296) : bits BinOp.and IntKind.u32 (a : Int) 1 = ((a % 2 : Nat) : Int) := by
  have h1 : (BitVec.ofInt 32 (a : Int)).toNat = a := by
    rw [BitVec.ofInt_natCast, BitVec.toNat_ofNat]; exact Nat.mod_eq_of_lt (by omega)
  show IntKind.u32.wrap ((BitVec.ofInt 32 (a : Int) &&& BitVec.ofInt 32 1).toNat : Int) = _
  rw [BitVec.toNat_and, h1, wrap_u32]
  have h2 : (BitVec.ofInt 32 1).toNat = 1 := by decide
  rw [h2, Nat.and_one_is_mod]
  omega
theorem bits_not32 (a : Nat) (ha : a < 4294967296) : bits BinOp.xor IntKind.u32 4294967295 (a : Int) = ((4294967295 - a : Nat) : Int) := by
  have h := bits_xor32 4294967295 a (by decide) ha
  have e : 4294967295 ^^^ a = 4294967295 - a := by
    apply Nat.eq_of_testBit_eq
    intro i
    rw [Nat.testBit_xor, show (4294967295 : Nat) = 2 ^ 32 - 1 by decide, Nat.testBit_two_pow_sub_one, show 2 ^ 32 - 1 - a = 2 ^ 32 - (a + 1) by omega, Nat.testBit_two_pow_sub_succ (by omega)]
    by_cases hi : i < 32
    · simp [hi]
    · have : a.testBit i = false := Nat.testBit_lt_two_pow (by
        have := Nat.pow_le_pow_right (show 0 < 2 by decide) (show 32 ≤ i by omega)
        omega)
      simp [hi, this]
  rw [e] at h
  exact h
theorem rdb_at {w : World} {a : Option Addr} {n c : Nat} {l : List UInt8} {o : Option Nat} (h : Rd w 1 (.slice a n c) l.length (Lib.byteCells l) o) {k : Nat} (hk : k < l.length) :
    ∃ b off, a = some ⟨b, off, none⟩ ∧ w.cell? ⟨b, off + k, none⟩ = some (.int .u8 l[k].toNat) := by
  obtain ⟨-, a', c', hv, -, -, h3⟩ := h
  cases hv
  rcases h3 with ⟨h3, -⟩ | ⟨b, off, rfl, -, h3⟩
  · omega
  · exact ⟨b, off, rfl, by rw [h3 k (by omega)]; simp [Lib.byteCells, hk]⟩
theorem crc_snoc (s : Nat) (l : List UInt8) (c : UInt8) : crcFrom s (l ++ [c]) = crcByte (crcFrom s l) c := by simp [crcFrom]
set_option maxRecDepth 100000 in
set_option maxHeartbeats 1000000 in
theorem p_sum {w : World} {lb lo lc : Nat} {bv : Value} {bs : List UInt8} {o : Option Nat} (hc : w.cell? ⟨lb, lo, none⟩ = some bv) (hr : Rd w 1 bv bs.length (Lib.byteCells bs) o) (hn : bs.length ≤ 1000000000) :
    Calls Try.prog 48 #[.slice (some ⟨lb, lo, none⟩) 1 lc] w fun e w' => e = .returned (.int .u32 (crcL bs : Nat)) ∧ Keep [] w w' := by
  have hcc := p_concat1 (lc := lc) hc hr hn
  have HCC := Lib.hid hcc
  clear hcc hc hr
  go_enter Try.func48, Try.ntmps48
  go_wp2_with fail
  refine HCC.out.mono ?_
  rintro e w2 ⟨v2, o2, rfl, hr2, ho2, hk2⟩
  obtain ⟨o3, hrd, -⟩ := Row.rd hr2
  obtain ⟨va, vc, rfl, -, -⟩ := hr2.form
  have HRD := Lib.hid hrd
  have HK2 := Lib.hid hk2
  clear hr2 ho2 hk2 HCC hrd
  go_wp2_with fail
  go_loop [3, 9] (fun s i => ∃ k : Nat, k ≤ bs.length ∧ i = .int .i64 k ∧ s = .int .u32 (crcFrom 4294967295 (bs.take k) : Nat)) (fun _ i => bs.length - (RowKit.intOf i).toNat)
  case atStart => exact ⟨0, Nat.zero_le _, rfl, rfl⟩
  case round =>
    obtain ⟨k, hk, rfl, rfl⟩ := hrel
    have hlt32 := crcFrom_lt (bs.take k) (s := 4294967295) (by decide)
    by_cases hlt : k < bs.length
    · have hsn : crcFrom 4294967295 (bs.take (k + 1)) = crcByte (crcFrom 4294967295 (bs.take k)) bs[k] := by rw [List.take_succ_eq_append_getElem hlt, crc_snoc]
      obtain ⟨S, hS⟩ : ∃ S, S = crcFrom 4294967295 (bs.take k) := ⟨_, rfl⟩
      rw [← hS] at hsn hlt32 ⊢
      obtain ⟨b, off, rfl, c0⟩ := rdb_at HRD.out hlt
      obtain ⟨c, hc⟩ : ∃ c, c = bs[k] := ⟨_, rfl⟩
      rw [← hc] at c0 hsn
      have hcl := c.toNat_lt
      have hx1 := bits_xor32 S c.toNat hlt32 (by omega)
      have hw1 : IntKind.u32.wrap (c.toNat : Int) = (c.toNat : Int) := by rw [wrap_u32]; omega
      have hX := xor_lt32 hlt32 c
      have q0 : (0 : Int) ≤ (k : Int) := by omega
      have q1 : (k : Int) < (bs.length : Int) := by omega
      unfold crcByte at hsn
      obtain ⟨X, hXX⟩ : ∃ X, X = S ^^^ c.toNat := ⟨_, rfl⟩
      rw [← hXX] at hx1 hX hsn
      have HSN := Lib.hid hsn
      clear hS hc hsn hXX
      go_wp2_with fail
      go_loop [3, 17] (fun s i => ∃ j : Nat, j ≤ 8 ∧ i = .int .i64 j ∧ s = .int .u32 (Nat.repeat crcStep j X : Nat)) (fun _ i => 8 - (RowKit.intOf i).toNat)
      case atStart => exact ⟨0, by omega, rfl, rfl⟩
      case round =>
        obtain ⟨j, hj, rfl, rfl⟩ := hrel
        have hY := rep_lt j hX
        by_cases hj8 : j < 8
        · have hst : Nat.repeat crcStep (j + 1) X = crcStep (Nat.repeat crcStep j X) := rfl
          obtain ⟨Y, hYY⟩ : ∃ Y, Y = Nat.repeat crcStep j X := ⟨_, rfl⟩
          rw [← hYY] at hY hst ⊢
          have hand := bits_and32 Y hY
          have hxx := bits_xor32 (Y / 2) (2197175160 * (Y % 2)) (by omega) (by have := Nat.mod_lt Y (show 0 < 2 by decide); omega)
          rw [show (Y / 2) ^^^ (2197175160 * (Y % 2)) = crcStep Y from rfl] at hxx
          have q2 : (j : Int) < 8 := by omega
          have hx2 : bits BinOp.xor IntKind.u32 ((Y : Int) / 2) (2197175160 * ((Y : Int) % 2)) = ((Nat.repeat crcStep (j + 1) X : Nat) : Int) := by
            rw [hst, ← hxx]; congr 1
          have HX2 := Lib.hid hx2
          clear hYY hx2 hxx hst
          go_wp2_with fail
          go_round
          case rel => exact ⟨j + 1, by omega, by go_num, by rw [HX2.out]⟩
          case measure => simp [RowKit.intOf]; omega
        · obtain rfl : j = 8 := by omega
          go_wp2_with fail
          go_round
          case rel => exact ⟨k + 1, by omega, by go_num, by rw [HSN.out]⟩
          case measure => simp [RowKit.intOf]; omega
    · obtain rfl : k = bs.length := by omega
      have q1 : ¬ (bs.length : Int) < (bs.length : Int) := by omega
      rw [List.take_length] at hlt32 ⊢
      have hnot := bits_not32 _ hlt32
      have hmax : IntKind.u32.max = 4294967295 := by decide
      go_wp2_with fail
      go_ret
      exact ⟨rfl, HK2.out⟩
end Go.Proofs.Ytdeghoigpcbmcaa
