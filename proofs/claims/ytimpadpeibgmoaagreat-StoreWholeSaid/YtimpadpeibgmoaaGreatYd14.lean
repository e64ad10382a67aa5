/- A part of the proof (SpP, Su1, Su2), joined by squeeze2.py. -/
import Derived.Test.YtimpadpeibgmoaaGreatYd03
import Derived.Test.YtimpadpeibgmoaaGreatYd01
import Derived.Lib.AppendZeros
import Derived.Deep.Upon
import Derived.Laws.Entries
set_option maxHeartbeats 8000000
set_option maxRecDepth 100000
namespace Go.Emb
def crcStep (s : Nat) : Nat := (s / 2) ^^^ (2197175160 * (s % 2))
def crcByte (s : Nat) (c : UInt8) : Nat := Nat.repeat crcStep 8 (s ^^^ c.toNat)
def crcFrom (s : Nat) (l : List UInt8) : Nat := l.foldl crcByte s
def crcL (l : List UInt8) : Nat := 4294967295 - crcFrom 4294967295 l
theorem crcStep_lt {s : Nat} (h : s < 4294967296) : crcStep s < 4294967296 := by
 unfold crcStep
 have h1 : s / 2 < 2 ^ 32 := by omega
 have h2 : 2197175160 * (s % 2) < 2 ^ 32 := by have := Nat.mod_lt s (show 0 < 2 by decide); omega
 exact Nat.xor_lt_two_pow h1 h2
theorem rep_lt (n : Nat) {s : Nat} (h : s < 4294967296) : Nat.repeat crcStep n s < 4294967296 := by
 induction n with
 | zero => exact h
 | succ n ih => exact crcStep_lt ih
theorem xor_lt32 {s : Nat} (h : s < 4294967296) (c : UInt8) : s ^^^ c.toNat < 4294967296 := Nat.xor_lt_two_pow (n := 32) h (by have := c.toNat_lt; omega)
theorem crcByte_lt {s : Nat} (h : s < 4294967296) (c : UInt8) : crcByte s c < 4294967296 := rep_lt 8 (xor_lt32 h c)
theorem crcFrom_lt (l : List UInt8) : ∀ {s : Nat}, s < 4294967296 → crcFrom s l < 4294967296 := by
 induction l with
 | nil => intro s h; exact h
 | cons c l ih => intro s h; exact ih (crcByte_lt h c)
def hiL : Nat → Nat → List UInt8
 | 0, _ => []
 | k + 1, n => hiL k (n / 256) ++ [UInt8.ofNat n]
def hiN (l : List UInt8) : Nat := l.foldl (fun a c => a * 256 + c.toNat) 0
theorem hiL_len (k n : Nat) : (hiL k n).length = k := by
 induction k generalizing n with
 | zero => rfl
 | succ k ih => simp [hiL, ih]
theorem hiN_snoc (l : List UInt8) (c : UInt8) : hiN (l ++ [c]) = hiN l * 256 + c.toNat := by simp [hiN]
theorem hiN_hiL (k n : Nat) (h : n < 256 ^ k) : hiN (hiL k n) = n := by
 induction k generalizing n with
 | zero => simp at h; subst h; rfl
 | succ k ih =>
  simp only [hiL]
  rw [hiN_snoc, ih (n / 256) (by rw [Nat.pow_succ] at h; omega)]
  rw [UInt8.toNat_ofNat']
  omega
theorem hiN_lt (l : List UInt8) : hiN l < 256 ^ l.length := by
 suffices h : ∀ (l : List UInt8) (k : Nat), l.length = k → hiN l < 256 ^ k from h l _ rfl
 intro l k
 induction k generalizing l with
 | zero => intro h; have : l = [] := List.length_eq_zero_iff.1 h; subst this; simp [hiN]
 | succ k ih =>
  intro h
  obtain ⟨r, c, rfl⟩ : ∃ r c, l = r ++ [c] := ⟨l.dropLast, l.getLast (by intro e; rw [e] at h; simp at h), (List.dropLast_concat_getLast _).symm⟩
  have h1 := ih r (by simp at h; exact h)
  have h2 := c.toNat_lt
  rw [hiN_snoc, Nat.pow_succ]
  omega
structure Seal where
 kind : UInt8
 num : Nat
 load : List UInt8
def sealHead (size : Nat) (x : Seal) : List UInt8 := x.kind :: hiL 8 x.num ++ hiL 2 x.load.length ++ x.load ++ List.replicate (size - 15 - x.load.length) 0
def sealL (size : Nat) (x : Seal) : List UInt8 := sealHead size x ++ hiL 4 (crcL (sealHead size x))
def roomN (n : Nat) : Nat := if n < 64 ∨ 4096 < n then 0 else n - 15
def SealOk (size : Nat) (x : Seal) : Prop := roomN size ≠ 0 ∧ x.kind ≠ 0 ∧ x.load.length ≤ roomN size ∧ x.num < 18446744073709551616
theorem sealHead_len {size : Nat} {x : Seal} (h : SealOk size x) : (sealHead size x).length = size - 4 := by
 obtain ⟨h1, -, h3, -⟩ := h
 unfold roomN at h1 h3
 split at h1
 ·exact absurd rfl h1
 ·rename_i hn
  rw [if_neg hn] at h3
  unfold sealHead
  simp only [List.cons_append, List.length_cons, List.length_append, hiL_len, List.length_replicate]
  omega
theorem sealL_len {size : Nat} {x : Seal} (h : SealOk size x) : (sealL size x).length = size := by
 have h1 := sealHead_len h
 obtain ⟨h2, -⟩ := h
 unfold roomN at h2
 unfold sealL
 rw [List.length_append, h1, hiL_len]
 split at h2
 ·exact absurd rfl h2
 ·omega
def sealKind (b : List UInt8) : UInt8 := b.headD 0
def sealNum (b : List UInt8) : Nat := hiN ((b.drop 1).take 8)
def sealLoad (b : List UInt8) : List UInt8 := (b.drop 11).take (hiN ((b.drop 9).take 2))
def sealOf (b : List UInt8) : Seal := ⟨sealKind b, sealNum b, sealLoad b⟩
noncomputable def openS (b : List UInt8) : Option Seal :=
 @ite _ (roomN b.length ≠ 0 ∧ hiN ((b.drop 9).take 2) ≤ roomN b.length ∧ sealKind b ≠ 0 ∧ sealL b.length (sealOf b) = b) (Classical.propDecidable _) (some (sealOf b)) none
theorem sealOf_sealL {size : Nat} {x : Seal} (h : SealOk size x) : sealOf (sealL size x) = x ∧ hiN (((sealL size x).drop 9).take 2) = x.load.length := by
 have hb : ∀ (A B C D : List UInt8) (k : UInt8), A.length = 8 → B.length = 2 → (((k :: A ++ B ++ C ++ D).drop 1).take 8 = A ∧ ((k :: A ++ B ++ C ++ D).drop 9).take 2 = B ∧ (k :: A ++ B ++ C ++ D).drop 11 = C ++ D) := by
  intro A B C D k hA hB
  match A, hA with
  | [a1, a2, a3, a4, a5, a6, a7, a8], _ =>
   match B, hB with
   | [b1, b2], _ => exact ⟨rfl, rfl, rfl⟩
 have hl : x.load.length < 65536 := by
  obtain ⟨h1, -, h3, -⟩ := h
  unfold roomN at h1 h3
  split at h1
  ·exact absurd rfl h1
  ·rename_i hn; rw [if_neg hn] at h3; omega
 obtain ⟨e1, e2, e3⟩ := hb (hiL 8 x.num) (hiL 2 x.load.length) x.load (List.replicate (size - 15 - x.load.length) 0 ++ hiL 4 (crcL (sealHead size x))) x.kind (hiL_len _ _) (hiL_len _ _)
 have e : sealL size x = x.kind :: hiL 8 x.num ++ hiL 2 x.load.length ++ x.load ++ (List.replicate (size - 15 - x.load.length) 0 ++ hiL 4 (crcL (sealHead size x))) := by
  conv => lhs; unfold sealL
  conv => lhs; arg 1; unfold sealHead
  simp only [List.append_assoc]
 have hn : hiN (hiL 2 x.load.length) = x.load.length := hiN_hiL 2 _ (by omega)
 refine ⟨?_, by rw [e, e2, hn]⟩
 unfold sealOf sealNum sealLoad sealKind
 rw [e, e1, e2, e3, hn]
 rw [hiN_hiL 8 _ (by have := h.2.2.2; omega)]
 cases x
 simp
theorem openS_sealL {size : Nat} {x : Seal} (h : SealOk size x) : openS (sealL size x) = some x := by
 obtain ⟨h1, h2⟩ := sealOf_sealL h
 unfold openS
 rw [h1, h2, sealL_len h]
 rw [if_pos ⟨h.1, h.2.2.1, by have := congrArg Seal.kind h1; simp only [sealOf] at this; rw [this]; exact h.2.1, rfl⟩]
end Go.Emb

namespace Go.Proofs.YtimpadpeibgmoaaGreat
open Go.RowKit Go.Emb
theorem run_append_any {P : Program} {w : World} {T tx ty E e' : TypeId} {i : TypeInfo} {z : Value} {k bytes : Nat} (ht : P.underlying T = some (.slice E)) (htx : P.underlying tx = some (.slice e')) (hi : P.info? E = some i) (hz : i.zero = some z) (hik : i.size = k) (hib : i.bytes = bytes)
  (hzs : z.cells.size = k) {v : Value} {n : Nat} {xs : List Value} {o : Option Nat} (h : Row w E k v n xs o) {x : Value} {m : Nat} {news : List Value} {ox : Option Nat} (hx : Rd w k x m news ox) (h1 : ∀ u ∈ news, u.oneCell' = true)
  (h63 : n + m ≤ maxLen) (hbytes : (n + m) * bytes ≤ 140737488355328) :
  ∃ v' o' w', (Builtin.append_ #[T, tx] ty #[v, x]).run P w = .ok v' w' ∧ Row w' E k v' (n + m) (xs ++ news) o' ∧ Keep o.toList w w' ∧ (o' = o ∨ ∀ b, o' = some b → w.heap.size ≤ b) := by
 by_cases hm : m = 0
 ·subst hm
  have hn : news = [] := List.eq_nil_of_length_eq_zero (by simpa using hx.1)
  subst hn
  have hv : ∃ a c, v = .slice a n c ∧ n ≤ c := by
   obtain ⟨-, ⟨-, h, hn⟩ | ⟨_, _, c, _, -, h, -, hc, -⟩⟩ := h
   ·exact ⟨none, 0, by rw [h, hn], by omega⟩
   ·exact ⟨_, c, h, hc⟩
  obtain ⟨a, c, rfl, hc⟩ := hv
  have hs : Src P i.size tx x 0 [] w := by
   obtain ⟨-, xa, xc, rfl, -⟩ := hx
   cases xa with
   | none => exact Src.ofNil _ htx _
   | some xa => exact Src.ofSlice _ htx xa 0 xc [] (by simp) (fun j u hu => by simp at hu) (by simp)
  exact ⟨_, o, w, run_append_nothing w T tx ty E i ht hi a n c hc x hs, by simpa using h, Keep.refl _ _, .inl rfl⟩
 ·obtain ⟨g, off', cap', w', r1, r2, r3, r4⟩ := run_append_row (P := P) (w := w) (ty := ty) ht hi hz hik hib hzs h (hx.src htx (by omega) h1) (by omega) h63 hbytes
  refine ⟨_, some g, w', r1, r2, r3, ?_⟩
  rcases r4 with r4 | r4
  ·exact .inl r4.symm
  ·exact .inr (fun b hb => by cases hb; exact r4)
theorem size_zc (z : Value) (hz : z.cells = #[z]) (n : Nat) : (Builtin.zeroCells z.cells n).size = n := by
 rw [size_zeroCells, hz]; simp
theorem p_grow {w : World} {n : Nat} (hn : n ≤ 1000000000) : Calls Tryz.prog 80 #[.slice none 0 0, .int .i64 n] w fun e w' => ∃ v o, e = .returned v ∧ RB w' v [] o ∧ (∀ b, o = some b → w.heap.size ≤ b) ∧ Keep [] w w' := by
 obtain ⟨i0, hi, hz0, hz1, hz2⟩ := info_parts byte_info
 have HI := hyd hi
 clear hi
 by_cases h0 : n = 0
 ·subst h0
  go_enter Tryz.func80, Tryz.ntmps80
  go_wp2_with fail
  go_ret
  exact ⟨_, none, rfl, RB.nil w, by simp, Keep.refl _ _⟩
 ·have h1 : (0 : Int) < (n : Int) := by omega
  have h2 : ¬ (n : Int) < 0 := by omega
  have hw : IntKind.i64.wrap (n : Int) = (n : Int) := IntWalk.i64_in _ (by omega)
  have hrun := Lib.run_append_nil_zeros (P := Tryz.prog) w 35 3 35 5 i0 (.int .u8 0) .i64 .i64 Tryz.underlying35 Tryz.underlying3 HI.o hz0 n (by omega) (by rw [hz1]; decide) (by omega) (by rw [hz2]; omega)
  have hge := grownCap_ge w n 0 5
  have hcm := grownCap_le_maxLen w n 0 5 (by unfold maxLen; omega)
  obtain ⟨C, hC⟩ : ∃ C, C = grownCap w n 0 5 := ⟨_, rfl⟩
  rw [← hC] at hrun hge hcm
  have hrow : RB (w.drew.alloc (.cells (Builtin.zeroCells (Value.int .u8 0).cells n ++ Builtin.zeroCells (Value.int .u8 0).cells (C - n)) 5)) (.slice (some ⟨w.heap.size, 0, none⟩) 0 C) [] (some w.heap.size) := by
   refine ⟨by simp [Lib.byteCells], .inr ⟨w.heap.size, 0, C, _, rfl, rfl, heap_alloc_new w.drew _, Nat.zero_le _, hcm, ?_, fun i hi => by simp at hi⟩⟩
   rw [Array.size_append, size_zc _ rfl, size_zc _ rfl]; omega
  have hk : Keep [] w (w.drew.alloc (.cells (Builtin.zeroCells (Value.int .u8 0).cells n ++ Builtin.zeroCells (Value.int .u8 0).cells (C - n)) 5)) := (Keep.refl [] w).drew.alloc _
  have HROW := hyd hrow
  have HK := hyd hk
  have HRUN := hyd hrun
  clear hrun hrow hk hC
  unfold maxLen at hcm
  have q1 : (0 : Int) ≤ (C : Int) := by omega
  go_enter Tryz.func80, Tryz.ntmps80
  go_wp2_with (at_builtin; refine Lib.wpList_append_run _ rfl _ _ _ _ rfl _ _ rfl rfl _ _ HRUN.o ?_)
  go_wp2_with fail
  go_ret
  exact ⟨_, rfl, some w.heap.size, HROW.o, by rintro b ⟨⟩; omega, HK.o⟩
theorem p_concat1 {w : World} {lb lo lc : Nat} {bv : Value} {bs : List UInt8} {o : Option Nat} (hc : w.cell? ⟨lb, lo, none⟩ = some bv) (hr : Rd w 1 bv bs.length (Lib.byteCells bs) o) (hn : bs.length ≤ 1000000000) :
  Calls Tryz.prog 49 #[.slice (some ⟨lb, lo, none⟩) 1 lc] w fun e w' => ∃ v' o', e = .returned v' ∧ RB w' v' bs o' ∧ (∀ b, o' = some b → w.heap.size ≤ b) ∧ Keep [] w w' := by
 obtain ⟨ba, bc, rfl⟩ : ∃ a c, bv = .slice a bs.length c := by obtain ⟨-, a, c, h, -⟩ := hr; exact ⟨a, c, h⟩
 obtain ⟨i0, hi, hz0, hz1, hz2⟩ := info_parts byte_info
 have HI := hyd hi
 have HR := hyd hr
 have HC := hyd hc
 have hone : ∀ u ∈ Lib.byteCells bs, u.oneCell' = true := fun u hu => by
  unfold Lib.byteCells at hu
  obtain ⟨c, -, rfl⟩ := List.mem_map.1 hu
  rfl
 have HONE := hyd hone
 have hgr := p_grow (w := w) (n := bs.length) hn
 have HGR := hyd hgr
 clear hi hr hone hgr
 have hw0 : IntKind.i64.wrap (0 + (bs.length : Int)) = (bs.length : Int) := (IntWalk.i64_in _ (by omega)).trans (by omega)
 go_enter Tryz.func49, Tryz.ntmps49
 go_wp2_with fail
 go_loop [3, 11] (fun n i => ∃ k : Nat, k ≤ 1 ∧ i = .int .i64 k ∧ n = .int .i64 ((k * bs.length : Nat) : Int)) (fun _ i => 1 - (RowKit.intOf i).toNat)
 case atStart => exact ⟨0, by omega, rfl, by simp⟩
 case round =>
  obtain ⟨k, hk, rfl, rfl⟩ := hrel
  by_cases h0 : k = 0
  ·subst h0
   have q1 : ¬ (bs.length : Int) < 0 := by omega
   go_wp2_with fail
   go_round
   case rel => exact ⟨1, by omega, by go_num, by simp⟩
   case measure => decide
  ·obtain rfl : k = 1 := by omega
   rw [Nat.one_mul]
   go_wp2_with fail
   refine HGR.o.mono ?_
   rintro e w2 ⟨v2, o2, rfl, hr2, ho2, hk2⟩
   have HR2 := hyd hr2
   have HO2 := hyd ho2
   have HK2 := hyd hk2
   clear hr2 ho2 hk2 HGR
   go_wp2_with fail
   go_loopw [6, 27] (fun v i wr => ∃ k : Nat, k ≤ 1 ∧ i = .int .i64 k ∧ ∃ o, RB wr v (if k = 0 then [] else bs) o ∧ (∀ b, o = some b → w.heap.size ≤ b) ∧ Keep [] w wr) (fun _ i _ => 1 - (RowKit.intOf i).toNat)
   case atStart => exact ⟨0, by omega, rfl, o2, HR2.o, HO2.o, HK2.o⟩
   case round =>
    obtain ⟨k, hk, rfl, o3, hr3, ho3, hk3⟩ := hrel
    have HO3 := hyd ho3
    have HK3 := hyd hk3
    by_cases h0 : k = 0
    ·subst h0
     rw [if_pos rfl] at hr3
     have hc3 : wr.cell? ⟨lb, lo, none⟩ = some (.slice ba bs.length bc) := by rw [hk3.cell (World.block_lt_of_cell? _ _ HC.o) (by simp)]; exact HC.o
     have hrd := HR.o.keep hk3 (by simp)
     have HRD := hyd hrd
     obtain ⟨v4, o4, w4, hrun, hr4, hk4, ho4⟩ := run_append_any (P := Tryz.prog) (ty := 35) (T := 35) (tx := 35) Tryz.underlying35 Tryz.underlying35 HI.o hz0 hz1 hz2 rfl hr3 hrd HONE.o (by unfold maxLen; simp; omega) (by simp; omega)
     obtain ⟨va, vc, rfl, -, -⟩ := hr3.form
     have hlt := Row.lt hr3
     have HRUN := hyd hrun
     have hnew : ∀ b, o4 = some b → w.heap.size ≤ b := fun b hb => by
      rcases ho4 with h | h
      ·exact ho3 b (by rw [← h]; exact hb)
      ·have := h b hb; have := hk3.size; omega
     have hk5 : Keep [] w w4 := hk3.trans hk4 (fun x hx => .inr (by
       cases o3 with
       | none => simp at hx
       | some y => simp at hx; subst hx; exact ho3 _ rfl))
     have hr5 : RB w4 v4 bs o4 := by
      unfold RB
      simpa [Lib.byteCells] using hr4
     have HR5 := hyd hr5
     have HK5 := hyd hk5
     have HNEW := hyd hnew
     clear hr3 ho3 hk3 hrd hr4 hk4 ho4 hrun hr5 hk5 hnew hlt hc
     go_wp2_with (at_builtin; refine Lib.wpList_append_run _ rfl _ _ _ _ rfl _ _ rfl rfl _ _ HRUN.o ?_)
     go_wp2_with fail
     go_roundw
     case rel => exact ⟨1, by omega, by go_num, o4, by rw [if_neg (by omega)]; exact HR5.o, HNEW.o, HK5.o⟩
     case measure => decide
    ·obtain rfl : k = 1 := by omega
     rw [if_neg (by omega)] at hr3
     have HR3 := hyd hr3
     clear hr3 ho3 hk3
     go_wp2_with fail
     go_ret
     exact ⟨_, o3, rfl, HR3.o, HO3.o, HK3.o⟩
theorem wrap_u32 (n : Int) : IntKind.u32.wrap n = n % 4294967296 := by simp [IntKind.wrap, IntKind.bits, IntKind.signed]
theorem bits_xor32 (a b : Nat) (ha : a < 4294967296) (hb : b < 4294967296) : bits BinOp.xor IntKind.u32 (a : Int) (b : Int) = ((a ^^^ b : Nat) : Int) := by
 have hx : a ^^^ b < 2 ^ 32 := Nat.xor_lt_two_pow (by omega) (by omega)
 have h1 : (BitVec.ofInt 32 (a : Int)).toNat = a := by
  rw [BitVec.ofInt_natCast, BitVec.toNat_ofNat]; exact Nat.mod_eq_of_lt (by omega)
 have h2 : (BitVec.ofInt 32 (b : Int)).toNat = b := by
  rw [BitVec.ofInt_natCast, BitVec.toNat_ofNat]; exact Nat.mod_eq_of_lt (by omega)
 show IntKind.u32.wrap ((BitVec.ofInt 32 (a : Int) ^^^ BitVec.ofInt 32 (b : Int)).toNat : Int) = _
 rw [BitVec.toNat_xor, h1, h2, wrap_u32]
 omega
theorem bits_and32 (a : Nat) (ha : a < 4294967296) : bits BinOp.and IntKind.u32 (a : Int) 1 = ((a % 2 : Nat) : Int) := by
 have h1 : (BitVec.ofInt 32 (a : Int)).toNat = a := by
  rw [BitVec.ofInt_natCast, BitVec.toNat_ofNat]; exact Nat.mod_eq_of_lt (by omega)
 show IntKind.u32.wrap ((BitVec.ofInt 32 (a : Int) &&& BitVec.ofInt 32 1).toNat : Int) = _
 rw [BitVec.toNat_and, h1, wrap_u32]
 have h2 : (BitVec.ofInt 32 1).toNat = 1 := by decide
 rw [h2, Nat.and_one_is_mod]
 omega
theorem bits_not32 (a : Nat) (ha : a < 4294967296) : bits BinOp.xor IntKind.u32 4294967295 (a : Int) = ((4294967295 - a : Nat) : Int) := by
 have h := bits_xor32 4294967295 a (by decide) ha
 have e : 4294967295 ^^^ a = 4294967295 - a := by
  apply Nat.eq_of_testBit_eq
  intro i
  rw [Nat.testBit_xor, show (4294967295 : Nat) = 2 ^ 32 - 1 by decide, Nat.testBit_two_pow_sub_one, show 2 ^ 32 - 1 - a = 2 ^ 32 - (a + 1) by omega, Nat.testBit_two_pow_sub_succ (by omega)]
  by_cases hi : i < 32
  ·simp [hi]
  ·have : a.testBit i = false := Nat.testBit_lt_two_pow (by
     have := Nat.pow_le_pow_right (show 0 < 2 by decide) (show 32 ≤ i by omega)
     omega)
   simp [hi, this]
 rw [e] at h
 exact h
theorem rdb_at {w : World} {a : Option Addr} {n c : Nat} {l : List UInt8} {o : Option Nat} (h : Rd w 1 (.slice a n c) l.length (Lib.byteCells l) o) {k : Nat} (hk : k < l.length) :
  ∃ b off, a = some ⟨b, off, none⟩ ∧ w.cell? ⟨b, off + k, none⟩ = some (.int .u8 l[k].toNat) := by
 obtain ⟨-, a', c', hv, -, -, h3⟩ := h
 cases hv
 rcases h3 with ⟨h3, -⟩ | ⟨b, off, rfl, -, h3⟩
 ·omega
 ·exact ⟨b, off, rfl, by rw [h3 k (by omega)]; simp [Lib.byteCells, hk]⟩
theorem crc_snoc (s : Nat) (l : List UInt8) (c : UInt8) : crcFrom s (l ++ [c]) = crcByte (crcFrom s l) c := by simp [crcFrom]
theorem p_sum {w : World} {lb lo lc : Nat} {bv : Value} {bs : List UInt8} {o : Option Nat} (hc : w.cell? ⟨lb, lo, none⟩ = some bv) (hr : Rd w 1 bv bs.length (Lib.byteCells bs) o) (hn : bs.length ≤ 1000000000) :
  Calls Tryz.prog 124 #[.slice (some ⟨lb, lo, none⟩) 1 lc] w fun e w' => e = .returned (.int .u32 (crcL bs : Nat)) ∧ Keep [] w w' := by
 have hcc := p_concat1 (lc := lc) hc hr hn
 have HCC := hyd hcc
 clear hcc hc hr
 go_enter Tryz.func124, Tryz.ntmps124
 go_wp2_with fail
 refine HCC.o.mono ?_
 rintro e w2 ⟨v2, o2, rfl, hr2, ho2, hk2⟩
 obtain ⟨o3, hrd, -⟩ := Row.rd hr2
 obtain ⟨va, vc, rfl, -, -⟩ := hr2.form
 have HRD := hyd hrd
 have HK2 := hyd hk2
 clear hr2 ho2 hk2 HCC hrd
 go_wp2_with fail
 go_loop [3, 9] (fun s i => ∃ k : Nat, k ≤ bs.length ∧ i = .int .i64 k ∧ s = .int .u32 (crcFrom 4294967295 (bs.take k) : Nat)) (fun _ i => bs.length - (RowKit.intOf i).toNat)
 case atStart => exact ⟨0, Nat.zero_le _, rfl, rfl⟩
 case round =>
  obtain ⟨k, hk, rfl, rfl⟩ := hrel
  have hlt32 := crcFrom_lt (bs.take k) (s := 4294967295) (by decide)
  by_cases hlt : k < bs.length
  ·have hsn : crcFrom 4294967295 (bs.take (k + 1)) = crcByte (crcFrom 4294967295 (bs.take k)) bs[k] := by rw [List.take_succ_eq_append_getElem hlt, crc_snoc]
   obtain ⟨S, hS⟩ : ∃ S, S = crcFrom 4294967295 (bs.take k) := ⟨_, rfl⟩
   rw [← hS] at hsn hlt32 ⊢
   obtain ⟨b, off, rfl, c0⟩ := rdb_at HRD.o hlt
   obtain ⟨c, hc⟩ : ∃ c, c = bs[k] := ⟨_, rfl⟩
   rw [← hc] at c0 hsn
   have hcl := c.toNat_lt
   have hx1 := bits_xor32 S c.toNat hlt32 (by omega)
   have hw1 : IntKind.u32.wrap (c.toNat : Int) = (c.toNat : Int) := by rw [wrap_u32]; omega
   have hX := xor_lt32 hlt32 c
   have q0 : (0 : Int) ≤ (k : Int) := by omega
   have q1 : (k : Int) < (bs.length : Int) := by omega
   unfold crcByte at hsn
   obtain ⟨X, hXX⟩ : ∃ X, X = S ^^^ c.toNat := ⟨_, rfl⟩
   rw [← hXX] at hx1 hX hsn
   have HSN := hyd hsn
   clear hS hc hsn hXX
   go_wp2_with fail
   go_loop [3, 17] (fun s i => ∃ j : Nat, j ≤ 8 ∧ i = .int .i64 j ∧ s = .int .u32 (Nat.repeat crcStep j X : Nat)) (fun _ i => 8 - (RowKit.intOf i).toNat)
   case atStart => exact ⟨0, by omega, rfl, rfl⟩
   case round =>
    obtain ⟨j, hj, rfl, rfl⟩ := hrel
    have hY := rep_lt j hX
    by_cases hj8 : j < 8
    ·have hst : Nat.repeat crcStep (j + 1) X = crcStep (Nat.repeat crcStep j X) := rfl
     obtain ⟨Y, hYY⟩ : ∃ Y, Y = Nat.repeat crcStep j X := ⟨_, rfl⟩
     rw [← hYY] at hY hst ⊢
     have hand := bits_and32 Y hY
     have hxx := bits_xor32 (Y / 2) (2197175160 * (Y % 2)) (by omega) (by have := Nat.mod_lt Y (show 0 < 2 by decide); omega)
     rw [show (Y / 2) ^^^ (2197175160 * (Y % 2)) = crcStep Y from rfl] at hxx
     have q2 : (j : Int) < 8 := by omega
     have hx2 : bits BinOp.xor IntKind.u32 ((Y : Int) / 2) (2197175160 * ((Y : Int) % 2)) = ((Nat.repeat crcStep (j + 1) X : Nat) : Int) := by
      rw [hst, ← hxx]; congr 1
     have HX2 := hyd hx2
     clear hYY hx2 hxx hst
     go_wp2_with fail
     go_round
     case rel => exact ⟨j + 1, by omega, by go_num, by rw [HX2.o]⟩
     case measure => simp [RowKit.intOf]; omega
    ·obtain rfl : j = 8 := by omega
     go_wp2_with fail
     go_round
     case rel => exact ⟨k + 1, by omega, by go_num, by rw [HSN.o]⟩
     case measure => simp [RowKit.intOf]; omega
  ·obtain rfl : k = bs.length := by omega
   have q1 : ¬ (bs.length : Int) < (bs.length : Int) := by omega
   rw [List.take_length] at hlt32 ⊢
   have hnot := bits_not32 _ hlt32
   have hmax : IntKind.u32.max = 4294967295 := by decide
   go_wp2_with fail
   go_ret
   exact ⟨rfl, HK2.o⟩
end Go.Proofs.YtimpadpeibgmoaaGreat
