/- A part of the proof (BaseCut, Mn1, Mn2, MnS, Mn3, Mn4, Mn5, Mn6), joined by squeeze2.py. -/
import Derived.Test.YtimpadpeibgmoaaGreatYd01
import Derived.Deep.Cut
import Derived.Test.YtimpadpeibgmoaaGreatYd02
import Derived.IntWalk
import Derived.Lib.Hide
set_option maxHeartbeats 8000000
set_option maxRecDepth 100000
namespace Go.Emb
open Go.RowKit
def CutF (n : Nat) (R : (Nat → Value) → World → Prop) (a : Act) (w : World) : Prop := a.tmps.size = n ∧ a.defers = [] ∧ R (fun i => a.tmps.getD i undef) w
theorem CutF.lit {n : Nat} {R : (Nat → Value) → World → Prop} {a : Act} {w : World} (h : CutF n R a w) : ∃ f : Nat → Value, a = ⟨((List.range n).map f).toArray, []⟩ ∧ R f w := by
 obtain ⟨h1, h2, h3⟩ := h
 refine ⟨_, ?_, h3⟩
 obtain ⟨t, d⟩ := a
 simp only at h1 h2
 subst h2
 congr 1
 apply Array.ext
 ·simp [h1]
 ·intro i hi1 hi2
  simp only [Array.getD, hi1, dif_pos, List.getElem_toArray, List.getElem_map, List.getElem_range]
  rfl
theorem CutF.mk {n : Nat} {R : (Nat → Value) → World → Prop} {t : Array Value} {w : World} (h1 : t.size = n) (h3 : R (fun i => t.getD i undef) w) : CutF n R ⟨t, []⟩ w := ⟨h1, rfl, h3⟩
end Go.Emb

namespace Go.Proofs.YtimpadpeibgmoaaGreat
open Go.RowKit Go.Emb
theorem src_one (w : World) (B : Nat) (hB : w.heap.size = B) (x : Value) (hx : x.oneCell' = true) (t : TypeId) : Src Tryz.prog 1 35 (.slice (some ⟨B, 0, none⟩) 1 1) 1 [x] (w.alloc (.cells #[x] t)) := by
 subst hB
 exact Src.ofSlice _ Tryz.underlying35 ⟨w.heap.size, 0, none⟩ 1 1 [x] rfl (fun j u hj => by
   match j, hj with
   | 0, hj => simp at hj; subst hj; simp [Addr.add]) (fun u hu => by simp at hu; subst hu; exact hx)
theorem or_flag {W fl : Nat} (hW : W ≤ 8) (hfl : fl = 0 ∨ fl = 128) : bits BinOp.or IntKind.u8 (W : Int) (fl : Int) = ((fl + W : Nat) : Int) := by
 have : W = 0 ∨ W = 1 ∨ W = 2 ∨ W = 3 ∨ W = 4 ∨ W = 5 ∨ W = 6 ∨ W = 7 ∨ W = 8 := by omega
 rcases hfl with rfl | rfl <;> rcases this with rfl | rfl | rfl | rfl | rfl | rfl | rfl | rfl | rfl <;> rfl
theorem byte_cell (n k : Nat) : Lib.byteCells [UInt8.ofNat (n / 256 ^ k)] = [.int .u8 ((n : Int) / 2 ^ (8 * k) % 256)] := by
 have h1 : (2 : Int) ^ (8 * k) = ((256 ^ k : Nat) : Int) := by
  rw [show (256 : Nat) ^ k = 2 ^ (8 * k) from by rw [Nat.pow_mul]]
  simp
 rw [h1]
 simp only [Lib.byteCells, List.map_cons, List.map_nil, UInt8.toNat_ofNat']
 congr 2
theorem beL_snoc {n : Nat} (hn : n < 18446744073709551616) (k : Nat) (hk : k + 1 ≤ (beL n).length) : (beL n).take ((beL n).length - k) = (beL n).take ((beL n).length - (k + 1)) ++ [UInt8.ofNat (n / 256 ^ k)] := by
 have h : (beL n).length - (k + 1) < (beL n).length := by omega
 rw [show (beL n).length - k = (beL n).length - (k + 1) + 1 from by omega, List.take_succ_eq_append_getElem h, beL_get hn _ h, show (beL n).length - 1 - ((beL n).length - (k + 1)) = k from by omega]
theorem cells_of (m : Nat) (h : m < 256) : Lib.byteCells [UInt8.ofNat m] = [.int .u8 ((m : Nat) : Int)] := by
 simp [Lib.byteCells]; omega
theorem p_counted {w : World} {v : Value} {bs : List UInt8} {o : Option Nat} (h : RB w v bs o) (hl : bs.length ≤ 1000000000) {n : Nat} (hn : n < 18446744073709551616) {flag : Int} {fl : Nat} (hf : flag = (fl : Int)) (hfl : fl = 0 ∨ fl = 128) :
  Calls Tryz.prog 121 #[v, .int .u64 (n : Int), .int .u8 flag] w (GrewP o w (bs ++ numL n fl)) := by
 subst hf
 obtain ⟨a, c, rfl, hc1, hc2⟩ := h.form
 obtain ⟨i0, hi, hz0, hz1, hz2⟩ := info_parts byte_info
 obtain ⟨L, hL⟩ : ∃ L, L = Lib.bitLen n := ⟨_, rfl⟩
 obtain ⟨W, hW⟩ : ∃ W, W = (beL n).length := ⟨_, rfl⟩
 have hcall : Calls Tryz.prog 135 #[.int .u64 (n : Int)] w fun e w' => e = .returned (.int .i64 (L : Int)) ∧ w = w' := (Tryz.bits_Len64 (n : Int) w (by omega) (by omega)).mono fun e w' ⟨h1, h2⟩ => ⟨by rw [h1, hL]; rfl, h2.symm⟩
 have hbl := bitLen_beL hn
 have hw8 := beL_length n
 rw [← hL, ← hW] at hbl
 rw [← hW] at hw8
 have hL64 : L ≤ 64 := by omega
 have hd : ((L : Int) + 7) / 8 = (W : Int) := by omega
 have hu8 : IntKind.u8.wrap (W : Int) = (W : Int) := IntWalk.u8_in _ (by omega)
 have hor := or_flag hw8 hfl
 have hcs := cells_of (fl + W) (by omega)
 have HCS := hyd hcs
 have HH : Hid (Row w 5 1 (.slice a bs.length c) bs.length (Lib.byteCells bs) o) := h
 have HI := hyd hi
 have HC := hyd hcall
 have HW := hyd hW
 clear h hi hcall hL hW hbl hcs
 go_enter Tryz.func121, Tryz.ntmps121
 go_wp2_with fail
 refine HC.o.mono ?_
 rintro e w1 ⟨rfl, rfl⟩
 go_upto_region 2 with fail
 rw [hd]
 clear hd
 go_wp2_with (at_builtin; refine wpList_append_row _ rfl _ _ 35 35 rfl 5 i0 (.int .u8 0) 1 1 Tryz.underlying35 HI.o hz0 hz1 hz2 rfl _ _ _ o rfl (Row.keep HH.o (F := []) ((Keep.refl [] _).alloc _) (by simp)) _ rfl 1 _ (src_one _ _ rfl _ rfl _) (by omega) (by first | (unfold maxLen; omega) | (simp [maxLen] <;> omega)) (by first | omega | (simp <;> omega)) ?_)
 intro g off cap w2 hr2 hk2 hg2
 obtain ⟨n1, n2, n3⟩ := RB.next (w0 := w) (news := [UInt8.ofNat (fl + W)]) (o := o) (o0 := o) rfl HCS.o ((Keep.refl o.toList w).alloc _) (.inl rfl) hr2 hk2 (by simpa using hg2)
 have N1 := hyd n1
 have N2 := hyd n2
 have N3 := hyd n3
 clear n1 n2 n3 hr2 hk2 hg2 hor hu8
 go_wp2_with fail
 go_loopw [0, 8] (fun v i wr => ∃ (j : Nat) (J : Int) (o' : Option Nat), j ≤ W ∧ .int .i64 J = i ∧ J = 8 * ((j : Int) - 1) ∧ RB wr v (bs ++ (UInt8.ofNat (fl + W) :: (beL n).take (W - j))) o' ∧ Keep o.toList w wr ∧ (o' = o ∨ ∀ b, o' = some b → w.heap.size ≤ b)) (fun _ i _ => (intOf i + 8).toNat)
 case atStart => exact ⟨W, _, some g, Nat.le_refl _, rfl, rfl, by rw [Nat.sub_self]; exact N1.o, N2.o, N3.o⟩
 case round =>
  obtain ⟨j, J, o', hj, rfl, hJ, hrow, hk, ho⟩ := hrel
  obtain ⟨a', c', rfl, hc3, hc4⟩ := hrow.form
  have HR := hyd hrow
  have HK := hyd hk
  have HO := hyd ho
  clear hrow hk ho N1 N2 N3
  by_cases hj0 : j = 0
  ·subst hj0
   have q1 : ¬ (0 : Int) ≤ J := by omega
   have q2 : J < 0 := by omega
   clear hJ
   have hfin : bs ++ (UInt8.ofNat (fl + W) :: (beL n).take (W - 0)) = bs ++ numL n fl := by
    unfold numL
    rw [Nat.sub_zero, HW.o, List.take_length]
   obtain ⟨lk, hlk⟩ : ∃ x, x = bs ++ (UInt8.ofNat (fl + W) :: (beL n).take (W - 0)) := ⟨_, rfl⟩
   rw [← hlk] at HR hfin
   rw [← hlk]
   have HFIN := hyd hfin
   clear hfin hlk
   go_wp2_with fail
   go_ret
   exact ⟨_, o', rfl, by rw [← HFIN.o]; exact HR.o, HK.o, HO.o⟩
  ·obtain ⟨k, rfl⟩ : ∃ k : Nat, j = k + 1 := ⟨j - 1, by omega⟩
   obtain rfl : J = 8 * (k : Int) := by omega
   have hsn := beL_snoc hn k (by have := HW.o; omega)
   rw [← HW.o] at hsn
   have hby := byte_cell n k
   obtain ⟨lk, hlk⟩ : ∃ x, x = bs ++ (UInt8.ofNat (fl + W) :: (beL n).take (W - (k + 1))) := ⟨_, rfl⟩
   have hll : lk.length ≤ 1000000100 := by
    rw [hlk, List.length_append, List.length_cons, List.length_take]; omega
   have hstep : bs ++ (UInt8.ofNat (fl + W) :: (beL n).take (W - k)) = lk ++ [UInt8.ofNat (n / 256 ^ k)] := by rw [hsn, hlk]; simp
   rw [← hlk] at HR
   rw [← hlk]
   have HR2 : Hid (Row wr 5 1 (.slice a' lk.length c') lk.length (Lib.byteCells lk) o') := HR.o
   have HSTEP := hyd hstep
   have HBY := hyd hby
   have q0 : (0 : Int) ≤ 8 * (k : Int) := by omega
   have q1 : 8 * (k : Int) ≤ 56 := by omega
   clear hsn hby hlk hstep HR
   go_wp2_with (at_builtin; refine wpList_append_row _ rfl _ _ 35 35 rfl 5 i0 (.int .u8 0) 1 1 Tryz.underlying35 HI.o hz0 hz1 hz2 rfl _ _ _ o' rfl (Row.keep HR2.o (F := []) ((Keep.refl [] _).alloc _) (by simp)) _ rfl 1 _ (src_one _ _ rfl _ rfl _) (by omega) (by first | (unfold maxLen; omega) | (simp [maxLen] <;> omega)) (by first | omega | (simp <;> omega)) ?_)
   intro g2 off2 cap2 w3 hr3 hk3 hg3
   obtain ⟨n1, n2, n3⟩ := RB.next (w0 := w) (news := [UInt8.ofNat (n / 256 ^ k)]) (o := o') (o0 := o) rfl HBY.o (HK.o.alloc _) HO.o hr3 hk3 (by simpa using hg3)
   rw [← HSTEP.o] at n1
   have N1 := hyd n1
   have N2 := hyd n2
   have N3 := hyd n3
   clear n1 n2 n3 hr3 hk3 hg3
   go_wp2_with fail
   go_roundw
   case rel => exact ⟨k, _, some g2, by omega, rfl, by omega, N1.o, N2.o, N3.o⟩
   case measure => simp [intOf]; omega
theorem bits_not (x : Int) (h0 : -9223372036854775808 ≤ x) (h1 : x ≤ 9223372036854775807) : bits BinOp.xor IntKind.i64 (-1) x = -x - 1 := by
 show IntKind.i64.wrap ((BitVec.ofInt 64 (-1) ^^^ BitVec.ofInt 64 x).toNat : Int) = _
 rw [show BitVec.ofInt 64 (-1) = BitVec.allOnes 64 from by decide, BitVec.allOnes_xor, BitVec.toNat_not, BitVec.toNat_ofInt, IntKind.wrap_i64]
 omega
theorem RB.clip {w : World} {a : Option Addr} {n c : Nat} {bs : List UInt8} {o : Option Nat} (h : RB w (.slice a n c) bs o) (hn : n = bs.length) : RB w (.slice a n n) bs o := by
 subst hn
 obtain ⟨h0, ⟨rfl, hv, h1⟩ | ⟨b, off, cap, cs, rfl, hv, h1, h2, h3, h4, h5⟩⟩ := h
 ·simp only [Value.slice.injEq] at hv
  obtain ⟨rfl, h2, -⟩ := hv
  exact ⟨h0, .inl ⟨rfl, by rw [h2], h1⟩⟩
 ·simp only [Value.slice.injEq] at hv
  obtain ⟨rfl, -, rfl⟩ := hv
  exact ⟨h0, .inr ⟨b, off, bs.length, cs, rfl, rfl, h1, Nat.le_refl _, by omega, by omega, h5⟩⟩
theorem p_clip {w : World} {a : Option Addr} {n c : Nat} (h : n ≤ c) (hc : c ≤ maxLen) : Calls Tryz.prog 120 #[.slice a n c] w fun e w' => e = .returned (.slice a n n) ∧ w = w' := by
 unfold maxLen at hc
 go_enter Tryz.func120, Tryz.ntmps120
 go_wp2_with fail
 go_ret
 exact ⟨rfl, rfl⟩
theorem p_num {w : World} {v lv : Value} {bs : List UInt8} {o ol : Option Nat} {ns : List Nat} (h : RB w v bs o) (hl : Rd w 1 lv ns.length (ns.map fun x => .int .u64 ((x : Nat) : Int)) ol) (hol : ∀ b, ol = some b → b < w.heap.size ∧ some b ≠ o) (hok : ∀ x ∈ ns, x < 18446744073709551616) (hsz : (bs ++ ns.flatMap fun x => numL x 0).length ≤ 1000000000) :
  Calls Tryz.prog 90 #[v, lv] w (GrewP o w (bs ++ ns.flatMap fun x => numL x 0)) := by
 obtain ⟨a, c, rfl, hc1, hc2⟩ := h.form
 have h2 := h.clip rfl
 have HCL := hyd (p_clip (w := w) (a := a) hc1 hc2)
 unfold maxLen at hc2
 obtain ⟨-, la, lc, rfl, hlc1, hlc2, hrd⟩ := id hl
 unfold maxLen at hlc2
 have H2 := hyd h2
 have HL := hyd hl
 have HOL := hyd hol
 have HOK := hyd hok
 have HSZ := hyd hsz
 clear h h2 hl hol hok hrd hsz
 go_enter Tryz.func90, Tryz.ntmps90
 go_wp2_with fail
 refine HCL.o.mono ?_
 rintro e w1 ⟨rfl, rfl⟩
 clear HCL
 go_wp2_with fail
 go_loopw [0, 6, 11] (fun v _ i wr => ∃ (k : Nat) (o' : Option Nat), k ≤ ns.length ∧ i = .int .i64 k ∧ RB wr v (bs ++ (ns.take k).flatMap fun x => numL x 0) o' ∧ Keep o.toList w wr ∧ (o' = o ∨ ∀ b, o' = some b → w.heap.size ≤ b)) (fun _ _ i _ => ns.length - (intOf i).toNat)
 case atStart => exact ⟨0, o, Nat.zero_le _, rfl, by simpa using H2.o, Keep.refl _ _, .inl rfl⟩
 case round =>
  clear H2
  obtain ⟨k, o', hk, rfl, hrow, hkw, ho⟩ := hrel
  obtain ⟨a', c', rfl, hc3, hc4⟩ := hrow.form
  by_cases hlt : k < ns.length
  ·have hst : (bs ++ (ns.take (k + 1)).flatMap fun x => numL x 0) = (bs ++ (ns.take k).flatMap fun x => numL x 0) ++ (fun x => numL x 0) ns[k] := by
    rw [List.take_succ_eq_append_getElem hlt, List.flatMap_append, List.append_assoc]; simp
   have hlen : (bs ++ (ns.take k).flatMap fun x => numL x 0).length + ((fun x => numL x 0) ns[k]).length ≤ 1000000000 := by
    have h1 := HSZ.o
    have h2 : (ns.flatMap fun x => numL x 0) = ((ns.take (k + 1)).flatMap fun x => numL x 0) ++ ((ns.drop (k + 1)).flatMap fun x => numL x 0) := by rw [← List.flatMap_append, List.take_append_drop]
    rw [h2, ← List.append_assoc, hst] at h1
    simp only [List.length_append] at h1 ⊢
    omega
   have hokk := HOK.o _ (List.getElem_mem hlt)
   obtain ⟨hl0, _, _, hq, -, -, hrd⟩ := HL.o
   cases hq
   rcases hrd with ⟨h0, -⟩ | ⟨lb, loff, hla, holb, hcell⟩
   ·omega
   have hlb := HOL.o lb holb
   have hce := hcell k (by omega)
   rw [List.getElem?_map, List.getElem?_eq_getElem hlt] at hce
   simp only [Option.map_some] at hce
   have hce2 := keep_cellF hkw hce (by
     intro hm
     cases o with
     | none => cases hm
     | some z => simp at hm; exact hlb.2 (by rw [hm]))
   subst hla
   obtain ⟨x, hx⟩ : ∃ x, x = ns[k] := ⟨_, rfl⟩
   rw [← hx] at hst hlen hokk hce2
   obtain ⟨lk, hlk⟩ : ∃ q, q = bs ++ (ns.take k).flatMap fun x => numL x 0 := ⟨_, rfl⟩
   rw [← hlk] at hst hrow hlen
   rw [← hlk]
   have HST := hyd hst
   have HROW := hyd hrow
   have HK := hyd hkw
   have HO := hyd ho
   have HOKK := hyd hokk
   have HLEN := hyd hlen
   have i0' : (0 : Int) ≤ (k : Int) := by omega
   have i1' : (k : Int) < (ns.length : Int) := by omega
   clear hst hrow hkw ho hokk hlen hcell hce hl0 hlk hx holb hlb
   have hcall := p_counted (w := wr) HROW.o (by have := HLEN.o; omega) (n := x) HOKK.o (flag := 0) (fl := 0) rfl (.inl rfl)
   have HC := hyd hcall
   clear hcall
   go_wp2_with fail
   refine HC.o.mono ?_
   rintro e w3 ⟨v3, o3, rfl, hrow3, hk3, ho3⟩
   have hg := GrewP.trans (bs := lk ++ numL x 0) HK.o HO.o ⟨v3, o3, rfl, hrow3, hk3, ho3⟩
   obtain ⟨v4, o4, hv4, hrow4, hk4, ho4⟩ := hg
   cases hv4
   rw [← HST.o] at hrow4
   have N1 := hyd hrow4
   have N2 := hyd hk4
   have N3 := hyd ho4
   clear hrow3 hk3 ho3 hrow4 hk4 ho4 HC
   go_wp2_with fail
   go_roundw
   case rel => exact ⟨k + 1, _, by omega, by go_num, N1.o, N2.o, N3.o⟩
   case measure => simp [intOf]; omega
  ·obtain rfl : k = ns.length := by omega
   rw [List.take_length] at hrow
   rw [List.take_length]
   have HROW := hyd hrow
   have HK := hyd hkw
   have HO := hyd ho
   clear hrow hkw ho
   go_wp2_with fail
   go_ret
   exact ⟨_, o', rfl, HROW.o, HK.o, HO.o⟩
theorem p_int {w : World} {v lv : Value} {bs : List UInt8} {o ol : Option Nat} {ns : List Int} (h : RB w v bs o) (hl : Rd w 1 lv ns.length (ns.map fun x => .int .i64 x) ol) (hol : ∀ b, ol = some b → b < w.heap.size ∧ some b ≠ o) (hok : ∀ x ∈ ns, -9223372036854775808 ≤ x ∧ x ≤ 9223372036854775807) (hsz : (bs ++ ns.flatMap fun x => intL x).length ≤ 1000000000) :
  Calls Tryz.prog 91 #[v, lv] w (GrewP o w (bs ++ ns.flatMap fun x => intL x)) := by
 obtain ⟨a, c, rfl, hc1, hc2⟩ := h.form
 have h2 := h.clip rfl
 have HCL := hyd (p_clip (w := w) (a := a) hc1 hc2)
 unfold maxLen at hc2
 obtain ⟨-, la, lc, rfl, hlc1, hlc2, hrd⟩ := id hl
 unfold maxLen at hlc2
 have H2 := hyd h2
 have HL := hyd hl
 have HOL := hyd hol
 have HOK := hyd hok
 have HSZ := hyd hsz
 clear h h2 hl hol hok hrd hsz
 go_enter Tryz.func91, Tryz.ntmps91
 go_wp2_with fail
 refine HCL.o.mono ?_
 rintro e w1 ⟨rfl, rfl⟩
 clear HCL
 go_wp2_with fail
 go_loopw [0, 6, 11] (fun v _ i wr => ∃ (k : Nat) (o' : Option Nat), k ≤ ns.length ∧ i = .int .i64 k ∧ RB wr v (bs ++ (ns.take k).flatMap fun x => intL x) o' ∧ Keep o.toList w wr ∧ (o' = o ∨ ∀ b, o' = some b → w.heap.size ≤ b)) (fun _ _ i _ => ns.length - (intOf i).toNat)
 case atStart => exact ⟨0, o, Nat.zero_le _, rfl, by simpa using H2.o, Keep.refl _ _, .inl rfl⟩
 case round =>
  clear H2
  obtain ⟨k, o', hk, rfl, hrow, hkw, ho⟩ := hrel
  obtain ⟨a', c', rfl, hc3, hc4⟩ := hrow.form
  by_cases hlt : k < ns.length
  ·have hst : (bs ++ (ns.take (k + 1)).flatMap fun x => intL x) = (bs ++ (ns.take k).flatMap fun x => intL x) ++ (fun x => intL x) ns[k] := by
    rw [List.take_succ_eq_append_getElem hlt, List.flatMap_append, List.append_assoc]; simp
   have hlen : (bs ++ (ns.take k).flatMap fun x => intL x).length + ((fun x => intL x) ns[k]).length ≤ 1000000000 := by
    have h1 := HSZ.o
    have h2 : (ns.flatMap fun x => intL x) = ((ns.take (k + 1)).flatMap fun x => intL x) ++ ((ns.drop (k + 1)).flatMap fun x => intL x) := by rw [← List.flatMap_append, List.take_append_drop]
    rw [h2, ← List.append_assoc, hst] at h1
    simp only [List.length_append] at h1 ⊢
    omega
   have hokk := HOK.o _ (List.getElem_mem hlt)
   obtain ⟨hl0, _, _, hq, -, -, hrd⟩ := HL.o
   cases hq
   rcases hrd with ⟨h0, -⟩ | ⟨lb, loff, hla, holb, hcell⟩
   ·omega
   have hlb := HOL.o lb holb
   have hce := hcell k (by omega)
   rw [List.getElem?_map, List.getElem?_eq_getElem hlt] at hce
   simp only [Option.map_some] at hce
   have hce2 := keep_cellF hkw hce (by
     intro hm
     cases o with
     | none => cases hm
     | some z => simp at hm; exact hlb.2 (by rw [hm]))
   subst hla
   obtain ⟨x, hx⟩ : ∃ x, x = ns[k] := ⟨_, rfl⟩
   rw [← hx] at hst hlen hokk hce2
   obtain ⟨lk, hlk⟩ : ∃ q, q = bs ++ (ns.take k).flatMap fun x => intL x := ⟨_, rfl⟩
   rw [← hlk] at hst hrow hlen
   rw [← hlk]
   have HST := hyd hst
   have HROW := hyd hrow
   have HK := hyd hkw
   have HO := hyd ho
   have HOKK := hyd hokk
   have HLEN := hyd hlen
   have i0' : (0 : Int) ≤ (k : Int) := by omega
   have i1' : (k : Int) < (ns.length : Int) := by omega
   clear hst hrow hkw ho hokk hlen hcell hce hl0 hlk hx holb hlb
   obtain ⟨q2, q3⟩ := HOKK.o
   by_cases hneg : x < 0
   ·obtain ⟨m, hm⟩ : ∃ m : Nat, (m : Int) = -(x + 1) := ⟨(-(x + 1)).toNat, by omega⟩
    have hcall := p_counted (w := wr) HROW.o (by have := HLEN.o; omega) (n := m) (by omega) (flag := 128) (fl := 128) rfl (.inr rfl)
    have hnew : intL x = numL m 128 := by unfold intL; rw [if_pos hneg, ← hm]; rfl
    have hxor := bits_not x q2 q3
    have hwr : IntKind.u64.wrap (bits BinOp.xor IntKind.i64 (-1) x) = (m : Int) := by rw [hxor, hm]; exact (IntWalk.u64_in _ (by omega)).trans (by omega)
    rw [← hnew] at hcall
    have HC := hyd hcall
    clear hcall hnew hm hxor
    go_wp2_with fail
    refine HC.o.mono ?_
    rintro e w3 ⟨v3, o3, rfl, hrow3, hk3, ho3⟩
    have hg := GrewP.trans (bs := lk ++ intL x) HK.o HO.o ⟨v3, o3, rfl, hrow3, hk3, ho3⟩
    obtain ⟨v4, o4, hv4, hrow4, hk4, ho4⟩ := hg
    cases hv4
    rw [← HST.o] at hrow4
    have N1 := hyd hrow4
    have N2 := hyd hk4
    have N3 := hyd ho4
    clear hrow3 hk3 ho3 hrow4 hk4 ho4 HC
    go_wp2_with fail
    go_roundw
    case rel => exact ⟨k + 1, _, by omega, by go_num, N1.o, N2.o, N3.o⟩
    case measure => simp [intOf]; omega
   ·obtain ⟨m, hm⟩ : ∃ m : Nat, (m : Int) = x := ⟨x.toNat, by omega⟩
    have hcall := p_counted (w := wr) HROW.o (by have := HLEN.o; omega) (n := m) (by omega) (flag := 0) (fl := 0) rfl (.inl rfl)
    have hnew : intL x = numL m 0 := by unfold intL; rw [if_neg hneg, ← hm]; rfl
    have hwr : IntKind.u64.wrap x = (m : Int) := by rw [hm]; exact IntWalk.u64_in _ (by omega)
    rw [← hnew, hm] at hcall
    have HC := hyd hcall
    clear hcall hnew hwr hm
    have h0x : 0 ≤ x := by omega
    go_wp2_with fail
    refine HC.o.mono ?_
    rintro e w3 ⟨v3, o3, rfl, hrow3, hk3, ho3⟩
    have hg := GrewP.trans (bs := lk ++ intL x) HK.o HO.o ⟨v3, o3, rfl, hrow3, hk3, ho3⟩
    obtain ⟨v4, o4, hv4, hrow4, hk4, ho4⟩ := hg
    cases hv4
    rw [← HST.o] at hrow4
    have N1 := hyd hrow4
    have N2 := hyd hk4
    have N3 := hyd ho4
    clear hrow3 hk3 ho3 hrow4 hk4 ho4 HC
    go_wp2_with fail
    go_roundw
    case rel => exact ⟨k + 1, _, by omega, by go_num, N1.o, N2.o, N3.o⟩
    case measure => simp [intOf]; omega
  ·obtain rfl : k = ns.length := by omega
   rw [List.take_length] at hrow
   rw [List.take_length]
   have HROW := hyd hrow
   have HK := hyd hkw
   have HO := hyd ho
   clear hrow hkw ho
   go_wp2_with fail
   go_ret
   exact ⟨_, o', rfl, HROW.o, HK.o, HO.o⟩
theorem run_append_str {P : Program} {w : World} {T tx ty E : TypeId} {i : TypeInfo} {z : Value} {bytes : Nat} (ht : P.underlying T = some (.slice E)) (htx : P.underlying tx = some .string) (hi : P.info? E = some i) (hz : i.zero = some z) (hik : i.size = 1) (hib : i.bytes = bytes)
  (hzs : z.cells.size = 1) {b off n cap : Nat} {xs : List Value} (h : Row w E 1 (.slice (some ⟨b, off, none⟩) n cap) n xs (some b)) (s : ByteArray) (h63 : n + s.size ≤ maxLen) (hbytes : (n + s.size) * bytes ≤ 140737488355328) :
  ∃ g off' cap' w', (Builtin.append_ #[T, tx] ty #[.slice (some ⟨b, off, none⟩) n cap, .string s]).run P w = .ok (.slice (some ⟨g, off', none⟩) (n + s.size) cap') w' ∧ Row w' E 1 (.slice (some ⟨g, off', none⟩) (n + s.size) cap') (n + s.size) (xs ++ Lib.byteCells s.data.toList) (some g) ∧ Keep [b] w w' ∧ (b = g ∨ w.heap.size ≤ g) := by
 by_cases hm : s.size = 0
 ·have hsl : s.size = s.data.toList.length := by simp
  have hn : s.data.toList = [] := List.eq_nil_of_length_eq_zero (by omega)
  have hs : s = ⟨#[]⟩ := by apply ByteArray.ext; exact Array.ext' (by simpa using hn)
  rw [hm, hn]
  refine ⟨b, off, cap, w, ?_, by simpa [Lib.byteCells] using h, Keep.refl _ _, .inl rfl⟩
  obtain ⟨_, h⟩ := h
  rcases h with ⟨h, _⟩ | ⟨b', off', cap', cs, e1, e2, hb, hc1, hc2, _⟩
  ·cases h
  cases e1; cases e2
  clear hm hn hsl h63 hbytes
  subst hs
  have h0 : (⟨#[]⟩ : ByteArray).size = 0 := rfl
  simp [Builtin.append_, run_underlying ht, run_underlying htx, sizeOf, typeInfo, hi, Builtin.lenOf, Builtin.firstCells, hc1, storeCells, h0]
 ·obtain ⟨g, off', cap', w', r1, r2, r3, r4⟩ := run_append_row (P := P) (w := w) (ty := ty) ht hi hz hik hib hzs h (Src.ofString w htx s) (by omega) h63 hbytes
  exact ⟨g, off', cap', w', r1, r2, r3, r4.imp (fun h => by cases h; rfl) id⟩
theorem wpList_append_str {P : Program} (w : World) {ops : Array Oper} {rest : List Oper} {o : Oper} {a : Act} {Q : Exit → Act → World → Prop} (hgd : o.guard = none) (s x : Operand) (T tx : TypeId) (ho : o.op = .call { callee := .builtin .append, args := #[s, x], argTypes := #[T, tx] })
  (E : TypeId) (i : TypeInfo) (z : Value) (bytes : Nat) (ht : P.underlying T = some (.slice E)) (htx : P.underlying tx = some .string) (hi : P.info? E = some i) (hz : i.zero = some z) (hik : i.size = 1) (hib : i.bytes = bytes) (hzs : z.cells.size = 1)
  (b off n cap : Nat) (xs : List Value) (hs : a.eval s = .slice (some ⟨b, off, none⟩) n cap) (hown : Row w E 1 (.slice (some ⟨b, off, none⟩) n cap) n xs (some b)) (st : ByteArray) (hx : a.eval x = .string st) (h63 : n + st.size ≤ maxLen) (hbytes : (n + st.size) * bytes ≤ 140737488355328)
  (h : ∀ g off' cap' w', Row w' E 1 (.slice (some ⟨g, off', none⟩) (n + st.size) cap') (n + st.size) (xs ++ Lib.byteCells st.data.toList) (some g) → Keep [b] w w' → (b = g ∨ w.heap.size ≤ g) → wpList P ops Q rest (a.put o.dst (.slice (some ⟨g, off', none⟩) (n + st.size) cap')) w') : wpList P ops Q (o :: rest) a w := by
 refine wpList_plain hgd fun K' hK' => ?_
 obtain ⟨g, off', cap', w', hr, h2, h3, h4⟩ := run_append_str (P := P) (w := w) (ty := o.type) ht htx hi hz hik hib hzs hown st h63 hbytes
 unfold Oper.wp execOp
 simp only [ho, resolve, invoke, builtin, Sem.run_bind, Sem.run_pure, Result.andThen_ok, List.map_toArray, List.map_cons, List.map_nil, hs, hx, hr]
 exact hK' _ _ (h g off' cap' w' h2 h3 h4)
theorem RB.block {w : World} {v : Value} {bs : List UInt8} {o : Option Nat} (h : RB w v bs o) (hb : 0 < bs.length) : ∃ b off cap, v = .slice (some ⟨b, off, none⟩) bs.length cap ∧ o = some b ∧ Row w 5 1 v bs.length (Lib.byteCells bs) (some b) := by
 obtain ⟨hl, ⟨-, -, h0⟩ | ⟨b, off, cap, cs, rfl, rfl, hh⟩⟩ := id h
 ·omega
 ·exact ⟨b, off, cap, rfl, rfl, h⟩
theorem p_str {w : World} {v lv : Value} {bs : List UInt8} {o ol : Option Nat} {ns : List ByteArray} (h : RB w v bs o) (hl : Rd w 1 lv ns.length (ns.map fun x => .string x) ol) (hol : ∀ b, ol = some b → b < w.heap.size ∧ some b ≠ o) (hok : ∀ x ∈ ns, x.size ≤ 1000000000) (hsz : (bs ++ ns.flatMap fun x => strL x.data.toList).length ≤ 1000000000) :
  Calls Tryz.prog 88 #[v, lv] w (GrewP o w (bs ++ ns.flatMap fun x => strL x.data.toList)) := by
 obtain ⟨i0, hi, hz0, hz1, hz2⟩ := info_parts byte_info
 have HI := hyd hi
 clear hi
 obtain ⟨a, c, rfl, hc1, hc2⟩ := h.form
 have h2 := h.clip rfl
 have HCL := hyd (p_clip (w := w) (a := a) hc1 hc2)
 unfold maxLen at hc2
 obtain ⟨-, la, lc, rfl, hlc1, hlc2, hrd⟩ := id hl
 unfold maxLen at hlc2
 have H2 := hyd h2
 have HL := hyd hl
 have HOL := hyd hol
 have HOK := hyd hok
 have HSZ := hyd hsz
 clear h h2 hl hol hok hrd hsz
 go_enter Tryz.func88, Tryz.ntmps88
 go_wp2_with fail
 refine HCL.o.mono ?_
 rintro e w1 ⟨rfl, rfl⟩
 clear HCL
 go_wp2_with fail
 go_loopw [0, 6, 11] (fun v _ i wr => ∃ (k : Nat) (o' : Option Nat), k ≤ ns.length ∧ i = .int .i64 k ∧ RB wr v (bs ++ (ns.take k).flatMap fun x => strL x.data.toList) o' ∧ Keep o.toList w wr ∧ (o' = o ∨ ∀ b, o' = some b → w.heap.size ≤ b)) (fun _ _ i _ => ns.length - (intOf i).toNat)
 case atStart => exact ⟨0, o, Nat.zero_le _, rfl, by simpa using H2.o, Keep.refl _ _, .inl rfl⟩
 case round =>
  clear H2
  obtain ⟨k, o', hk, rfl, hrow, hkw, ho⟩ := hrel
  obtain ⟨a', c', rfl, hc3, hc4⟩ := hrow.form
  by_cases hlt : k < ns.length
  ·have hst : (bs ++ (ns.take (k + 1)).flatMap fun x => strL x.data.toList) = (bs ++ (ns.take k).flatMap fun x => strL x.data.toList) ++ (fun x => strL x.data.toList) ns[k] := by
    rw [List.take_succ_eq_append_getElem hlt, List.flatMap_append, List.append_assoc]; simp
   have hlen : (bs ++ (ns.take k).flatMap fun x => strL x.data.toList).length + ((fun x => strL x.data.toList) ns[k]).length ≤ 1000000000 := by
    have h1 := HSZ.o
    have h2 : (ns.flatMap fun x => strL x.data.toList) = ((ns.take (k + 1)).flatMap fun x => strL x.data.toList) ++ ((ns.drop (k + 1)).flatMap fun x => strL x.data.toList) := by rw [← List.flatMap_append, List.take_append_drop]
    rw [h2, ← List.append_assoc, hst] at h1
    simp only [List.length_append] at h1 ⊢
    omega
   have hokk := HOK.o _ (List.getElem_mem hlt)
   obtain ⟨hl0, _, _, hq, -, -, hrd⟩ := HL.o
   cases hq
   rcases hrd with ⟨h0, -⟩ | ⟨lb, loff, hla, holb, hcell⟩
   ·omega
   have hlb := HOL.o lb holb
   have hce := hcell k (by omega)
   rw [List.getElem?_map, List.getElem?_eq_getElem hlt] at hce
   simp only [Option.map_some] at hce
   have hce2 := keep_cellF hkw hce (by
     intro hm
     cases o with
     | none => cases hm
     | some z => simp at hm; exact hlb.2 (by rw [hm]))
   subst hla
   obtain ⟨x, hx⟩ : ∃ x, x = ns[k] := ⟨_, rfl⟩
   rw [← hx] at hst hlen hokk hce2
   obtain ⟨lk, hlk⟩ : ∃ q, q = bs ++ (ns.take k).flatMap fun x => strL x.data.toList := ⟨_, rfl⟩
   rw [← hlk] at hst hrow hlen
   rw [← hlk]
   have HST := hyd hst
   have HROW := hyd hrow
   have HK := hyd hkw
   have HO := hyd ho
   have HOKK := hyd hokk
   have HLEN := hyd hlen
   have i0' : (0 : Int) ≤ (k : Int) := by omega
   have i1' : (k : Int) < (ns.length : Int) := by omega
   clear hst hrow hkw ho hokk hlen hcell hce hl0 hlk hx holb hlb
   have hnl := numL_length x.size 0
   have hsl : (strL x.data.toList).length = (numL x.size 0).length + x.size := by unfold strL; rw [List.length_append, show x.data.toList.length = x.size from by simp]
   have hlen2 : lk.length + ((numL x.size 0).length + x.size) ≤ 1000000000 := by rw [← hsl]; exact HLEN.o
   have hcall := p_counted (w := wr) HROW.o (by omega) (n := x.size) (by omega) (flag := 0) (fl := 0) rfl (.inl rfl)
   have hq9 : (x.size : Int) ≤ 1000000000 := by omega
   have hu : IntKind.u64.wrap (x.size : Int) = (x.size : Int) := IntWalk.u64_in _ (by omega)
   have HC := hyd hcall
   clear hcall hsl
   go_wp2_with fail
   refine HC.o.mono ?_
   rintro e w3 ⟨v3, o3, rfl, hrow3, hk3, ho3⟩
   obtain ⟨b3, off3, cap3, rfl, rfl, hr3⟩ := hrow3.block (by rw [List.length_append]; omega)
   have HR3 := hyd hr3
   have HK3 := hyd hk3
   have HO3 := hyd ho3
   obtain ⟨l3, hl3⟩ : ∃ q, q = lk ++ numL x.size 0 := ⟨_, rfl⟩
   have hl3s : l3.length + x.size ≤ 1000000000 := by rw [hl3, List.length_append]; omega
   have hst3 : l3 ++ x.data.toList = lk ++ strL x.data.toList := by rw [hl3]; unfold strL; rw [show x.data.toList.length = x.size from by simp, List.append_assoc]
   rw [← hl3] at HR3
   rw [← hl3]
   have HST3 := hyd hst3
   clear hrow3 hr3 hk3 ho3 hl3 hst3 HC hu
   go_wp2_with (at_builtin; refine wpList_append_str _ rfl _ _ 35 9 rfl 5 i0 (.int .u8 0) 1 Tryz.underlying35 Tryz.underlying9 HI.o hz0 hz1 hz2 rfl b3 off3 _ cap3 _ rfl HR3.o x rfl (by first | (unfold maxLen; omega) | (simp [maxLen] <;> omega)) (by first | omega | (simp <;> omega)) ?_)
   intro g off cap w4 hr4 hk4 hg4
   obtain ⟨n1, n2, n3⟩ := RB.next (w0 := wr) (o0 := o') (o := some b3) (news := x.data.toList) (by simp) rfl HK3.o HO3.o hr4 hk4 (hg4.imp (fun h => by rw [h]) id)
   rw [HST3.o] at n1
   have hg := GrewP.trans (bs := lk ++ strL x.data.toList) HK.o HO.o ⟨_, _, rfl, n1, n2, n3⟩
   obtain ⟨v4, o4, hv4, hrow4, hk4', ho4⟩ := hg
   cases hv4
   rw [← HST.o] at hrow4
   have N1 := hyd hrow4
   have N2 := hyd hk4'
   have N3 := hyd ho4
   clear n1 n2 n3 hr4 hk4 hg4 hrow4 hk4' ho4
   go_wp2_with fail
   go_roundw
   case rel => exact ⟨k + 1, _, by omega, by go_num, N1.o, N2.o, N3.o⟩
   case measure => simp [intOf]; omega
  ·obtain rfl : k = ns.length := by omega
   rw [List.take_length] at hrow
   rw [List.take_length]
   have HROW := hyd hrow
   have HK := hyd hkw
   have HO := hyd ho
   clear hrow hkw ho
   go_wp2_with fail
   go_ret
   exact ⟨_, o', rfl, HROW.o, HK.o, HO.o⟩
theorem rd_block {w : World} {b E n k : Nat} {xs : List Value} (hb : w.heap[b]? = some (.cells xs.toArray E)) (hl : xs.length = n * k) (hn : n ≤ maxLen) : Rd w k (.slice (some ⟨b, 0, none⟩) n n) n xs (some b) :=
 ⟨hl, _, _, rfl, Nat.le_refl _, hn, .inr ⟨b, 0, rfl, rfl, fun i hi => by simp [World.cell?, hb]⟩⟩
theorem heap_new (w : World) (o : Obj) : (w.alloc o).heap[w.heap.size]? = some o := by
 show (w.heap.push o)[w.heap.size]? = some o
 simp
theorem p_putExtent {w : World} {v : Value} {bs : List UInt8} {o : Option Nat} (h : RB w v bs o) {f l : Int} (hf : I64 f) (hl : I64 l) (hsz : (bs ++ extL (f, l)).length ≤ 1000000000) :
  Calls Tryz.prog 89 #[v, .agg #[.int .i64 f, .int .i64 l]] w (GrewP o w (bs ++ extL (f, l))) := by
 have hk : Keep [] w ((w.alloc (.cells #[.int .i64 f, .int .i64 l] 34)).alloc (.cells #[.int .i64 f, .int .i64 l] 2)) := ((Keep.refl [] w).alloc _).alloc _
 have hb : ((w.alloc (.cells #[.int .i64 f, .int .i64 l] 34)).alloc (.cells #[.int .i64 f, .int .i64 l] 2)).heap[w.heap.size + 1]? = some (.cells #[.int .i64 f, .int .i64 l] 2) := by
  have h := heap_new (w.alloc (.cells #[.int .i64 f, .int .i64 l] 34)) (.cells #[.int .i64 f, .int .i64 l] 2)
  rwa [show (w.alloc (.cells #[.int .i64 f, .int .i64 l] 34)).heap.size = w.heap.size + 1 from by simp] at h
 have hrow : RB _ v bs o := h.keep hk (by simp)
 have hcall := p_int (ns := [f, l]) (ol := some (w.heap.size + 1)) hrow (rd_block (n := 2) (k := 1) (xs := [.int .i64 f, .int .i64 l]) hb rfl (by simp [maxLen])) (fun b hb => by cases hb; exact ⟨by simp, fun e => by have := h.lt _ e.symm; omega⟩) (by intro x hx; simp at hx; rcases hx with rfl | rfl; exact hf; exact hl) (by simpa [extL] using hsz)
 have HK := hyd hk
 have hst : (bs ++ [f, l].flatMap fun x => intL x) = bs ++ extL (f, l) := by simp [extL]
 rw [hst] at hcall
 have HC := hyd hcall
 obtain ⟨a, c, rfl, hc1, hc2⟩ := h.form
 clear h hb hrow hcall hk hst hsz
 go_enter Tryz.func89, Tryz.ntmps89
 go_wp2_with fail
 refine HC.o.mono ?_
 intro e w3 hg
 have hg2 := GrewP.trans (o := o) (HK.o.mono (fun _ h => nomatch h)) (.inl rfl) hg
 obtain ⟨v3, o3, rfl, hrest⟩ := hg2
 have HG := hyd hrest
 clear hrest hg
 go_wp2_with fail
 go_ret
 exact ⟨v3, o3, rfl, HG.o⟩
def encX (x : Int × Int) : List Value := [.int .i64 x.1, .int .i64 x.2]
def RdX (B : Nat) (w : World) (v : Value) (xs : List (Int × Int)) : Prop := (∃ o, Rd w 2 v xs.length (xs.flatMap encX) o ∧ ∀ b, o = some b → b < B) ∧ (∀ x ∈ xs, ExtOk x) ∧ xs.length * 16 ≤ 140737488355328
theorem flat_at {α : Type} {e : α → List Value} {m : Nat} (he : ∀ x, (e x).length = m) : ∀ (l : List α) (k : Nat) (h : k < l.length) (j : Nat), j < m → (l.flatMap e)[k * m + j]? = (e l[k])[j]?
 | [], k, h, _, _ => by simp at h
 | x :: l, 0, h, j, hj => by
  rw [List.flatMap_cons, List.getElem?_append_left (by rw [he]; omega)]
  simp
 | x :: l, k + 1, h, j, hj => by
  rw [List.flatMap_cons, List.getElem?_append_right (by rw [he, Nat.succ_mul]; omega), he, show (k + 1) * m + j - m = k * m + j from by rw [Nat.succ_mul]; omega, flat_at he l k (by simpa using h) j hj]
  simp
theorem rd_at {α : Type} {e : α → List Value} {m : Nat} (he : ∀ x, (e x).length = m) {w : World} {a : Option Addr} {c n : Nat} {l : List α} {o : Option Nat} (h : Rd w m (.slice a n c) l.length (l.flatMap e) o) {k : Nat} (hk : k < l.length) (hm : 0 < m) :
  ∃ b off, a = some ⟨b, off, none⟩ ∧ o = some b ∧ ∀ j, j < m → w.cell? ⟨b, off + (k * m + j), none⟩ = (e l[k])[j]? := by
 obtain ⟨hl, a', c', hv, _, _, h3⟩ := h
 cases hv
 rcases h3 with ⟨h3, _⟩ | ⟨b, off, rfl, rfl, h3⟩
 ·omega
 ·refine ⟨b, off, rfl, rfl, fun j hj => ?_⟩
  have : k * m + m ≤ l.length * m := by rw [← Nat.succ_mul]; exact Nat.mul_le_mul_right _ hk
  rw [h3 (k * m + j) (by omega), flat_at he l k hk j hj]
theorem RdX.at {B : Nat} {w : World} {a : Option Addr} {c n : Nat} {l : List (Int × Int)} (h : RdX B w (.slice a n c) l) {k : Nat} (hk : k < l.length) :
  ∃ b off, a = some ⟨b, off, none⟩ ∧ b < B ∧ w.cell? ⟨b, off + k * 2, none⟩ = some (.int .i64 l[k].1) ∧ w.cell? ⟨b, off + k * 2 + 1, none⟩ = some (.int .i64 l[k].2) := by
 obtain ⟨⟨o, h1, h2⟩, -, -⟩ := h
 obtain ⟨b, off, rfl, rfl, h3⟩ := rd_at (m := 2) (fun _ => rfl) h1 hk (by omega)
 exact ⟨b, off, rfl, h2 b rfl, by simpa [encX] using h3 0 (by omega), by simpa [encX, Nat.add_assoc] using h3 1 (by omega)⟩
theorem RdX.slice {B : Nat} {w : World} {v : Value} {l : List (Int × Int)} (h : RdX B w v l) : ∃ a c, v = .slice a l.length c ∧ l.length ≤ c ∧ c ≤ maxLen := by
 obtain ⟨⟨o, ⟨-, a, c, h1, h2, h3, -⟩, -⟩, -, -⟩ := h
 exact ⟨a, c, h1, h2, h3⟩
structure PlV where
 p : Plc
 v : Value
def encP (x : PlV) : List Value := [.int .i64 x.p.pid, .int .i64 x.p.len, x.v]
def RdP1 (B : Nat) (w : World) (x : PlV) : Prop := I64 x.p.pid ∧ I64 x.p.len ∧ RdX B w x.v x.p.pieces
def RdPs (B : Nat) (w : World) (v : Value) (xs : List PlV) : Prop := (∃ o, Rd w 3 v xs.length (xs.flatMap encP) o ∧ ∀ b, o = some b → b < B) ∧ (∀ x ∈ xs, RdP1 B w x) ∧ xs.length * 40 ≤ 140737488355328
theorem RdPs.at {B : Nat} {w : World} {a : Option Addr} {c n : Nat} {l : List PlV} (h : RdPs B w (.slice a n c) l) {k : Nat} (hk : k < l.length) :
  ∃ b off, a = some ⟨b, off, none⟩ ∧ b < B ∧ w.cell? ⟨b, off + k * 3, none⟩ = some (.int .i64 l[k].p.pid) ∧ w.cell? ⟨b, off + k * 3 + 1, none⟩ = some (.int .i64 l[k].p.len) ∧ w.cell? ⟨b, off + k * 3 + 2, none⟩ = some l[k].v := by
 obtain ⟨⟨o, h1, h2⟩, -, -⟩ := h
 obtain ⟨b, off, rfl, rfl, h3⟩ := rd_at (m := 3) (fun _ => rfl) h1 hk (by omega)
 exact ⟨b, off, rfl, h2 b rfl, by simpa [encP] using h3 0 (by omega), by simpa [encP, Nat.add_assoc] using h3 1 (by omega), by simpa [encP, Nat.add_assoc] using h3 2 (by omega)⟩
def RdB (B : Nat) (w : World) (v : Value) (bs : List UInt8) : Prop := (∃ o, Rd w 1 v bs.length (Lib.byteCells bs) o ∧ ∀ b, o = some b → b < B) ∧ bs.length ≤ 140737488355328
structure MnV where
 s : ByteArray
 area : Int × Int
 rv : Value
 rest : List UInt8
 pv : Value
 places : List PlV
def MnV.man (m : MnV) : Man := ⟨m.s.data.toList, m.area, m.rest, m.places.map (·.p)⟩
def aggM (m : MnV) : Value := .agg #[.string m.s, .int .i64 m.area.1, .int .i64 m.area.2, m.rv, m.pv]
def RdM (B : Nat) (w : World) (m : MnV) : Prop := m.s.size ≤ 140737488355328 ∧ ExtOk m.area ∧ RdB B w m.rv m.rest ∧ RdPs B w m.pv m.places
theorem RdX.keep {B : Nat} {F : List Nat} {w w' : World} {v : Value} {xs : List (Int × Int)} (h : RdX B w v xs) (hk : Keep F w w') (hF : ∀ b ∈ F, B ≤ b) : RdX B w' v xs := by
 obtain ⟨⟨o, h1, h2⟩, h3, h4⟩ := h
 exact ⟨⟨o, h1.keep hk (fun b hb hm => by have := h2 b hb; have := hF b hm; omega), h2⟩, h3, h4⟩
theorem RdP1.keep {B : Nat} {F : List Nat} {w w' : World} {x : PlV} (h : RdP1 B w x) (hk : Keep F w w') (hF : ∀ b ∈ F, B ≤ b) : RdP1 B w' x := ⟨h.1, h.2.1, h.2.2.keep hk hF⟩
theorem RdPs.keep {B : Nat} {F : List Nat} {w w' : World} {v : Value} {xs : List PlV} (h : RdPs B w v xs) (hk : Keep F w w') (hF : ∀ b ∈ F, B ≤ b) : RdPs B w' v xs := by
 obtain ⟨⟨o, h1, h2⟩, h3, h4⟩ := h
 exact ⟨⟨o, h1.keep hk (fun b hb hm => by have := h2 b hb; have := hF b hm; omega), h2⟩, fun x hx => (h3 x hx).keep hk hF, h4⟩
theorem RdB.keep {B : Nat} {F : List Nat} {w w' : World} {v : Value} {bs : List UInt8} (h : RdB B w v bs) (hk : Keep F w w') (hF : ∀ b ∈ F, B ≤ b) : RdB B w' v bs := by
 obtain ⟨⟨o, h1, h2⟩, h3⟩ := h
 exact ⟨⟨o, h1.keep hk (fun b hb hm => by have := h2 b hb; have := hF b hm; omega), h2⟩, h3⟩
theorem RdM.keep {B : Nat} {F : List Nat} {w w' : World} {m : MnV} (h : RdM B w m) (hk : Keep F w w') (hF : ∀ b ∈ F, B ≤ b) : RdM B w' m := ⟨h.1, h.2.1, h.2.2.1.keep hk hF, h.2.2.2.keep hk hF⟩
end Go.Proofs.YtimpadpeibgmoaaGreat
