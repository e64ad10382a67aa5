/- A part of the proof (Su3), joined by squeeze2.py. -/
import Derived.Test.YtimpadpeibgmoaaGreatYd14
import Derived.Test.YtimpadpeibgmoaaGreatYd06
import Derived.Test.YtimpadpeibgmoaaGreatYd15
set_option maxHeartbeats 8000000
set_option maxRecDepth 100000
namespace Go.Proofs.YtimpadpeibgmoaaGreat
open Go.RowKit Go.Emb
theorem hiL_cons (k n : Nat) : hiL (k + 1) n = UInt8.ofNat (n / 256 ^ k) :: hiL k n := by
 induction k generalizing n with
 | zero => simp [hiL]
 | succ k ih =>
  have e : hiL (k + 1 + 1) n = hiL (k + 1) (n / 256) ++ [UInt8.ofNat n] := rfl
  rw [e, ih, Nat.div_div_eq_div_mul]
  have e2 : hiL (k + 1) n = hiL k (n / 256) ++ [UInt8.ofNat n] := rfl
  rw [e2, Nat.pow_succ, Nat.mul_comm (256 ^ k) 256]
  rfl
def BB (w : World) (g : Nat) (l : List UInt8) : Prop := w.heap[g]? = some (.cells (Lib.byteCells l).toArray 5 (0, 0))
theorem BB.lt {w : World} {g : Nat} {l : List UInt8} (h : BB w g l) : g < w.heap.size := (Array.getElem?_eq_some_iff.1 h).1
theorem BB.keep {w w' : World} {g : Nat} {l : List UInt8} {F : List Nat} (h : BB w g l) (k : Keep F w w') (hn : g ∉ F) : BB w' g l := (k.block g h.lt hn).trans h
theorem BB.set {w : World} {g : Nat} {l : List UInt8} (h : BB w g l) (p : Nat) (x : UInt8) : BB (w.setCell ⟨g, p, none⟩ (.int .u8 x.toNat)) g (l.set p x) := by
 have h1 : w.heap[g]? = some (.cells (Lib.byteCells l).toArray 5 (0, 0)) := h
 have h2 := heap_setCell_at (i := p) h1 (.int .u8 x.toNat)
 unfold BB
 rw [h2]
 congr 2
 apply Array.toList_inj.1
 simp [Lib.byteCells, List.map_set]
theorem BB.at {w : World} {g : Nat} {l : List UInt8} (h : BB w g l) {p : Nat} (hp : p < l.length) : w.cell? ⟨g, p, none⟩ = some (.int .u8 l[p].toNat) := by
 have h1 : w.heap[g]? = some (.cells (Lib.byteCells l).toArray 5 (0, 0)) := h
 simp [World.cell?, h1, Lib.byteCells, hp]
theorem BB.frozen {w : World} {g : Nat} {l : List UInt8} (h : BB w g l) (p : Nat) : w.frozen? ⟨g, p, none⟩ = false := by
 have h1 : w.heap[g]? = some (.cells (Lib.byteCells l).toArray 5 (0, 0)) := h
 simp [World.frozen?, h1]
theorem BB.rd {w : World} {g : Nat} {l : List UInt8} (h : BB w g l) {off n c : Nat} (hn : off + n ≤ l.length) (hc : n ≤ c) (hm : c ≤ maxLen) : Rd w 1 (.slice (some ⟨g, off, none⟩) n c) ((l.drop off).take n).length (Lib.byteCells ((l.drop off).take n)) (some g) := by
 have hlen : ((l.drop off).take n).length = n := by rw [List.length_take, List.length_drop]; omega
 rw [hlen]
 refine ⟨by simp [Lib.byteCells]; omega, _, c, rfl, hc, hm, .inr ⟨g, off, rfl, rfl, fun i hi => ?_⟩⟩
 rw [h.at (by omega)]
 have e : ((l.drop off).take n)[i]? = some l[off + i] := by
  rw [List.getElem?_take, if_pos (by omega), List.getElem?_drop, List.getElem?_eq_getElem]
 unfold Lib.byteCells
 rw [List.getElem?_map, e]; rfl
theorem u8_wrap (m : Nat) : IntKind.u8.wrap (m : Int) = ((UInt8.ofNat m).toNat : Int) := by
 rw [UInt8.toNat_ofNat']
 simp [IntKind.wrap, IntKind.bits, IntKind.signed]
theorem lay_step {bs : List UInt8} {off len k n : Nat} (h : off + len ≤ bs.length) (hk : k < len) :
  (bs.take (off + len - k) ++ hiL k n ++ bs.drop (off + len)).set (off + (len - 1 - k)) (UInt8.ofNat (n / 256 ^ k)) = bs.take (off + len - (k + 1)) ++ hiL (k + 1) n ++ bs.drop (off + len) := by
 obtain ⟨p, hp⟩ : ∃ p, p = off + (len - 1 - k) := ⟨_, rfl⟩
 have e1 : off + len - k = p + 1 := by omega
 have e2 : off + len - (k + 1) = p := by omega
 rw [← hp, e1, e2, hiL_cons]
 have hpl : p < bs.length := by omega
 rw [List.take_succ_eq_append_getElem hpl]
 have hl : (bs.take p).length = p := by rw [List.length_take]; omega
 simp only [List.append_assoc]
 rw [List.set_append_right _ _ (by omega), hl, Nat.sub_self]
 rfl
theorem p_lay {w : World} {g off len cap n : Nat} {bs : List UInt8} (h : BB w g bs) (hl : off + len ≤ bs.length) (hn : n < 18446744073709551616) (hb : bs.length ≤ 1000000000) :
  Calls Tryz.prog 123 #[.slice (some ⟨g, off, none⟩) len cap, .int .u64 n] w fun e w' => e = .returned (.tuple #[]) ∧ BB w' g (bs.take off ++ hiL len n ++ bs.drop (off + len)) ∧ Keep [g] w w' := by
 have HB := hyd h
 clear h
 go_enter Tryz.func123, Tryz.ntmps123
 go_wp2_with fail
 go_loopw [1, 7] (fun m i wr => ∃ k : Nat, k ≤ len ∧ i = .int .i64 k ∧ m = .int .u64 (n / 256 ^ k : Nat) ∧ BB wr g (bs.take (off + len - k) ++ hiL k n ++ bs.drop (off + len)) ∧ Keep [g] w wr) (fun _ i _ => len - (RowKit.intOf i).toNat)
 case atStart => exact ⟨0, Nat.zero_le _, rfl, by simp, by simpa [hiL] using HB.o, Keep.refl _ _⟩
 case round =>
  obtain ⟨k, hk, rfl, rfl, hbb, hkw⟩ := hrel
  by_cases hlt : k < len
  ·have q0 : (0 : Int) ≤ (k : Int) := by omega
   have q1 : (k : Int) < (len : Int) := by omega
   have w1 : IntKind.i64.wrap ((len : Int) - 1) = ((len - 1 : Nat) : Int) := (IntWalk.i64_in _ (by omega)).trans (by omega)
   have w2 : IntKind.i64.wrap (((len - 1 : Nat) : Int) - (k : Int)) = ((len - 1 - k : Nat) : Int) := (IntWalk.i64_in _ (by omega)).trans (by omega)
   have w3 := u8_wrap (n / 256 ^ k)
   have hlen : (bs.take (off + len - k) ++ hiL k n ++ bs.drop (off + len)).length = bs.length := by
    simp only [List.length_append, List.length_take, List.length_drop, hiL_len]; omega
   have hfr := hbb.frozen (off + (len - 1 - k))
   have hcell := hbb.at (p := off + (len - 1 - k)) (by omega)
   have hset := hbb.set (off + (len - 1 - k)) (UInt8.ofNat (n / 256 ^ k))
   rw [lay_step hl hlt] at hset
   have hk2 := hkw.setCell (p := ⟨g, off + (len - 1 - k), none⟩) (.inl (by simp)) (.int .u8 (UInt8.ofNat (n / 256 ^ k)).toNat)
   have hdiv : n / 256 ^ (k + 1) = n / 256 ^ k / 256 := by rw [Nat.pow_succ, Nat.div_div_eq_div_mul]
   obtain ⟨x, hx⟩ : ∃ x, x = (bs.take (off + len - k) ++ hiL k n ++ bs.drop (off + len))[off + (len - 1 - k)]'(by omega) := ⟨_, rfl⟩
   rw [← hx] at hcell
   obtain ⟨m, hm⟩ : ∃ m, m = n / 256 ^ k := ⟨_, rfl⟩
   rw [← hm] at w3 hset hk2 hdiv ⊢
   have hj : len - 1 - k < len := by omega
   obtain ⟨j, hjj⟩ : ∃ j, j = len - 1 - k := ⟨_, rfl⟩
   rw [← hjj] at w2 hfr hcell hset hk2 hj
   have j0 : (0 : Int) ≤ (j : Int) := by omega
   have j1 : (j : Int) < (len : Int) := by omega
   have HSET := hyd hset
   have HK2 := hyd hk2
   have HDIV := hyd hdiv
   clear hset hk2 hdiv hx hm hbb hkw hlen hjj
   go_wp2_with fail
   go_roundw
   case rel => exact ⟨k + 1, by omega, by go_num, by rw [HDIV.o]; go_num, HSET.o, HK2.o⟩
   case measure => first | (simp [RowKit.intOf]; omega) | omega
  ·have hkl : k = len := by omega
   have q1 : ¬ (k : Int) < (len : Int) := by omega
   rw [show off + len - k = off by omega, hkl] at hbb
   have HBB := hyd hbb
   have HKW := hyd hkw
   clear hbb hkw
   go_wp2_with fail
   go_end0
   exact ⟨rfl, by simpa using HBB.o, HKW.o⟩
theorem roomI_nat (n : Nat) : roomI (n : Int) = (roomN n : Int) := by
 unfold roomI roomN
 by_cases h : n < 64 ∨ 4096 < n
 ·rw [if_pos h, if_pos (by omega)]; rfl
 ·rw [if_neg h, if_neg (by omega)]; omega
theorem hiN_take {l : List UInt8} {k : Nat} (h : k < l.length) : hiN (l.take (k + 1)) = hiN (l.take k) * 256 + l[k].toNat := by
 rw [List.take_succ_eq_append_getElem h, hiN_snoc]
theorem p_told {w : World} {v : Value} {l : List UInt8} {o : Option Nat} (hr : Rd w 1 v l.length (Lib.byteCells l) o) (h8 : l.length ≤ 8) :
  Calls Tryz.prog 108 #[v] w fun e w' => e = .returned (.int .u64 (hiN l : Nat)) ∧ w = w' := by
 obtain ⟨va, vc, rfl⟩ : ∃ a c, v = .slice a l.length c := by obtain ⟨-, a, c, h, -⟩ := hr; exact ⟨a, c, h⟩
 have HR := hyd hr
 clear hr
 go_enter Tryz.func108, Tryz.ntmps108
 go_wp2_with fail
 go_loop [2, 7] (fun n i => ∃ k : Nat, k ≤ l.length ∧ i = .int .i64 k ∧ n = .int .u64 (hiN (l.take k) : Nat)) (fun _ i => l.length - (RowKit.intOf i).toNat)
 case atStart => exact ⟨0, Nat.zero_le _, rfl, rfl⟩
 case round =>
  obtain ⟨k, hk, rfl, rfl⟩ := hrel
  by_cases hlt : k < l.length
  ·have hsn := hiN_take hlt
   have hlt2 := hiN_lt (l.take k)
   have hkl : (l.take k).length = k := by rw [List.length_take]; omega
   rw [hkl] at hlt2
   have hp : 256 ^ k ≤ 256 ^ 7 := Nat.pow_le_pow_right (by decide) (by omega)
   obtain ⟨b, off, rfl, c0⟩ := rdb_at HR.o hlt
   have hc := (l[k]).toNat_lt
   obtain ⟨c, hcc⟩ : ∃ c, c = (l[k]).toNat := ⟨_, rfl⟩
   obtain ⟨n, hn⟩ : ∃ n, n = hiN (l.take k) := ⟨_, rfl⟩
   rw [← hcc] at c0 hc hsn
   rw [← hn] at hsn hlt2 ⊢
   have hor := or_byte n c (by omega) hc
   rw [Int.natCast_mul] at hor
   have hor2 : bits BinOp.or IntKind.u64 ((n : Int) * 256) (c : Int) = ((n * 256 + c : Nat) : Int) := hor
   have hw : IntKind.u64.wrap ((n : Int) * 256) = ((n * 256 : Nat) : Int) := (IntWalk.u64_in _ (by omega)).trans (by omega)
   have HOR := hyd hor2
   have HSN := hyd hsn
   have q0 : (0 : Int) ≤ (k : Int) := by omega
   have q1 : (k : Int) < (l.length : Int) := by omega
   clear hor hor2 hsn hn hcc hkl
   go_wp2_with fail
   go_round
   case rel => exact ⟨k + 1, by omega, by go_num, by rw [HSN.o, HOR.o]⟩
   case measure => first | (simp [RowKit.intOf]; omega) | omega
  ·obtain rfl : k = l.length := by omega
   have q1 : ¬ (l.length : Int) < (l.length : Int) := by omega
   rw [List.take_length]
   go_wp2_with fail
   go_ret
   exact ⟨rfl, rfl⟩
end Go.Proofs.YtimpadpeibgmoaaGreat
