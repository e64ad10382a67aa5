/- The writers: Clip, Num, Int, Str of the program. Printed by gen-mn2.py. -/
import Derived.Test.YtdeghoigpcbmcaaMn1
namespace Go.Proofs.Ytdeghoigpcbmcaa
open Go.RowKit Go.Emb

theorem bits_not (x : Int) (h0 : -9223372036854775808 ≤ x) (h1 : x ≤ 9223372036854775807) : bits BinOp.xor IntKind.i64 (-1) x = -x - 1 := by
  show IntKind.i64.wrap ((BitVec.ofInt 64 (-1) ^^^ BitVec.ofInt 64 x).toNat : Int) = _
  rw [show BitVec.ofInt 64 (-1) = BitVec.allOnes 64 from by decide, BitVec.allOnes_xor, BitVec.toNat_not, BitVec.toNat_ofInt, IntKind.wrap_i64]
  omega
theorem RB.clip {w : World} {a : Option Addr} {n c : Nat} {bs : List UInt8} {o : Option Nat} (h : RB w (.slice a n c) bs o) (hn : n = bs.length) : RB w (.slice a n n) bs o := by
  subst hn
  obtain ⟨h0, ⟨rfl, hv, h1⟩ | ⟨b, off, cap, cs, rfl, hv, h1, h2, h3, h4, h5⟩⟩ := h
  · simp only [Value.slice.injEq] at hv
    obtain ⟨rfl, h2, -⟩ := hv
    exact ⟨h0, .inl ⟨rfl, by rw [h2], h1⟩⟩
  · simp only [Value.slice.injEq] at hv
    obtain ⟨rfl, -, rfl⟩ := hv
    exact ⟨h0, .inr ⟨b, off, bs.length, cs, rfl, rfl, h1, Nat.le_refl _, by omega, by omega, h5⟩⟩
theorem p_clip {w : World} {a : Option Addr} {n c : Nat} (h : n ≤ c) (hc : c ≤ maxLen) : Calls Try.prog 44 #[.slice a n c] w fun e w' => e = .returned (.slice a n n) ∧ w = w' := by
  unfold maxLen at hc
  go_enter Try.func44, Try.ntmps44
  go_wp2_with fail
  go_ret
  exact ⟨rfl, rfl⟩

set_option maxRecDepth 100000 in
set_option maxHeartbeats 1000000 in
theorem p_num {w : World} {v lv : Value} {bs : List UInt8} {o ol : Option Nat} {ns : List Nat} (h : RB w v bs o) (hl : Rd w 1 lv ns.length (ns.map fun x => .int .u64 ((x : Nat) : Int)) ol) (hol : ∀ b, ol = some b → b < w.heap.size ∧ some b ≠ o) (hok : ∀ x ∈ ns, x < 18446744073709551616) (hsz : (bs ++ ns.flatMap fun x => numL x 0).length ≤ 1000000000) :
    Calls Try.prog 27 #[v, lv] w (GrewP o w (bs ++ ns.flatMap fun x => numL x 0)) := by
  obtain ⟨a, c, rfl, hc1, hc2⟩ := h.form
  have h2 := h.clip rfl
  have HCL := Lib.hid (p_clip (w := w) (a := a) hc1 hc2)
  unfold maxLen at hc2
  obtain ⟨-, la, lc, rfl, hlc1, hlc2, hrd⟩ := id hl
  unfold maxLen at hlc2
  have H2 := Lib.hid h2
  have HL := Lib.hid hl
  have HOL := Lib.hid hol
  have HOK := Lib.hid hok
  have HSZ := Lib.hid hsz
  clear h h2 hl hol hok hrd hsz
  go_enter Try.func27, Try.ntmps27
  go_wp2_with fail
  refine HCL.out.mono ?_
  rintro e w1 ⟨rfl, rfl⟩
  clear HCL
  go_wp2_with fail
  go_loopw [0, 6, 11] (fun v _ i wr => ∃ (k : Nat) (o' : Option Nat), k ≤ ns.length ∧ i = .int .i64 k ∧ RB wr v (bs ++ (ns.take k).flatMap fun x => numL x 0) o' ∧ Keep o.toList w wr ∧ (o' = o ∨ ∀ b, o' = some b → w.heap.size ≤ b)) (fun _ _ i _ => ns.length - (intOf i).toNat)
  case atStart => exact ⟨0, o, Nat.zero_le _, rfl, by simpa using H2.out, Keep.refl _ _, .inl rfl⟩
  case round =>
    clear H2
    obtain ⟨k, o', hk, rfl, hrow, hkw, ho⟩ := hrel
    obtain ⟨a', c', rfl, hc3, hc4⟩ := hrow.form
    by_cases hlt : k < ns.length
    · have hst : (bs ++ (ns.take (k + 1)).flatMap fun x => numL x 0) = (bs ++ (ns.take k).flatMap fun x => numL x 0) ++ (fun x => numL x 0) ns[k] := by
        rw [List.take_succ_eq_append_getElem hlt, List.flatMap_append, List.append_assoc]; simp
      have hlen : (bs ++ (ns.take k).flatMap fun x => numL x 0).length + ((fun x => numL x 0) ns[k]).length ≤ 1000000000 := by
        have h1 := HSZ.out
        have h2 : (ns.flatMap fun x => numL x 0) = ((ns.take (k + 1)).flatMap fun x => numL x 0) ++ ((ns.drop (k + 1)).flatMap fun x => numL x 0) := by rw [← List.flatMap_append, List.take_append_drop]
        rw [h2, ← List.append_assoc, hst] at h1
        simp only [List.length_append] at h1 ⊢
        omega
      have hokk := HOK.out _ (List.getElem_mem hlt)
      obtain ⟨hl0, _, _, hq, -, -, hrd⟩ := HL.out
      cases hq
      rcases hrd with ⟨h0, -⟩ | ⟨lb, loff, hla, holb, hcell⟩
      · omega
      have hlb := HOL.out lb holb
      have hce := hcell k (by omega)
      rw [List.getElem?_map, List.getElem?_eq_getElem hlt] at hce
      simp only [Option.map_some] at hce
      have hce2 := keep_cellF hkw hce (by
        intro hm
        cases o with
        | none => cases hm
        | some z => simp at hm; exact hlb.2 (by rw [hm]))
      subst hla
      obtain ⟨x, hx⟩ : ∃ x, x = ns[k] := ⟨_, rfl⟩
      rw [← hx] at hst hlen hokk hce2
      obtain ⟨lk, hlk⟩ : ∃ q, q = bs ++ (ns.take k).flatMap fun x => numL x 0 := ⟨_, rfl⟩
      rw [← hlk] at hst hrow hlen
      rw [← hlk]
      have HST := Lib.hid hst
      have HROW := Lib.hid hrow
      have HK := Lib.hid hkw
      have HO := Lib.hid ho
      have HOKK := Lib.hid hokk
      have HLEN := Lib.hid hlen
      have i0' : (0 : Int) ≤ (k : Int) := by omega
      have i1' : (k : Int) < (ns.length : Int) := by omega
      clear hst hrow hkw ho hokk hlen hcell hce hl0 hlk hx holb hlb
      have hcall := p_counted (w := wr) HROW.out (by have := HLEN.out; omega) (n := x) HOKK.out (flag := 0) (fl := 0) rfl (.inl rfl)
      have HC := Lib.hid hcall
      clear hcall
      go_wp2_with fail
      refine HC.out.mono ?_
      rintro e w3 ⟨v3, o3, rfl, hrow3, hk3, ho3⟩
      have hg := GrewP.trans (bs := lk ++ numL x 0) HK.out HO.out ⟨v3, o3, rfl, hrow3, hk3, ho3⟩
      obtain ⟨v4, o4, hv4, hrow4, hk4, ho4⟩ := hg
      cases hv4
      rw [← HST.out] at hrow4
      have N1 := Lib.hid hrow4
      have N2 := Lib.hid hk4
      have N3 := Lib.hid ho4
      clear hrow3 hk3 ho3 hrow4 hk4 ho4 HC
      go_wp2_with fail
      go_roundw
      case rel => exact ⟨k + 1, _, by omega, by go_num, N1.out, N2.out, N3.out⟩
      case measure => simp [intOf]; omega
    · obtain rfl : k = ns.length := by omega
      rw [List.take_length] at hrow
      rw [List.take_length]
      have HROW := Lib.hid hrow
      have HK := Lib.hid hkw
      have HO := Lib.hid ho
      clear hrow hkw ho
      go_wp2_with fail
      go_ret
      exact ⟨_, o', rfl, HROW.out, HK.out, HO.out⟩
end Go.Proofs.Ytdeghoigpcbmcaa
