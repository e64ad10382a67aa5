/- The writer of texts: Str of the program. Printed by gen-mn2.py. -/
import Derived.Test.YtngepgnmlpinaaaMnS
namespace Go.Proofs.Ytngepgnmlpinaaa
open Go.RowKit Go.Emb

set_option maxRecDepth 100000 in
set_option maxHeartbeats 1000000 in
theorem p_str {w : World} {v lv : Value} {bs : List UInt8} {o ol : Option Nat} {ns : List ByteArray} (h : RB w v bs o) (hl : Rd w 1 lv ns.length (ns.map fun x => .string x) ol) (hol : ∀ b, ol = some b → b < w.heap.size ∧ some b ≠ o) (hok : ∀ x ∈ ns, x.size ≤ 1000000000) (hsz : (bs ++ ns.flatMap fun x => strL x.data.toList).length ≤ 1000000000) :
    Calls Try.prog 40 #[v, lv] w (GrewP o w (bs ++ ns.flatMap fun x => strL x.data.toList)) := by
  obtain ⟨i0, hi, hz0, hz1, hz2⟩ := info_parts byte_info
  have HI := Lib.hid hi
  clear hi
  obtain ⟨a, c, rfl, hc1, hc2⟩ := h.form
  have h2 := h.clip rfl
  have HCL := Lib.hid (p_clip (w := w) (a := a) hc1 hc2)
  unfold maxLen at hc2
  obtain ⟨-, la, lc, rfl, hlc1, hlc2, hrd⟩ := id hl
  unfold maxLen at hlc2
  have H2 := Lib.hid h2
  have HL := Lib.hid hl
  have HOL := Lib.hid hol
  have HOK := Lib.hid hok
  have HSZ := Lib.hid hsz
  clear h h2 hl hol hok hrd hsz
  go_enter Try.func40, Try.ntmps40
  go_wp2_with fail
  refine HCL.out.mono ?_
  rintro e w1 ⟨rfl, rfl⟩
  clear HCL
  go_wp2_with fail
  go_loopw [0, 6, 11] (fun v _ i wr => ∃ (k : Nat) (o' : Option Nat), k ≤ ns.length ∧ i = .int .i64 k ∧ RB wr v (bs ++ (ns.take k).flatMap fun x => strL x.data.toList) o' ∧ Keep o.toList w wr ∧ (o' = o ∨ ∀ b, o' = some b → w.heap.size ≤ b)) (fun _ _ i _ => ns.length - (intOf i).toNat)
  case atStart => exact ⟨0, o, Nat.zero_le _, rfl, by simpa using H2.out, Keep.refl _ _, .inl rfl⟩
  case round =>
    clear H2
    obtain ⟨k, o', hk, rfl, hrow, hkw, ho⟩ := hrel
    obtain ⟨a', c', rfl, hc3, hc4⟩ := hrow.form
    by_cases hlt : k < ns.length
    · have hst : (bs ++ (ns.take (k + 1)).flatMap fun x => strL x.data.toList) = (bs ++ (ns.take k).flatMap fun x => strL x.data.toList) ++ (fun x => strL x.data.toList) ns[k] := by
        rw [List.take_succ_eq_append_getElem hlt, List.flatMap_append, List.append_assoc]; simp
      have hlen : (bs ++ (ns.take k).flatMap fun x => strL x.data.toList).length + ((fun x => strL x.data.toList) ns[k]).length ≤ 1000000000 := by
        have h1 := HSZ.out
        have h2 : (ns.flatMap fun x => strL x.data.toList) = ((ns.take (k + 1)).flatMap fun x => strL x.data.toList) ++ ((ns.drop (k + 1)).flatMap fun x => strL x.data.toList) := by rw [← List.flatMap_append, List.take_append_drop]
        rw [h2, ← List.append_assoc, hst] at h1
        simp only [List.length_append] at h1 ⊢
        omega
      have hokk := HOK.out _ (List.getElem_mem hlt)
      obtain ⟨hl0, _, _, hq, -, -, hrd⟩ := HL.out
      cases hq
      rcases hrd with ⟨h0, -⟩ | ⟨lb, loff, hla, holb, hcell⟩
      · omega
      have hlb := HOL.out lb holb
      have hce := hcell k (by omega)
      rw [List.getElem?_map, List.getElem?_eq_getElem hlt] at hce
      simp only [Option.map_some] at hce
      have hce2 := keep_cellF hkw hce (by
        intro hm
        cases o with
        | none => cases hm
        | some z => simp at hm; exact hlb.2 (by rw [hm]))
      subst hla
      obtain ⟨x, hx⟩ : ∃ x, x = ns[k] := ⟨_, rfl⟩
      rw [← hx] at hst hlen hokk hce2
      obtain ⟨lk, hlk⟩ : ∃ q, q = bs ++ (ns.take k).flatMap fun x => strL x.data.toList := ⟨_, rfl⟩
      rw [← hlk] at hst hrow hlen
      rw [← hlk]
      have HST := Lib.hid hst
      have HROW := Lib.hid hrow
      have HK := Lib.hid hkw
      have HO := Lib.hid ho
      have HOKK := Lib.hid hokk
      have HLEN := Lib.hid hlen
      have i0' : (0 : Int) ≤ (k : Int) := by omega
      have i1' : (k : Int) < (ns.length : Int) := by omega
      clear hst hrow hkw ho hokk hlen hcell hce hl0 hlk hx holb hlb
      have hnl := numL_length x.size 0
      have hsl : (strL x.data.toList).length = (numL x.size 0).length + x.size := by unfold strL; rw [List.length_append, show x.data.toList.length = x.size from by simp]
      have hlen2 : lk.length + ((numL x.size 0).length + x.size) ≤ 1000000000 := by rw [← hsl]; exact HLEN.out
      have hcall := p_counted (w := wr) HROW.out (by omega) (n := x.size) (by omega) (flag := 0) (fl := 0) rfl (.inl rfl)
      have hq9 : (x.size : Int) ≤ 1000000000 := by omega
      have hu : IntKind.u64.wrap (x.size : Int) = (x.size : Int) := IntWalk.u64_in _ (by omega)
      have HC := Lib.hid hcall
      clear hcall hsl
      go_wp2_with fail
      refine HC.out.mono ?_
      rintro e w3 ⟨v3, o3, rfl, hrow3, hk3, ho3⟩
      obtain ⟨b3, off3, cap3, rfl, rfl, hr3⟩ := hrow3.block (by rw [List.length_append]; omega)
      have HR3 := Lib.hid hr3
      have HK3 := Lib.hid hk3
      have HO3 := Lib.hid ho3
      obtain ⟨l3, hl3⟩ : ∃ q, q = lk ++ numL x.size 0 := ⟨_, rfl⟩
      have hl3s : l3.length + x.size ≤ 1000000000 := by rw [hl3, List.length_append]; omega
      have hst3 : l3 ++ x.data.toList = lk ++ strL x.data.toList := by rw [hl3]; unfold strL; rw [show x.data.toList.length = x.size from by simp, List.append_assoc]
      rw [← hl3] at HR3
      rw [← hl3]
      have HST3 := Lib.hid hst3
      clear hrow3 hr3 hk3 ho3 hl3 hst3 HC hu
      go_wp2_with (at_builtin; refine wpList_append_str _ rfl _ _ 24 9 rfl 5 i0 (.int .u8 0) 1 Try.underlying24 Try.underlying9 HI.out hz0 hz1 hz2 rfl b3 off3 _ cap3 _ rfl HR3.out x rfl (by first | (unfold maxLen; omega) | (simp [maxLen] <;> omega)) (by first | omega | (simp <;> omega)) ?_)
      intro g off cap w4 hr4 hk4 hg4
      obtain ⟨n1, n2, n3⟩ := RB.next (w0 := wr) (o0 := o') (o := some b3) (news := x.data.toList) (by simp) rfl HK3.out HO3.out hr4 hk4 (hg4.imp (fun h => by rw [h]) id)
      rw [HST3.out] at n1
      have hg := GrewP.trans (bs := lk ++ strL x.data.toList) HK.out HO.out ⟨_, _, rfl, n1, n2, n3⟩
      obtain ⟨v4, o4, hv4, hrow4, hk4', ho4⟩ := hg
      cases hv4
      rw [← HST.out] at hrow4
      have N1 := Lib.hid hrow4
      have N2 := Lib.hid hk4'
      have N3 := Lib.hid ho4
      clear n1 n2 n3 hr4 hk4 hg4 hrow4 hk4' ho4
      go_wp2_with fail
      go_roundw
      case rel => exact ⟨k + 1, _, by omega, by go_num, N1.out, N2.out, N3.out⟩
      case measure => simp [intOf]; omega
    · obtain rfl : k = ns.length := by omega
      rw [List.take_length] at hrow
      rw [List.take_length]
      have HROW := Lib.hid hrow
      have HK := Lib.hid hkw
      have HO := Lib.hid ho
      clear hrow hkw ho
      go_wp2_with fail
      go_ret
      exact ⟨_, o', rfl, HROW.out, HK.out, HO.out⟩
end Go.Proofs.Ytngepgnmlpinaaa