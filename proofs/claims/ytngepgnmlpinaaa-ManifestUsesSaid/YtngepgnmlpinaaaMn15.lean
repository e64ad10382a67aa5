/- The document's tape: Uint, Int, Text, Done, New. -/
import Derived.Test.YtngepgnmlpinaaaMn14
namespace Go.Proofs.Ytngepgnmlpinaaa
open Go.RowKit Go.Emb

theorem r_tuint {w : World} {q : Nat} {bs : List UInt8} {v : Value} {bo : Option Nat} {st : Option (List UInt8)} (h : TSt 67 w q bs v bo st) :
    Calls Try.prog 38 #[.pointer (some ⟨q, 0, none⟩)] w fun e w' => e = .returned (.int .u64 ((oNum false st).1 : Int)) ∧ TSt 67 w' q bs v bo (oNum false st).2.2 ∧ Keep [q] w w' := by
  have HC := Lib.hid (r_taken h false (mo := 0) rfl)
  clear h
  generalize oNum false st = R at *
  go_enter Try.func38, Try.ntmps38
  go_wp2_with fail
  refine HC.out.mono ?_
  rintro e w1 ⟨rfl, h⟩
  have H := Lib.hid h
  clear h HC
  go_wp2_with fail
  go_ret
  exact ⟨rfl, H.out⟩
set_option maxHeartbeats 1000000 in
theorem r_tint {w : World} {q : Nat} {bs : List UInt8} {v : Value} {bo : Option Nat} {st : Option (List UInt8)} (h : TSt 67 w q bs v bo st) :
    Calls Try.prog 37 #[.pointer (some ⟨q, 0, none⟩)] w fun e w' => e = .returned (.int .i64 (oInt st).1) ∧ TSt 67 w' q bs v bo (oInt st).2 ∧ Keep [q] w w' := by
  have hnum := r_taken h true (mo := 128) rfl
  have hlt := oNum_lt true st
  have hz := fun h => oNum_zero (more := true) (st := st) h
  rw [oInt_num st]
  obtain ⟨pos, fa, sp, ht, -⟩ := h
  have hle := ht.le
  have hsz := ht.sz
  obtain ⟨c0, c1, c2, c3, f0, f1, f2, f3⟩ := cells4 ht.blk
  have HC := Lib.hid hnum
  have HZ := Lib.hid hz
  clear ht hnum hz
  generalize oNum true st = R at *
  obtain ⟨n, is, st'⟩ := R
  simp only at *
  by_cases hn : 9223372036854775808 ≤ n
  · have hne : st' ≠ none := fun h => by have := HZ.out h; simp at this; omega
    rw [if_pos (.inr hn)]
    have hw : (9223372036854775807 : Int) < (n : Int) := by omega
    go_enter Try.func37, Try.ntmps37
    go_wp2_with fail
    refine HC.out.mono ?_
    rintro e w1 ⟨rfl, ⟨pos', fa', sp', ht', hs'⟩, hk⟩
    obtain rfl : fa' = 0 := by
      rcases hs' with ⟨h, -⟩ | ⟨h, -⟩
      · exact absurd h hne
      · exact h
    have hst := r_fail ht' 11 hle
    have HS := Lib.hid hst
    have HK := Lib.hid hk
    clear ht' hst hk hs' c0 c1 c2 c3
    go_wp2_with fail
    refine HS.out.mono ?_
    rintro e w2 ⟨rfl, h1, h2⟩
    have H := Lib.hid (And.intro h1 (HK.out.trans h2 (fun _ h => .inl h)))
    clear h1 h2
    go_wp2_with fail
    go_ret
    exact ⟨rfl, ⟨pos, 11, _, H.out.1, .inl ⟨rfl, by omega, by omega, by omega⟩⟩, H.out.2⟩
  · have hw : IntKind.i64.wrap (n : Int) = (n : Int) := IntWalk.i64_in _ (by omega)
    have hnn : ¬ (9223372036854775807 : Int) < (n : Int) := by omega
    by_cases hnone : st' = none
    · have := HZ.out hnone
      simp at this
      obtain ⟨rfl, rfl, rfl⟩ := this
      rw [if_pos (.inl rfl)]
      clear HZ
      go_enter Try.func37, Try.ntmps37
      go_wp2_with fail
      refine HC.out.mono ?_
      rintro e w1 ⟨rfl, h1⟩
      have H := Lib.hid h1
      clear h1 c0 c1 c2 c3
      go_wp2_with fail
      go_ret
      exact ⟨rfl, H.out⟩
    · rw [if_neg (by simp only [not_or]; exact ⟨hnone, by omega⟩)]
      clear HZ hnone
      cases is with
      | false =>
        go_enter Try.func37, Try.ntmps37
        go_wp2_with fail
        refine HC.out.mono ?_
        rintro e w1 ⟨rfl, h1⟩
        have H := Lib.hid h1
        clear h1 c0 c1 c2 c3
        go_wp2_with fail
        go_ret
        exact ⟨rfl, H.out⟩
      | true =>
        have hw2 : IntKind.i64.wrap (-1 - (n : Int)) = -1 - (n : Int) := IntWalk.i64_in _ (by omega)
        go_enter Try.func37, Try.ntmps37
        go_wp2_with fail
        refine HC.out.mono ?_
        rintro e w1 ⟨rfl, h1⟩
        have H := Lib.hid h1
        clear h1 c0 c1 c2 c3
        go_wp2_with fail
        go_ret
        exact ⟨rfl, H.out⟩
set_option maxRecDepth 100000 in
set_option maxHeartbeats 1000000 in
theorem r_ttext {w : World} {q : Nat} {bs : List UInt8} {v : Value} {bo : Option Nat} {st : Option (List UInt8)} (h : TSt 67 w q bs v bo st) :
    Calls Try.prog 36 #[.pointer (some ⟨q, 0, none⟩), .int .i64 (bs.length : Int)] w fun e w' => e = .returned (.string ⟨(oStr st).1.toArray⟩) ∧ TSt 67 w' q bs v bo (oStr st).2 ∧ Keep [q] w w' := by
  have hnum := r_tuint h
  have hlt := oNum_lt false st
  have hz := fun h => oNum_zero (more := false) (st := st) h
  have hR := oStr_num (N := bs.length) (st := st) (by
    obtain ⟨pos, fa, sp, ht, ⟨rfl, -⟩ | ⟨-, -, rfl⟩⟩ := h
    · intro l hl; cases hl
    · intro l hl; cases hl; rw [List.length_drop]; omega)
  generalize oStr st = R2 at *
  obtain ⟨pos, fa, sp, ht, -⟩ := h
  have hle := ht.le
  have hsz := ht.sz
  obtain ⟨c0, c1, c2, c3, f0, f1, f2, f3⟩ := cells4 ht.blk
  obtain ⟨-, va, vc, rfl, hc1, hc2, -⟩ := id ht.rd
  unfold maxLen at hc2
  have HC := Lib.hid hnum
  have HZ := Lib.hid hz
  have HR2 := Lib.hid hR
  clear ht hnum hz hR
  generalize oNum false st = R at *
  obtain ⟨n, is, st'⟩ := R
  simp only at *
  have hl0 : (0 : Int) ≤ (bs.length : Int) := by omega
  have hm : IntKind.u64.wrap (bs.length : Int) = (bs.length : Int) := IntWalk.u64_in _ (by omega)
  go_enter Try.func36, Try.ntmps36
  go_wp2_with fail
  refine HC.out.mono ?_
  rintro e w1 ⟨rfl, ⟨pos', fa', sp', ht', hst'⟩, hk⟩
  clear c0 c1 c2 c3 f0 f1 f2 f3
  obtain ⟨c0, c1, c2, c3, f0, f1, f2, f3⟩ := cells4 ht'.blk
  rcases hst' with ⟨rfl, hfa, hf1, hf2⟩ | ⟨rfl, rfl, rfl⟩
  · have hne : (fa' != 0) = true := by simp [hfa]
    have H := Lib.hid (And.intro (show TSt 67 w1 q bs (.slice va bs.length vc) bo none from ⟨pos', fa', sp', ht', .inl ⟨rfl, hfa, hf1, hf2⟩⟩) hk)
    clear ht' hk hfa hf1 hf2
    have h2 : R2 = ([], none) := HR2.out
    subst h2
    go_wp2_with fail
    go_ret
    exact ⟨rfl, H.out⟩
  · have HT := Lib.hid ht'
    have HK := Lib.hid hk
    have hle' := ht'.le
    have hrd := ht'.rd
    clear ht' hk
    have hR3 : R2 = if bs.length < n ∨ (bs.drop pos').length < n then ([], none) else ((bs.drop pos').take n, some ((bs.drop pos').drop n)) := HR2.out
    have HR3 := Lib.hid hR3
    clear hR3 HR2
    by_cases hn : bs.length < n
    · have hn' : (bs.length : Int) < (n : Int) := by omega
      have hst := r_fail HT.out 1 hle
      have HS := Lib.hid hst
      clear hst hrd
      go_wp2_with fail
      refine HS.out.mono ?_
      rintro e w3 ⟨rfl, h1, h2⟩
      have H := Lib.hid (And.intro h1 (HK.out.trans h2 (fun _ h => .inl h)))
      clear h1 h2 c0 c1 c2 c3
      go_wp2_with fail
      go_ret
      rw [HR3.out.trans (if_pos (.inl hn))]
      exact ⟨rfl, ⟨pos, 1, _, H.out.1, .inl ⟨rfl, by omega, by omega, by omega⟩⟩, H.out.2⟩
    · have hn' : ¬ (bs.length : Int) < (n : Int) := by omega
      have hw : IntKind.i64.wrap (n : Int) = (n : Int) := IntWalk.i64_in _ (by omega)
      have hw1 : IntKind.i64.wrap ((bs.length : Int) - (pos' : Int)) = (bs.length : Int) - (pos' : Int) := IntWalk.i64_in _ (by omega)
      have hw2 : IntKind.u64.wrap ((bs.length : Int) - (pos' : Int)) = (bs.length : Int) - (pos' : Int) := IntWalk.u64_in _ (by omega)
      by_cases hn2 : bs.length - pos' < n
      · have hn3 : (bs.length : Int) - (pos' : Int) < (n : Int) := by omega
        have hd : (bs.drop pos').length < n := by rw [List.length_drop]; exact hn2
        have hst := fun k => r_fail (HT.out.keep0 ((Keep.refl [] w1).drewN k)) 3 hle
        have HS := Lib.hid hst
        clear hst hrd
        go_wp2_with fail
        go_quiet (fail)
        go_wp2_with fail
        refine (HS.out _).mono ?_
        rintro e w3 ⟨rfl, h1, h2⟩
        have H := Lib.hid (And.intro h1 (HK.out.trans (((Keep.refl [q] w1).drewN _).trans h2 (fun _ h => .inl h)) (fun _ h => .inl h)))
        clear h1 h2 c0 c1 c2 c3
        go_wp2_with fail
        go_ret
        rw [HR3.out.trans (if_pos (.inr hd))]
        exact ⟨rfl, ⟨pos, 3, _, H.out.1, .inl ⟨rfl, by omega, by omega, by omega⟩⟩, H.out.2⟩
      · obtain ⟨i0, hi0, hz0, hz1, hz2⟩ := info_parts byte_info
        have hn3 : ¬ (bs.length : Int) - (pos' : Int) < (n : Int) := by omega
        obtain ⟨sv, so, hrun, hrd2, hso⟩ := rd_slice (P := Try.prog) (T := 24) Try.underlying24 (fun w => by simp [sizeOf, typeInfo, hi0, hz1]) hrd (lo := pos') (m := n) (by omega) (hi := (pos' : Int) + (n : Int)) (by omega)
        rw [byteCells_part] at hrd2
        have hl : n = ((bs.drop pos').take n).length := by rw [List.length_take, List.length_drop]; omega
        obtain ⟨p, hp⟩ : ∃ p, p = (bs.drop pos').take n := ⟨_, rfl⟩
        have hdd : (bs.drop pos').drop n = bs.drop (pos' + n) := by rw [List.drop_drop]
        have hd : ¬ (bs.drop pos').length < n := by rw [List.length_drop]; omega
        rw [← hp] at hrd2 hl
        have hw3 : IntKind.i64.wrap ((pos' : Int) + (n : Int)) = (pos' : Int) + (n : Int) := IntWalk.i64_in _ (by omega)
        have hw4 : IntKind.i64.wrap ((pos' : Int) + (n : Int) - (n : Int)) = (pos' : Int) := (IntWalk.i64_in _ (by omega)).trans (by omega)
        have hb := fun k => heap_setCell_at (w := w1.drewN k) (i := 1) HT.out.blk (.int .i64 ((pos' : Int) + (n : Int)))
        have hkk : ∀ k, Keep [q] w1 ((w1.drewN k).setCell ⟨q, 1, none⟩ (.int .i64 ((pos' : Int) + (n : Int)))) := fun k => ((Keep.refl [q] w1).drewN _).setCell (.inl (by simp)) _
        have htn : ∀ k, TP 67 ((w1.drewN k).setCell ⟨q, 1, none⟩ (.int .i64 ((pos' : Int) + (n : Int)))) q bs (pos' + n) 0 0 (.slice va bs.length vc) bo := fun k => HT.out.turn (hkk k) (by omega) (by simpa using hb k)
        have hcv := fun k j => rd_text (P := Try.prog) (w := (((w1.drewN k).setCell ⟨q, 1, none⟩ (.int .i64 ((pos' : Int) + (n : Int)))).drewN j)) (src := 24) (e := 5) (dst := 9) (by rw [hl] at hrd2; exact hrd2.keep ((hkk k).drewN j) (fun b hb hm => by
          rcases hso with h1 | h1
          · rw [h1] at hb; cases hb
          · exact HT.out.ne b (h1 ▸ hb) (by simpa using hm))) Try.underlying24 Try.underlying5 Try.underlying9
        have HTN := Lib.hid htn
        have HKK := Lib.hid hkk
        have HCV := Lib.hid hcv
        have HP2 := Lib.hid hp
        clear hl hrd hrd2 hp hi0 hz0 hz1 hz2 hb hkk htn hso hcv
        go_wp2_with fail
        go_quiet (fail)
        generalize nq = n8 at *
        go_wp2_with fail
        clear c0 c1 c2 c3 f0 f1 f2 f3
        obtain ⟨c0, c1, c2, c3, f0, f1, f2, f3⟩ := cells4 (HTN.out n8).blk
        have hcv2 := HCV.out n8
        have HT5 := Lib.hid (HTN.out n8)
        have HK5 := Lib.hid (HKK.out n8)
        rw [show (((pos' + n : Nat)) : Int) = (pos' : Int) + (n : Int) from by omega] at c1
        generalize (w1.drewN n8).setCell ⟨q, 1, none⟩ (.int .i64 ((pos' : Int) + (n : Int))) = w5 at *
        go_quiet (fail)
        go_wp2_with fail
        go_ret
        rw [HR3.out.trans (if_neg (by simp only [not_or]; exact ⟨hn, hd⟩))]
        exact ⟨by rw [HP2.out]; rfl, ⟨pos' + n, 0, 0, HT5.out.keep0 ((Keep.refl [] w5).drewN _), .inr ⟨rfl, rfl, by rw [hdd]⟩⟩, HK.out.trans (HK5.out.drewN _) (fun _ h => .inl h)⟩
set_option maxHeartbeats 1000000 in
theorem r_done {w : World} {q : Nat} {bs : List UInt8} {v : Value} {bo : Option Nat} {st : Option (List UInt8)} (h : TSt 67 w q bs v bo st) :
    Calls Try.prog 39 #[.pointer (some ⟨q, 0, none⟩)] w fun e w' => ∃ E : Int, e = .returned (.int .i64 E) ∧ (E = 0 ↔ st = some []) ∧ -9223372036854775808 ≤ E ∧ E ≤ 9223372036854775807 ∧ Keep [] w w' := by
  obtain ⟨pos, fa, sp, ht, hst⟩ := h
  obtain ⟨c0, c1, c2, c3, f0, f1, f2, f3⟩ := cells4 ht.blk
  obtain ⟨-, va, vc, rfl, hc1, hc2, -⟩ := id ht.rd
  unfold maxLen at hc2
  have hle := ht.le
  have hsz := ht.sz
  clear ht
  rcases hst with ⟨rfl, hfa, hf1, hf2⟩ | ⟨rfl, rfl, rfl⟩
  · have hne : (fa == 0) = false := by simp [hfa]
    have HA := Lib.hid hfa
    clear hfa
    go_enter Try.func39, Try.ntmps39
    go_wp2_with fail
    go_quiet (fail)
    go_wp2_with fail
    go_ret
    exact ⟨fa, rfl, by simp [HA.out], hf1, hf2, (Keep.refl [] w).drewN _⟩
  · by_cases hp : pos < bs.length
    · have hp' : (pos : Int) < (bs.length : Int) := by omega
      go_enter Try.func39, Try.ntmps39
      go_wp2_with fail
      go_quiet (fail)
      go_wp2_with fail
      go_ret
      refine ⟨4, rfl, ?_, by omega, by omega, (Keep.refl [] w).drewN _⟩
      constructor
      · intro h; omega
      · intro h
        have := congrArg (Option.map List.length) h
        simp at this
        omega
    · have hp' : ¬ (pos : Int) < (bs.length : Int) := by omega
      go_enter Try.func39, Try.ntmps39
      go_wp2_with fail
      go_quiet (fail)
      go_wp2_with fail
      go_ret
      exact ⟨0, rfl, by simp; omega, by omega, by omega, (Keep.refl [] w).drewN _⟩
set_option maxRecDepth 100000 in
set_option maxHeartbeats 1000000 in
theorem r_new {w : World} {v : Value} {bs : List UInt8} {o : Option Nat} (h : Rd w 1 v bs.length (Lib.byteCells bs) o) (hsz : bs.length ≤ 1000000000) :
    Calls Try.prog 35 #[v] w fun e w' => ∃ q v' bo, e = .returned (.pointer (some ⟨q, 0, none⟩)) ∧ TSt 67 w' q bs v' bo (some bs) ∧ w.heap.size ≤ q ∧ (∀ b, bo = some b → w.heap.size ≤ b) ∧ (∀ b, bo = some b → b < w'.heap.size) ∧ Keep [] w w' := by
  obtain ⟨i0, hi, hz0, hz1, hz2⟩ := info_parts byte_info
  obtain ⟨-, a, c, rfl, hc1, hc2, hrd⟩ := id h
  unfold maxLen at hc2
  have H := Lib.hid h
  have HI := Lib.hid hi
  clear h hrd hi
  go_enter Try.func35, Try.ntmps35
  go_wp2_with (at_builtin; refine wpList_append_rd _ rfl _ _ 24 24 rfl 5 5 i0 (.int .u8 0) 1 1 Try.underlying24 Try.underlying24 HI.out hz0 hz1 hz2 rfl w.heap.size 0 0 0 [] rfl (Row.made0 w _ _) _ rfl bs.length (Lib.byteCells bs) o (H.out.keep ((Keep.refl [] w).alloc _) (by simp)) (byteCells_one _) (by unfold maxLen; omega) (by omega) ?_)
  intro g off cap w2 hr hk hg
  try simp only [Nat.zero_add, List.nil_append] at hr
  try simp only [Nat.zero_add, List.nil_append]
  have hk2 : Keep [] w w2 := ((Keep.refl [] w).alloc _).trans hk (by simp)
  have hg2 : w.heap.size ≤ g := by
    rcases hg with h | h
    · omega
    · first | omega | (simp at h; omega)
  have hrb : RB w2 (.slice (some ⟨g, off, none⟩) bs.length cap) bs (some g) := hr
  have HR := Lib.hid hrb
  have HK2 := Lib.hid hk2
  clear hr hk hg hrb hk2
  go_wp2_with fail
  go_ret
  obtain ⟨bo, hrd, hbo⟩ := HR.out.rd
  have hlt := HR.out.lt
  have hk3 : Keep [] w2 (w2.alloc (.cells #[.slice (some ⟨g, off, none⟩) bs.length cap, .int .i64 0, .int .i64 0, .int .i64 0] 67)) := (Keep.refl [] w2).alloc _
  have hbo2 : ∀ b, bo = some b → some g = some b := fun b hb => by
    rcases hbo with h | h
    · rw [h] at hb; cases hb
    · rw [← h]; exact hb
  exact ⟨w2.heap.size, _, bo, rfl, ⟨0, 0, 0, ⟨heap_new w2 _, hrd.keep hk3 (by simp), fun b hb => by have := hlt b (hbo2 b hb); omega, Nat.zero_le _, hsz⟩, .inr ⟨rfl, rfl, rfl⟩⟩, HK2.out.size, fun b hb => by have := hbo2 b hb; cases this; exact hg2, fun b hb => by have := hlt b (hbo2 b hb); simp; omega, HK2.out.trans hk3 (by simp)⟩
end Go.Proofs.Ytngepgnmlpinaaa
