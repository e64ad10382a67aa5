import Derived.Test.YtdmmhfbafinkpaaGreatDoorTm10
import Derived.Deep.RegionHeld3
import Derived.Deep.DrawnRows
import Derived.Test.YtdmmhfbafinkpaaGreatDoorBaseApp2
import Derived.Test.YtdmmhfbafinkpaaGreatDoorSc9
import Derived.Deep.CutBlock
/- Terms: quote (the program's; the text Tm11 for the scan seat). -/
namespace Go.Proofs.YtdmmhfbafinkpaaGreatDoor
open Go.RowKit Go.Emb

theorem esc_le (c : UInt8) : (escL c).length ≤ 4 := by unfold escL; split <;> (try split) <;> simp
theorem flatEsc_snoc (s : ByteArray) (k : Nat) (h : k < s.size) : (s.data.toList.take (k + 1)).flatMap escL = (s.data.toList.take k).flatMap escL ++ escL s[k] := by
  rw [List.take_succ_eq_append_getElem (by simpa using h), List.flatMap_append, index_at s k h]; simp
theorem flatEsc_le (l : List UInt8) : (l.flatMap escL).length ≤ 4 * l.length := by
  induction l with
  | nil => simp
  | cons c l ih => rw [List.flatMap_cons, List.length_append, List.length_cons]; have := esc_le c; omega

theorem and15 (c : UInt8) : bits BinOp.and IntKind.u8 (c.toNat : Int) 15 = (c.toNat : Int) % 16 := by
  have h : ∀ n : Fin 256, bits BinOp.and IntKind.u8 (n.val : Int) 15 = (n.val : Int) % 16 := by decide +kernel
  exact h ⟨c.toNat, c.toNat_lt⟩
theorem hex_at (a : Nat) (h : a < 16) : (⟨#[48, 49, 50, 51, 52, 53, 54, 55, 56, 57, 97, 98, 99, 100, 101, 102]⟩ : ByteArray).extract a (a + 1) = ⟨#[hexL.getD a 0]⟩ := by
  match a, h with
  | 0, _ => rfl
  | 1, _ => rfl
  | 2, _ => rfl
  | 3, _ => rfl
  | 4, _ => rfl
  | 5, _ => rfl
  | 6, _ => rfl
  | 7, _ => rfl
  | 8, _ => rfl
  | 9, _ => rfl
  | 10, _ => rfl
  | 11, _ => rfl
  | 12, _ => rfl
  | 13, _ => rfl
  | 14, _ => rfl
  | 15, _ => rfl
  | n + 16, h => exact absurd h (by omega)
attribute [local go_sem ↓] Go.wp_at_zero Go.wp_at_succ
def QuoteR (w : World) (b : Nat) (F : List Nat) (bs : List UInt8) (wr : World) : Prop := ∃ F', IsB wr b bs F' ∧ (∀ x ∈ F', x ∈ F ∨ w.heap.size ≤ x) ∧ Keep F w wr
theorem QuoteR.next {w wr w2 : World} {b : Nat} {F F1 : List Nat} {bs2 : List UInt8} {r : Value} {e : Ending} (hk : Keep F w wr) (h1 : ∀ x ∈ F1, x ∈ F ∨ w.heap.size ≤ x) (h : BPost wr b bs2 F1 r e w2) : QuoteR w b F bs2 w2 := by
  obtain ⟨-, F', q1, q2, q3⟩ := h
  refine ⟨F', q1, fun x hx => ?_, hk.trans q3 h1⟩
  rcases q2 x hx with h | h
  · exact h1 x h
  · right; have := hk.size; omega
set_option maxRecDepth 100000 in
set_option maxHeartbeats 2000000 in
theorem p_quote {w : World} {b : Nat} {bs : List UInt8} {F : List Nat} (h : IsB w b bs F) (s : ByteArray) (hs : s.size ≤ 100000) (hsz : bs.length ≤ 10000000000000) :
    Calls Tryz.prog 88 #[.pointer (some ⟨b, 0, none⟩), .string s] w (BPost w b (bs ++ quoteL s.data.toList) F (.tuple #[])) := by
  have hcall := b_byte h 39 (by omega)
  have HC := Lib.hid hcall
  have HH := Lib.hid h
  clear h hcall
  go_enter Tryz.func88, Tryz.ntmps88
  go_wp2_with fail
  refine HC.out.mono ?_
  rintro e w1 hp1
  obtain rfl := hp1.1
  have hq1 := QuoteR.next (Keep.refl F w) (fun x hx => .inl hx) hp1
  have HQ1 := Lib.hid hq1
  clear hp1 hq1 HC
  go_wp2_with fail
  go_loopw [4, 5, 10] (fun _ _ i wr => ∃ k : Nat, k ≤ s.size ∧ i = .int .i64 k ∧ QuoteR w b F (bs ++ 39 :: (s.data.toList.take k).flatMap escL) wr) (fun _ _ i _ => s.size - (RowKit.intOf i).toNat)
  case atStart => exact ⟨0, Nat.zero_le _, rfl, by simpa using HQ1.out⟩
  case round =>
    clear HQ1 HH
    obtain ⟨k, hk, rfl, F1, hb1, hf1, hk1⟩ := hrel
    have HB := Lib.hid hb1
    have HF := Lib.hid hf1
    have HK := Lib.hid hk1
    clear hb1 hf1 hk1
    have hfl := flatEsc_le (s.data.toList.take k)
    have hfl2 : (s.data.toList.take k).length ≤ 100000 := by rw [List.length_take]; omega
    by_cases hlt : k < s.size
    · have hsn := flatEsc_snoc s k hlt
      have HSN := Lib.hid hsn
      clear hsn
      have i0 : (0 : Int) ≤ (k : Int) := by omega
      have i1 : (k : Int) < (s.size : Int) := by omega
      go_upto_region 6 with fail
      generalize s[k] = c at *
      have hc255 : (c.toNat : Int) ≤ 255 := by have := c.toNat_lt; omega
      have hc0 : (0 : Int) ≤ (c.toNat : Int) := by omega
      have hlen : (bs ++ 39 :: (s.data.toList.take k).flatMap escL).length ≤ 20000000000000 := by rw [List.length_append, List.length_cons]; omega
      by_cases h1 : c = 39 ∨ c = 92
      · have hesc : escL c = [92, c] := by unfold escL; rw [if_pos h1]
        have HESC := Lib.hid hesc
        have hcall := b_byte HB.out 92 (by omega)
        have HC := Lib.hid hcall
        clear hesc hcall
        by_cases q1 : (c.toNat : Int) = 39
        · have q1' : ((c.toNat : Int) == 39) = true := by simpa using q1
          clear h1 q1
          go_wp2_with fail
          refine HC.out.mono ?_
          rintro e w2 hp2
          obtain rfl := hp2.1
          obtain ⟨F2, hb2, hf2, hk2⟩ := QuoteR.next HK.out HF.out hp2
          have hcall2 := b_byte hb2 c (by rw [List.length_append, List.length_singleton]; omega)
          have HC2 := Lib.hid hcall2
          have HF2 := Lib.hid hf2
          have HK2 := Lib.hid hk2
          clear hp2 hb2 hf2 hk2 hcall2
          go_wp2_with fail
          refine HC2.out.mono ?_
          rintro e w3 hp3
          obtain rfl := hp3.1
          have hq3 := QuoteR.next HK2.out HF2.out hp3
          have HQ3 := Lib.hid hq3
          clear hp3 hq3
          go_wp2_with fail
          go_roundw
          case rel => exact ⟨k + 1, by omega, by go_num, by rw [HSN.out, HESC.out]; simpa using HQ3.out⟩
          case measure => simp [RowKit.intOf]; omega
        · have q2 : (c.toNat : Int) = 92 := by
            rcases h1 with rfl | rfl
            · exact absurd rfl q1
            · rfl
          have q1' : ((c.toNat : Int) == 39) = false := by simpa using q1
          have q2' : ((c.toNat : Int) == 92) = true := by simpa using q2
          clear h1 q1 q2
          go_wp2_with fail
          refine HC.out.mono ?_
          rintro e w2 hp2
          obtain rfl := hp2.1
          obtain ⟨F2, hb2, hf2, hk2⟩ := QuoteR.next HK.out HF.out hp2
          have hcall2 := b_byte hb2 c (by rw [List.length_append, List.length_singleton]; omega)
          have HC2 := Lib.hid hcall2
          have HF2 := Lib.hid hf2
          have HK2 := Lib.hid hk2
          clear hp2 hb2 hf2 hk2 hcall2
          go_wp2_with fail
          refine HC2.out.mono ?_
          rintro e w3 hp3
          obtain rfl := hp3.1
          have hq3 := QuoteR.next HK2.out HF2.out hp3
          have HQ3 := Lib.hid hq3
          clear hp3 hq3
          go_wp2_with fail
          go_roundw
          case rel => exact ⟨k + 1, by omega, by go_num, by rw [HSN.out, HESC.out]; simpa using HQ3.out⟩
          case measure => simp [RowKit.intOf]; omega
      · have q1 : ((c.toNat : Int) == 39) = false := by
          simp only [beq_eq_false_iff_ne, ne_eq]
          intro h; apply h1; left; apply UInt8.toNat.inj; simp; omega
        have q2 : ((c.toNat : Int) == 92) = false := by
          simp only [beq_eq_false_iff_ne, ne_eq]
          intro h; apply h1; right; apply UInt8.toNat.inj; simp; omega
        by_cases h2 : c < 32 ∨ 126 < c
        · have w1 : IntKind.u8.wrap ((c.toNat : Int) / 16 + 1) = (c.toNat : Int) / 16 + 1 := IntWalk.u8_in _ (by omega)
          have w2 : IntKind.u8.wrap ((c.toNat : Int) % 16 + 1) = (c.toNat : Int) % 16 + 1 := IntWalk.u8_in _ (by omega)
          have r1 : (0 : Int) ≤ (c.toNat : Int) / 16 := by omega
          have r2 : (c.toNat : Int) / 16 + 1 ≤ 16 := by omega
          have r3 : (c.toNat : Int) / 16 ≤ (c.toNat : Int) / 16 + 1 := by omega
          have r4 : (0 : Int) ≤ (c.toNat : Int) % 16 := by omega
          have r5 : (c.toNat : Int) % 16 + 1 ≤ 16 := by omega
          have r6 : (c.toNat : Int) % 16 ≤ (c.toNat : Int) % 16 + 1 := by omega
          have hexA : (⟨#[48, 49, 50, 51, 52, 53, 54, 55, 56, 57, 97, 98, 99, 100, 101, 102]⟩ : ByteArray).extract ((c.toNat : Int) / 16).toNat ((c.toNat : Int) / 16 + 1).toNat = ⟨#[hexL.getD (c.toNat / 16) 0]⟩ := by
            rw [show ((c.toNat : Int) / 16).toNat = c.toNat / 16 by omega, show ((c.toNat : Int) / 16 + 1).toNat = c.toNat / 16 + 1 by omega]
            exact hex_at (c.toNat / 16) (by omega)
          have hexB : (⟨#[48, 49, 50, 51, 52, 53, 54, 55, 56, 57, 97, 98, 99, 100, 101, 102]⟩ : ByteArray).extract ((c.toNat : Int) % 16).toNat ((c.toNat : Int) % 16 + 1).toNat = ⟨#[hexL.getD (c.toNat % 16) 0]⟩ := by
            rw [show ((c.toNat : Int) % 16).toNat = c.toNat % 16 by omega, show ((c.toNat : Int) % 16 + 1).toNat = c.toNat % 16 + 1 by omega]
            exact hex_at (c.toNat % 16) (by omega)
          have hesc : escL c = [92, 120, hexL.getD (c.toNat / 16) 0, hexL.getD (c.toNat % 16) 0] := by unfold escL; rw [if_neg h1, if_pos h2]
          generalize hexL.getD (c.toNat / 16) 0 = x1 at *
          generalize hexL.getD (c.toNat % 16) 0 = x2 at *
          have HXA := Lib.hid hexA
          have HXB := Lib.hid hexB
          have HESC := Lib.hid hesc
          have HAND := Lib.hid (and15 c)
          clear hexA hexB hesc
          have hcall := b_string (HB.out.keep (Keep.refl [] wr).drew (by simp)) ⟨#[92, 120, x1, x2]⟩ (by show 0 < 4; omega) (by show _ + 4 ≤ _; omega)
          have HC := Lib.hid hcall
          clear hcall h1
          by_cases h3 : (c.toNat : Int) < 32
          · as_aux_lemma =>
            clear h2
            go_wp2_with fail
            refine wp_region_held_drew (S := fun _ => True) (by kernel_rfl) trivial (fun hHeld => ?_)
            refine wpAnyH_takeL (i := 0) (v := ?v0) rfl (by kernel_rfl) (by kernel_rfl) (by kernel_rfl) (fun _ _ _ h => h) (Or.inl ⟨by kernel_rfl, ?run0⟩) hHeld ?_
            case run0 => (intro w9 hS9; go_simp; try exact rfl)
            try simp only [Act.put, List.setIfInBounds_toArray, List.set_cons_zero, List.set_cons_succ]
            refine wpAnyH_takeL (i := 1) (v := ?v1) rfl (by kernel_rfl) (by kernel_rfl) (by kernel_rfl) (fun _ _ _ h => h) (Or.inl ⟨by kernel_rfl, ?run1⟩) hHeld ?_
            case run1 => (intro w9 hS9; go_simp; try exact rfl)
            try simp only [Act.put, List.setIfInBounds_toArray, List.set_cons_zero, List.set_cons_succ]
            refine wpAnyH_takeL (i := 2) (v := ?v2) rfl (by kernel_rfl) (by kernel_rfl) (by kernel_rfl) (fun _ _ _ h => h) (Or.inl ⟨by kernel_rfl, ?run2⟩) hHeld ?_
            case run2 => (intro w9 hS9; go_simp; try exact rfl)
            try simp only [Act.put, List.setIfInBounds_toArray, List.set_cons_zero, List.set_cons_succ]
            refine wpAnyH_takeL (i := 3) (v := ?v3) rfl (by kernel_rfl) (by kernel_rfl) (by kernel_rfl) (fun _ _ _ h => h) (Or.inl ⟨by kernel_rfl, ?run3⟩) hHeld ?_
            case run3 => (intro w9 hS9; go_simp; try exact rfl)
            try simp only [Act.put, List.setIfInBounds_toArray, List.set_cons_zero, List.set_cons_succ]
            refine wpAnyH_takeL (i := 4) (v := ?v4) rfl (by kernel_rfl) (by kernel_rfl) (by kernel_rfl) (fun _ _ _ h => h) (Or.inl ⟨by kernel_rfl, ?run4⟩) hHeld ?_
            case run4 => (intro w9 hS9; go_simp; try exact rfl)
            try simp only [Act.put, List.setIfInBounds_toArray, List.set_cons_zero, List.set_cons_succ]
            refine wpAnyH_takeL (i := 5) (v := ?v5) rfl (by kernel_rfl) (by kernel_rfl) (by kernel_rfl) (fun _ _ _ h => h) (Or.inl ⟨by kernel_rfl, ?run5⟩) hHeld ?_
            case run5 => (intro w9 hS9; go_simp; try exact rfl)
            try simp only [Act.put, List.setIfInBounds_toArray, List.set_cons_zero, List.set_cons_succ]
            refine wpAnyH_takeL (i := 6) (v := .string ⟨#[x1]⟩) rfl (by kernel_rfl) (by kernel_rfl) (by kernel_rfl) (fun _ _ _ h => h) (Or.inl ⟨by kernel_rfl, ?run6⟩) hHeld ?_
            case run6 => (intro w9 hS9; go_simp; first | done | (rw [HXA.out]))
            try simp only [Act.put, List.setIfInBounds_toArray, List.set_cons_zero, List.set_cons_succ]
            refine wpAnyH_takeL (i := 7) (v := .string ⟨#[92, 120, x1]⟩) rfl (by kernel_rfl) (by kernel_rfl) (by kernel_rfl) (fun _ _ _ h => h) (Or.inl ⟨by kernel_rfl, ?run7⟩) hHeld ?_
            case run7 => (intro w9 hS9; go_simp; first | done | (exact rfl))
            try simp only [Act.put, List.setIfInBounds_toArray, List.set_cons_zero, List.set_cons_succ]
            refine wpAnyH_takeL (i := 8) (v := ?v8) rfl (by kernel_rfl) (by kernel_rfl) (by kernel_rfl) (fun _ _ _ h => h) (Or.inl ⟨by kernel_rfl, ?run8⟩) hHeld ?_
            case run8 => (intro w9 hS9; go_simp; try exact rfl)
            try simp only [Act.put, List.setIfInBounds_toArray, List.set_cons_zero, List.set_cons_succ]
            refine wpAnyH_takeL (i := 9) (v := .int .u8 ((c.toNat : Int) % 16)) rfl (by kernel_rfl) (by kernel_rfl) (by kernel_rfl) (fun _ _ _ h => h) (Or.inl ⟨by kernel_rfl, ?run9⟩) hHeld ?_
            case run9 => (intro w9 hS9; go_simp; first | done | (rw [HAND.out]))
            try simp only [Act.put, List.setIfInBounds_toArray, List.set_cons_zero, List.set_cons_succ]
            refine wpAnyH_takeL (i := 10) (v := ?v10) rfl (by kernel_rfl) (by kernel_rfl) (by kernel_rfl) (fun _ _ _ h => h) (Or.inl ⟨by kernel_rfl, ?run10⟩) hHeld ?_
            case run10 => (intro w9 hS9; go_simp; try exact rfl)
            try simp only [Act.put, List.setIfInBounds_toArray, List.set_cons_zero, List.set_cons_succ]
            refine wpAnyH_takeL (i := 11) (v := .int .u8 ((c.toNat : Int) % 16)) rfl (by kernel_rfl) (by kernel_rfl) (by kernel_rfl) (fun _ _ _ h => h) (Or.inl ⟨by kernel_rfl, ?run11⟩) hHeld ?_
            case run11 => (intro w9 hS9; go_simp; first | done | (rw [HAND.out]))
            try simp only [Act.put, List.setIfInBounds_toArray, List.set_cons_zero, List.set_cons_succ]
            refine wpAnyH_takeL (i := 12) (v := ?v12) rfl (by kernel_rfl) (by kernel_rfl) (by kernel_rfl) (fun _ _ _ h => h) (Or.inl ⟨by kernel_rfl, ?run12⟩) hHeld ?_
            case run12 => (intro w9 hS9; go_simp; try exact rfl)
            try simp only [Act.put, List.setIfInBounds_toArray, List.set_cons_zero, List.set_cons_succ]
            refine wpAnyH_takeL (i := 13) (v := .string ⟨#[x2]⟩) rfl (by kernel_rfl) (by kernel_rfl) (by kernel_rfl) (fun _ _ _ h => h) (Or.inl ⟨by kernel_rfl, ?run13⟩) hHeld ?_
            case run13 => (intro w9 hS9; go_simp; first | done | (rw [HXB.out]))
            try simp only [Act.put, List.setIfInBounds_toArray, List.set_cons_zero, List.set_cons_succ]
            refine wpAnyH_takeL (i := 14) (v := .string ⟨#[92, 120, x1, x2]⟩) rfl (by kernel_rfl) (by kernel_rfl) (by kernel_rfl) (fun _ _ _ h => h) (Or.inl ⟨by kernel_rfl, ?run14⟩) hHeld ?_
            case run14 => (intro w9 hS9; go_simp; first | done | (exact rfl))
            try simp only [Act.put, List.setIfInBounds_toArray, List.set_cons_zero, List.set_cons_succ]
            refine wpAnyH_ready (rs := [15]) (by kernel_rfl) (by simp) ?_
            refine AllReadyH.cons rfl (fun K hK => ?_) AllReadyH.nil
            go_simp
            refine HC.out.mono ?_
            rintro e w3 hp3
            obtain rfl := hp3.1
            have hq3 := QuoteR.next HK.out.drew HF.out hp3
            have HQ3 := Lib.hid hq3
            clear hp3 hq3
            go_wp2_with fail
            refine hK.out _ _ trivial (fun hHeld2 => ?_)
            clear hK K hHeld
            refine wpAnyH_done (by kernel_rfl) ?_ _
            go_wp2_with fail
            go_roundw
            case rel => exact ⟨k + 1, by omega, by go_num, by rw [HSN.out, HESC.out]; simpa using HQ3.out⟩
            case measure => simp [RowKit.intOf]; omega
          · as_aux_lemma =>
            have h4 : (126 : Int) < (c.toNat : Int) := by
              rcases h2 with h | h
              · rw [UInt8.lt_iff_toNat_lt] at h; simp at h; omega
              · rw [UInt8.lt_iff_toNat_lt] at h; simp at h; omega
            clear h2
            go_wp2_with fail
            refine wp_region_held_drew (S := fun _ => True) (by kernel_rfl) trivial (fun hHeld => ?_)
            refine wpAnyH_takeL (i := 0) (v := ?v0) rfl (by kernel_rfl) (by kernel_rfl) (by kernel_rfl) (fun _ _ _ h => h) (Or.inl ⟨by kernel_rfl, ?run0⟩) hHeld ?_
            case run0 => (intro w9 hS9; go_simp; try exact rfl)
            try simp only [Act.put, List.setIfInBounds_toArray, List.set_cons_zero, List.set_cons_succ]
            refine wpAnyH_takeL (i := 1) (v := ?v1) rfl (by kernel_rfl) (by kernel_rfl) (by kernel_rfl) (fun _ _ _ h => h) (Or.inl ⟨by kernel_rfl, ?run1⟩) hHeld ?_
            case run1 => (intro w9 hS9; go_simp; try exact rfl)
            try simp only [Act.put, List.setIfInBounds_toArray, List.set_cons_zero, List.set_cons_succ]
            refine wpAnyH_takeL (i := 2) (v := ?v2) rfl (by kernel_rfl) (by kernel_rfl) (by kernel_rfl) (fun _ _ _ h => h) (Or.inl ⟨by kernel_rfl, ?run2⟩) hHeld ?_
            case run2 => (intro w9 hS9; go_simp; try exact rfl)
            try simp only [Act.put, List.setIfInBounds_toArray, List.set_cons_zero, List.set_cons_succ]
            refine wpAnyH_takeL (i := 3) (v := ?v3) rfl (by kernel_rfl) (by kernel_rfl) (by kernel_rfl) (fun _ _ _ h => h) (Or.inl ⟨by kernel_rfl, ?run3⟩) hHeld ?_
            case run3 => (intro w9 hS9; go_simp; try exact rfl)
            try simp only [Act.put, List.setIfInBounds_toArray, List.set_cons_zero, List.set_cons_succ]
            refine wpAnyH_takeL (i := 4) (v := ?v4) rfl (by kernel_rfl) (by kernel_rfl) (by kernel_rfl) (fun _ _ _ h => h) (Or.inl ⟨by kernel_rfl, ?run4⟩) hHeld ?_
            case run4 => (intro w9 hS9; go_simp; try exact rfl)
            try simp only [Act.put, List.setIfInBounds_toArray, List.set_cons_zero, List.set_cons_succ]
            refine wpAnyH_takeL (i := 5) (v := ?v5) rfl (by kernel_rfl) (by kernel_rfl) (by kernel_rfl) (fun _ _ _ h => h) (Or.inl ⟨by kernel_rfl, ?run5⟩) hHeld ?_
            case run5 => (intro w9 hS9; go_simp; try exact rfl)
            try simp only [Act.put, List.setIfInBounds_toArray, List.set_cons_zero, List.set_cons_succ]
            refine wpAnyH_takeL (i := 6) (v := .string ⟨#[x1]⟩) rfl (by kernel_rfl) (by kernel_rfl) (by kernel_rfl) (fun _ _ _ h => h) (Or.inl ⟨by kernel_rfl, ?run6⟩) hHeld ?_
            case run6 => (intro w9 hS9; go_simp; first | done | (rw [HXA.out]))
            try simp only [Act.put, List.setIfInBounds_toArray, List.set_cons_zero, List.set_cons_succ]
            refine wpAnyH_takeL (i := 7) (v := .string ⟨#[92, 120, x1]⟩) rfl (by kernel_rfl) (by kernel_rfl) (by kernel_rfl) (fun _ _ _ h => h) (Or.inl ⟨by kernel_rfl, ?run7⟩) hHeld ?_
            case run7 => (intro w9 hS9; go_simp; first | done | (exact rfl))
            try simp only [Act.put, List.setIfInBounds_toArray, List.set_cons_zero, List.set_cons_succ]
            refine wpAnyH_takeL (i := 8) (v := ?v8) rfl (by kernel_rfl) (by kernel_rfl) (by kernel_rfl) (fun _ _ _ h => h) (Or.inl ⟨by kernel_rfl, ?run8⟩) hHeld ?_
            case run8 => (intro w9 hS9; go_simp; try exact rfl)
            try simp only [Act.put, List.setIfInBounds_toArray, List.set_cons_zero, List.set_cons_succ]
            refine wpAnyH_takeL (i := 9) (v := .int .u8 ((c.toNat : Int) % 16)) rfl (by kernel_rfl) (by kernel_rfl) (by kernel_rfl) (fun _ _ _ h => h) (Or.inl ⟨by kernel_rfl, ?run9⟩) hHeld ?_
            case run9 => (intro w9 hS9; go_simp; first | done | (rw [HAND.out]))
            try simp only [Act.put, List.setIfInBounds_toArray, List.set_cons_zero, List.set_cons_succ]
            refine wpAnyH_takeL (i := 10) (v := ?v10) rfl (by kernel_rfl) (by kernel_rfl) (by kernel_rfl) (fun _ _ _ h => h) (Or.inl ⟨by kernel_rfl, ?run10⟩) hHeld ?_
            case run10 => (intro w9 hS9; go_simp; try exact rfl)
            try simp only [Act.put, List.setIfInBounds_toArray, List.set_cons_zero, List.set_cons_succ]
            refine wpAnyH_takeL (i := 11) (v := .int .u8 ((c.toNat : Int) % 16)) rfl (by kernel_rfl) (by kernel_rfl) (by kernel_rfl) (fun _ _ _ h => h) (Or.inl ⟨by kernel_rfl, ?run11⟩) hHeld ?_
            case run11 => (intro w9 hS9; go_simp; first | done | (rw [HAND.out]))
            try simp only [Act.put, List.setIfInBounds_toArray, List.set_cons_zero, List.set_cons_succ]
            refine wpAnyH_takeL (i := 12) (v := ?v12) rfl (by kernel_rfl) (by kernel_rfl) (by kernel_rfl) (fun _ _ _ h => h) (Or.inl ⟨by kernel_rfl, ?run12⟩) hHeld ?_
            case run12 => (intro w9 hS9; go_simp; try exact rfl)
            try simp only [Act.put, List.setIfInBounds_toArray, List.set_cons_zero, List.set_cons_succ]
            refine wpAnyH_takeL (i := 13) (v := .string ⟨#[x2]⟩) rfl (by kernel_rfl) (by kernel_rfl) (by kernel_rfl) (fun _ _ _ h => h) (Or.inl ⟨by kernel_rfl, ?run13⟩) hHeld ?_
            case run13 => (intro w9 hS9; go_simp; first | done | (rw [HXB.out]))
            try simp only [Act.put, List.setIfInBounds_toArray, List.set_cons_zero, List.set_cons_succ]
            refine wpAnyH_takeL (i := 14) (v := .string ⟨#[92, 120, x1, x2]⟩) rfl (by kernel_rfl) (by kernel_rfl) (by kernel_rfl) (fun _ _ _ h => h) (Or.inl ⟨by kernel_rfl, ?run14⟩) hHeld ?_
            case run14 => (intro w9 hS9; go_simp; first | done | (exact rfl))
            try simp only [Act.put, List.setIfInBounds_toArray, List.set_cons_zero, List.set_cons_succ]
            refine wpAnyH_ready (rs := [15]) (by kernel_rfl) (by simp) ?_
            refine AllReadyH.cons rfl (fun K hK => ?_) AllReadyH.nil
            go_simp
            refine HC.out.mono ?_
            rintro e w3 hp3
            obtain rfl := hp3.1
            have hq3 := QuoteR.next HK.out.drew HF.out hp3
            have HQ3 := Lib.hid hq3
            clear hp3 hq3
            go_wp2_with fail
            refine hK.out _ _ trivial (fun hHeld2 => ?_)
            clear hK K hHeld
            refine wpAnyH_done (by kernel_rfl) ?_ _
            go_wp2_with fail
            go_roundw
            case rel => exact ⟨k + 1, by omega, by go_num, by rw [HSN.out, HESC.out]; simpa using HQ3.out⟩
            case measure => simp [RowKit.intOf]; omega
        · have hesc : escL c = [c] := by unfold escL; rw [if_neg h1, if_neg h2]
          have h3 : ¬ (c.toNat : Int) < 32 := fun h => h2 (.inl (by rw [UInt8.lt_iff_toNat_lt]; simp; omega))
          have h4 : ¬ (126 : Int) < (c.toNat : Int) := fun h => h2 (.inr (by rw [UInt8.lt_iff_toNat_lt]; simp; omega))
          have HESC := Lib.hid hesc
          have hcall := b_byte HB.out c (by omega)
          have HC := Lib.hid hcall
          clear hesc hcall h1 h2
          go_wp2_with fail
          refine HC.out.mono ?_
          rintro e w3 hp3
          obtain rfl := hp3.1
          have hq3 := QuoteR.next HK.out HF.out hp3
          have HQ3 := Lib.hid hq3
          clear hp3 hq3
          go_wp2_with fail
          go_roundw
          case rel => exact ⟨k + 1, by omega, by go_num, by rw [HSN.out, HESC.out]; simpa using HQ3.out⟩
          case measure => simp [RowKit.intOf]; omega
    · have hall : (s.data.toList.take k).flatMap escL = s.data.toList.flatMap escL := by rw [List.take_of_length_le (by simp; exact Nat.le_of_not_lt hlt)]
      have hcall := b_byte HB.out 39 (by rw [List.length_append, List.length_cons]; omega)
      rw [hall] at hcall
      have HC := Lib.hid hcall
      clear hcall hall
      go_wp2_with fail
      refine HC.out.mono ?_
      rintro e w3 hp3
      obtain rfl := hp3.1
      have hq3 := QuoteR.next HK.out HF.out hp3
      have HQ3 := Lib.hid hq3
      clear hp3 hq3
      go_wp2_with fail
      go_end0
      obtain ⟨F3, q1, q2, q3⟩ := HQ3.out
      exact ⟨rfl, F3, by simpa [quoteL] using q1, q2, q3⟩
end Go.Proofs.YtdmmhfbafinkpaaGreatDoor
