import Derived.Test.YtdmmhfbafinkpaaGreatDoorPb13
import Derived.Test.YtdmmhfbafinkpaaGreatDoorPa23
import Derived.Test.YtdmmhfbafinkpaaGreatDoorTm10
/- ParseBack: parse/text.go: Print. -/
namespace Go.Proofs.YtdmmhfbafinkpaaGreatDoor
open Go.RowKit Go.Emb

theorem cells1f {w : World} {q : Nat} {a : Value} {t : TypeId} (h : w.heap[q]? = some (.cells #[a] t (0, 0))) : w.cell? ⟨q, 0, none⟩ = some a := by simp [World.cell?, h]
theorem prf_sm {B : Nat} {l : List Nd} {x : List It} (h : PrF l x) (hs : Sm x) : ∃ ls, HdL B l ls ∧ Sm (sepI semiB ls) ∧ x = sepI semiB ls ++ [sg 46, .b 10] := by
  cases h with
  | @mk ls h0 hl h =>
    have h1 : Sm (sepI semiB ls) := hs.inf [] [sg 46, .b 10] (by simp [funI])
    exact ⟨ls, fhd_of hl h (fun i h1 h2 => tx_all B (h i h1 h2)) h1, h1, rfl⟩
theorem flat_sub2 (xs : List (List It)) (i : Nat) (h : i < xs.length) : (xs[i]).Sublist xs.flatten :=
  List.sublist_flatten_of_mem (List.getElem_mem h)
theorem prg_ne {fs : List (List Nd)} {xs : List (List It)} (h : PrG fs xs) (h0 : fs ≠ []) : flat xs.flatten ≠ [] := by
  cases fs with
  | nil => exact absurd rfl h0
  | cons a l =>
    cases xs with
    | nil => have := h.1; simp at this
    | cons x r =>
      have h1 := (PrG.cons_iff.1 h).1
      cases h1 with
      | mk _ _ _ => rw [List.flatten_cons, flat_app]; simp [funI, flat_app, flat_cons, It.text]

set_option maxRecDepth 100000 in
set_option maxHeartbeats 4000000 in
theorem p_print {w : World} {B : Nat} {S : Nat → Prop} {v : Value} {fs : List (List Nd)} {xs : List (List It)} (ht : TabOk B w) (h : FsR S w v fs) (hS : ∀ b, S b → b < w.heap.size) (hx : PrG fs xs) (h0 : fs ≠ []) (hs : Sm xs.flatten) (hlen : (flat xs.flatten).length ≤ 90000000000000) :
    Calls Tryz.prog 8 #[v] w (StrE w (flat xs.flatten)) := by
  obtain ⟨va, vc, rfl⟩ := h.form
  have hlm : fs.length ≤ 9223372036854775807 := by obtain ⟨es, o, ⟨-, a, c, e, h1, h2, -⟩, -⟩ := h; cases e; unfold maxLen at h2; omega
  have HH := Lib.hid h
  have HT := Lib.hid ht
  have HX := Lib.hid (And.intro hx (And.intro hs hlen))
  have HS := Lib.hid hS
  have H0 := Lib.hid h0
  have HB0 := Lib.hid (isB_new w)
  clear h ht hx hs hS h0 hlen
  go_enter Tryz.func8, Tryz.ntmps8
  go_wp2_with fail
  go_loopw [8] (fun v wr => ∃ k : Nat, k ≤ fs.length ∧ v = .int .i64 k ∧ ∃ F, IsB wr w.heap.size (flat (xs.take k).flatten) F ∧ (∀ x ∈ F, w.heap.size ≤ x) ∧ Keep [] w wr) (fun v _ => fs.length - (RowKit.intOf v).toNat)
  case atStart => exact ⟨0, Nat.zero_le _, rfl, [w.heap.size], HB0.out, by simp, (Keep.refl [] w).alloc _⟩
  case round =>
    obtain ⟨k, hk, rfl, F, hb, hF, hkw⟩ := hrel
    have HB := Lib.hid hb
    have HF := Lib.hid hF
    have HKW := Lib.hid hkw
    clear hb hF hkw
    by_cases hi : k < fs.length
    · have hlt : (k : Int) < (fs.length : Int) := by omega
      have hge : (0 : Int) ≤ (k : Int) := by omega
      obtain ⟨ab, aoff, vk, rfl, -, hns, hcell⟩ := (HH.out.keep HKW.out (by simp)).at1 hi
      obtain ⟨p4, c4, rfl⟩ := hns.form
      have hxk : k < xs.length := by rw [HX.out.1.1]; exact hi
      obtain ⟨ls, hhd, hsm, hex⟩ := prf_sm (B := B) (HX.out.1.2 k hi hxk) (HX.out.2.1.sub (flat_sub2 xs k hxk))
      have hk5 := (Keep.refl [] wr).alloc (.cells #[.slice p4 fs[k].length c4] 50)
      have hb5 := heap_alloc_new wr (.cells #[.slice p4 fs[k].length c4] 50)
      have hcall := p_hd (HT.out.keep0 (HKW.out.trans hk5 (by simp))) (hns.keep hk5 (by simp)) hhd hsm
      have hsl := hsm.2
      have HCALL := Lib.hid hcall
      have HEX := Lib.hid hex
      have HK5 := Lib.hid hk5
      have d0 := cells1f hb5
      clear hns hcall hex hhd hsm hk5 hb5
      go_wp2_with fail
      refine HCALL.out.mono ?_
      rintro e w6 ⟨⟨X, rfl, hX⟩, hk6⟩
      have hsX : X.size = (flat (sepI semiB ls)).length := by rw [size_list X, hX]
      have hfl : flat (xs.take (k + 1)).flatten = flat (xs.take k).flatten ++ (X ++ ⟨#[46, 10]⟩ : ByteArray).data.toList := by
        rw [List.take_succ_eq_append_getElem hxk, List.flatten_append, flat_app, HEX.out]
        simp [flat_app, flat_cons, flat_nil, It.text, hX]
      have hle : (flat (xs.take k).flatten).length + (X ++ ⟨#[46, 10]⟩ : ByteArray).size ≤ 90000000000000 := by
        have h1 := HX.out.2.2
        have h2 : (flat (xs.take (k + 1)).flatten).length ≤ (flat xs.flatten).length := flat_sub (by
          have := List.take_append_drop (k + 1) xs
          conv => rhs; rw [← this]
          rw [List.flatten_append]; exact List.sublist_append_left _ _)
        rw [hfl, List.length_append, ← size_list] at h2
        omega
      have hbs := b_string (HB.out.keep (HK5.out.trans hk6 (by simp)) (by simp)) (X ++ ⟨#[46, 10]⟩) (by rw [ByteArray.size_append]; show 0 < X.size + 2; omega) (by omega)
      have HBS := Lib.hid hbs
      have HFL := Lib.hid hfl
      have HK6 := Lib.hid (HKW.out.trans (HK5.out.trans hk6 (by simp)) (by simp))
      clear hX hk6 hfl hle hbs
      go_wp2_with fail
      refine HBS.out.mono ?_
      rintro e w7 ⟨rfl, F', hb7, hF7, hk7⟩
      have HB7 := Lib.hid hb7
      have HF7 := Lib.hid hF7
      have HK7 := Lib.hid hk7
      clear hb7 hF7 hk7
      go_wp2_with fail
      go_roundw
      case rel => 
        refine ⟨k + 1, by omega, by go_num, F', by rw [HFL.out]; exact HB7.out, fun x hx => ?_, HK6.out.trans HK7.out (fun x hx => .inr (HF.out x hx))⟩
        rcases HF7.out x hx with h | h
        · exact HF.out x h
        · exact Nat.le_trans HK6.out.size h
      case measure => simp [intOf]; omega
    · obtain rfl : k = fs.length := by omega
      have q1 : ¬ (fs.length : Int) < (fs.length : Int) := by omega
      have hb := HB.out
      rw [List.take_of_length_le (by rw [HX.out.1.1]; exact Nat.le_refl _)] at hb
      have HT2 := Lib.hid (b_text hb (prg_ne HX.out.1 H0.out))
      clear hb
      go_wp2_with fail
      refine HT2.out.mono ?_
      rintro e w7 ⟨rfl, hk7⟩
      have HK7 := Lib.hid (HKW.out.trans hk7 (fun x hx => .inr (HF.out x hx)))
      clear hk7
      go_wp2_with fail
      go_ret
      exact ⟨⟨_, rfl, by simp⟩, HK7.out⟩
end Go.Proofs.YtdmmhfbafinkpaaGreatDoor
