/- Terms: the document's Rows. -/
import Derived.Test.YtcegdomfmamonaaDoorTm8
import Derived.Test.YtcegdomfmamonaaDoorBaseReg
namespace Go.Emb
open Go.RowKit
def rowsEq (l l' : List Tm) : Bool := decide (l.length = l'.length) && (l.zip l').all (fun p => cmpTm p.1 p.2 == 0)
end Go.Emb
namespace Go.Proofs.YtcegdomfmamonaaDoor
open Go.RowKit Go.Emb
theorem zip_take_all (l l' : List Tm) (k : Nat) (h : k < l.length) (h' : k < l'.length) : ((l.zip l').take (k + 1)).all (fun p => cmpTm p.1 p.2 == 0) = (((l.zip l').take k).all (fun p => cmpTm p.1 p.2 == 0) && cmpTm l[k] l'[k] == 0) := by
  rw [List.take_succ_eq_append_getElem (by simp; omega), List.all_append]
  simp
set_option maxRecDepth 100000 in
set_option maxHeartbeats 2000000 in
theorem r_rows {B B' : Nat} {w : World} {v v' : Value} {l l' : List Tm} (h : HasT B w v l) (h' : HasT B' w v' l') (hs : l.length ≤ 1000000000) (_hs' : l'.length ≤ 1000000000) : Calls Tryd.prog 42 #[v, v'] w fun e w' => e = .returned (.bool (rowsEq l l')) ∧ Keep [] w w' := by
  obtain ⟨a, c, rfl, -, -⟩ := h.form
  obtain ⟨a', c', rfl, -, -⟩ := h'.form
  have H := Lib.hid h
  have H' := Lib.hid h'
  clear h h'
  go_enter Tryd.func42, Tryd.ntmps42
  by_cases hl : l.length = l'.length
  · rw [← hl] at H' ⊢
    have hli : ((l.length : Int) == (l.length : Int)) = true := by simp
    have HL := Lib.hid hl
    clear hl
    go_wp2_with fail
    go_loopw [4, 5] (fun b i wr => ∃ k : Nat, k ≤ l.length ∧ b = .bool false ∧ i = .int .i64 k ∧ Keep [] w wr ∧ ((l.zip l').take k).all (fun p => cmpTm p.1 p.2 == 0) = true) (fun _ i _ => l.length - (intOf i).toNat)
    case atStart => exact ⟨0, Nat.zero_le _, rfl, rfl, Keep.refl _ _, by simp⟩
    case round =>
      obtain ⟨k, hk, rfl, rfl, hK, hall⟩ := hrel
      have HK := Lib.hid hK
      have HALL := Lib.hid hall
      clear hK hall
      by_cases hlt : k < l.length
      · have hlt' : k < l'.length := by have := HL.out; omega
        have hz := zip_take_all l l' k hlt hlt'
        obtain ⟨b, off, rfl, c0, c1, c2, c3, hrx⟩ := H.out.at (Keep.refl [] w) hlt
        obtain ⟨b', off', rfl, d0, d1, d2, d3, hry⟩ := H'.out.at (Keep.refl [] w) hlt'
        have hcall := fun wx (hx : Keep [] w wx) => r_same (hrx.keep0 hx) (hry.keep0 hx)
        have hfalse : cmpTm l[k] l'[k] ≠ 0 → rowsEq l l' = false := fun hne => by
          unfold rowsEq
          have : (l.zip l').all (fun p => cmpTm p.1 p.2 == 0) = false := by
            rw [List.all_eq_false]
            exact ⟨(l[k], l'[k]), List.mem_of_getElem? (i := k) (by rw [List.getElem?_eq_getElem (by simp; omega)]; simp), by simpa using hne⟩
          rw [this, Bool.and_false]
        have HF := Lib.hid hfalse
        have HZ := Lib.hid hz
        obtain ⟨xa, xc, hxv, -, -⟩ := hrx.has.form
        obtain ⟨ya, yc, hyv, -, -⟩ := hry.has.form
        unfold aggTm at hcall
        rw [hxv, hyv] at hcall
        rw [hxv] at c3
        rw [hyv] at d3
        have HC := Lib.hid hcall
        have HSS : Hid (∀ w', Keep [] wr w' → (w'.cell? ⟨b, off + k * 4, none⟩ = some (.int .i64 l[k].kind) ∧ w'.cell? ⟨b, off + k * 4 + 1, none⟩ = some (.int .i64 l[k].num) ∧ w'.cell? ⟨b, off + k * 4 + 2, none⟩ = some (.string l[k].name) ∧ w'.cell? ⟨b, off + k * 4 + 3, none⟩ = some (.slice xa l[k].items.length xc)) ∧ w'.cell? ⟨b', off' + k * 4, none⟩ = some (.int .i64 l'[k].kind) ∧ w'.cell? ⟨b', off' + k * 4 + 1, none⟩ = some (.int .i64 l'[k].num) ∧ w'.cell? ⟨b', off' + k * 4 + 2, none⟩ = some (.string l'[k].name) ∧ w'.cell? ⟨b', off' + k * 4 + 3, none⟩ = some (.slice ya l'[k].items.length yc)) := fun w' hk' => by
          have hk2 := HK.out.trans hk' (by simp)
          exact ⟨⟨hk2.cellOf c0, hk2.cellOf c1, hk2.cellOf c2, hk2.cellOf c3⟩, hk2.cellOf d0, hk2.cellOf d1, hk2.cellOf d2, hk2.cellOf d3⟩
        have q0 : (0 : Int) ≤ (k : Int) := by omega
        have q1 : (k : Int) < (l.length : Int) := by omega
        have q2 : IntKind.i64.wrap ((k : Int) + 1) = ((k + 1 : Nat) : Int) := by rw [IntWalk.i64_in _ (by omega)]; simp
        clear hrx hry hcall hfalse hz hxv hyv c0 c1 c2 c3 d0 d1 d2 d3
        generalize l[k] = x at *
        generalize l'[k]'hlt' = y at *
        clear hlt'
        go_wp2_with fail
        refine wp_region_held_drew (S := fun w' => Keep [] wr w') (by kernel_rfl) ((Keep.refl [] wr).drew) (fun hHeld => ?_)
        refine wpAnyH_takeL (i := 0) (v := ?v0) rfl (by kernel_rfl) (by kernel_rfl) (by kernel_rfl) (fun _ _ _ h => h) (Or.inl ⟨by kernel_rfl, ?run0⟩) hHeld ?_
        case run0 => (intro w9 hS9; obtain ⟨⟨a0, a1, a2, a3⟩, b0, b1, b2, b3⟩ := HSS.out w9 hS9; go_simp; try exact rfl)
        try simp only [Act.put, List.setIfInBounds_toArray, List.set_cons_zero, List.set_cons_succ]
        refine wpAnyH_takeL (i := 1) (v := ?v1) rfl (by kernel_rfl) (by kernel_rfl) (by kernel_rfl) (fun _ _ _ h => h) (Or.inl ⟨by kernel_rfl, ?run1⟩) hHeld ?_
        case run1 => (intro w9 hS9; obtain ⟨⟨a0, a1, a2, a3⟩, b0, b1, b2, b3⟩ := HSS.out w9 hS9; go_simp; try exact rfl)
        try simp only [Act.put, List.setIfInBounds_toArray, List.set_cons_zero, List.set_cons_succ]
        refine wpAnyH_takeL (i := 2) (v := ?v2) rfl (by kernel_rfl) (by kernel_rfl) (by kernel_rfl) (fun _ _ _ h => h) (Or.inl ⟨by kernel_rfl, ?run2⟩) hHeld ?_
        case run2 => (intro w9 hS9; obtain ⟨⟨a0, a1, a2, a3⟩, b0, b1, b2, b3⟩ := HSS.out w9 hS9; go_simp; try exact rfl)
        try simp only [Act.put, List.setIfInBounds_toArray, List.set_cons_zero, List.set_cons_succ]
        refine wpAnyH_takeL (i := 3) (v := ?v3) rfl (by kernel_rfl) (by kernel_rfl) (by kernel_rfl) (fun _ _ _ h => h) (Or.inl ⟨by kernel_rfl, ?run3⟩) hHeld ?_
        case run3 => (intro w9 hS9; obtain ⟨⟨a0, a1, a2, a3⟩, b0, b1, b2, b3⟩ := HSS.out w9 hS9; go_simp; try exact rfl)
        try simp only [Act.put, List.setIfInBounds_toArray, List.set_cons_zero, List.set_cons_succ]
        refine wpAnyH_takeL (i := 4) (v := ?v4) rfl (by kernel_rfl) (by kernel_rfl) (by kernel_rfl) (fun _ _ _ h => h) (Or.inl ⟨by kernel_rfl, ?run4⟩) hHeld ?_
        case run4 => (intro w9 hS9; obtain ⟨⟨a0, a1, a2, a3⟩, b0, b1, b2, b3⟩ := HSS.out w9 hS9; go_simp; try exact rfl)
        try simp only [Act.put, List.setIfInBounds_toArray, List.set_cons_zero, List.set_cons_succ]
        refine wpAnyH_takeL (i := 5) (v := ?v5) rfl (by kernel_rfl) (by kernel_rfl) (by kernel_rfl) (fun _ _ _ h => h) (Or.inl ⟨by kernel_rfl, ?run5⟩) hHeld ?_
        case run5 => (intro w9 hS9; obtain ⟨⟨a0, a1, a2, a3⟩, b0, b1, b2, b3⟩ := HSS.out w9 hS9; go_simp; try exact rfl)
        try simp only [Act.put, List.setIfInBounds_toArray, List.set_cons_zero, List.set_cons_succ]
        refine wpAnyH_takeL (i := 6) (v := ?v6) rfl (by kernel_rfl) (by kernel_rfl) (by kernel_rfl) (fun _ _ _ h => h) (Or.inl ⟨by kernel_rfl, ?run6⟩) hHeld ?_
        case run6 => (intro w9 hS9; obtain ⟨⟨a0, a1, a2, a3⟩, b0, b1, b2, b3⟩ := HSS.out w9 hS9; go_simp; try exact rfl)
        try simp only [Act.put, List.setIfInBounds_toArray, List.set_cons_zero, List.set_cons_succ]
        refine wpAnyH_takeL (i := 7) (v := ?v7) rfl (by kernel_rfl) (by kernel_rfl) (by kernel_rfl) (fun _ _ _ h => h) (Or.inl ⟨by kernel_rfl, ?run7⟩) hHeld ?_
        case run7 => (intro w9 hS9; obtain ⟨⟨a0, a1, a2, a3⟩, b0, b1, b2, b3⟩ := HSS.out w9 hS9; go_simp; try exact rfl)
        try simp only [Act.put, List.setIfInBounds_toArray, List.set_cons_zero, List.set_cons_succ]
        refine wpAnyH_ready (rs := [8]) (by kernel_rfl) (by simp) ?_
        refine AllReadyH.cons rfl (fun K hK => ?_) AllReadyH.nil
        go_simp
        refine (HC.out _ (HK.out.trans ((Keep.refl [] wr).drew) (by simp))).mono ?_
        rintro e wc1 ⟨rfl, hc1⟩
        have HC1 := Lib.hid (((Keep.refl [] wr).drew).trans hc1 (by simp))
        clear hc1
        go_wp2_with fail
        refine hK.out _ _ HC1.out (fun hHeld2 => ?_)
        clear hK K hHeld
        have hHeld := hHeld2
        clear hHeld2
        try simp only [Act.put, List.setIfInBounds_toArray, List.set_cons_zero, List.set_cons_succ]
        by_cases hc : cmpTm x y = 0
        · have hcb : (cmpTm x y == 0) = true := by simp [hc]
          rw [hcb]
          refine wpAnyH_takeL (i := 9) (v := .bool false) rfl (by kernel_rfl) (by kernel_rfl) (by kernel_rfl) (fun _ _ _ h => h) (Or.inl ⟨by kernel_rfl, ?run9⟩) hHeld ?_
          case run9 => (intro w9 hS9; obtain ⟨⟨a0, a1, a2, a3⟩, b0, b1, b2, b3⟩ := HSS.out w9 hS9; go_simp)
          try simp only [Act.put, List.setIfInBounds_toArray, List.set_cons_zero, List.set_cons_succ]
          refine wpAnyH_done (by kernel_rfl) ?_ _
          go_wp2_with fail
          go_roundw
          case rel => exact ⟨k + 1, by omega, rfl, rfl, HK.out.trans HC1.out (by simp), by rw [HZ.out, HALL.out, hcb]; rfl⟩
          case measure => simp [intOf] <;> omega
        · have hcb : (cmpTm x y == 0) = false := by simp [hc]
          rw [hcb]
          refine wpAnyH_takeL (i := 9) (v := .bool true) rfl (by kernel_rfl) (by kernel_rfl) (by kernel_rfl) (fun _ _ _ h => h) (Or.inl ⟨by kernel_rfl, ?run9⟩) hHeld ?_
          case run9 => (intro w9 hS9; obtain ⟨⟨a0, a1, a2, a3⟩, b0, b1, b2, b3⟩ := HSS.out w9 hS9; go_simp)
          try simp only [Act.put, List.setIfInBounds_toArray, List.set_cons_zero, List.set_cons_succ]
          refine wpAnyH_done (by kernel_rfl) ?_ _
          go_wp2_with fail
          go_ret
          exact ⟨by rw [HF.out hc]; rfl, HK.out.trans HC1.out (by simp)⟩
      · have q1 : ¬ (k : Int) < (l.length : Int) := by omega
        have hall : rowsEq l l' = true := by
          unfold rowsEq
          have := HALL.out
          rw [List.take_of_length_le (by have := HL.out; simp; omega)] at this
          rw [this]; simp [HL.out]
        have HR := Lib.hid hall
        clear hall
        go_wp2_with fail
        go_ret
        exact ⟨by rw [HR.out]; rfl, HK.out⟩
  · have hli : ((l.length : Int) == (l'.length : Int)) = false := by simp; omega
    go_wp2_with fail
    go_ret
    exact ⟨by simp [rowsEq, hl], Keep.refl _ _⟩
end Go.Proofs.YtcegdomfmamonaaDoor
