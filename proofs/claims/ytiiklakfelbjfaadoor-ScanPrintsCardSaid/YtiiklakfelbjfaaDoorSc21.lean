/- Scanning: ScanPrints, the walk. Printed by gen-sc21.py. -/
import Derived.Test.YtiiklakfelbjfaaDoorSc20
import Derived.Test.YtiiklakfelbjfaaDoorSc15
import Derived.Test.YtiiklakfelbjfaaDoorScOpen2
import Derived.Test.YtiiklakfelbjfaaDoorBaseApp
namespace Go.Proofs.YtiiklakfelbjfaaDoor
open Go.RowKit Go.Emb

def sumG (gs : List TkG) : Nat := (gs.map (·.S.size)).sum
theorem sumG_snoc (gs : List TkG) (x : TkG) : sumG (gs ++ [x]) = sumG gs + x.S.size := by simp [sumG]
theorem sumG_mem {gs : List TkG} {x : TkG} (h : x ∈ gs) : x.S.size ≤ sumG gs := by
  induction gs with
  | nil => cases h
  | cons y gs ih =>
    have e : sumG (y :: gs) = y.S.size + sumG gs := by simp [sumG]
    rcases List.mem_cons.1 h with rfl | h
    · omega
    · have := ih h; omega
theorem sumG_le {gs : List TkG} (h : ∀ x ∈ gs, TkOk x) (k : Nat) (hk : k ≤ 401) : sumG (gs.take k) ≤ 401 * 140737488355328 := by
  have : ∀ (l : List TkG) (m : Nat), (∀ x ∈ l, TkOk x) → l.length ≤ m → sumG l ≤ m * 140737488355328 := by
    intro l
    induction l with
    | nil => intro m _ _; simp [sumG]
    | cons y l ih =>
      intro m hy hm
      obtain ⟨j, rfl⟩ : ∃ j, m = j + 1 := ⟨m - 1, by simp at hm; omega⟩
      have h1 := ih j (fun x hx => hy x (by simp [hx])) (by simp at hm; omega)
      have h2 := (hy y (by simp)).2
      have e : sumG (y :: l) = y.S.size + sumG l := by simp [sumG]
      rw [e, Nat.add_mul]
      omega
  exact this _ _ (fun x hx => h x (List.mem_of_mem_take hx)) (by rw [List.length_take]; omega)
theorem printG_len {x : TkG} (h : TkOk x) (hs : x.S.size ≤ 4000) : (printG x).length ≤ 20000 := by
  have hl : x.S.data.toList.length = x.S.size := by simp
  unfold printG
  split
  · unfold Lib.itoa
    split
    · have := decDigits_le 20 x.n.natAbs (by have := h.1; omega) (by omega)
      simp only [List.length_cons]; omega
    · have := decDigits_le 20 x.n.toNat (by have := h.1; omega) (by omega)
      omega
  · split
    · unfold nameL
      split
      · omega
      · unfold quoteL
        have := flatEsc_le x.S.data.toList
        simp only [List.length_cons, List.length_append, List.length_nil]
        omega
    · omega
set_option maxRecDepth 100000 in
set_option maxHeartbeats 4000000 in
theorem prints_walk {w : World} {v : Value} {gs : List TkG} (ht : TabOk w.heap.size w) (he : ErrOk w) (hg : HasG w v gs ∧ (∀ x ∈ gs, TkOk x) ∧ gs.length * 48 ≤ 140737488355328) :
    Calls Tryd.prog 4 #[v] w fun e w' => e = .returned (.bool true) ∧ Keep [] w w' := by
  obtain ⟨hg, hok, hl48⟩ := hg
  obtain ⟨va, vc, rfl, hv1, hv2⟩ := hg.slice
  unfold maxLen at hv2
  have hlv := q_live he
  have HLV := Lib.hid hlv
  have HE := Lib.hid he
  have HT := Lib.hid ht
  have HG := Lib.hid hg
  have HOK := Lib.hid hok
  clear he ht hg hok hlv
  go_enter Tryd.func4, Tryd.ntmps4
  go_wp2_with fail
  go_loop [3, 4] (fun n i => ∃ k : Nat, k ≤ gs.length ∧ k ≤ 401 ∧ i = .int .i64 k ∧ n = .int .i64 (sumG (gs.take k) : Nat)) (fun _ i => gs.length - (RowKit.intOf i).toNat)
  case atStart => exact ⟨0, Nat.zero_le _, by omega, rfl, rfl⟩
  case round =>
    obtain ⟨k, hk, hk4, rfl, rfl⟩ := hrel
    have hsb := sumG_le HOK.out k hk4
    by_cases hlt : k < gs.length
    · have q0 : (0 : Int) ≤ (k : Int) := by omega
      have q1 : (k : Int) < (gs.length : Int) := by omega
      by_cases h4 : k ≤ 400
      · have q2 : (k : Int) ≤ 400 := by omega
        have hsb2 := sumG_le HOK.out (k + 1) (by omega)
        have hsn : sumG (gs.take (k + 1)) = sumG (gs.take k) + gs[k].S.size := by rw [List.take_succ_eq_append_getElem hlt, sumG_snoc]
        obtain ⟨vb, voff, rfl, -, -, c2, -, -⟩ := HG.out.at hlt
        obtain ⟨S, hS⟩ : ∃ S, S = gs[k].S := ⟨_, rfl⟩
        obtain ⟨A, hA⟩ : ∃ A, A = sumG (gs.take k) := ⟨_, rfl⟩
        obtain ⟨B, hB⟩ : ∃ B, B = sumG (gs.take (k + 1)) := ⟨_, rfl⟩
        rw [← hS] at c2 hsn
        rw [← hA] at hsn hsb ⊢
        rw [← hB] at hsn hsb2
        have hw : IntKind.i64.wrap ((A : Int) + (S.size : Int)) = (B : Int) := (IntWalk.i64_in _ (by omega)).trans (by omega)
        have HB := Lib.hid hB
        have HSN := Lib.hid hsn
        clear hS hA hB hsn
        go_wp2_with fail
        go_round
        case rel => exact ⟨k + 1, by omega, by omega, by go_num, by rw [← HB.out, HSN.out]; first | done | go_num⟩
        case measure => simp [intOf]; omega
      · have q2 : ¬ (k : Int) ≤ 400 := by omega
        have q3 : (400 : Int) < (gs.length : Int) := by omega
        go_wp2_with fail
        refine HLV.out.mono ?_
        rintro e wl ⟨rfl, hkl⟩
        go_wp2_with fail
        go_ret
        exact ⟨rfl, hkl⟩
    · obtain rfl : k = gs.length := by omega
      have q1 : ¬ (gs.length : Int) < (gs.length : Int) := by omega
      rw [List.take_length] at hsb ⊢
      by_cases h4 : 400 < gs.length
      · have q3 : (400 : Int) < (gs.length : Int) := by omega
        go_wp2_with fail
        refine HLV.out.mono ?_
        rintro e wl ⟨rfl, hkl⟩
        go_wp2_with fail
        go_ret
        exact ⟨rfl, hkl⟩
      · have q3 : ¬ (400 : Int) < (gs.length : Int) := by omega
        by_cases h5 : 4000 < sumG gs
        · have q4 : (4000 : Int) < (sumG gs : Int) := by omega
          generalize sumG gs = A at *
          go_wp2_with fail
          refine HLV.out.mono ?_
          rintro e wl ⟨rfl, hkl⟩
          go_wp2_with fail
          go_ret
          exact ⟨rfl, hkl⟩
        · have q4 : ¬ (4000 : Int) < (sumG gs : Int) := by omega
          have hss : ∀ x ∈ gs, x.S.size ≤ 4000 := fun x hx => by have := sumG_mem hx; omega
          have hjl := joinS_len 20000 (gs.map printG) (fun y hy => by
            obtain ⟨x, hx, rfl⟩ := List.mem_map.1 hy
            exact printG_len (HOK.out x hx) (hss x hx))
          rw [List.length_map] at hjl
          have hone : ∀ u ∈ gs.flatMap encG, u.oneCell' = true := fun u hu => by
            obtain ⟨x, -, h⟩ := List.mem_flatMap.1 hu
            simp [encG] at h
            rcases h with rfl | rfl | rfl | rfl | rfl <;> rfl
          obtain ⟨o, hrd, hro⟩ := HG.out
          obtain ⟨i0, hi, hz0, hz1, hz2⟩ := info_parts tok_info
          have HI := Lib.hid hi
          have HRD := Lib.hid (hrd.keep ((Keep.refl [] w).alloc (.cells #[] 30)) (by simp))
          have HONE := Lib.hid hone
          have HSS := Lib.hid hss
          have HJL := Lib.hid (show (joinS (gs.map printG)).length ≤ 140737488355328 by
            have h9 : gs.length * (20000 + 1) ≤ 400 * 20001 := Nat.mul_le_mul_right _ (by omega)
            omega)
          clear hrd hro hi hone hss hjl
          generalize sumG gs = A at *
          go_wp2_with (at_builtin; refine wpList_append_rd _ rfl _ _ 24 24 rfl 30 30 i0 _ 5 48 Tryd.underlying24 Tryd.underlying24 HI.out hz0 hz1 hz2 rfl w.heap.size 0 0 0 [] rfl (Row.made0 w _ 5) _ rfl gs.length (gs.flatMap encG) o HRD.out HONE.out (by first | (unfold maxLen; omega) | (simp [maxLen] <;> omega)) (by omega) ?_)
          intro g off cap w2 hr2 hk2 hg2
          try simp only [Nat.zero_add, List.nil_append] at hr2
          try simp only [Nat.zero_add]
          have hkk : Keep [] w w2 := ((Keep.refl [] w).alloc _).trans hk2 (by simp)
          have hg3 : HasG w2 (.slice (some ⟨g, off, none⟩) gs.length cap) gs := by
            obtain ⟨o', h1, h2⟩ := Row.rd hr2
            refine ⟨o', h1, fun b hb => ?_⟩
            rcases h2 with h2 | h2
            · rw [h2] at hb; cases hb
            · exact Row.lt hr2 b (by rw [← h2]; exact hb)
          have hp1 := p_sprint (HT.out.keep0 hkk) hg3 (by omega) (fun x hx => (HOK.out x hx).1) (fun x hx => by have := HSS.out x hx; omega) HJL.out
          have HP1 := Lib.hid hp1
          have HK := Lib.hid hkk
          clear hr2 hkk hg3 hp1 hk2 hg2 HRD HONE
          go_wp2_with fail
          refine HP1.out.mono ?_
          rintro e w3 ⟨⟨X, rfl, hX⟩, hk3⟩
          have hk13 := HK.out.trans hk3 (by simp)
          have hp2 := r_sprint (HG.out.keep hk13) (by omega) (fun x hx => (HOK.out x hx).1) (fun x hx => by have := HSS.out x hx; omega) HJL.out
          have HP2 := Lib.hid hp2
          have HK3 := Lib.hid hk13
          have HX := Lib.hid hX
          clear hp2 hk13 hX hk3 HP1 HK
          go_wp2_with fail
          refine HP2.out.mono ?_
          rintro e w4 ⟨⟨Y, rfl, hY⟩, hk4'⟩
          obtain rfl : Y = X := by rw [string_eq hY, string_eq HX.out]
          have hk14 := HK3.out.trans hk4' (by simp)
          have hlv4 := q_live (HE.out.keep hk14)
          have HLV4 := Lib.hid hlv4
          have HK4 := Lib.hid hk14
          clear hlv4 hk14 hk4' hY HP2
          go_wp2_with fail
          refine HLV4.out.mono ?_
          rintro e wl ⟨rfl, hkl⟩
          go_wp2_with fail
          go_ret
          exact ⟨rfl, HK4.out.trans hkl (by simp)⟩
end Go.Proofs.YtiiklakfelbjfaaDoor
