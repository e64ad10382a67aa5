/- The document's Put. Printed by gen-mn8.py. -/
import Derived.Test.YtngepgnmlpinaaaMn7
namespace Go.Proofs.Ytngepgnmlpinaaa
open Go.RowKit Go.Emb

structure RPut2 (w1 : World) (v0 : Value) (l0 l1 l2 : List UInt8) (d : Nat → Bool) (f : Nat → Value) (W : World) (o : Option Nat) : Prop where
  keep : Keep [] w1 W
  own : ∀ x, o = some x → w1.heap.size ≤ x
  lt : ∀ x, o = some x → x < W.heap.size
  row0 : d 4 = false → RB W (v0) (l0) o
  row1 : d 4 = true → d 8 = false → RB W (f 14) (l1) o
  row2 : d 8 = true → RB W (f 18) (l2) o
  ord1 : d 4 = false → d 8 = false
  asg9 : d 9 = true → f 3 = f 18
  aord9 : d 8 = false → d 9 = false
structure RPut9 (w1 : World) (bx : Nat) (C : Obj) (v0 : Value) (l0 l1 l2 l3 : List UInt8) (d : Nat → Bool) (f : Nat → Value) (W : World) (o : Option Nat) : Prop where
  keep : Keep [] w1 W
  own : ∀ x, o = some x → w1.heap.size ≤ x
  lt : ∀ x, o = some x → x < W.heap.size
  box0 : W.heap[bx]? = some (C) ∧ some bx ≠ o
  row0 : d 3 = false → RB W (v0) (l0) o
  row1 : d 3 = true → d 6 = false → RB W (f 45) (l1) o
  row2 : d 6 = true → d 11 = false → RB W (f 48) (l2) o
  ord1 : d 3 = false → d 6 = false
  row3 : d 11 = true → RB W (f 53) (l3) o
  ord2 : d 6 = false → d 11 = false
  asg12 : d 12 = true → f 3 = f 53
  aord12 : d 11 = false → d 12 = false
structure RPut13 (w1 : World) (bx : Nat) (C : Obj) (v0 : Value) (l0 l1 l2 : List UInt8) (d : Nat → Bool) (f : Nat → Value) (W : World) (o : Option Nat) : Prop where
  keep : Keep [] w1 W
  own : ∀ x, o = some x → w1.heap.size ≤ x
  lt : ∀ x, o = some x → x < W.heap.size
  box0 : W.heap[bx]? = some (C) ∧ some bx ≠ o
  row0 : d 7 = false → RB W (v0) (l0) o
  row1 : d 7 = true → d 14 = false → RB W (f 68) (l1) o
  row2 : d 14 = true → RB W (f 75) (l2) o
  ord1 : d 7 = false → d 14 = false
  asg15 : d 15 = true → f 3 = f 75
  aord15 : d 14 = false → d 15 = false
set_option maxRecDepth 100000 in
set_option maxHeartbeats 4000000 in
theorem r_put {w : World} {m : MnV} (h : RdM w.heap.size w m) (hsz : (manL m.man).length ≤ 1000000000) : Calls Try.prog 14 #[aggM m] w fun e w' => ∃ v o, e = .returned v ∧ RB w' v (manL m.man) o ∧ (∀ b, o = some b → w.heap.size ≤ b) ∧ Keep [] w w' := by
  obtain ⟨hs, harea, ⟨⟨ro, hrd, hro⟩, hrlen⟩, hpl⟩ := h
  obtain ⟨-, ra, rc, hrv, hrc1, hrc2, -⟩ := id hrd
  obtain ⟨⟨po, hpd, hpo⟩, hpok, hplen⟩ := id hpl
  obtain ⟨-, pa, pc, hpv, hpc1, hpc2, -⟩ := id hpd
  have hL : manL m.man = strL m.s.data.toList ++ extL m.area ++ strL m.rest ++ numL m.places.length 0 ++ (m.places.map (·.p)).flatMap plcL := by
    unfold manL MnV.man; simp
  have HW1 := Lib.hid ((Keep.refl [] w).alloc (.cells #[.string m.s, .int .i64 m.area.1, .int .i64 m.area.2, m.rv, m.pv] 27))
  have HRD := Lib.hid (hrd.keep HW1.out (by simp))
  have hcv := fun wx (hx : Keep [] (w.alloc (.cells #[.string m.s, .int .i64 m.area.1, .int .i64 m.area.2, m.rv, m.pv] 27)) wx) => rd_text (P := Try.prog) (dst := 9) (HRD.out.keep hx (by simp)) Try.underlying24 Try.underlying5 Try.underlying9
  have hbox : (w.alloc (.cells #[.string m.s, .int .i64 m.area.1, .int .i64 m.area.2, m.rv, m.pv] 27)).heap[w.heap.size]? = some (.cells #[.string m.s, .int .i64 m.area.1, .int .i64 m.area.2, m.rv, m.pv] 27) := heap_new _ _
  have hss : ∀ wx, Keep [] (w.alloc (.cells #[.string m.s, .int .i64 m.area.1, .int .i64 m.area.2, m.rv, m.pv] 27)) wx → (wx.cell? ⟨w.heap.size, 0, none⟩ = some (.string m.s) ∧ wx.cell? ⟨w.heap.size, 1, none⟩ = some (.int .i64 m.area.1) ∧ wx.cell? ⟨w.heap.size, 2, none⟩ = some (.int .i64 m.area.2) ∧ wx.cell? ⟨w.heap.size, 3, none⟩ = some m.rv ∧ wx.cell? ⟨w.heap.size, 4, none⟩ = some m.pv) := fun wx hx => by
    have hb := (hx.block w.heap.size (by simp) (by simp)).trans hbox
    refine ⟨?_, ?_, ?_, ?_, ?_⟩ <;> simp [World.cell?, hb]
  rw [hrv] at hss hcv HW1 hbox
  rw [hpv] at hss hcv HW1 hbox
  unfold aggM
  rw [hrv, hpv]
  obtain ⟨l1, hl1⟩ : ∃ q, q = strL m.s.data.toList := ⟨_, rfl⟩
  obtain ⟨l2, hl2⟩ : ∃ q, q = l1 ++ intL m.area.1 := ⟨_, rfl⟩
  obtain ⟨l3, hl3⟩ : ∃ q, q = l2 ++ intL m.area.2 := ⟨_, rfl⟩
  obtain ⟨l4, hl4⟩ : ∃ q, q = l3 ++ strL m.rest := ⟨_, rfl⟩
  obtain ⟨L0, hl5⟩ : ∃ q, q = l4 ++ numL m.places.length 0 := ⟨_, rfl⟩
  have hL2 : manL m.man = L0 ++ (m.places.map (·.p)).flatMap plcL := by rw [hL, hl5, hl4, hl3, hl2, hl1]; simp [extL]
  have hn5 : L0.length ≤ 1000000000 := by rw [hL2, List.length_append] at hsz; omega
  have hn4 : l4.length ≤ 1000000000 := by rw [hl5, List.length_append] at hn5; omega
  have hn4b : l3.length + (strL m.rest).length ≤ 1000000000 := by rw [hl4, List.length_append] at hn4; omega
  have hn3 : l3.length ≤ 1000000000 := by omega
  have hn2 : l2.length ≤ 1000000000 := by rw [hl3, List.length_append] at hn3; omega
  have hn1 : l1.length ≤ 1000000000 := by rw [hl2, List.length_append] at hn2; omega
  have ht1 : Calls Try.prog 44 #[.slice none 0 0, .string m.s] (w.alloc (.cells #[.string m.s, .int .i64 m.area.1, .int .i64 m.area.2, .slice ra m.rest.length rc, .slice pa m.places.length pc] 27)) (GrewP none (w.alloc (.cells #[.string m.s, .int .i64 m.area.1, .int .i64 m.area.2, .slice ra m.rest.length rc, .slice pa m.places.length pc] 27)) l1) := by
    have := r_text (s := m.s) (RB.nil (w.alloc (.cells #[.string m.s, .int .i64 m.area.1, .int .i64 m.area.2, .slice ra m.rest.length rc, .slice pa m.places.length pc] 27))) (by rw [← hl1]; simpa using hn1)
    rw [hl1]; simpa using this
  have hca : ∀ W v o, RB W v l1 o → Calls Try.prog 45 #[v, .int .i64 m.area.1] W (GrewP o W l2) := fun W v o hr => by rw [hl2]; exact r_int1 hr hn1 harea.1.1 harea.1.2
  have hcb : ∀ W v o, RB W v l2 o → Calls Try.prog 45 #[v, .int .i64 m.area.2] W (GrewP o W l3) := fun W v o hr => by rw [hl3]; exact r_int1 hr hn2 harea.2.1 harea.2.2
  have hcc : ∀ W v o, RB W v l3 o → Calls Try.prog 44 #[v, .string ⟨m.rest.toArray⟩] W (GrewP o W l4) := fun W v o hr => by
    have := r_text (s := ⟨m.rest.toArray⟩) hr (by simpa using hn4b)
    rw [hl4]; simpa using this
  have hcd : ∀ W v o, RB W v l4 o → Calls Try.prog 46 #[v, .int .u64 (m.places.length : Int)] W (GrewP o W L0) := fun W v o hr => by rw [hl5]; exact r_uint hr hn4 (by omega)
  have hu0 : IntKind.u64.wrap (m.places.length : Int) = (m.places.length : Int) := IntWalk.u64_in _ (by omega)
  have HT1 := Lib.hid ht1
  have HCa := Lib.hid hca
  have HCb := Lib.hid hcb
  have HCc := Lib.hid hcc
  have HCd := Lib.hid hcd
  have HCV := Lib.hid hcv
  have HSS := Lib.hid hss
  have HPL := Lib.hid hpl
  have HLL := Lib.hid hL2
  have HSZ := Lib.hid hsz
  unfold maxLen at hpc2 hrc2
  clear ht1 hca hcb hcc hcd hL hL2 hcv hss hbox hpl hrd hro hpd hpo hpok HRD hsz harea hn1 hn2 hn3 hn4 hn4b hn5 hl1 hl2 hl3 hl4 hl5
  go_enter Try.func14, Try.ntmps14
  go_wp2_with fail
  generalize w.alloc (.cells #[.string m.s, .int .i64 m.area.1, .int .i64 m.area.2, .slice ra m.rest.length rc, .slice pa m.places.length pc] 27) = w1 at *
  refine HT1.out.mono ?_
  rintro e w2 ⟨v1, o1, rfl, hr1, hk1, ho1⟩
  obtain ⟨g1, g2⟩ := grew_base (Keep.refl [] w1) (fun x hx => by cases hx) hk1 ho1
  have HK1 := Lib.hid g1
  have HO1 := Lib.hid g2
  have HR1 := Lib.hid hr1
  clear g1 g2 hr1 hk1 ho1 HT1
  go_wp2_with fail
  refine wp_region_held_drew (S := fun w' => Keep [] w1 w') (by kernel_rfl) (HK1.out.drew) (fun hHeld => ?_)
  refine wpAnyH_takeL (i := 0) (v := ?vA0) rfl (by kernel_rfl) (by kernel_rfl) (by kernel_rfl) (fun _ _ _ h => h) (Or.inl ⟨by kernel_rfl, ?runA0⟩) hHeld ?_
  case runA0 => (intro w9 hS9; obtain ⟨c0, c1, c2, c3, c4⟩ := HSS.out w9 hS9; go_simp; try exact rfl)
  try simp only [Act.put, List.setIfInBounds_toArray, List.set_cons_zero, List.set_cons_succ]
  refine wpAnyH_takeL (i := 1) (v := ?vA1) rfl (by kernel_rfl) (by kernel_rfl) (by kernel_rfl) (fun _ _ _ h => h) (Or.inl ⟨by kernel_rfl, ?runA1⟩) hHeld ?_
  case runA1 => (intro w9 hS9; obtain ⟨c0, c1, c2, c3, c4⟩ := HSS.out w9 hS9; go_simp; try exact rfl)
  try simp only [Act.put, List.setIfInBounds_toArray, List.set_cons_zero, List.set_cons_succ]
  refine wpAnyH_takeL (i := 2) (v := ?vA2) rfl (by kernel_rfl) (by kernel_rfl) (by kernel_rfl) (fun _ _ _ h => h) (Or.inl ⟨by kernel_rfl, ?runA2⟩) hHeld ?_
  case runA2 => (intro w9 hS9; obtain ⟨c0, c1, c2, c3, c4⟩ := HSS.out w9 hS9; go_simp; try exact rfl)
  try simp only [Act.put, List.setIfInBounds_toArray, List.set_cons_zero, List.set_cons_succ]
  refine wpAnyH_takeL (i := 3) (v := ?vA3) rfl (by kernel_rfl) (by kernel_rfl) (by kernel_rfl) (fun _ _ _ h => h) (Or.inl ⟨by kernel_rfl, ?runA3⟩) hHeld ?_
  case runA3 => (intro w9 hS9; obtain ⟨c0, c1, c2, c3, c4⟩ := HSS.out w9 hS9; go_simp; try exact rfl)
  try simp only [Act.put, List.setIfInBounds_toArray, List.set_cons_zero, List.set_cons_succ]
  refine wpAnyH_takeL (i := 5) (v := ?vA5) rfl (by kernel_rfl) (by kernel_rfl) (by kernel_rfl) (fun _ _ _ h => h) (Or.inl ⟨by kernel_rfl, ?runA5⟩) hHeld ?_
  case runA5 => (intro w9 hS9; obtain ⟨c0, c1, c2, c3, c4⟩ := HSS.out w9 hS9; go_simp; try exact rfl)
  try simp only [Act.put, List.setIfInBounds_toArray, List.set_cons_zero, List.set_cons_succ]
  refine wpAnyH_takeL (i := 6) (v := ?vA6) rfl (by kernel_rfl) (by kernel_rfl) (by kernel_rfl) (fun _ _ _ h => h) (Or.inl ⟨by kernel_rfl, ?runA6⟩) hHeld ?_
  case runA6 => (intro w9 hS9; obtain ⟨c0, c1, c2, c3, c4⟩ := HSS.out w9 hS9; go_simp; try exact rfl)
  try simp only [Act.put, List.setIfInBounds_toArray, List.set_cons_zero, List.set_cons_succ]
  refine wpAnyH_takeL (i := 7) (v := ?vA7) rfl (by kernel_rfl) (by kernel_rfl) (by kernel_rfl) (fun _ _ _ h => h) (Or.inl ⟨by kernel_rfl, ?runA7⟩) hHeld ?_
  case runA7 => (intro w9 hS9; obtain ⟨c0, c1, c2, c3, c4⟩ := HSS.out w9 hS9; go_simp; try exact rfl)
  try simp only [Act.put, List.setIfInBounds_toArray, List.set_cons_zero, List.set_cons_succ]
  have HKd : Hid (Keep [] w1 w2.drew) := Lib.hid HK1.out.drew
  have HRd : Hid (RB w2.drew v1 l1 o1) := Lib.hid (HR1.out.keep ((Keep.refl [] w2).drew) (by simp))
  clear HK1 HR1
  generalize w2.drew = w3 at *
  refine wpAnyH_inv (fun d f W => ∃ o, RPut2 w1 v1 l1 l2 l3 d f W o) [3, 14, 18] [4, 8, 9] (by kernel_rfl) (by kernel_rfl) (by kernel_rfl) (fun _ _ _ h => h.elim fun _ h => h.keep) ⟨_, { keep := HKd.out, own := HO1.out, lt := HRd.out.lt, row0 := fun _ => HRd.out, row1 := fun h _ => (nomatch (show false = true from h)), row2 := fun h => (nomatch (show false = true from h)), ord1 := fun _ => rfl, asg9 := fun h => (nomatch (show false = true from h)), aord9 := fun _ => rfl }⟩ (AllInv.cons rfl rfl (fun d f W hi hdep hJ K hK => ?_) (AllInv.cons rfl rfl (fun d f W hi hdep hJ K hK => ?_) (AllInv.cons rfl rfl (fun d f W hi hdep hJ K hK => ?_) (AllInv.nil)))) (fun f W hJ => ?_)
  · obtain ⟨o, h⟩ := hJ
    have hrow := h.row0 hi
    have hct := HCa.out _ _ _ hrow
    have HCT := Lib.hid hct
    clear hct
    simp only [mixA, List.foldl, List.setIfInBounds_toArray, List.set_cons_zero, List.set_cons_succ]
    go_simp
    refine HCT.out.mono ?_
    rintro e W' ⟨v', o', rfl, hr, hk, ho⟩
    have hg := grew_base h.keep h.own hk ho
    go_wp2_with fail
    have hz := hK.out (fun i => if i = 14 then v' else f i) _ ⟨o', { keep := hg.1, own := hg.2, lt := hr.lt, row0 := fun h1 => by simp [upd] at h1, row1 := fun _ _ => hr, row2 := fun h1 => by have := h.ord1 hi; simp [upd, this] at h1, ord1 := fun h1 => by first | (simp [upd] at h1; done) | (have := h.ord1 (by simpa [upd] using h1); simpa [upd] using this), asg9 := fun h1 => by have := h.asg9 (by simpa [upd] using h1); exact this, aord9 := fun h1 => by have := h.aord9 (by simpa [upd] using h1); simpa [upd] using this }⟩
    clear hK
    simp only [mixA, List.foldl, List.setIfInBounds_toArray, List.set_cons_zero, List.set_cons_succ] at hz
    exact hz
  · obtain ⟨o, h⟩ := hJ
    have hrow := h.row1 (hdep 4 (of_decide_eq_true (by kernel_rfl))) hi
    have hct := HCb.out _ _ _ hrow
    have HCT := Lib.hid hct
    clear hct
    simp only [mixA, List.foldl, List.setIfInBounds_toArray, List.set_cons_zero, List.set_cons_succ]
    go_simp
    refine HCT.out.mono ?_
    rintro e W' ⟨v', o', rfl, hr, hk, ho⟩
    have hg := grew_base h.keep h.own hk ho
    go_wp2_with fail
    have hz := hK.out (fun i => if i = 18 then v' else f i) _ ⟨o', { keep := hg.1, own := hg.2, lt := hr.lt, row0 := fun h1 => by have h8 := (show d 4 = false from by simpa [upd] using h1); have h9 := hdep 4 (of_decide_eq_true (by kernel_rfl)); simp [h8] at h9, row1 := fun h1 h2 => by simp [upd] at h2, row2 := fun _ => hr, ord1 := fun h1 => by have := hdep 4 (of_decide_eq_true (by kernel_rfl)); simp [upd, this] at h1, asg9 := fun h1 => by have := h.aord9 hi; simp [upd, this] at h1, aord9 := fun h1 => by simp [upd] at h1 }⟩
    clear hK
    simp only [mixA, List.foldl, List.setIfInBounds_toArray, List.set_cons_zero, List.set_cons_succ] at hz
    exact hz
  · obtain ⟨o, h⟩ := hJ
    simp only [mixA, List.foldl, List.setIfInBounds_toArray, List.set_cons_zero, List.set_cons_succ]
    go_simp
    have hz := hK.out (fun i => if i = 3 then f 18 else f i) _ ⟨o, { keep := h.keep, own := h.own, lt := h.lt, row0 := fun h1 => h.row0 (by simpa [upd] using h1), row1 := fun h1 h2 => h.row1 (by simpa [upd] using h1) (by simpa [upd] using h2), row2 := fun h1 => h.row2 (by simpa [upd] using h1), ord1 := fun h1 => by have := h.ord1 (by simpa [upd] using h1); simpa [upd] using this, asg9 := fun _ => rfl, aord9 := fun h1 => by have := hdep 8 (of_decide_eq_true (by kernel_rfl)); simp [upd, this] at h1 }⟩
    clear hK
    simp only [mixA, List.foldl, List.setIfInBounds_toArray, List.set_cons_zero, List.set_cons_succ] at hz
    exact hz
  · obtain ⟨o, h⟩ := hJ
    simp only [mixA, List.foldl, List.setIfInBounds_toArray, List.set_cons_zero, List.set_cons_succ]
    rw [h.asg9 rfl]
    have HR2 := Lib.hid (h.row2 rfl)
    have HO2 := Lib.hid h.own
    have HK2 := Lib.hid h.keep
    clear h HRd HKd HO1
    have hcv3 := HCV.out W HK2.out
    obtain ⟨c0, c1, c2, c3, c4⟩ := HSS.out W HK2.out
    go_wp2_with fail
    clear hcv3
    refine (HCc.out _ _ _ HR2.out).mono ?_
    rintro e w4 ⟨v4, o4, rfl, hr4, hk4, ho4⟩
    obtain ⟨g1, g2⟩ := grew_base HK2.out HO2.out hk4 ho4
    have HK4 := Lib.hid g1
    have HO4 := Lib.hid g2
    have HR4 := Lib.hid hr4
    clear g1 g2 hr4 hk4 ho4 HK2 HO2 HR2 c0 c1 c2 c3 c4
    obtain ⟨c0, c1, c2, c3, c4⟩ := HSS.out w4 HK4.out
    go_wp2_with fail
    refine (HCd.out _ _ _ HR4.out).mono ?_
    rintro e w5 ⟨v5, o5, rfl, hr5, hk5, ho5⟩
    obtain ⟨g1, g2⟩ := grew_base HK4.out HO4.out hk5 ho5
    have HK5 := Lib.hid g1
    have HO5 := Lib.hid g2
    have HR5 := Lib.hid hr5
    clear g1 g2 hr5 hk5 ho5 HK4 HO4 HR4 c0 c1 c2 c3 c4
    go_wp2_with fail
    go_loopw [3, 4] (fun v i wr => ∃ (k : Nat) (o' : Option Nat), k ≤ m.places.length ∧ i = .int .i64 k ∧ RB wr v (L0 ++ ((m.places.take k).map (·.p)).flatMap plcL) o' ∧ (∀ x, o' = some x → w1.heap.size ≤ x) ∧ Keep [] w1 wr) (fun _ i _ => m.places.length - (intOf i).toNat)
    case atStart => exact ⟨0, o5, Nat.zero_le _, rfl, by simpa using HR5.out, HO5.out, HK5.out⟩
    case round =>
      obtain ⟨k, o', hk, rfl, hrow, ho, hkw⟩ := hrel
      have HR := Lib.hid hrow
      have HO := Lib.hid ho
      have HK := Lib.hid hkw
      clear hrow ho hkw HR5 HO5 HK5
      obtain ⟨c0, c1, c2, c3, c4⟩ := HSS.out _ HK.out
      by_cases hlt : k < m.places.length
      · obtain ⟨x, hx⟩ : ∃ x, x = m.places[k] := ⟨_, rfl⟩
        have hpl2 := HPL.out.keep (HW1.out.trans HK.out (by simp)) (by simp)
        rw [hpv] at hpl2
        obtain ⟨pb, poff, rfl, hpb, g0, g1, g2⟩ := hpl2.at hlt
        clear hpl2
        have hpx := HPL.out.2.1 _ (List.getElem_mem hlt)
        rw [← hx] at g0 g1 g2 hpx
        obtain ⟨hx1, hx2, hx3⟩ := hpx
        obtain ⟨xa, xc, hxv, hxc1, hxc2⟩ := hx3.slice
        rw [hxv] at g2 hx3
        have HX3 := Lib.hid hx3
        have hst : L0 ++ ((m.places.take (k + 1)).map (·.p)).flatMap plcL = (L0 ++ ((m.places.take k).map (·.p)).flatMap plcL) ++ plcL x.p := by
          rw [List.take_succ_eq_append_getElem hlt, List.map_append, List.flatMap_append, List.append_assoc, ← hx]; simp
        have hlen : (L0 ++ ((m.places.take k).map (·.p)).flatMap plcL).length + (plcL x.p).length ≤ 1000000000 := by
          have h1 := HSZ.out
          have h2 : (m.places.map (·.p)).flatMap plcL = ((m.places.take (k + 1)).map (·.p)).flatMap plcL ++ ((m.places.drop (k + 1)).map (·.p)).flatMap plcL := by rw [← List.flatMap_append, ← List.map_append, List.take_append_drop]
          rw [HLL.out, h2, ← List.append_assoc, hst] at h1
          simp only [List.length_append] at h1 ⊢
          omega
        obtain ⟨lk, hlk⟩ : ∃ q, q = L0 ++ ((m.places.take k).map (·.p)).flatMap plcL := ⟨_, rfl⟩
        rw [← hlk] at hst hlen HR
        obtain ⟨k1, hk1⟩ : ∃ q, q = lk ++ intL x.p.pid := ⟨_, rfl⟩
        obtain ⟨k2, hk2⟩ : ∃ q, q = k1 ++ intL x.p.len := ⟨_, rfl⟩
        obtain ⟨k3, hk3⟩ : ∃ q, q = k2 ++ numL x.p.pieces.length 0 := ⟨_, rfl⟩
        have hpl : plcL x.p = intL x.p.pid ++ intL x.p.len ++ numL x.p.pieces.length 0 ++ x.p.pieces.flatMap extL := by unfold plcL; simp
        have hst2 : lk ++ plcL x.p = k3 ++ x.p.pieces.flatMap extL := by rw [hk3, hk2, hk1, hpl]; simp
        have hlen2 : k3.length + (x.p.pieces.flatMap extL).length ≤ 1000000000 := by
          have := congrArg List.length hst2
          simp only [List.length_append] at this hlen; omega
        have hlen1 : k2.length ≤ 1000000000 := by rw [hk3] at hlen2; simp only [List.length_append] at hlen2; omega
        have hlen0 : k1.length ≤ 1000000000 := by rw [hk2] at hlen1; simp only [List.length_append] at hlen1; omega
        have hlenk : lk.length ≤ 1000000000 := by rw [hk1] at hlen0; simp only [List.length_append] at hlen0; omega
        have hpn : x.p.pieces.length < 18446744073709551616 := by have := hx3.2.2; omega
        have hc1 : ∀ W v o, RB W v lk o → Calls Try.prog 45 #[v, .int .i64 x.p.pid] W (GrewP o W k1) := fun W v o hr => by rw [hk1]; exact r_int1 hr hlenk hx1.1 hx1.2
        have hc2 : ∀ W v o, RB W v k1 o → Calls Try.prog 45 #[v, .int .i64 x.p.len] W (GrewP o W k2) := fun W v o hr => by rw [hk2]; exact r_int1 hr hlen0 hx2.1 hx2.2
        have hc3 : ∀ W v o, RB W v k2 o → Calls Try.prog 46 #[v, .int .u64 (x.p.pieces.length : Int)] W (GrewP o W k3) := fun W v o hr => by rw [hk3]; exact r_uint hr hlen1 hpn
        have hu5 : IntKind.u64.wrap (x.p.pieces.length : Int) = (x.p.pieces.length : Int) := IntWalk.u64_in _ (by omega)
        have HC1 := Lib.hid hc1
        have HC2 := Lib.hid hc2
        have HC3 := Lib.hid hc3
        have HST := Lib.hid (hst.trans hst2)
        have HLEN := Lib.hid hlen2
        unfold maxLen at hxc2
        clear hc1 hc2 hc3 hst hst2 hlen hlen0 hlen1 hlen2 hlenk hk1 hk2 hk3 hlk hpl hx3 hxv hx
        have i0' : (0 : Int) ≤ (k : Int) := by omega
        have i1' : (k : Int) < (m.places.length : Int) := by omega
        go_wp2_with fail
        have HB5 := Lib.hid (heap_new wr (.cells #[.int .i64 x.p.pid, .int .i64 x.p.len, .slice xa x.p.pieces.length xc] 43))
        have HK5 := Lib.hid ((HK.out.alloc (.cells #[.int .i64 x.p.pid, .int .i64 x.p.len, .slice xa x.p.pieces.length xc] 43)).drew)
        have HR5 := Lib.hid (HR.out.keep (((Keep.refl [] wr).alloc (.cells #[.int .i64 x.p.pid, .int .i64 x.p.len, .slice xa x.p.pieces.length xc] 43)).drew) (by simp))
        have HN5 := Lib.hid (lit_new_ne HR.out)
        have HBX := Lib.hid HK.out.size
        generalize wr.alloc (.cells #[.int .i64 x.p.pid, .int .i64 x.p.len, .slice xa x.p.pieces.length xc] 43) = wb at *
        clear g0 g1 g2 c0 c1 c2 c3 c4
    
        refine wp_region_held_drew (S := fun w' => Keep [] w1 w' ∧ w'.heap[wr.heap.size]? = some (.cells #[.int .i64 x.p.pid, .int .i64 x.p.len, .slice xa x.p.pieces.length xc] 43)) (by kernel_rfl) ⟨HK5.out, HB5.out⟩ (fun hHeld => ?_)
        refine wpAnyH_takeL (i := 0) (v := ?vC0) rfl (by kernel_rfl) (by kernel_rfl) (by kernel_rfl) (fun _ _ _ h => h) (Or.inl ⟨by kernel_rfl, ?runC0⟩) hHeld ?_
        case runC0 => (intro w9 hS9; obtain ⟨c0, c1, c2, -⟩ := cells3 hS9.2; go_simp; try exact rfl)
        try simp only [Act.put, List.setIfInBounds_toArray, List.set_cons_zero, List.set_cons_succ]
        refine wpAnyH_takeL (i := 1) (v := ?vC1) rfl (by kernel_rfl) (by kernel_rfl) (by kernel_rfl) (fun _ _ _ h => h) (Or.inl ⟨by kernel_rfl, ?runC1⟩) hHeld ?_
        case runC1 => (intro w9 hS9; obtain ⟨c0, c1, c2, -⟩ := cells3 hS9.2; go_simp; try exact rfl)
        try simp only [Act.put, List.setIfInBounds_toArray, List.set_cons_zero, List.set_cons_succ]
        refine wpAnyH_takeL (i := 2) (v := ?vC2) rfl (by kernel_rfl) (by kernel_rfl) (by kernel_rfl) (fun _ _ _ h => h) (Or.inl ⟨by kernel_rfl, ?runC2⟩) hHeld ?_
        case runC2 => (intro w9 hS9; obtain ⟨c0, c1, c2, -⟩ := cells3 hS9.2; go_simp; try exact rfl)
        try simp only [Act.put, List.setIfInBounds_toArray, List.set_cons_zero, List.set_cons_succ]
        refine wpAnyH_takeL (i := 4) (v := ?vC4) rfl (by kernel_rfl) (by kernel_rfl) (by kernel_rfl) (fun _ _ _ h => h) (Or.inl ⟨by kernel_rfl, ?runC4⟩) hHeld ?_
        case runC4 => (intro w9 hS9; obtain ⟨c0, c1, c2, -⟩ := cells3 hS9.2; go_simp; try exact rfl)
        try simp only [Act.put, List.setIfInBounds_toArray, List.set_cons_zero, List.set_cons_succ]
        refine wpAnyH_takeL (i := 5) (v := ?vC5) rfl (by kernel_rfl) (by kernel_rfl) (by kernel_rfl) (fun _ _ _ h => h) (Or.inl ⟨by kernel_rfl, ?runC5⟩) hHeld ?_
        case runC5 => (intro w9 hS9; obtain ⟨c0, c1, c2, -⟩ := cells3 hS9.2; go_simp; try exact rfl)
        try simp only [Act.put, List.setIfInBounds_toArray, List.set_cons_zero, List.set_cons_succ]
        refine wpAnyH_takeL (i := 7) (v := ?vC7) rfl (by kernel_rfl) (by kernel_rfl) (by kernel_rfl) (fun _ _ _ h => h) (Or.inl ⟨by kernel_rfl, ?runC7⟩) hHeld ?_
        case runC7 => (intro w9 hS9; obtain ⟨c0, c1, c2, -⟩ := cells3 hS9.2; go_simp; try exact rfl)
        try simp only [Act.put, List.setIfInBounds_toArray, List.set_cons_zero, List.set_cons_succ]
        refine wpAnyH_takeL (i := 8) (v := ?vC8) rfl (by kernel_rfl) (by kernel_rfl) (by kernel_rfl) (fun _ _ _ h => h) (Or.inl ⟨by kernel_rfl, ?runC8⟩) hHeld ?_
        case runC8 => (intro w9 hS9; obtain ⟨c0, c1, c2, -⟩ := cells3 hS9.2; go_simp; try exact rfl)
        try simp only [Act.put, List.setIfInBounds_toArray, List.set_cons_zero, List.set_cons_succ]
        refine wpAnyH_takeL (i := 9) (v := ?vC9) rfl (by kernel_rfl) (by kernel_rfl) (by kernel_rfl) (fun _ _ _ h => h) (Or.inl ⟨by kernel_rfl, ?runC9⟩) hHeld ?_
        case runC9 => (intro w9 hS9; obtain ⟨c0, c1, c2, -⟩ := cells3 hS9.2; go_simp; try exact rfl)
        try simp only [Act.put, List.setIfInBounds_toArray, List.set_cons_zero, List.set_cons_succ]
        refine wpAnyH_takeL (i := 10) (v := .int .u64 (x.p.pieces.length : Int)) rfl (by kernel_rfl) (by kernel_rfl) (by kernel_rfl) (fun _ _ _ h => h) (Or.inl ⟨by kernel_rfl, ?runC10⟩) hHeld ?_
        case runC10 => (intro w9 hS9; obtain ⟨c0, c1, c2, -⟩ := cells3 hS9.2; go_simp; first | done | (rw [hu5]; rfl) | (simp [hu5]; done))
        try simp only [Act.put, List.setIfInBounds_toArray, List.set_cons_zero, List.set_cons_succ]
        have HBd : Hid (wb.drew.heap[wr.heap.size]? = some (.cells #[.int .i64 x.p.pid, .int .i64 x.p.len, .slice xa x.p.pieces.length xc] 43)) := Lib.hid HB5.out
        clear HB5
        generalize wb.drew = wc at *
        refine wpAnyH_inv (fun d f W => ∃ o, RPut9 w1 wr.heap.size (.cells #[.int .i64 x.p.pid, .int .i64 x.p.len, .slice xa x.p.pieces.length xc] 43) u3 lk k1 k2 k3 d f W o) [3, 45, 48, 53] [3, 6, 11, 12] (by kernel_rfl) (by kernel_rfl) (by kernel_rfl) (fun _ _ _ h => h.elim fun _ h => ⟨h.keep, h.box0.1⟩) ⟨_, { keep := HK5.out, own := HO.out, lt := HR5.out.lt, box0 := ⟨HBd.out, HN5.out⟩, row0 := fun _ => HR5.out, row1 := fun h _ => (nomatch (show false = true from h)), row2 := fun h _ => (nomatch (show false = true from h)), ord1 := fun _ => rfl, row3 := fun h => (nomatch (show false = true from h)), ord2 := fun _ => rfl, asg12 := fun h => (nomatch (show false = true from h)), aord12 := fun _ => rfl }⟩ (AllInv.cons rfl rfl (fun d f W hi hdep hJ K hK => ?_) (AllInv.cons rfl rfl (fun d f W hi hdep hJ K hK => ?_) (AllInv.cons rfl rfl (fun d f W hi hdep hJ K hK => ?_) (AllInv.cons rfl rfl (fun d f W hi hdep hJ K hK => ?_) (AllInv.nil))))) (fun f W hJ => ?_)
        · obtain ⟨o, h⟩ := hJ
          have hrow := h.row0 hi
          have hct := HC1.out _ _ _ hrow
          have HCT := Lib.hid hct
          clear hct
          simp only [mixA, List.foldl, List.setIfInBounds_toArray, List.set_cons_zero, List.set_cons_succ]
          go_simp
          refine HCT.out.mono ?_
          rintro e W' ⟨v', o', rfl, hr, hk, ho⟩
          have hg := grew_base h.keep h.own hk ho
          go_wp2_with fail
          have hz := hK.out (fun i => if i = 45 then v' else f i) _ ⟨o', { keep := hg.1, own := hg.2, lt := hr.lt, box0 := grew_lit h.box0.1 h.box0.2 hk ho, row0 := fun h1 => by simp [upd] at h1, row1 := fun _ _ => hr, row2 := fun h1 h2 => by have := h.ord1 hi; simp [upd, this] at h1, ord1 := fun h1 => by first | (simp [upd] at h1; done) | (have := h.ord1 (by simpa [upd] using h1); simpa [upd] using this), row3 := fun h1 => by have := h.ord2 (h.ord1 hi); simp [upd, this] at h1, ord2 := fun h1 => by first | (simp [upd] at h1; done) | (have := h.ord2 (by simpa [upd] using h1); simpa [upd] using this), asg12 := fun h1 => by have := h.asg12 (by simpa [upd] using h1); exact this, aord12 := fun h1 => by have := h.aord12 (by simpa [upd] using h1); simpa [upd] using this }⟩
          clear hK
          simp only [mixA, List.foldl, List.setIfInBounds_toArray, List.set_cons_zero, List.set_cons_succ] at hz
          exact hz
        · obtain ⟨o, h⟩ := hJ
          have hrow := h.row1 (hdep 3 (of_decide_eq_true (by kernel_rfl))) hi
          have hct := HC2.out _ _ _ hrow
          have HCT := Lib.hid hct
          clear hct
          simp only [mixA, List.foldl, List.setIfInBounds_toArray, List.set_cons_zero, List.set_cons_succ]
          go_simp
          refine HCT.out.mono ?_
          rintro e W' ⟨v', o', rfl, hr, hk, ho⟩
          have hg := grew_base h.keep h.own hk ho
          go_wp2_with fail
          have hz := hK.out (fun i => if i = 48 then v' else f i) _ ⟨o', { keep := hg.1, own := hg.2, lt := hr.lt, box0 := grew_lit h.box0.1 h.box0.2 hk ho, row0 := fun h1 => by have h8 := (show d 3 = false from by simpa [upd] using h1); have h9 := hdep 3 (of_decide_eq_true (by kernel_rfl)); simp [h8] at h9, row1 := fun h1 h2 => by simp [upd] at h2, row2 := fun _ _ => hr, ord1 := fun h1 => by have := hdep 3 (of_decide_eq_true (by kernel_rfl)); simp [upd, this] at h1, row3 := fun h1 => by have := h.ord2 hi; simp [upd, this] at h1, ord2 := fun h1 => by first | (simp [upd] at h1; done) | (have := h.ord2 (by simpa [upd] using h1); simpa [upd] using this), asg12 := fun h1 => by have := h.asg12 (by simpa [upd] using h1); exact this, aord12 := fun h1 => by have := h.aord12 (by simpa [upd] using h1); simpa [upd] using this }⟩
          clear hK
          simp only [mixA, List.foldl, List.setIfInBounds_toArray, List.set_cons_zero, List.set_cons_succ] at hz
          exact hz
        · obtain ⟨o, h⟩ := hJ
          have hrow := h.row2 (hdep 6 (of_decide_eq_true (by kernel_rfl))) hi
          have hct := HC3.out _ _ _ hrow
          have HCT := Lib.hid hct
          clear hct
          simp only [mixA, List.foldl, List.setIfInBounds_toArray, List.set_cons_zero, List.set_cons_succ]
          go_simp
          refine HCT.out.mono ?_
          rintro e W' ⟨v', o', rfl, hr, hk, ho⟩
          have hg := grew_base h.keep h.own hk ho
          go_wp2_with fail
          have hz := hK.out (fun i => if i = 53 then v' else f i) _ ⟨o', { keep := hg.1, own := hg.2, lt := hr.lt, box0 := grew_lit h.box0.1 h.box0.2 hk ho, row0 := fun h1 => by have h8 := (h.ord1 (show d 3 = false from by simpa [upd] using h1)); have h9 := hdep 6 (of_decide_eq_true (by kernel_rfl)); simp [h8] at h9, row1 := fun h1 h2 => by have h8 := (show d 6 = false from by simpa [upd] using h2); have h9 := hdep 6 (of_decide_eq_true (by kernel_rfl)); simp [h8] at h9, row2 := fun h1 h2 => by simp [upd] at h2, ord1 := fun h1 => by first | (simp [upd] at h1; done) | (have := h.ord1 (by simpa [upd] using h1); simpa [upd] using this), row3 := fun _ => hr, ord2 := fun h1 => by have := hdep 6 (of_decide_eq_true (by kernel_rfl)); simp [upd, this] at h1, asg12 := fun h1 => by have := h.aord12 hi; simp [upd, this] at h1, aord12 := fun h1 => by simp [upd] at h1 }⟩
          clear hK
          simp only [mixA, List.foldl, List.setIfInBounds_toArray, List.set_cons_zero, List.set_cons_succ] at hz
          exact hz
        · obtain ⟨o, h⟩ := hJ
          simp only [mixA, List.foldl, List.setIfInBounds_toArray, List.set_cons_zero, List.set_cons_succ]
          go_simp
          have hz := hK.out (fun i => if i = 3 then f 53 else f i) _ ⟨o, { keep := h.keep, own := h.own, lt := h.lt, box0 := h.box0, row0 := fun h1 => h.row0 (by simpa [upd] using h1), row1 := fun h1 h2 => h.row1 (by simpa [upd] using h1) (by simpa [upd] using h2), row2 := fun h1 h2 => h.row2 (by simpa [upd] using h1) (by simpa [upd] using h2), ord1 := fun h1 => by have := h.ord1 (by simpa [upd] using h1); simpa [upd] using this, row3 := fun h1 => h.row3 (by simpa [upd] using h1), ord2 := fun h1 => by have := h.ord2 (by simpa [upd] using h1); simpa [upd] using this, asg12 := fun _ => rfl, aord12 := fun h1 => by have := hdep 11 (of_decide_eq_true (by kernel_rfl)); simp [upd, this] at h1 }⟩
          clear hK
          simp only [mixA, List.foldl, List.setIfInBounds_toArray, List.set_cons_zero, List.set_cons_succ] at hz
          exact hz
        · obtain ⟨o, h⟩ := hJ
          simp only [mixA, List.foldl, List.setIfInBounds_toArray, List.set_cons_zero, List.set_cons_succ]
          rw [h.asg12 rfl]
          have HR6 := Lib.hid (h.row3 rfl)
          have HO6 := Lib.hid h.own
          have HK6 := Lib.hid h.keep
          have HB6 := Lib.hid h.box0
          clear h HR5 HK5 HBd HN5 HC1 HC2 HC3
          obtain ⟨bx, hbx⟩ : ∃ q, q = wr.heap.size := ⟨_, rfl⟩
          rw [← hbx] at HB6
          rw [← hbx]
          clear hbx
          go_wp2_with fail
          go_loopw [3, 6] (fun v i wr => ∃ (j : Nat) (oq : Option Nat), j ≤ x.p.pieces.length ∧ i = .int .i64 j ∧ RB wr v (k3 ++ (x.p.pieces.take j).flatMap extL) oq ∧ (∀ y, oq = some y → w1.heap.size ≤ y) ∧ Keep [] w1 wr ∧ wr.heap[bx]? = some (.cells #[.int .i64 x.p.pid, .int .i64 x.p.len, .slice xa x.p.pieces.length xc] 43) ∧ some bx ≠ oq) (fun _ i _ => x.p.pieces.length - (intOf i).toNat)
          case atStart => exact ⟨0, o, Nat.zero_le _, rfl, by simpa using HR6.out, HO6.out, HK6.out, HB6.out⟩
          case round =>
            clear HR6 HO6 HK6 HB6
            obtain ⟨j, oq, hj, rfl, hrq, hoq, hkq, hbq, hnq⟩ := hrel
            obtain ⟨b0, b1, b2, -⟩ := cells3 hbq
            by_cases hjl : j < x.p.pieces.length
            · have hxq := HX3.out.keep (HW1.out.trans hkq (by simp)) (by simp)
              obtain ⟨b9, off9, rfl, hb9, -, -⟩ := hxq.at hjl
              have hok := hxq.2.1 _ (List.getElem_mem hjl)
              clear hxq
              obtain ⟨y, hy⟩ : ∃ q, q = x.p.pieces[j] := ⟨_, rfl⟩
              have hd : ∀ wx, Keep [] w1 wx → wx.cell? ⟨b9, off9 + j * 2, none⟩ = some (.int .i64 y.1) ∧ wx.cell? ⟨b9, off9 + j * 2 + 1, none⟩ = some (.int .i64 y.2) := fun wx hx => by
                obtain ⟨b', off', e1, _, d0, d1⟩ := (HX3.out.keep (HW1.out.trans hx (by simp)) (by simp)).at hjl
                cases e1
                rw [hy]; exact ⟨d0, d1⟩
              rw [← hy] at hok
              have hst : k3 ++ (x.p.pieces.take (j + 1)).flatMap extL = (k3 ++ (x.p.pieces.take j).flatMap extL) ++ extL y := by
                rw [List.take_succ_eq_append_getElem hjl, List.flatMap_append, List.append_assoc, ← hy]; simp
              have hlen : (k3 ++ (x.p.pieces.take j).flatMap extL ++ extL y).length ≤ 1000000000 := by
                have h1 := HLEN.out
                have h2 : x.p.pieces.flatMap extL = (x.p.pieces.take (j + 1)).flatMap extL ++ (x.p.pieces.drop (j + 1)).flatMap extL := by rw [← List.flatMap_append, List.take_append_drop]
                rw [← hst]
                rw [h2] at h1
                simp only [List.length_append] at h1 ⊢
                omega
              obtain ⟨lq, hlq⟩ : ∃ q, q = k3 ++ (x.p.pieces.take j).flatMap extL := ⟨_, rfl⟩
              rw [← hlq] at hst hlen hrq
              obtain ⟨q1, hq1⟩ : ∃ q, q = lq ++ intL y.1 := ⟨_, rfl⟩
              obtain ⟨q2, hq2⟩ : ∃ q, q = q1 ++ intL y.2 := ⟨_, rfl⟩
              have hst3 : k3 ++ (x.p.pieces.take (j + 1)).flatMap extL = q2 := by rw [hst, hq2, hq1, extL]; simp
              have hlen3 : q2.length ≤ 1000000000 := by rw [hst] at hst3; rw [← hst3]; exact hlen
              have hlen4 : q1.length ≤ 1000000000 := by rw [hq2, List.length_append] at hlen3; omega
              have hlen5 : lq.length ≤ 1000000000 := by rw [hq1, List.length_append] at hlen4; omega
              have hc1 : ∀ W v o, RB W v lq o → Calls Try.prog 45 #[v, .int .i64 y.1] W (GrewP o W q1) := fun W v o hr => by rw [hq1]; exact r_int1 hr hlen5 hok.1.1 hok.1.2
              have hc2 : ∀ W v o, RB W v q1 o → Calls Try.prog 45 #[v, .int .i64 y.2] W (GrewP o W q2) := fun W v o hr => by rw [hq2]; exact r_int1 hr hlen4 hok.2.1 hok.2.2
              have HC1 := Lib.hid hc1
              have HC2 := Lib.hid hc2
              have HD := Lib.hid hd
              have HQR := Lib.hid (hrq.keep ((Keep.refl [] wr).drew) (by simp))
              have HQO := Lib.hid hoq
              have HQK := Lib.hid hkq.drew
              have HQB : Hid (wr.drew.heap[bx]? = some (.cells #[.int .i64 x.p.pid, .int .i64 x.p.len, .slice (some ⟨b9, off9, none⟩) x.p.pieces.length xc] 43)) := Lib.hid hbq
              have HQN := Lib.hid hnq
              have HST9 := Lib.hid hst3
              have j0' : (0 : Int) ≤ (j : Int) := by omega
              have j1' : (j : Int) < (x.p.pieces.length : Int) := by omega
              clear hrq hoq hkq hbq hnq hst hst3 hlen hlen3 hlen4 hlen5 hok hlq hy hc1 hc2 hd hq1 hq2
              go_wp2_with fail
              clear b0 b1 b2
              refine wp_region_held_drew (S := fun w' => Keep [] w1 w' ∧ w'.heap[bx]? = some (.cells #[.int .i64 x.p.pid, .int .i64 x.p.len, .slice (some ⟨b9, off9, none⟩) x.p.pieces.length xc] 43)) (by kernel_rfl) ⟨HQK.out, HQB.out⟩ (fun hHeld => ?_)
              refine wpAnyH_takeL (i := 0) (v := ?vD0) rfl (by kernel_rfl) (by kernel_rfl) (by kernel_rfl) (fun _ _ _ h => h) (Or.inl ⟨by kernel_rfl, ?runD0⟩) hHeld ?_
              case runD0 => (intro w9 hS9; obtain ⟨c0, c1, c2, -⟩ := cells3 hS9.2; obtain ⟨d0, d1⟩ := HD.out w9 hS9.1; go_simp; try exact rfl)
              try simp only [Act.put, List.setIfInBounds_toArray, List.set_cons_zero, List.set_cons_succ]
              refine wpAnyH_takeL (i := 1) (v := ?vD1) rfl (by kernel_rfl) (by kernel_rfl) (by kernel_rfl) (fun _ _ _ h => h) (Or.inl ⟨by kernel_rfl, ?runD1⟩) hHeld ?_
              case runD1 => (intro w9 hS9; obtain ⟨c0, c1, c2, -⟩ := cells3 hS9.2; obtain ⟨d0, d1⟩ := HD.out w9 hS9.1; go_simp; try exact rfl)
              try simp only [Act.put, List.setIfInBounds_toArray, List.set_cons_zero, List.set_cons_succ]
              refine wpAnyH_takeL (i := 2) (v := ?vD2) rfl (by kernel_rfl) (by kernel_rfl) (by kernel_rfl) (fun _ _ _ h => h) (Or.inl ⟨by kernel_rfl, ?runD2⟩) hHeld ?_
              case runD2 => (intro w9 hS9; obtain ⟨c0, c1, c2, -⟩ := cells3 hS9.2; obtain ⟨d0, d1⟩ := HD.out w9 hS9.1; go_simp; try exact rfl)
              try simp only [Act.put, List.setIfInBounds_toArray, List.set_cons_zero, List.set_cons_succ]
              refine wpAnyH_takeL (i := 3) (v := ?vD3) rfl (by kernel_rfl) (by kernel_rfl) (by kernel_rfl) (fun _ _ _ h => h) (Or.inl ⟨by kernel_rfl, ?runD3⟩) hHeld ?_
              case runD3 => (intro w9 hS9; obtain ⟨c0, c1, c2, -⟩ := cells3 hS9.2; obtain ⟨d0, d1⟩ := HD.out w9 hS9.1; go_simp; try exact rfl)
              try simp only [Act.put, List.setIfInBounds_toArray, List.set_cons_zero, List.set_cons_succ]
              refine wpAnyH_takeL (i := 4) (v := ?vD4) rfl (by kernel_rfl) (by kernel_rfl) (by kernel_rfl) (fun _ _ _ h => h) (Or.inl ⟨by kernel_rfl, ?runD4⟩) hHeld ?_
              case runD4 => (intro w9 hS9; obtain ⟨c0, c1, c2, -⟩ := cells3 hS9.2; obtain ⟨d0, d1⟩ := HD.out w9 hS9.1; go_simp; try exact rfl)
              try simp only [Act.put, List.setIfInBounds_toArray, List.set_cons_zero, List.set_cons_succ]
              refine wpAnyH_takeL (i := 5) (v := ?vD5) rfl (by kernel_rfl) (by kernel_rfl) (by kernel_rfl) (fun _ _ _ h => h) (Or.inl ⟨by kernel_rfl, ?runD5⟩) hHeld ?_
              case runD5 => (intro w9 hS9; obtain ⟨c0, c1, c2, -⟩ := cells3 hS9.2; obtain ⟨d0, d1⟩ := HD.out w9 hS9.1; go_simp; try exact rfl)
              try simp only [Act.put, List.setIfInBounds_toArray, List.set_cons_zero, List.set_cons_succ]
              refine wpAnyH_takeL (i := 6) (v := ?vD6) rfl (by kernel_rfl) (by kernel_rfl) (by kernel_rfl) (fun _ _ _ h => h) (Or.inl ⟨by kernel_rfl, ?runD6⟩) hHeld ?_
              case runD6 => (intro w9 hS9; obtain ⟨c0, c1, c2, -⟩ := cells3 hS9.2; obtain ⟨d0, d1⟩ := HD.out w9 hS9.1; go_simp; try exact rfl)
              try simp only [Act.put, List.setIfInBounds_toArray, List.set_cons_zero, List.set_cons_succ]
              refine wpAnyH_takeL (i := 8) (v := ?vD8) rfl (by kernel_rfl) (by kernel_rfl) (by kernel_rfl) (fun _ _ _ h => h) (Or.inl ⟨by kernel_rfl, ?runD8⟩) hHeld ?_
              case runD8 => (intro w9 hS9; obtain ⟨c0, c1, c2, -⟩ := cells3 hS9.2; obtain ⟨d0, d1⟩ := HD.out w9 hS9.1; go_simp; try exact rfl)
              try simp only [Act.put, List.setIfInBounds_toArray, List.set_cons_zero, List.set_cons_succ]
              refine wpAnyH_takeL (i := 9) (v := ?vD9) rfl (by kernel_rfl) (by kernel_rfl) (by kernel_rfl) (fun _ _ _ h => h) (Or.inl ⟨by kernel_rfl, ?runD9⟩) hHeld ?_
              case runD9 => (intro w9 hS9; obtain ⟨c0, c1, c2, -⟩ := cells3 hS9.2; obtain ⟨d0, d1⟩ := HD.out w9 hS9.1; go_simp; try exact rfl)
              try simp only [Act.put, List.setIfInBounds_toArray, List.set_cons_zero, List.set_cons_succ]
              refine wpAnyH_takeL (i := 10) (v := ?vD10) rfl (by kernel_rfl) (by kernel_rfl) (by kernel_rfl) (fun _ _ _ h => h) (Or.inl ⟨by kernel_rfl, ?runD10⟩) hHeld ?_
              case runD10 => (intro w9 hS9; obtain ⟨c0, c1, c2, -⟩ := cells3 hS9.2; obtain ⟨d0, d1⟩ := HD.out w9 hS9.1; go_simp; try exact rfl)
              try simp only [Act.put, List.setIfInBounds_toArray, List.set_cons_zero, List.set_cons_succ]
              refine wpAnyH_takeL (i := 11) (v := ?vD11) rfl (by kernel_rfl) (by kernel_rfl) (by kernel_rfl) (fun _ _ _ h => h) (Or.inl ⟨by kernel_rfl, ?runD11⟩) hHeld ?_
              case runD11 => (intro w9 hS9; obtain ⟨c0, c1, c2, -⟩ := cells3 hS9.2; obtain ⟨d0, d1⟩ := HD.out w9 hS9.1; go_simp; try exact rfl)
              try simp only [Act.put, List.setIfInBounds_toArray, List.set_cons_zero, List.set_cons_succ]
              refine wpAnyH_takeL (i := 12) (v := ?vD12) rfl (by kernel_rfl) (by kernel_rfl) (by kernel_rfl) (fun _ _ _ h => h) (Or.inl ⟨by kernel_rfl, ?runD12⟩) hHeld ?_
              case runD12 => (intro w9 hS9; obtain ⟨c0, c1, c2, -⟩ := cells3 hS9.2; obtain ⟨d0, d1⟩ := HD.out w9 hS9.1; go_simp; try exact rfl)
              try simp only [Act.put, List.setIfInBounds_toArray, List.set_cons_zero, List.set_cons_succ]
              refine wpAnyH_takeL (i := 13) (v := ?vD13) rfl (by kernel_rfl) (by kernel_rfl) (by kernel_rfl) (fun _ _ _ h => h) (Or.inl ⟨by kernel_rfl, ?runD13⟩) hHeld ?_
              case runD13 => (intro w9 hS9; obtain ⟨c0, c1, c2, -⟩ := cells3 hS9.2; obtain ⟨d0, d1⟩ := HD.out w9 hS9.1; go_simp; try exact rfl)
              try simp only [Act.put, List.setIfInBounds_toArray, List.set_cons_zero, List.set_cons_succ]
              generalize wr.drew = wc at *
              refine wpAnyH_inv (fun d f W => ∃ o, RPut13 w1 bx (.cells #[.int .i64 x.p.pid, .int .i64 x.p.len, .slice (some ⟨b9, off9, none⟩) x.p.pieces.length xc] 43) u3 lq q1 q2 d f W o) [3, 68, 75] [7, 14, 15] (by kernel_rfl) (by kernel_rfl) (by kernel_rfl) (fun _ _ _ h => h.elim fun _ h => ⟨h.keep, h.box0.1⟩) ⟨_, { keep := HQK.out, own := HQO.out, lt := HQR.out.lt, box0 := ⟨HQB.out, HQN.out⟩, row0 := fun _ => HQR.out, row1 := fun h _ => (nomatch (show false = true from h)), row2 := fun h => (nomatch (show false = true from h)), ord1 := fun _ => rfl, asg15 := fun h => (nomatch (show false = true from h)), aord15 := fun _ => rfl }⟩ (AllInv.cons rfl rfl (fun d f W hi hdep hJ K hK => ?_) (AllInv.cons rfl rfl (fun d f W hi hdep hJ K hK => ?_) (AllInv.cons rfl rfl (fun d f W hi hdep hJ K hK => ?_) (AllInv.nil)))) (fun f W hJ => ?_)
              · obtain ⟨o, h⟩ := hJ
                have hrow := h.row0 hi
                have hct := HC1.out _ _ _ hrow
                have HCT := Lib.hid hct
                clear hct
                simp only [mixA, List.foldl, List.setIfInBounds_toArray, List.set_cons_zero, List.set_cons_succ]
                go_simp
                refine HCT.out.mono ?_
                rintro e W' ⟨v', o', rfl, hr, hk, ho⟩
                have hg := grew_base h.keep h.own hk ho
                go_wp2_with fail
                have hz := hK.out (fun i => if i = 68 then v' else f i) _ ⟨o', { keep := hg.1, own := hg.2, lt := hr.lt, box0 := grew_lit h.box0.1 h.box0.2 hk ho, row0 := fun h1 => by simp [upd] at h1, row1 := fun _ _ => hr, row2 := fun h1 => by have := h.ord1 hi; simp [upd, this] at h1, ord1 := fun h1 => by first | (simp [upd] at h1; done) | (have := h.ord1 (by simpa [upd] using h1); simpa [upd] using this), asg15 := fun h1 => by have := h.asg15 (by simpa [upd] using h1); exact this, aord15 := fun h1 => by have := h.aord15 (by simpa [upd] using h1); simpa [upd] using this }⟩
                clear hK
                simp only [mixA, List.foldl, List.setIfInBounds_toArray, List.set_cons_zero, List.set_cons_succ] at hz
                exact hz
              · obtain ⟨o, h⟩ := hJ
                have hrow := h.row1 (hdep 7 (of_decide_eq_true (by kernel_rfl))) hi
                have hct := HC2.out _ _ _ hrow
                have HCT := Lib.hid hct
                clear hct
                simp only [mixA, List.foldl, List.setIfInBounds_toArray, List.set_cons_zero, List.set_cons_succ]
                go_simp
                refine HCT.out.mono ?_
                rintro e W' ⟨v', o', rfl, hr, hk, ho⟩
                have hg := grew_base h.keep h.own hk ho
                go_wp2_with fail
                have hz := hK.out (fun i => if i = 75 then v' else f i) _ ⟨o', { keep := hg.1, own := hg.2, lt := hr.lt, box0 := grew_lit h.box0.1 h.box0.2 hk ho, row0 := fun h1 => by have h8 := (show d 7 = false from by simpa [upd] using h1); have h9 := hdep 7 (of_decide_eq_true (by kernel_rfl)); simp [h8] at h9, row1 := fun h1 h2 => by simp [upd] at h2, row2 := fun _ => hr, ord1 := fun h1 => by have := hdep 7 (of_decide_eq_true (by kernel_rfl)); simp [upd, this] at h1, asg15 := fun h1 => by have := h.aord15 hi; simp [upd, this] at h1, aord15 := fun h1 => by simp [upd] at h1 }⟩
                clear hK
                simp only [mixA, List.foldl, List.setIfInBounds_toArray, List.set_cons_zero, List.set_cons_succ] at hz
                exact hz
              · obtain ⟨o, h⟩ := hJ
                simp only [mixA, List.foldl, List.setIfInBounds_toArray, List.set_cons_zero, List.set_cons_succ]
                go_simp
                have hz := hK.out (fun i => if i = 3 then f 75 else f i) _ ⟨o, { keep := h.keep, own := h.own, lt := h.lt, box0 := h.box0, row0 := fun h1 => h.row0 (by simpa [upd] using h1), row1 := fun h1 h2 => h.row1 (by simpa [upd] using h1) (by simpa [upd] using h2), row2 := fun h1 => h.row2 (by simpa [upd] using h1), ord1 := fun h1 => by have := h.ord1 (by simpa [upd] using h1); simpa [upd] using this, asg15 := fun _ => rfl, aord15 := fun h1 => by have := hdep 14 (of_decide_eq_true (by kernel_rfl)); simp [upd, this] at h1 }⟩
                clear hK
                simp only [mixA, List.foldl, List.setIfInBounds_toArray, List.set_cons_zero, List.set_cons_succ] at hz
                exact hz
              · obtain ⟨o, h⟩ := hJ
                simp only [mixA, List.foldl, List.setIfInBounds_toArray, List.set_cons_zero, List.set_cons_succ]
                rw [h.asg15 rfl]
                have HNR := Lib.hid (h.row2 rfl)
                have HNO := Lib.hid h.own
                have HNK := Lib.hid h.keep
                have HNB := Lib.hid h.box0
                clear h
                go_wp2_with fail
                go_roundw
                case rel => exact ⟨j + 1, o, by omega, by go_num, by rw [HST9.out]; exact HNR.out, HNO.out, HNK.out, HNB.out⟩
                case measure => simp [intOf]; omega
            · obtain rfl : j = x.p.pieces.length := by omega
              rw [List.take_length, ← HST.out] at hrq
              have HQR := Lib.hid hrq
              have HQO := Lib.hid hoq
              have HQK := Lib.hid hkq
              clear hrq hoq hkq hbq hnq
              go_wp2_with fail
              go_roundw
              case rel => exact ⟨k + 1, oq, by omega, by go_num, HQR.out, HQO.out, HQK.out⟩
              case measure => simp [intOf]; omega
      · obtain rfl : k = m.places.length := by omega
        rw [List.take_length, ← HLL.out] at HR
        go_wp2_with fail
        go_ret
        exact ⟨_, o', rfl, HR.out, fun b hb => by have := HO.out b hb; have := HW1.out.size; omega, HW1.out.trans HK.out (by simp)⟩
end Go.Proofs.Ytngepgnmlpinaaa
