import Derived.Test.YtdmmhfbafinkpaaGreatDoorPbZ
import Derived.Test.YtdmmhfbafinkpaaGreatDoorBaseApp2
/- ParseBack: parse/text.go: Text: lists, calls. Printed by gen-pb9.py. -/
namespace Go.Proofs.YtdmmhfbafinkpaaGreatDoor
open Go.RowKit Go.Emb

theorem NsR.rest {S : Nat → Prop} {w : World} {k : Bool} {b off n c : Nat} {x : Nd} {l : List Nd} (h : NsR S w k (.slice (some ⟨b, off, none⟩) n c) (x :: l)) : NsR S w k (.slice (some ⟨b, sliceOff off c 1 (wid k), none⟩) (n - 1) (c - 1)) l := by
  obtain ⟨es, o, h1, h2, h3, h4⟩ := h
  obtain ⟨-, a', c', e, -⟩ := id h1
  injection e with _ e2
  have hn : n = (x :: l).length := e2
  subst hn
  obtain ⟨o', g1, g2⟩ := Rd.fromAt h1 1 (by simp)
  cases es with
  | nil => simp at h3
  | cons a es =>
    have ha := (h4 0 (by simp) (by simp)).len
    refine ⟨es, o', ?_, fun x hx => ?_, by simpa using h3, fun i hi hi' => h4 (i + 1) (by simp; omega) (by simp; omega)⟩
    · have e : (a :: es).flatten.drop (1 * wid k) = es.flatten := by
        rw [List.flatten_cons, Nat.one_mul, List.drop_append_of_le_length (by simp at ha; omega)]
        simp at ha
        rw [← ha, List.drop_length, List.nil_append]
      rw [e] at g1
      exact g1
    · rcases g2 with rfl | rfl
      · cases hx
      · exact h2 x hx
set_option maxRecDepth 100000 in
set_option maxHeartbeats 4000000 in
theorem tx_list {B : Nat} {k : Int} {l : List Nd} {ls : List (List It)} {t : Nd} {y x : List It} {tl : List UInt8} {ks : List Nd} (hc : Nd.mk k 0 [] ks [] [] = consL l t) (h56 : k = 5 ∨ k = 6) (hl : TL B l ls) (h6 : t.kind ≠ 6) (htl : tl = if t.kind = 5 then [] else 124 :: flat y) (hy : t.kind ≠ 5 → TxT B t y)
    (hx : flat x = 91 :: Lib.join (ls.map flat) [44] ++ tl ++ [93]) (hlen : (Lib.join (ls.map flat) [44]).length + (flat y).length ≤ 140737488354000) : TxT B (.mk k 0 [] ks [] []) x := by
  intro w S cs ht hnd
  obtain ⟨kd, nu, at1, nm1, a0, b0, c0, va, vb, vc, rfl, hn, h1, h2, h3⟩ := id hnd.un7
  injection hn with e1 e2 e3 e4 e5 e6
  subst e1 e2 e3 e4 e5 e6
  obtain ⟨p1, c1, e1⟩ := h1.form
  obtain ⟨p2, c2, e2⟩ := h2.form
  obtain ⟨p3, c3, e3⟩ := h3.form
  replace e1 : va = .slice p1 ks.length c1 := e1
  replace e2 : vb = .slice p2 0 c2 := e2
  replace e3 : vc = .slice p3 0 c3 := e3
  subst e1 e2 e3
  have hk5 := (Keep.refl [] w).alloc (.cells #[.int .i64 k, .int .i64 0, .string ⟨#[]⟩, .int .i64 at1, .slice p1 ks.length c1, .slice p2 0 c2, .slice p3 0 c3] 29)
  have hb5 := heap_alloc_new w (.cells #[.int .i64 k, .int .i64 0, .string ⟨#[]⟩, .int .i64 at1, .slice p1 ks.length c1, .slice p2 0 c2, .slice p3 0 c3] 29)
  obtain ⟨d0, d1, d2, d3, d4, d5, d6⟩ := cells7 hb5
  have D0 := Lib.hid (And.intro d0 (And.intro d1 (And.intro d2 (And.intro d3 (And.intro d4 (And.intro d5 d6))))))
  have HK5 := Lib.hid hk5
  have hT := ht.keep0 hk5
  have HT := Lib.hid hT
  have hnd5 := hnd.keep hk5 (by simp)
  rw [hc] at hnd5
  have hcall := p_list htl hT hnd5 hl h6 hy hlen
  rw [← hx] at hcall
  have HCALL := Lib.hid hcall
  clear hb5 hk5 hnd hnd5 h1 h2 h3 ht hT hcall hlen hl hx htl hy h6 hc
  rcases h56 with rfl | rfl
  all_goals
    go_enter Tryz.func10, Tryz.ntmps10
    go_wp2_with fail
    refine HCALL.out.mono ?_
    rintro e w6 ⟨⟨X, rfl, hX⟩, hk6⟩
    have HK6 := Lib.hid (And.intro hX (HK5.out.trans hk6 (by simp)))
    clear hX hk6
    go_wp2_with fail
    go_ret
    exact ⟨⟨_, rfl, HK6.out.1⟩, HK6.out.2⟩
set_option maxRecDepth 100000 in
set_option maxHeartbeats 4000000 in
theorem tx_call {B : Nat} {nm : List UInt8} {l : List Nd} {ls : List (List It)} (hnm : nm.length ≤ 255) (hl : TL B l ls) (hlen : (nameL nm).length + (flat (sepI comma ls)).length ≤ 140737488354000) : TxT B (.mk 7 0 nm l [] []) (.t 2 0 nm :: sg 40 :: sepI comma ls ++ [sg 41]) := by
  intro w S cs ht hnd
  obtain ⟨kd, nu, at1, nm1, a0, b0, c0, va, vb, vc, rfl, hn, h1, h2, h3⟩ := id hnd.un7
  injection hn with e1 e2 e3 e4 e5 e6
  subst e1 e2 e3 e4 e5 e6
  obtain ⟨p1, c1, e1⟩ := h1.form
  obtain ⟨p2, c2, e2⟩ := h2.form
  obtain ⟨p3, c3, e3⟩ := h3.form
  replace e1 : va = .slice p1 l.length c1 := e1
  replace e2 : vb = .slice p2 0 c2 := e2
  replace e3 : vc = .slice p3 0 c3 := e3
  subst e1 e2 e3
  have hk5 := (Keep.refl [] w).alloc (.cells #[.int .i64 7, .int .i64 0, .string ⟨nm.toArray⟩, .int .i64 at1, .slice p1 l.length c1, .slice p2 0 c2, .slice p3 0 c3] 29)
  have hb5 := heap_alloc_new w (.cells #[.int .i64 7, .int .i64 0, .string ⟨nm.toArray⟩, .int .i64 at1, .slice p1 l.length c1, .slice p2 0 c2, .slice p3 0 c3] 29)
  obtain ⟨d0, d1, d2, d3, d4, d5, d6⟩ := cells7 hb5
  have D0 := Lib.hid (And.intro d0 (And.intro d1 (And.intro d2 (And.intro d3 (And.intro d4 (And.intro d5 d6))))))
  have HK5 := Lib.hid hk5
  have hT := ht.keep0 hk5
  have HT := Lib.hid hT
  have HC := Lib.hid (fun W (k : Keep [] (w.alloc _) W) => p_texts (w := W) (s := comma) (sep := ⟨#[44]⟩) (hT.keep0 k) ((h1.keep hk5 (by simp)).keep k (by simp)) hl.1 hl.2.2 rfl (by omega) hl.2.1)
  have HPA := Lib.hid (fun W (k : Keep [] (w.alloc _) W) => p_printA (w := W) ⟨nm.toArray⟩ (hT.keep0 k) (by show nm.toArray.size ≤ 100000; rw [List.size_toArray]; omega))
  clear hb5 hk5 hnd h1 h2 h3 ht hT hl hnm
  go_enter Tryz.func10, Tryz.ntmps10
  go_wp2_with fail
  generalize w.alloc _ = w5 at *
  clear d0 d1 d2 d3 d4 d5 d6
  refine wp_region_held_drew (S := fun w' => Keep [] w5 w') (by kernel_rfl) ((Keep.refl [] w5).drew) (fun hHeld => ?_)
  refine wpAnyH_takeL (i := 0) (v := ?v0) rfl (by kernel_rfl) (by kernel_rfl) (by kernel_rfl) (fun _ _ _ h => h) (Or.inl ⟨by kernel_rfl, ?run0⟩) hHeld ?_
  case run0 => (intro w9 hS9; have q0 := hS9.cellOf D0.out.1; have q1 := hS9.cellOf D0.out.2.1; have q2 := hS9.cellOf D0.out.2.2.1; have q3 := hS9.cellOf D0.out.2.2.2.1; have q4 := hS9.cellOf D0.out.2.2.2.2.1; have q5 := hS9.cellOf D0.out.2.2.2.2.2.1; have q6 := hS9.cellOf D0.out.2.2.2.2.2.2; go_simp; try exact rfl)
  try simp only [Act.put, List.setIfInBounds_toArray, List.set_cons_zero, List.set_cons_succ]
  refine wpAnyH_takeL (i := 1) (v := ?v1) rfl (by kernel_rfl) (by kernel_rfl) (by kernel_rfl) (fun _ _ _ h => h) (Or.inl ⟨by kernel_rfl, ?run1⟩) hHeld ?_
  case run1 => (intro w9 hS9; have q0 := hS9.cellOf D0.out.1; have q1 := hS9.cellOf D0.out.2.1; have q2 := hS9.cellOf D0.out.2.2.1; have q3 := hS9.cellOf D0.out.2.2.2.1; have q4 := hS9.cellOf D0.out.2.2.2.2.1; have q5 := hS9.cellOf D0.out.2.2.2.2.2.1; have q6 := hS9.cellOf D0.out.2.2.2.2.2.2; go_simp; try exact rfl)
  try simp only [Act.put, List.setIfInBounds_toArray, List.set_cons_zero, List.set_cons_succ]
  refine wpAnyH_takeL (i := 5) (v := ?v5) rfl (by kernel_rfl) (by kernel_rfl) (by kernel_rfl) (fun _ _ _ h => h) (Or.inl ⟨by kernel_rfl, ?run5⟩) hHeld ?_
  case run5 => (intro w9 hS9; have q0 := hS9.cellOf D0.out.1; have q1 := hS9.cellOf D0.out.2.1; have q2 := hS9.cellOf D0.out.2.2.1; have q3 := hS9.cellOf D0.out.2.2.2.1; have q4 := hS9.cellOf D0.out.2.2.2.2.1; have q5 := hS9.cellOf D0.out.2.2.2.2.2.1; have q6 := hS9.cellOf D0.out.2.2.2.2.2.2; go_simp; try exact rfl)
  try simp only [Act.put, List.setIfInBounds_toArray, List.set_cons_zero, List.set_cons_succ]
  refine wpAnyH_takeL (i := 6) (v := ?v6) rfl (by kernel_rfl) (by kernel_rfl) (by kernel_rfl) (fun _ _ _ h => h) (Or.inl ⟨by kernel_rfl, ?run6⟩) hHeld ?_
  case run6 => (intro w9 hS9; have q0 := hS9.cellOf D0.out.1; have q1 := hS9.cellOf D0.out.2.1; have q2 := hS9.cellOf D0.out.2.2.1; have q3 := hS9.cellOf D0.out.2.2.2.1; have q4 := hS9.cellOf D0.out.2.2.2.2.1; have q5 := hS9.cellOf D0.out.2.2.2.2.2.1; have q6 := hS9.cellOf D0.out.2.2.2.2.2.2; go_simp; try exact rfl)
  try simp only [Act.put, List.setIfInBounds_toArray, List.set_cons_zero, List.set_cons_succ]
  refine wpAnyH_ready (rs := [2]) (by kernel_rfl) (by simp) ?_
  refine AllReadyH.consL rfl (fun K hK => ?_) AllReadyH.nil
  go_simp
  refine (p_atom _ _).mono ?_
  rintro e wa ⟨rfl, hka⟩
  have HA := Lib.hid (((Keep.refl [] w5).drew).trans hka (by simp))
  clear hka
  go_wp2_with fail
  refine hK.out _ _ HA.out (fun hHeld2 => ?_)
  clear hK K hHeld
  have hHeld := hHeld2
  clear hHeld2
  try simp only [Act.put, List.setIfInBounds_toArray, List.set_cons_zero, List.set_cons_succ]
  refine wpAnyH_ready (rs := [3]) (by kernel_rfl) (by simp) ?_
  refine AllReadyH.consL rfl (fun K hK => ?_) AllReadyH.nil
  go_simp
  refine (HPA.out _ HA.out).mono ?_
  rintro e wb ⟨rfl, hkb⟩
  have HB := Lib.hid (HA.out.trans hkb (by simp))
  clear hkb
  obtain ⟨Z, hZ⟩ : ∃ Z : ByteArray, Z = ⟨(nameL (⟨nm.toArray⟩ : ByteArray).data.toList).toArray⟩ := ⟨_, rfl⟩
  rw [← hZ]
  have hsZ : Z.size = (nameL nm).length := by rw [hZ, size_list]
  have HZ := Lib.hid hZ
  clear hZ
  go_wp2_with fail
  refine hK.out _ _ HB.out (fun hHeld2 => ?_)
  clear hK K hHeld
  have hHeld := hHeld2
  clear hHeld2
  try simp only [Act.put, List.setIfInBounds_toArray, List.set_cons_zero, List.set_cons_succ]
  refine wpAnyH_takeL (i := 4) (v := (.string (Z ++ ⟨#[40]⟩))) rfl (by kernel_rfl) (by kernel_rfl) (by kernel_rfl) (fun _ _ _ h => h) (Or.inl ⟨by kernel_rfl, ?run4⟩) hHeld ?_
  case run4 => (intro w9 hS9; go_simp; first | done | omega | (simp; omega))
  try simp only [Act.put, List.setIfInBounds_toArray, List.set_cons_zero, List.set_cons_succ]
  refine wpAnyH_ready (rs := [7]) (by kernel_rfl) (by simp) ?_
  refine AllReadyH.consL rfl (fun K hK => ?_) AllReadyH.nil
  go_simp
  refine (HC.out _ (HB.out)).mono ?_
  rintro e wc1 ⟨⟨X, rfl, hX⟩, hc⟩
  have HC1 := Lib.hid ((HB.out).trans hc (by simp))
  have hsX : X.size = (flat (sepI comma ls)).length := by rw [size_list X, hX]
  have HXX := Lib.hid hX
  clear hX hc
  go_wp2_with fail
  refine hK.out _ _ HC1.out (fun hHeld2 => ?_)
  clear hK K hHeld
  have hHeld := hHeld2
  clear hHeld2
  try simp only [Act.put, List.setIfInBounds_toArray, List.set_cons_zero, List.set_cons_succ]
  refine wpAnyH_takeL (i := 8) (v := (.string (Z ++ ⟨#[40]⟩ ++ X))) rfl (by kernel_rfl) (by kernel_rfl) (by kernel_rfl) (fun _ _ _ h => h) (Or.inl ⟨by kernel_rfl, ?run8⟩) hHeld ?_
  case run8 => (intro w9 hS9; go_simp; first | done | omega | (simp; omega))
  try simp only [Act.put, List.setIfInBounds_toArray, List.set_cons_zero, List.set_cons_succ]
  refine wpAnyH_takeL (i := 9) (v := (.string (Z ++ ⟨#[40]⟩ ++ X ++ ⟨#[41]⟩))) rfl (by kernel_rfl) (by kernel_rfl) (by kernel_rfl) (fun _ _ _ h => h) (Or.inl ⟨by kernel_rfl, ?run9⟩) hHeld ?_
  case run9 => (intro w9 hS9; go_simp; first | done | omega | (simp; omega))
  try simp only [Act.put, List.setIfInBounds_toArray, List.set_cons_zero, List.set_cons_succ]
  refine wpAnyH_takeL (i := 10) (v := ?v10) rfl (by kernel_rfl) (by kernel_rfl) (by kernel_rfl) (fun _ _ _ h => h) (Or.inl ⟨by kernel_rfl, ?run10⟩) hHeld ?_
  case run10 => (intro w9 hS9; go_simp; try exact rfl)
  try simp only [Act.put, List.setIfInBounds_toArray, List.set_cons_zero, List.set_cons_succ]
  refine wpAnyH_done (by kernel_rfl) ?_ _
  go_wp2_with fail
  go_ret
  exact ⟨⟨_, rfl, by (simp [HXX.out, HZ.out, flat_cons, flat_app, flat_nil, It.text])⟩, HK5.out.trans HC1.out (by simp)⟩
set_option maxRecDepth 100000 in
set_option maxHeartbeats 4000000 in
theorem tx_apply {B : Nat} {f : Nd} {x : List It} {l : List Nd} {ls : List (List It)} (hf : TxT B f x) (hl : TL B l ls) (hlen : (flat (callI f x)).length + (flat (sepI comma ls)).length ≤ 140737488354000) (hlx : (flat x).length ≤ 140737488354000) : TxT B (.mk 8 0 [] (f :: l) [] []) (callI f x ++ sg 40 :: sepI comma ls ++ [sg 41]) := by
  intro w S cs ht hnd
  obtain ⟨kd, nu, at1, nm1, a0, b0, c0, va, vb, vc, rfl, hn, h1, h2, h3⟩ := id hnd.un7
  injection hn with e1 e2 e3 e4 e5 e6
  subst e1 e2 e3 e4 e5 e6
  obtain ⟨p1, c1, e1⟩ := h1.form
  obtain ⟨p2, c2, e2⟩ := h2.form
  obtain ⟨p3, c3, e3⟩ := h3.form
  replace e1 : va = .slice p1 (l.length + 1) c1 := e1
  replace e2 : vb = .slice p2 0 c2 := e2
  replace e3 : vc = .slice p3 0 c3 := e3
  subst e1 e2 e3
  have hk5 := (Keep.refl [] w).alloc (.cells #[.int .i64 8, .int .i64 0, .string ⟨#[]⟩, .int .i64 at1, .slice p1 (l.length + 1) c1, .slice p2 0 c2, .slice p3 0 c3] 29)
  have hb5 := heap_alloc_new w (.cells #[.int .i64 8, .int .i64 0, .string ⟨#[]⟩, .int .i64 at1, .slice p1 (l.length + 1) c1, .slice p2 0 c2, .slice p3 0 c3] 29)
  obtain ⟨d0, d1, d2, d3, d4, d5, d6⟩ := cells7 hb5
  have D0 := Lib.hid (And.intro d0 (And.intro d1 (And.intro d2 (And.intro d3 (And.intro d4 (And.intro d5 d6))))))
  have HK5 := Lib.hid hk5
  have hT := ht.keep0 hk5
  have HT := Lib.hid hT
  obtain ⟨abf, aofff, csf, ef, -, hndf, hcellf⟩ := (h1.keep hk5 (by simp)).at7 (i := 0) (by simp)
  replace hndf : NdR S _ false csf f := hndf
  obtain ⟨kdf, nuf, atf, nmf, p1f, n1f, c1f, p2f, n2f, c2f, p3f, n3f, c3f, rfl, -⟩ := id hndf.un7s
  have f0 := hcellf 0 (by decide)
  have f1 := hcellf 1 (by decide)
  have f2 := hcellf 2 (by decide)
  have f3 := hcellf 3 (by decide)
  have f4 := hcellf 4 (by decide)
  have f5 := hcellf 5 (by decide)
  have f6 := hcellf 6 (by decide)
  simp only [Nat.zero_mul, Nat.one_mul, Nat.add_zero, List.getElem?_cons_zero, List.getElem?_cons_succ] at f0 f1 f2 f3 f4 f5 f6
  have Ef := Lib.hid (And.intro f0 (And.intro f1 (And.intro f2 (And.intro f3 (And.intro f4 (And.intro f5 f6))))))
  clear hcellf f0 f1 f2 f3 f4 f5 f6
  subst ef
  have hrest := (h1.keep hk5 (by simp)).rest
  have HF := Lib.hid (fun W (k : Keep [] (w.alloc _) W) => p_called (w := W) (hT.keep0 k) (hndf.keep k (by simp)) hf (by omega))
  have HC := Lib.hid (fun W (k : Keep [] (w.alloc _) W) => p_texts (w := W) (s := comma) (sep := ⟨#[44]⟩) (hT.keep0 k) (hrest.keep k (by simp)) hl.1 hl.2.2 rfl (by omega) hl.2.1)
  simp only [wid, Nat.add_sub_cancel] at HC
  have hlN := hl.2.1
  clear hb5 hk5 hnd h1 h2 h3 ht hT hl hf hrest hndf
  go_enter Tryz.func10, Tryz.ntmps10
  go_wp2_with fail
  generalize w.alloc _ = w5 at *
  clear d0 d1 d2 d3 d4 d5 d6
  refine wp_region_held_drew (S := fun w' => Keep [] w5 w') (by kernel_rfl) ((Keep.refl [] w5).drew) (fun hHeld => ?_)
  refine wpAnyH_takeL (i := 0) (v := ?v0) rfl (by kernel_rfl) (by kernel_rfl) (by kernel_rfl) (fun _ _ _ h => h) (Or.inl ⟨by kernel_rfl, ?run0⟩) hHeld ?_
  case run0 => (intro w9 hS9; have q0 := hS9.cellOf D0.out.1; have q1 := hS9.cellOf D0.out.2.1; have q2 := hS9.cellOf D0.out.2.2.1; have q3 := hS9.cellOf D0.out.2.2.2.1; have q4 := hS9.cellOf D0.out.2.2.2.2.1; have q5 := hS9.cellOf D0.out.2.2.2.2.2.1; have q6 := hS9.cellOf D0.out.2.2.2.2.2.2; have f0 := hS9.cellOf Ef.out.1; have f1 := hS9.cellOf Ef.out.2.1; have f2 := hS9.cellOf Ef.out.2.2.1; have f3 := hS9.cellOf Ef.out.2.2.2.1; have f4 := hS9.cellOf Ef.out.2.2.2.2.1; have f5 := hS9.cellOf Ef.out.2.2.2.2.2.1; have f6 := hS9.cellOf Ef.out.2.2.2.2.2.2; go_simp; try exact rfl)
  try simp only [Act.put, List.setIfInBounds_toArray, List.set_cons_zero, List.set_cons_succ]
  refine wpAnyH_takeL (i := 1) (v := ?v1) rfl (by kernel_rfl) (by kernel_rfl) (by kernel_rfl) (fun _ _ _ h => h) (Or.inl ⟨by kernel_rfl, ?run1⟩) hHeld ?_
  case run1 => (intro w9 hS9; have q0 := hS9.cellOf D0.out.1; have q1 := hS9.cellOf D0.out.2.1; have q2 := hS9.cellOf D0.out.2.2.1; have q3 := hS9.cellOf D0.out.2.2.2.1; have q4 := hS9.cellOf D0.out.2.2.2.2.1; have q5 := hS9.cellOf D0.out.2.2.2.2.2.1; have q6 := hS9.cellOf D0.out.2.2.2.2.2.2; have f0 := hS9.cellOf Ef.out.1; have f1 := hS9.cellOf Ef.out.2.1; have f2 := hS9.cellOf Ef.out.2.2.1; have f3 := hS9.cellOf Ef.out.2.2.2.1; have f4 := hS9.cellOf Ef.out.2.2.2.2.1; have f5 := hS9.cellOf Ef.out.2.2.2.2.2.1; have f6 := hS9.cellOf Ef.out.2.2.2.2.2.2; go_simp; try exact rfl)
  try simp only [Act.put, List.setIfInBounds_toArray, List.set_cons_zero, List.set_cons_succ]
  refine wpAnyH_takeL (i := 2) (v := ?v2) rfl (by kernel_rfl) (by kernel_rfl) (by kernel_rfl) (fun _ _ _ h => h) (Or.inl ⟨by kernel_rfl, ?run2⟩) hHeld ?_
  case run2 => (intro w9 hS9; have q0 := hS9.cellOf D0.out.1; have q1 := hS9.cellOf D0.out.2.1; have q2 := hS9.cellOf D0.out.2.2.1; have q3 := hS9.cellOf D0.out.2.2.2.1; have q4 := hS9.cellOf D0.out.2.2.2.2.1; have q5 := hS9.cellOf D0.out.2.2.2.2.2.1; have q6 := hS9.cellOf D0.out.2.2.2.2.2.2; have f0 := hS9.cellOf Ef.out.1; have f1 := hS9.cellOf Ef.out.2.1; have f2 := hS9.cellOf Ef.out.2.2.1; have f3 := hS9.cellOf Ef.out.2.2.2.1; have f4 := hS9.cellOf Ef.out.2.2.2.2.1; have f5 := hS9.cellOf Ef.out.2.2.2.2.2.1; have f6 := hS9.cellOf Ef.out.2.2.2.2.2.2; go_simp; try exact rfl)
  try simp only [Act.put, List.setIfInBounds_toArray, List.set_cons_zero, List.set_cons_succ]
  refine wpAnyH_takeL (i := 3) (v := ?v3) rfl (by kernel_rfl) (by kernel_rfl) (by kernel_rfl) (fun _ _ _ h => h) (Or.inl ⟨by kernel_rfl, ?run3⟩) hHeld ?_
  case run3 => (intro w9 hS9; have q0 := hS9.cellOf D0.out.1; have q1 := hS9.cellOf D0.out.2.1; have q2 := hS9.cellOf D0.out.2.2.1; have q3 := hS9.cellOf D0.out.2.2.2.1; have q4 := hS9.cellOf D0.out.2.2.2.2.1; have q5 := hS9.cellOf D0.out.2.2.2.2.2.1; have q6 := hS9.cellOf D0.out.2.2.2.2.2.2; have f0 := hS9.cellOf Ef.out.1; have f1 := hS9.cellOf Ef.out.2.1; have f2 := hS9.cellOf Ef.out.2.2.1; have f3 := hS9.cellOf Ef.out.2.2.2.1; have f4 := hS9.cellOf Ef.out.2.2.2.2.1; have f5 := hS9.cellOf Ef.out.2.2.2.2.2.1; have f6 := hS9.cellOf Ef.out.2.2.2.2.2.2; go_simp; try exact rfl)
  try simp only [Act.put, List.setIfInBounds_toArray, List.set_cons_zero, List.set_cons_succ]
  refine wpAnyH_takeL (i := 6) (v := ?v6) rfl (by kernel_rfl) (by kernel_rfl) (by kernel_rfl) (fun _ _ _ h => h) (Or.inl ⟨by kernel_rfl, ?run6⟩) hHeld ?_
  case run6 => (intro w9 hS9; have q0 := hS9.cellOf D0.out.1; have q1 := hS9.cellOf D0.out.2.1; have q2 := hS9.cellOf D0.out.2.2.1; have q3 := hS9.cellOf D0.out.2.2.2.1; have q4 := hS9.cellOf D0.out.2.2.2.2.1; have q5 := hS9.cellOf D0.out.2.2.2.2.2.1; have q6 := hS9.cellOf D0.out.2.2.2.2.2.2; have f0 := hS9.cellOf Ef.out.1; have f1 := hS9.cellOf Ef.out.2.1; have f2 := hS9.cellOf Ef.out.2.2.1; have f3 := hS9.cellOf Ef.out.2.2.2.1; have f4 := hS9.cellOf Ef.out.2.2.2.2.1; have f5 := hS9.cellOf Ef.out.2.2.2.2.2.1; have f6 := hS9.cellOf Ef.out.2.2.2.2.2.2; go_simp; try exact rfl)
  try simp only [Act.put, List.setIfInBounds_toArray, List.set_cons_zero, List.set_cons_succ]
  refine wpAnyH_takeL (i := 7) (v := ?v7) rfl (by kernel_rfl) (by kernel_rfl) (by kernel_rfl) (fun _ _ _ h => h) (Or.inl ⟨by kernel_rfl, ?run7⟩) hHeld ?_
  case run7 => (intro w9 hS9; have q0 := hS9.cellOf D0.out.1; have q1 := hS9.cellOf D0.out.2.1; have q2 := hS9.cellOf D0.out.2.2.1; have q3 := hS9.cellOf D0.out.2.2.2.1; have q4 := hS9.cellOf D0.out.2.2.2.2.1; have q5 := hS9.cellOf D0.out.2.2.2.2.2.1; have q6 := hS9.cellOf D0.out.2.2.2.2.2.2; have f0 := hS9.cellOf Ef.out.1; have f1 := hS9.cellOf Ef.out.2.1; have f2 := hS9.cellOf Ef.out.2.2.1; have f3 := hS9.cellOf Ef.out.2.2.2.1; have f4 := hS9.cellOf Ef.out.2.2.2.2.1; have f5 := hS9.cellOf Ef.out.2.2.2.2.2.1; have f6 := hS9.cellOf Ef.out.2.2.2.2.2.2; go_simp; try exact rfl)
  try simp only [Act.put, List.setIfInBounds_toArray, List.set_cons_zero, List.set_cons_succ]
  refine wpAnyH_takeL (i := 8) (v := (.slice (some ⟨abf, sliceOff aofff c1 1 7, none⟩) l.length (c1 - 1))) rfl (by kernel_rfl) (by kernel_rfl) (by kernel_rfl) (fun _ _ _ h => h) (Or.inl ⟨by kernel_rfl, ?run8⟩) hHeld ?_
  case run8 => (intro w9 hS9; go_simp; rw [if_pos (by omega)]; by_cases hc1 : c1 = 1 <;> simp [sliceOff, hc1])
  try simp only [Act.put, List.setIfInBounds_toArray, List.set_cons_zero, List.set_cons_succ]
  refine wpAnyH_ready (rs := [4]) (by kernel_rfl) (by simp) ?_
  refine AllReadyH.consL rfl (fun K hK => ?_) AllReadyH.nil
  go_simp
  refine (HF.out _ (((Keep.refl [] w5).drew))).mono ?_
  rintro e wc1 ⟨⟨Y, rfl, hY⟩, hc⟩
  have HC1 := Lib.hid ((((Keep.refl [] w5).drew)).trans hc (by simp))
  have hsY : Y.size = (flat (callI f x)).length := by rw [size_list Y, hY]
  have HXY := Lib.hid hY
  clear hY hc
  go_wp2_with fail
  refine hK.out _ _ HC1.out (fun hHeld2 => ?_)
  clear hK K hHeld
  have hHeld := hHeld2
  clear hHeld2
  try simp only [Act.put, List.setIfInBounds_toArray, List.set_cons_zero, List.set_cons_succ]
  refine wpAnyH_takeL (i := 5) (v := (.string (Y ++ ⟨#[40]⟩))) rfl (by kernel_rfl) (by kernel_rfl) (by kernel_rfl) (fun _ _ _ h => h) (Or.inl ⟨by kernel_rfl, ?run5⟩) hHeld ?_
  case run5 => (intro w9 hS9; go_simp; first | done | omega | (simp; omega))
  try simp only [Act.put, List.setIfInBounds_toArray, List.set_cons_zero, List.set_cons_succ]
  refine wpAnyH_ready (rs := [9]) (by kernel_rfl) (by simp) ?_
  refine AllReadyH.consL rfl (fun K hK => ?_) AllReadyH.nil
  go_simp
  refine (HC.out _ (HC1.out)).mono ?_
  rintro e wc2 ⟨⟨X, rfl, hX⟩, hc⟩
  have HC2 := Lib.hid ((HC1.out).trans hc (by simp))
  have hsX : X.size = (flat (sepI comma ls)).length := by rw [size_list X, hX]
  have HXX := Lib.hid hX
  clear hX hc
  go_wp2_with fail
  refine hK.out _ _ HC2.out (fun hHeld2 => ?_)
  clear hK K hHeld
  have hHeld := hHeld2
  clear hHeld2
  try simp only [Act.put, List.setIfInBounds_toArray, List.set_cons_zero, List.set_cons_succ]
  refine wpAnyH_takeL (i := 10) (v := (.string (Y ++ ⟨#[40]⟩ ++ X))) rfl (by kernel_rfl) (by kernel_rfl) (by kernel_rfl) (fun _ _ _ h => h) (Or.inl ⟨by kernel_rfl, ?run10⟩) hHeld ?_
  case run10 => (intro w9 hS9; go_simp; first | done | omega | (simp; omega))
  try simp only [Act.put, List.setIfInBounds_toArray, List.set_cons_zero, List.set_cons_succ]
  refine wpAnyH_takeL (i := 11) (v := (.string (Y ++ ⟨#[40]⟩ ++ X ++ ⟨#[41]⟩))) rfl (by kernel_rfl) (by kernel_rfl) (by kernel_rfl) (fun _ _ _ h => h) (Or.inl ⟨by kernel_rfl, ?run11⟩) hHeld ?_
  case run11 => (intro w9 hS9; go_simp; first | done | omega | (simp; omega))
  try simp only [Act.put, List.setIfInBounds_toArray, List.set_cons_zero, List.set_cons_succ]
  refine wpAnyH_takeL (i := 12) (v := ?v12) rfl (by kernel_rfl) (by kernel_rfl) (by kernel_rfl) (fun _ _ _ h => h) (Or.inl ⟨by kernel_rfl, ?run12⟩) hHeld ?_
  case run12 => (intro w9 hS9; go_simp; try exact rfl)
  try simp only [Act.put, List.setIfInBounds_toArray, List.set_cons_zero, List.set_cons_succ]
  refine wpAnyH_done (by kernel_rfl) ?_ _
  go_wp2_with fail
  go_ret
  exact ⟨⟨_, rfl, by (simp [HXX.out, HXY.out, flat_cons, flat_app, flat_nil, It.text])⟩, HK5.out.trans HC2.out (by simp)⟩
end Go.Proofs.YtdmmhfbafinkpaaGreatDoor

/- ParseBack: parse/text.go: Text: operators. Printed by gen-pb9.py. -/
namespace Go.Proofs.YtdmmhfbafinkpaaGreatDoor
open Go.RowKit Go.Emb

set_option maxRecDepth 100000 in
set_option maxHeartbeats 4000000 in
theorem tx_op {B : Nat} {k v : Int} {t : List UInt8} {a b : Nd} {x y : List It} (ha : TxT B a x) (hb : TxT B b y) (h4 : 4 ≤ k) (htl : t.length ≤ 100) (hlen : (flat (operI a x)).length + (flat (operI b y)).length ≤ 140737488354000) (hlx : (flat x).length ≤ 140737488354000) (hly : (flat y).length ≤ 140737488354000) :
    TxT B (.mk 9 0 t [a, b] [] []) (operI a x ++ sp :: .t k v t :: sp :: operI b y) := by
  intro w S cs ht hnd
  obtain ⟨kd, nu, at1, nm1, a0, b0, c0, va, vb, vc, rfl, hn, h1, h2, h3⟩ := id hnd.un7
  injection hn with e1 e2 e3 e4 e5 e6
  subst e1 e2 e3 e4 e5 e6
  obtain ⟨p1, c1, e1⟩ := h1.form
  obtain ⟨p2, c2, e2⟩ := h2.form
  obtain ⟨p3, c3, e3⟩ := h3.form
  replace e1 : va = .slice p1 2 c1 := e1
  replace e2 : vb = .slice p2 0 c2 := e2
  replace e3 : vc = .slice p3 0 c3 := e3
  subst e1 e2 e3
  have hk5 := (Keep.refl [] w).alloc (.cells #[.int .i64 9, .int .i64 0, .string ⟨t.toArray⟩, .int .i64 at1, .slice p1 2 c1, .slice p2 0 c2, .slice p3 0 c3] 29)
  have hb5 := heap_alloc_new w (.cells #[.int .i64 9, .int .i64 0, .string ⟨t.toArray⟩, .int .i64 at1, .slice p1 2 c1, .slice p2 0 c2, .slice p3 0 c3] 29)
  obtain ⟨d0, d1, d2, d3, d4, d5, d6⟩ := cells7 hb5
  have D0 := Lib.hid (And.intro d0 (And.intro d1 (And.intro d2 (And.intro d3 (And.intro d4 (And.intro d5 d6))))))
  have HK5 := Lib.hid hk5
  have hT := ht.keep0 hk5
  have HT := Lib.hid hT
  obtain ⟨aba, aoffa, csa, ea, -, hnda, hcella⟩ := (h1.keep hk5 (by simp)).at7 (i := 0) (by simp)
  replace hnda : NdR S _ false csa a := hnda
  obtain ⟨kda, nua, ata, nma, p1a, n1a, c1a, p2a, n2a, c2a, p3a, n3a, c3a, rfl, -⟩ := id hnda.un7s
  have a0 := hcella 0 (by decide)
  have a1 := hcella 1 (by decide)
  have a2 := hcella 2 (by decide)
  have a3 := hcella 3 (by decide)
  have a4 := hcella 4 (by decide)
  have a5 := hcella 5 (by decide)
  have a6 := hcella 6 (by decide)
  simp only [Nat.zero_mul, Nat.one_mul, Nat.add_zero, List.getElem?_cons_zero, List.getElem?_cons_succ] at a0 a1 a2 a3 a4 a5 a6
  have Ea := Lib.hid (And.intro a0 (And.intro a1 (And.intro a2 (And.intro a3 (And.intro a4 (And.intro a5 a6))))))
  clear hcella a0 a1 a2 a3 a4 a5 a6
  obtain ⟨abb, aoffb, csb, eb, -, hndb, hcellb⟩ := (h1.keep hk5 (by simp)).at7 (i := 1) (by simp)
  replace hndb : NdR S _ false csb b := hndb
  obtain ⟨kdb, nub, atb, nmb, p1b, n1b, c1b, p2b, n2b, c2b, p3b, n3b, c3b, rfl, -⟩ := id hndb.un7s
  have b0 := hcellb 0 (by decide)
  have b1 := hcellb 1 (by decide)
  have b2 := hcellb 2 (by decide)
  have b3 := hcellb 3 (by decide)
  have b4 := hcellb 4 (by decide)
  have b5 := hcellb 5 (by decide)
  have b6 := hcellb 6 (by decide)
  simp only [Nat.zero_mul, Nat.one_mul, Nat.add_zero, List.getElem?_cons_zero, List.getElem?_cons_succ] at b0 b1 b2 b3 b4 b5 b6
  have Eb := Lib.hid (And.intro b0 (And.intro b1 (And.intro b2 (And.intro b3 (And.intro b4 (And.intro b5 b6))))))
  clear hcellb b0 b1 b2 b3 b4 b5 b6
  subst ea
  cases eb
  have HA := Lib.hid (fun W (k : Keep [] (w.alloc _) W) => p_operand (w := W) (hT.keep0 k) (hnda.keep k (by simp)) ha (by omega))
  have HB := Lib.hid (fun W (k : Keep [] (w.alloc _) W) => p_operand (w := W) (hT.keep0 k) (hndb.keep k (by simp)) hb (by omega))
  have htz : (⟨t.toArray⟩ : ByteArray).size ≤ 100 := by show t.toArray.size ≤ 100; rw [List.size_toArray]; exact htl
  clear hb5 hk5 hnd h1 h2 h3 ht hT ha hb hnda hndb
  go_enter Tryz.func10, Tryz.ntmps10
  go_wp2_with fail
  generalize w.alloc _ = w5 at *
  clear d0 d1 d2 d3 d4 d5 d6
  refine wp_region_held_drew (S := fun w' => Keep [] w5 w') (by kernel_rfl) ((Keep.refl [] w5).drew) (fun hHeld => ?_)
  refine wpAnyH_takeL (i := 0) (v := ?v0) rfl (by kernel_rfl) (by kernel_rfl) (by kernel_rfl) (fun _ _ _ h => h) (Or.inl ⟨by kernel_rfl, ?run0⟩) hHeld ?_
  case run0 => (intro w9 hS9; have q0 := hS9.cellOf D0.out.1; have q1 := hS9.cellOf D0.out.2.1; have q2 := hS9.cellOf D0.out.2.2.1; have q3 := hS9.cellOf D0.out.2.2.2.1; have q4 := hS9.cellOf D0.out.2.2.2.2.1; have q5 := hS9.cellOf D0.out.2.2.2.2.2.1; have q6 := hS9.cellOf D0.out.2.2.2.2.2.2; have a0 := hS9.cellOf Ea.out.1; have a1 := hS9.cellOf Ea.out.2.1; have a2 := hS9.cellOf Ea.out.2.2.1; have a3 := hS9.cellOf Ea.out.2.2.2.1; have a4 := hS9.cellOf Ea.out.2.2.2.2.1; have a5 := hS9.cellOf Ea.out.2.2.2.2.2.1; have a6 := hS9.cellOf Ea.out.2.2.2.2.2.2; have b0 := hS9.cellOf Eb.out.1; have b1 := hS9.cellOf Eb.out.2.1; have b2 := hS9.cellOf Eb.out.2.2.1; have b3 := hS9.cellOf Eb.out.2.2.2.1; have b4 := hS9.cellOf Eb.out.2.2.2.2.1; have b5 := hS9.cellOf Eb.out.2.2.2.2.2.1; have b6 := hS9.cellOf Eb.out.2.2.2.2.2.2; go_simp; try exact rfl)
  try simp only [Act.put, List.setIfInBounds_toArray, List.set_cons_zero, List.set_cons_succ]
  refine wpAnyH_takeL (i := 1) (v := ?v1) rfl (by kernel_rfl) (by kernel_rfl) (by kernel_rfl) (fun _ _ _ h => h) (Or.inl ⟨by kernel_rfl, ?run1⟩) hHeld ?_
  case run1 => (intro w9 hS9; have q0 := hS9.cellOf D0.out.1; have q1 := hS9.cellOf D0.out.2.1; have q2 := hS9.cellOf D0.out.2.2.1; have q3 := hS9.cellOf D0.out.2.2.2.1; have q4 := hS9.cellOf D0.out.2.2.2.2.1; have q5 := hS9.cellOf D0.out.2.2.2.2.2.1; have q6 := hS9.cellOf D0.out.2.2.2.2.2.2; have a0 := hS9.cellOf Ea.out.1; have a1 := hS9.cellOf Ea.out.2.1; have a2 := hS9.cellOf Ea.out.2.2.1; have a3 := hS9.cellOf Ea.out.2.2.2.1; have a4 := hS9.cellOf Ea.out.2.2.2.2.1; have a5 := hS9.cellOf Ea.out.2.2.2.2.2.1; have a6 := hS9.cellOf Ea.out.2.2.2.2.2.2; have b0 := hS9.cellOf Eb.out.1; have b1 := hS9.cellOf Eb.out.2.1; have b2 := hS9.cellOf Eb.out.2.2.1; have b3 := hS9.cellOf Eb.out.2.2.2.1; have b4 := hS9.cellOf Eb.out.2.2.2.2.1; have b5 := hS9.cellOf Eb.out.2.2.2.2.2.1; have b6 := hS9.cellOf Eb.out.2.2.2.2.2.2; go_simp; try exact rfl)
  try simp only [Act.put, List.setIfInBounds_toArray, List.set_cons_zero, List.set_cons_succ]
  refine wpAnyH_takeL (i := 2) (v := ?v2) rfl (by kernel_rfl) (by kernel_rfl) (by kernel_rfl) (fun _ _ _ h => h) (Or.inl ⟨by kernel_rfl, ?run2⟩) hHeld ?_
  case run2 => (intro w9 hS9; have q0 := hS9.cellOf D0.out.1; have q1 := hS9.cellOf D0.out.2.1; have q2 := hS9.cellOf D0.out.2.2.1; have q3 := hS9.cellOf D0.out.2.2.2.1; have q4 := hS9.cellOf D0.out.2.2.2.2.1; have q5 := hS9.cellOf D0.out.2.2.2.2.2.1; have q6 := hS9.cellOf D0.out.2.2.2.2.2.2; have a0 := hS9.cellOf Ea.out.1; have a1 := hS9.cellOf Ea.out.2.1; have a2 := hS9.cellOf Ea.out.2.2.1; have a3 := hS9.cellOf Ea.out.2.2.2.1; have a4 := hS9.cellOf Ea.out.2.2.2.2.1; have a5 := hS9.cellOf Ea.out.2.2.2.2.2.1; have a6 := hS9.cellOf Ea.out.2.2.2.2.2.2; have b0 := hS9.cellOf Eb.out.1; have b1 := hS9.cellOf Eb.out.2.1; have b2 := hS9.cellOf Eb.out.2.2.1; have b3 := hS9.cellOf Eb.out.2.2.2.1; have b4 := hS9.cellOf Eb.out.2.2.2.2.1; have b5 := hS9.cellOf Eb.out.2.2.2.2.2.1; have b6 := hS9.cellOf Eb.out.2.2.2.2.2.2; go_simp; try exact rfl)
  try simp only [Act.put, List.setIfInBounds_toArray, List.set_cons_zero, List.set_cons_succ]
  refine wpAnyH_takeL (i := 3) (v := ?v3) rfl (by kernel_rfl) (by kernel_rfl) (by kernel_rfl) (fun _ _ _ h => h) (Or.inl ⟨by kernel_rfl, ?run3⟩) hHeld ?_
  case run3 => (intro w9 hS9; have q0 := hS9.cellOf D0.out.1; have q1 := hS9.cellOf D0.out.2.1; have q2 := hS9.cellOf D0.out.2.2.1; have q3 := hS9.cellOf D0.out.2.2.2.1; have q4 := hS9.cellOf D0.out.2.2.2.2.1; have q5 := hS9.cellOf D0.out.2.2.2.2.2.1; have q6 := hS9.cellOf D0.out.2.2.2.2.2.2; have a0 := hS9.cellOf Ea.out.1; have a1 := hS9.cellOf Ea.out.2.1; have a2 := hS9.cellOf Ea.out.2.2.1; have a3 := hS9.cellOf Ea.out.2.2.2.1; have a4 := hS9.cellOf Ea.out.2.2.2.2.1; have a5 := hS9.cellOf Ea.out.2.2.2.2.2.1; have a6 := hS9.cellOf Ea.out.2.2.2.2.2.2; have b0 := hS9.cellOf Eb.out.1; have b1 := hS9.cellOf Eb.out.2.1; have b2 := hS9.cellOf Eb.out.2.2.1; have b3 := hS9.cellOf Eb.out.2.2.2.1; have b4 := hS9.cellOf Eb.out.2.2.2.2.1; have b5 := hS9.cellOf Eb.out.2.2.2.2.2.1; have b6 := hS9.cellOf Eb.out.2.2.2.2.2.2; go_simp; try exact rfl)
  try simp only [Act.put, List.setIfInBounds_toArray, List.set_cons_zero, List.set_cons_succ]
  refine wpAnyH_takeL (i := 6) (v := ?v6) rfl (by kernel_rfl) (by kernel_rfl) (by kernel_rfl) (fun _ _ _ h => h) (Or.inl ⟨by kernel_rfl, ?run6⟩) hHeld ?_
  case run6 => (intro w9 hS9; have q0 := hS9.cellOf D0.out.1; have q1 := hS9.cellOf D0.out.2.1; have q2 := hS9.cellOf D0.out.2.2.1; have q3 := hS9.cellOf D0.out.2.2.2.1; have q4 := hS9.cellOf D0.out.2.2.2.2.1; have q5 := hS9.cellOf D0.out.2.2.2.2.2.1; have q6 := hS9.cellOf D0.out.2.2.2.2.2.2; have a0 := hS9.cellOf Ea.out.1; have a1 := hS9.cellOf Ea.out.2.1; have a2 := hS9.cellOf Ea.out.2.2.1; have a3 := hS9.cellOf Ea.out.2.2.2.1; have a4 := hS9.cellOf Ea.out.2.2.2.2.1; have a5 := hS9.cellOf Ea.out.2.2.2.2.2.1; have a6 := hS9.cellOf Ea.out.2.2.2.2.2.2; have b0 := hS9.cellOf Eb.out.1; have b1 := hS9.cellOf Eb.out.2.1; have b2 := hS9.cellOf Eb.out.2.2.1; have b3 := hS9.cellOf Eb.out.2.2.2.1; have b4 := hS9.cellOf Eb.out.2.2.2.2.1; have b5 := hS9.cellOf Eb.out.2.2.2.2.2.1; have b6 := hS9.cellOf Eb.out.2.2.2.2.2.2; go_simp; try exact rfl)
  try simp only [Act.put, List.setIfInBounds_toArray, List.set_cons_zero, List.set_cons_succ]
  refine wpAnyH_takeL (i := 7) (v := ?v7) rfl (by kernel_rfl) (by kernel_rfl) (by kernel_rfl) (fun _ _ _ h => h) (Or.inl ⟨by kernel_rfl, ?run7⟩) hHeld ?_
  case run7 => (intro w9 hS9; have q0 := hS9.cellOf D0.out.1; have q1 := hS9.cellOf D0.out.2.1; have q2 := hS9.cellOf D0.out.2.2.1; have q3 := hS9.cellOf D0.out.2.2.2.1; have q4 := hS9.cellOf D0.out.2.2.2.2.1; have q5 := hS9.cellOf D0.out.2.2.2.2.2.1; have q6 := hS9.cellOf D0.out.2.2.2.2.2.2; have a0 := hS9.cellOf Ea.out.1; have a1 := hS9.cellOf Ea.out.2.1; have a2 := hS9.cellOf Ea.out.2.2.1; have a3 := hS9.cellOf Ea.out.2.2.2.1; have a4 := hS9.cellOf Ea.out.2.2.2.2.1; have a5 := hS9.cellOf Ea.out.2.2.2.2.2.1; have a6 := hS9.cellOf Ea.out.2.2.2.2.2.2; have b0 := hS9.cellOf Eb.out.1; have b1 := hS9.cellOf Eb.out.2.1; have b2 := hS9.cellOf Eb.out.2.2.1; have b3 := hS9.cellOf Eb.out.2.2.2.1; have b4 := hS9.cellOf Eb.out.2.2.2.2.1; have b5 := hS9.cellOf Eb.out.2.2.2.2.2.1; have b6 := hS9.cellOf Eb.out.2.2.2.2.2.2; go_simp; try exact rfl)
  try simp only [Act.put, List.setIfInBounds_toArray, List.set_cons_zero, List.set_cons_succ]
  refine wpAnyH_takeL (i := 10) (v := ?v10) rfl (by kernel_rfl) (by kernel_rfl) (by kernel_rfl) (fun _ _ _ h => h) (Or.inl ⟨by kernel_rfl, ?run10⟩) hHeld ?_
  case run10 => (intro w9 hS9; have q0 := hS9.cellOf D0.out.1; have q1 := hS9.cellOf D0.out.2.1; have q2 := hS9.cellOf D0.out.2.2.1; have q3 := hS9.cellOf D0.out.2.2.2.1; have q4 := hS9.cellOf D0.out.2.2.2.2.1; have q5 := hS9.cellOf D0.out.2.2.2.2.2.1; have q6 := hS9.cellOf D0.out.2.2.2.2.2.2; have a0 := hS9.cellOf Ea.out.1; have a1 := hS9.cellOf Ea.out.2.1; have a2 := hS9.cellOf Ea.out.2.2.1; have a3 := hS9.cellOf Ea.out.2.2.2.1; have a4 := hS9.cellOf Ea.out.2.2.2.2.1; have a5 := hS9.cellOf Ea.out.2.2.2.2.2.1; have a6 := hS9.cellOf Ea.out.2.2.2.2.2.2; have b0 := hS9.cellOf Eb.out.1; have b1 := hS9.cellOf Eb.out.2.1; have b2 := hS9.cellOf Eb.out.2.2.1; have b3 := hS9.cellOf Eb.out.2.2.2.1; have b4 := hS9.cellOf Eb.out.2.2.2.2.1; have b5 := hS9.cellOf Eb.out.2.2.2.2.2.1; have b6 := hS9.cellOf Eb.out.2.2.2.2.2.2; go_simp; try exact rfl)
  try simp only [Act.put, List.setIfInBounds_toArray, List.set_cons_zero, List.set_cons_succ]
  refine wpAnyH_takeL (i := 11) (v := ?v11) rfl (by kernel_rfl) (by kernel_rfl) (by kernel_rfl) (fun _ _ _ h => h) (Or.inl ⟨by kernel_rfl, ?run11⟩) hHeld ?_
  case run11 => (intro w9 hS9; have q0 := hS9.cellOf D0.out.1; have q1 := hS9.cellOf D0.out.2.1; have q2 := hS9.cellOf D0.out.2.2.1; have q3 := hS9.cellOf D0.out.2.2.2.1; have q4 := hS9.cellOf D0.out.2.2.2.2.1; have q5 := hS9.cellOf D0.out.2.2.2.2.2.1; have q6 := hS9.cellOf D0.out.2.2.2.2.2.2; have a0 := hS9.cellOf Ea.out.1; have a1 := hS9.cellOf Ea.out.2.1; have a2 := hS9.cellOf Ea.out.2.2.1; have a3 := hS9.cellOf Ea.out.2.2.2.1; have a4 := hS9.cellOf Ea.out.2.2.2.2.1; have a5 := hS9.cellOf Ea.out.2.2.2.2.2.1; have a6 := hS9.cellOf Ea.out.2.2.2.2.2.2; have b0 := hS9.cellOf Eb.out.1; have b1 := hS9.cellOf Eb.out.2.1; have b2 := hS9.cellOf Eb.out.2.2.1; have b3 := hS9.cellOf Eb.out.2.2.2.1; have b4 := hS9.cellOf Eb.out.2.2.2.2.1; have b5 := hS9.cellOf Eb.out.2.2.2.2.2.1; have b6 := hS9.cellOf Eb.out.2.2.2.2.2.2; go_simp; try exact rfl)
  try simp only [Act.put, List.setIfInBounds_toArray, List.set_cons_zero, List.set_cons_succ]
  refine wpAnyH_takeL (i := 12) (v := ?v12) rfl (by kernel_rfl) (by kernel_rfl) (by kernel_rfl) (fun _ _ _ h => h) (Or.inl ⟨by kernel_rfl, ?run12⟩) hHeld ?_
  case run12 => (intro w9 hS9; have q0 := hS9.cellOf D0.out.1; have q1 := hS9.cellOf D0.out.2.1; have q2 := hS9.cellOf D0.out.2.2.1; have q3 := hS9.cellOf D0.out.2.2.2.1; have q4 := hS9.cellOf D0.out.2.2.2.2.1; have q5 := hS9.cellOf D0.out.2.2.2.2.2.1; have q6 := hS9.cellOf D0.out.2.2.2.2.2.2; have a0 := hS9.cellOf Ea.out.1; have a1 := hS9.cellOf Ea.out.2.1; have a2 := hS9.cellOf Ea.out.2.2.1; have a3 := hS9.cellOf Ea.out.2.2.2.1; have a4 := hS9.cellOf Ea.out.2.2.2.2.1; have a5 := hS9.cellOf Ea.out.2.2.2.2.2.1; have a6 := hS9.cellOf Ea.out.2.2.2.2.2.2; have b0 := hS9.cellOf Eb.out.1; have b1 := hS9.cellOf Eb.out.2.1; have b2 := hS9.cellOf Eb.out.2.2.1; have b3 := hS9.cellOf Eb.out.2.2.2.1; have b4 := hS9.cellOf Eb.out.2.2.2.2.1; have b5 := hS9.cellOf Eb.out.2.2.2.2.2.1; have b6 := hS9.cellOf Eb.out.2.2.2.2.2.2; go_simp; try exact rfl)
  try simp only [Act.put, List.setIfInBounds_toArray, List.set_cons_zero, List.set_cons_succ]
  refine wpAnyH_takeL (i := 13) (v := ?v13) rfl (by kernel_rfl) (by kernel_rfl) (by kernel_rfl) (fun _ _ _ h => h) (Or.inl ⟨by kernel_rfl, ?run13⟩) hHeld ?_
  case run13 => (intro w9 hS9; have q0 := hS9.cellOf D0.out.1; have q1 := hS9.cellOf D0.out.2.1; have q2 := hS9.cellOf D0.out.2.2.1; have q3 := hS9.cellOf D0.out.2.2.2.1; have q4 := hS9.cellOf D0.out.2.2.2.2.1; have q5 := hS9.cellOf D0.out.2.2.2.2.2.1; have q6 := hS9.cellOf D0.out.2.2.2.2.2.2; have a0 := hS9.cellOf Ea.out.1; have a1 := hS9.cellOf Ea.out.2.1; have a2 := hS9.cellOf Ea.out.2.2.1; have a3 := hS9.cellOf Ea.out.2.2.2.1; have a4 := hS9.cellOf Ea.out.2.2.2.2.1; have a5 := hS9.cellOf Ea.out.2.2.2.2.2.1; have a6 := hS9.cellOf Ea.out.2.2.2.2.2.2; have b0 := hS9.cellOf Eb.out.1; have b1 := hS9.cellOf Eb.out.2.1; have b2 := hS9.cellOf Eb.out.2.2.1; have b3 := hS9.cellOf Eb.out.2.2.2.1; have b4 := hS9.cellOf Eb.out.2.2.2.2.1; have b5 := hS9.cellOf Eb.out.2.2.2.2.2.1; have b6 := hS9.cellOf Eb.out.2.2.2.2.2.2; go_simp; try exact rfl)
  try simp only [Act.put, List.setIfInBounds_toArray, List.set_cons_zero, List.set_cons_succ]
  refine wpAnyH_ready (rs := [4]) (by kernel_rfl) (by simp) ?_
  refine AllReadyH.consL rfl (fun K hK => ?_) AllReadyH.nil
  go_simp
  refine (HA.out _ (((Keep.refl [] w5).drew))).mono ?_
  rintro e wc1 ⟨⟨X, rfl, hX⟩, hc⟩
  have HC1 := Lib.hid ((((Keep.refl [] w5).drew)).trans hc (by simp))
  have hsX : X.size = (flat (operI a x)).length := by rw [size_list X, hX]
  have HXX := Lib.hid hX
  clear hX hc
  go_wp2_with fail
  refine hK.out _ _ HC1.out (fun hHeld2 => ?_)
  clear hK K hHeld
  have hHeld := hHeld2
  clear hHeld2
  try simp only [Act.put, List.setIfInBounds_toArray, List.set_cons_zero, List.set_cons_succ]
  refine wpAnyH_takeL (i := 5) (v := (.string (X ++ ⟨#[32]⟩))) rfl (by kernel_rfl) (by kernel_rfl) (by kernel_rfl) (fun _ _ _ h => h) (Or.inl ⟨by kernel_rfl, ?run5⟩) hHeld ?_
  case run5 => (intro w9 hS9; go_simp; first | done | omega | (simp; omega))
  try simp only [Act.put, List.setIfInBounds_toArray, List.set_cons_zero, List.set_cons_succ]
  refine wpAnyH_takeL (i := 8) (v := (.string (X ++ ⟨#[32]⟩ ++ ⟨t.toArray⟩))) rfl (by kernel_rfl) (by kernel_rfl) (by kernel_rfl) (fun _ _ _ h => h) (Or.inl ⟨by kernel_rfl, ?run8⟩) hHeld ?_
  case run8 => (intro w9 hS9; go_simp; first | done | omega | (simp; omega))
  try simp only [Act.put, List.setIfInBounds_toArray, List.set_cons_zero, List.set_cons_succ]
  refine wpAnyH_takeL (i := 9) (v := (.string (X ++ ⟨#[32]⟩ ++ ⟨t.toArray⟩ ++ ⟨#[32]⟩))) rfl (by kernel_rfl) (by kernel_rfl) (by kernel_rfl) (fun _ _ _ h => h) (Or.inl ⟨by kernel_rfl, ?run9⟩) hHeld ?_
  case run9 => (intro w9 hS9; go_simp; first | done | omega | (simp; omega))
  try simp only [Act.put, List.setIfInBounds_toArray, List.set_cons_zero, List.set_cons_succ]
  refine wpAnyH_ready (rs := [14]) (by kernel_rfl) (by simp) ?_
  refine AllReadyH.consL rfl (fun K hK => ?_) AllReadyH.nil
  go_simp
  refine (HB.out _ (HC1.out)).mono ?_
  rintro e wc2 ⟨⟨Y, rfl, hY⟩, hc⟩
  have HC2 := Lib.hid ((HC1.out).trans hc (by simp))
  have hsY : Y.size = (flat (operI b y)).length := by rw [size_list Y, hY]
  have HXY := Lib.hid hY
  clear hY hc
  go_wp2_with fail
  refine hK.out _ _ HC2.out (fun hHeld2 => ?_)
  clear hK K hHeld
  have hHeld := hHeld2
  clear hHeld2
  try simp only [Act.put, List.setIfInBounds_toArray, List.set_cons_zero, List.set_cons_succ]
  refine wpAnyH_takeL (i := 15) (v := (.string (X ++ ⟨#[32]⟩ ++ ⟨t.toArray⟩ ++ ⟨#[32]⟩ ++ Y))) rfl (by kernel_rfl) (by kernel_rfl) (by kernel_rfl) (fun _ _ _ h => h) (Or.inl ⟨by kernel_rfl, ?run15⟩) hHeld ?_
  case run15 => (intro w9 hS9; go_simp; first | done | omega | (simp; omega))
  try simp only [Act.put, List.setIfInBounds_toArray, List.set_cons_zero, List.set_cons_succ]
  refine wpAnyH_takeL (i := 16) (v := ?v16) rfl (by kernel_rfl) (by kernel_rfl) (by kernel_rfl) (fun _ _ _ h => h) (Or.inl ⟨by kernel_rfl, ?run16⟩) hHeld ?_
  case run16 => (intro w9 hS9; go_simp; try exact rfl)
  try simp only [Act.put, List.setIfInBounds_toArray, List.set_cons_zero, List.set_cons_succ]
  refine wpAnyH_done (by kernel_rfl) ?_ _
  go_wp2_with fail
  go_ret
  exact ⟨⟨_, rfl, by ((have h1 : ¬ k = 1 := by omega); (have h2 : ¬ k = 2 := by omega); simp [HXX.out, HXY.out, h1, h2, flat_cons, flat_app, flat_nil, It.text])⟩, HK5.out.trans HC2.out (by simp)⟩
set_option maxRecDepth 100000 in
set_option maxHeartbeats 4000000 in
theorem tx_un {B : Nat} {k v : Int} {t : List UInt8} {a : Nd} {x : List It} (ha : TxT B a x) (h4 : 4 ≤ k) (htl : t.length ≤ 100) (hlen : (flat (operI a x)).length ≤ 140737488354000) (hlx : (flat x).length ≤ 140737488354000) :
    TxT B (.mk 10 0 t [a] [] []) (.t k v t :: sp :: operI a x) := by
  intro w S cs ht hnd
  obtain ⟨kd, nu, at1, nm1, a0, b0, c0, va, vb, vc, rfl, hn, h1, h2, h3⟩ := id hnd.un7
  injection hn with e1 e2 e3 e4 e5 e6
  subst e1 e2 e3 e4 e5 e6
  obtain ⟨p1, c1, e1⟩ := h1.form
  obtain ⟨p2, c2, e2⟩ := h2.form
  obtain ⟨p3, c3, e3⟩ := h3.form
  replace e1 : va = .slice p1 1 c1 := e1
  replace e2 : vb = .slice p2 0 c2 := e2
  replace e3 : vc = .slice p3 0 c3 := e3
  subst e1 e2 e3
  have hk5 := (Keep.refl [] w).alloc (.cells #[.int .i64 10, .int .i64 0, .string ⟨t.toArray⟩, .int .i64 at1, .slice p1 1 c1, .slice p2 0 c2, .slice p3 0 c3] 29)
  have hb5 := heap_alloc_new w (.cells #[.int .i64 10, .int .i64 0, .string ⟨t.toArray⟩, .int .i64 at1, .slice p1 1 c1, .slice p2 0 c2, .slice p3 0 c3] 29)
  obtain ⟨d0, d1, d2, d3, d4, d5, d6⟩ := cells7 hb5
  have D0 := Lib.hid (And.intro d0 (And.intro d1 (And.intro d2 (And.intro d3 (And.intro d4 (And.intro d5 d6))))))
  have HK5 := Lib.hid hk5
  have hT := ht.keep0 hk5
  have HT := Lib.hid hT
  obtain ⟨aba, aoffa, csa, ea, -, hnda, hcella⟩ := (h1.keep hk5 (by simp)).at7 (i := 0) (by simp)
  replace hnda : NdR S _ false csa a := hnda
  obtain ⟨kda, nua, ata, nma, p1a, n1a, c1a, p2a, n2a, c2a, p3a, n3a, c3a, rfl, -⟩ := id hnda.un7s
  have a0 := hcella 0 (by decide)
  have a1 := hcella 1 (by decide)
  have a2 := hcella 2 (by decide)
  have a3 := hcella 3 (by decide)
  have a4 := hcella 4 (by decide)
  have a5 := hcella 5 (by decide)
  have a6 := hcella 6 (by decide)
  simp only [Nat.zero_mul, Nat.one_mul, Nat.add_zero, List.getElem?_cons_zero, List.getElem?_cons_succ] at a0 a1 a2 a3 a4 a5 a6
  have Ea := Lib.hid (And.intro a0 (And.intro a1 (And.intro a2 (And.intro a3 (And.intro a4 (And.intro a5 a6))))))
  clear hcella a0 a1 a2 a3 a4 a5 a6
  subst ea
  have HA := Lib.hid (fun W (k : Keep [] (w.alloc _) W) => p_operand (w := W) (hT.keep0 k) (hnda.keep k (by simp)) ha (by omega))
  have htz : (⟨t.toArray⟩ : ByteArray).size ≤ 100 := by show t.toArray.size ≤ 100; rw [List.size_toArray]; exact htl
  clear hb5 hk5 hnd h1 h2 h3 ht hT ha hnda
  go_enter Tryz.func10, Tryz.ntmps10
  go_wp2_with fail
  generalize w.alloc _ = w5 at *
  clear d0 d1 d2 d3 d4 d5 d6
  refine wp_region_held_drew (S := fun w' => Keep [] w5 w') (by kernel_rfl) ((Keep.refl [] w5).drew) (fun hHeld => ?_)
  refine wpAnyH_takeL (i := 0) (v := ?v0) rfl (by kernel_rfl) (by kernel_rfl) (by kernel_rfl) (fun _ _ _ h => h) (Or.inl ⟨by kernel_rfl, ?run0⟩) hHeld ?_
  case run0 => (intro w9 hS9; have q0 := hS9.cellOf D0.out.1; have q1 := hS9.cellOf D0.out.2.1; have q2 := hS9.cellOf D0.out.2.2.1; have q3 := hS9.cellOf D0.out.2.2.2.1; have q4 := hS9.cellOf D0.out.2.2.2.2.1; have q5 := hS9.cellOf D0.out.2.2.2.2.2.1; have q6 := hS9.cellOf D0.out.2.2.2.2.2.2; have a0 := hS9.cellOf Ea.out.1; have a1 := hS9.cellOf Ea.out.2.1; have a2 := hS9.cellOf Ea.out.2.2.1; have a3 := hS9.cellOf Ea.out.2.2.2.1; have a4 := hS9.cellOf Ea.out.2.2.2.2.1; have a5 := hS9.cellOf Ea.out.2.2.2.2.2.1; have a6 := hS9.cellOf Ea.out.2.2.2.2.2.2; go_simp; try exact rfl)
  try simp only [Act.put, List.setIfInBounds_toArray, List.set_cons_zero, List.set_cons_succ]
  refine wpAnyH_takeL (i := 1) (v := ?v1) rfl (by kernel_rfl) (by kernel_rfl) (by kernel_rfl) (fun _ _ _ h => h) (Or.inl ⟨by kernel_rfl, ?run1⟩) hHeld ?_
  case run1 => (intro w9 hS9; have q0 := hS9.cellOf D0.out.1; have q1 := hS9.cellOf D0.out.2.1; have q2 := hS9.cellOf D0.out.2.2.1; have q3 := hS9.cellOf D0.out.2.2.2.1; have q4 := hS9.cellOf D0.out.2.2.2.2.1; have q5 := hS9.cellOf D0.out.2.2.2.2.2.1; have q6 := hS9.cellOf D0.out.2.2.2.2.2.2; have a0 := hS9.cellOf Ea.out.1; have a1 := hS9.cellOf Ea.out.2.1; have a2 := hS9.cellOf Ea.out.2.2.1; have a3 := hS9.cellOf Ea.out.2.2.2.1; have a4 := hS9.cellOf Ea.out.2.2.2.2.1; have a5 := hS9.cellOf Ea.out.2.2.2.2.2.1; have a6 := hS9.cellOf Ea.out.2.2.2.2.2.2; go_simp; try exact rfl)
  try simp only [Act.put, List.setIfInBounds_toArray, List.set_cons_zero, List.set_cons_succ]
  refine wpAnyH_takeL (i := 3) (v := ?v3) rfl (by kernel_rfl) (by kernel_rfl) (by kernel_rfl) (fun _ _ _ h => h) (Or.inl ⟨by kernel_rfl, ?run3⟩) hHeld ?_
  case run3 => (intro w9 hS9; have q0 := hS9.cellOf D0.out.1; have q1 := hS9.cellOf D0.out.2.1; have q2 := hS9.cellOf D0.out.2.2.1; have q3 := hS9.cellOf D0.out.2.2.2.1; have q4 := hS9.cellOf D0.out.2.2.2.2.1; have q5 := hS9.cellOf D0.out.2.2.2.2.2.1; have q6 := hS9.cellOf D0.out.2.2.2.2.2.2; have a0 := hS9.cellOf Ea.out.1; have a1 := hS9.cellOf Ea.out.2.1; have a2 := hS9.cellOf Ea.out.2.2.1; have a3 := hS9.cellOf Ea.out.2.2.2.1; have a4 := hS9.cellOf Ea.out.2.2.2.2.1; have a5 := hS9.cellOf Ea.out.2.2.2.2.2.1; have a6 := hS9.cellOf Ea.out.2.2.2.2.2.2; go_simp; try exact rfl)
  try simp only [Act.put, List.setIfInBounds_toArray, List.set_cons_zero, List.set_cons_succ]
  refine wpAnyH_takeL (i := 4) (v := ?v4) rfl (by kernel_rfl) (by kernel_rfl) (by kernel_rfl) (fun _ _ _ h => h) (Or.inl ⟨by kernel_rfl, ?run4⟩) hHeld ?_
  case run4 => (intro w9 hS9; have q0 := hS9.cellOf D0.out.1; have q1 := hS9.cellOf D0.out.2.1; have q2 := hS9.cellOf D0.out.2.2.1; have q3 := hS9.cellOf D0.out.2.2.2.1; have q4 := hS9.cellOf D0.out.2.2.2.2.1; have q5 := hS9.cellOf D0.out.2.2.2.2.2.1; have q6 := hS9.cellOf D0.out.2.2.2.2.2.2; have a0 := hS9.cellOf Ea.out.1; have a1 := hS9.cellOf Ea.out.2.1; have a2 := hS9.cellOf Ea.out.2.2.1; have a3 := hS9.cellOf Ea.out.2.2.2.1; have a4 := hS9.cellOf Ea.out.2.2.2.2.1; have a5 := hS9.cellOf Ea.out.2.2.2.2.2.1; have a6 := hS9.cellOf Ea.out.2.2.2.2.2.2; go_simp; try exact rfl)
  try simp only [Act.put, List.setIfInBounds_toArray, List.set_cons_zero, List.set_cons_succ]
  refine wpAnyH_takeL (i := 5) (v := ?v5) rfl (by kernel_rfl) (by kernel_rfl) (by kernel_rfl) (fun _ _ _ h => h) (Or.inl ⟨by kernel_rfl, ?run5⟩) hHeld ?_
  case run5 => (intro w9 hS9; have q0 := hS9.cellOf D0.out.1; have q1 := hS9.cellOf D0.out.2.1; have q2 := hS9.cellOf D0.out.2.2.1; have q3 := hS9.cellOf D0.out.2.2.2.1; have q4 := hS9.cellOf D0.out.2.2.2.2.1; have q5 := hS9.cellOf D0.out.2.2.2.2.2.1; have q6 := hS9.cellOf D0.out.2.2.2.2.2.2; have a0 := hS9.cellOf Ea.out.1; have a1 := hS9.cellOf Ea.out.2.1; have a2 := hS9.cellOf Ea.out.2.2.1; have a3 := hS9.cellOf Ea.out.2.2.2.1; have a4 := hS9.cellOf Ea.out.2.2.2.2.1; have a5 := hS9.cellOf Ea.out.2.2.2.2.2.1; have a6 := hS9.cellOf Ea.out.2.2.2.2.2.2; go_simp; try exact rfl)
  try simp only [Act.put, List.setIfInBounds_toArray, List.set_cons_zero, List.set_cons_succ]
  refine wpAnyH_takeL (i := 6) (v := ?v6) rfl (by kernel_rfl) (by kernel_rfl) (by kernel_rfl) (fun _ _ _ h => h) (Or.inl ⟨by kernel_rfl, ?run6⟩) hHeld ?_
  case run6 => (intro w9 hS9; have q0 := hS9.cellOf D0.out.1; have q1 := hS9.cellOf D0.out.2.1; have q2 := hS9.cellOf D0.out.2.2.1; have q3 := hS9.cellOf D0.out.2.2.2.1; have q4 := hS9.cellOf D0.out.2.2.2.2.1; have q5 := hS9.cellOf D0.out.2.2.2.2.2.1; have q6 := hS9.cellOf D0.out.2.2.2.2.2.2; have a0 := hS9.cellOf Ea.out.1; have a1 := hS9.cellOf Ea.out.2.1; have a2 := hS9.cellOf Ea.out.2.2.1; have a3 := hS9.cellOf Ea.out.2.2.2.1; have a4 := hS9.cellOf Ea.out.2.2.2.2.1; have a5 := hS9.cellOf Ea.out.2.2.2.2.2.1; have a6 := hS9.cellOf Ea.out.2.2.2.2.2.2; go_simp; try exact rfl)
  try simp only [Act.put, List.setIfInBounds_toArray, List.set_cons_zero, List.set_cons_succ]
  refine wpAnyH_takeL (i := 2) (v := (.string (⟨t.toArray⟩ ++ ⟨#[32]⟩))) rfl (by kernel_rfl) (by kernel_rfl) (by kernel_rfl) (fun _ _ _ h => h) (Or.inl ⟨by kernel_rfl, ?run2⟩) hHeld ?_
  case run2 => (intro w9 hS9; go_simp; first | done | omega | (simp; omega))
  try simp only [Act.put, List.setIfInBounds_toArray, List.set_cons_zero, List.set_cons_succ]
  refine wpAnyH_ready (rs := [7]) (by kernel_rfl) (by simp) ?_
  refine AllReadyH.consL rfl (fun K hK => ?_) AllReadyH.nil
  go_simp
  refine (HA.out _ (((Keep.refl [] w5).drew))).mono ?_
  rintro e wc1 ⟨⟨X, rfl, hX⟩, hc⟩
  have HC1 := Lib.hid ((((Keep.refl [] w5).drew)).trans hc (by simp))
  have hsX : X.size = (flat (operI a x)).length := by rw [size_list X, hX]
  have HXX := Lib.hid hX
  clear hX hc
  go_wp2_with fail
  refine hK.out _ _ HC1.out (fun hHeld2 => ?_)
  clear hK K hHeld
  have hHeld := hHeld2
  clear hHeld2
  try simp only [Act.put, List.setIfInBounds_toArray, List.set_cons_zero, List.set_cons_succ]
  refine wpAnyH_takeL (i := 8) (v := (.string (⟨t.toArray⟩ ++ ⟨#[32]⟩ ++ X))) rfl (by kernel_rfl) (by kernel_rfl) (by kernel_rfl) (fun _ _ _ h => h) (Or.inl ⟨by kernel_rfl, ?run8⟩) hHeld ?_
  case run8 => (intro w9 hS9; go_simp; first | done | omega | (simp; omega))
  try simp only [Act.put, List.setIfInBounds_toArray, List.set_cons_zero, List.set_cons_succ]
  refine wpAnyH_takeL (i := 9) (v := ?v9) rfl (by kernel_rfl) (by kernel_rfl) (by kernel_rfl) (fun _ _ _ h => h) (Or.inl ⟨by kernel_rfl, ?run9⟩) hHeld ?_
  case run9 => (intro w9 hS9; go_simp; try exact rfl)
  try simp only [Act.put, List.setIfInBounds_toArray, List.set_cons_zero, List.set_cons_succ]
  refine wpAnyH_done (by kernel_rfl) ?_ _
  go_wp2_with fail
  go_ret
  exact ⟨⟨_, rfl, by ((have h1 : ¬ k = 1 := by omega); (have h2 : ¬ k = 2 := by omega); simp [HXX.out, h1, h2, flat_cons, flat_app, flat_nil, It.text])⟩, HK5.out.trans HC1.out (by simp)⟩
set_option maxRecDepth 100000 in
set_option maxHeartbeats 4000000 in
theorem tx_mat {B : Nat} {a b : Nd} {x y : List It} (ha : TxT B a x) (hb : TxT B b y) (hlen : (flat (operI a x)).length + (flat (operI b y)).length ≤ 140737488354000) (hlx : (flat x).length ≤ 140737488354000) (hly : (flat y).length ≤ 140737488354000) :
    TxT B (.mk 11 0 [] [a, b] [] []) (operI a x ++ sp :: sg 61 :: sp :: operI b y) := by
  intro w S cs ht hnd
  obtain ⟨kd, nu, at1, nm1, a0, b0, c0, va, vb, vc, rfl, hn, h1, h2, h3⟩ := id hnd.un7
  injection hn with e1 e2 e3 e4 e5 e6
  subst e1 e2 e3 e4 e5 e6
  obtain ⟨p1, c1, e1⟩ := h1.form
  obtain ⟨p2, c2, e2⟩ := h2.form
  obtain ⟨p3, c3, e3⟩ := h3.form
  replace e1 : va = .slice p1 2 c1 := e1
  replace e2 : vb = .slice p2 0 c2 := e2
  replace e3 : vc = .slice p3 0 c3 := e3
  subst e1 e2 e3
  have hk5 := (Keep.refl [] w).alloc (.cells #[.int .i64 11, .int .i64 0, .string ⟨#[]⟩, .int .i64 at1, .slice p1 2 c1, .slice p2 0 c2, .slice p3 0 c3] 29)
  have hb5 := heap_alloc_new w (.cells #[.int .i64 11, .int .i64 0, .string ⟨#[]⟩, .int .i64 at1, .slice p1 2 c1, .slice p2 0 c2, .slice p3 0 c3] 29)
  obtain ⟨d0, d1, d2, d3, d4, d5, d6⟩ := cells7 hb5
  have D0 := Lib.hid (And.intro d0 (And.intro d1 (And.intro d2 (And.intro d3 (And.intro d4 (And.intro d5 d6))))))
  have HK5 := Lib.hid hk5
  have hT := ht.keep0 hk5
  have HT := Lib.hid hT
  obtain ⟨aba, aoffa, csa, ea, -, hnda, hcella⟩ := (h1.keep hk5 (by simp)).at7 (i := 0) (by simp)
  replace hnda : NdR S _ false csa a := hnda
  obtain ⟨kda, nua, ata, nma, p1a, n1a, c1a, p2a, n2a, c2a, p3a, n3a, c3a, rfl, -⟩ := id hnda.un7s
  have a0 := hcella 0 (by decide)
  have a1 := hcella 1 (by decide)
  have a2 := hcella 2 (by decide)
  have a3 := hcella 3 (by decide)
  have a4 := hcella 4 (by decide)
  have a5 := hcella 5 (by decide)
  have a6 := hcella 6 (by decide)
  simp only [Nat.zero_mul, Nat.one_mul, Nat.add_zero, List.getElem?_cons_zero, List.getElem?_cons_succ] at a0 a1 a2 a3 a4 a5 a6
  have Ea := Lib.hid (And.intro a0 (And.intro a1 (And.intro a2 (And.intro a3 (And.intro a4 (And.intro a5 a6))))))
  clear hcella a0 a1 a2 a3 a4 a5 a6
  obtain ⟨abb, aoffb, csb, eb, -, hndb, hcellb⟩ := (h1.keep hk5 (by simp)).at7 (i := 1) (by simp)
  replace hndb : NdR S _ false csb b := hndb
  obtain ⟨kdb, nub, atb, nmb, p1b, n1b, c1b, p2b, n2b, c2b, p3b, n3b, c3b, rfl, -⟩ := id hndb.un7s
  have b0 := hcellb 0 (by decide)
  have b1 := hcellb 1 (by decide)
  have b2 := hcellb 2 (by decide)
  have b3 := hcellb 3 (by decide)
  have b4 := hcellb 4 (by decide)
  have b5 := hcellb 5 (by decide)
  have b6 := hcellb 6 (by decide)
  simp only [Nat.zero_mul, Nat.one_mul, Nat.add_zero, List.getElem?_cons_zero, List.getElem?_cons_succ] at b0 b1 b2 b3 b4 b5 b6
  have Eb := Lib.hid (And.intro b0 (And.intro b1 (And.intro b2 (And.intro b3 (And.intro b4 (And.intro b5 b6))))))
  clear hcellb b0 b1 b2 b3 b4 b5 b6
  subst ea
  cases eb
  have HA := Lib.hid (fun W (k : Keep [] (w.alloc _) W) => p_operand (w := W) (hT.keep0 k) (hnda.keep k (by simp)) ha (by omega))
  have HB := Lib.hid (fun W (k : Keep [] (w.alloc _) W) => p_operand (w := W) (hT.keep0 k) (hndb.keep k (by simp)) hb (by omega))
  clear hb5 hk5 hnd h1 h2 h3 ht hT ha hb hnda hndb
  go_enter Tryz.func10, Tryz.ntmps10
  go_wp2_with fail
  generalize w.alloc _ = w5 at *
  clear d0 d1 d2 d3 d4 d5 d6
  refine wp_region_held_drew (S := fun w' => Keep [] w5 w') (by kernel_rfl) ((Keep.refl [] w5).drew) (fun hHeld => ?_)
  refine wpAnyH_takeL (i := 0) (v := ?v0) rfl (by kernel_rfl) (by kernel_rfl) (by kernel_rfl) (fun _ _ _ h => h) (Or.inl ⟨by kernel_rfl, ?run0⟩) hHeld ?_
  case run0 => (intro w9 hS9; have q0 := hS9.cellOf D0.out.1; have q1 := hS9.cellOf D0.out.2.1; have q2 := hS9.cellOf D0.out.2.2.1; have q3 := hS9.cellOf D0.out.2.2.2.1; have q4 := hS9.cellOf D0.out.2.2.2.2.1; have q5 := hS9.cellOf D0.out.2.2.2.2.2.1; have q6 := hS9.cellOf D0.out.2.2.2.2.2.2; have a0 := hS9.cellOf Ea.out.1; have a1 := hS9.cellOf Ea.out.2.1; have a2 := hS9.cellOf Ea.out.2.2.1; have a3 := hS9.cellOf Ea.out.2.2.2.1; have a4 := hS9.cellOf Ea.out.2.2.2.2.1; have a5 := hS9.cellOf Ea.out.2.2.2.2.2.1; have a6 := hS9.cellOf Ea.out.2.2.2.2.2.2; have b0 := hS9.cellOf Eb.out.1; have b1 := hS9.cellOf Eb.out.2.1; have b2 := hS9.cellOf Eb.out.2.2.1; have b3 := hS9.cellOf Eb.out.2.2.2.1; have b4 := hS9.cellOf Eb.out.2.2.2.2.1; have b5 := hS9.cellOf Eb.out.2.2.2.2.2.1; have b6 := hS9.cellOf Eb.out.2.2.2.2.2.2; go_simp; try exact rfl)
  try simp only [Act.put, List.setIfInBounds_toArray, List.set_cons_zero, List.set_cons_succ]
  refine wpAnyH_takeL (i := 1) (v := ?v1) rfl (by kernel_rfl) (by kernel_rfl) (by kernel_rfl) (fun _ _ _ h => h) (Or.inl ⟨by kernel_rfl, ?run1⟩) hHeld ?_
  case run1 => (intro w9 hS9; have q0 := hS9.cellOf D0.out.1; have q1 := hS9.cellOf D0.out.2.1; have q2 := hS9.cellOf D0.out.2.2.1; have q3 := hS9.cellOf D0.out.2.2.2.1; have q4 := hS9.cellOf D0.out.2.2.2.2.1; have q5 := hS9.cellOf D0.out.2.2.2.2.2.1; have q6 := hS9.cellOf D0.out.2.2.2.2.2.2; have a0 := hS9.cellOf Ea.out.1; have a1 := hS9.cellOf Ea.out.2.1; have a2 := hS9.cellOf Ea.out.2.2.1; have a3 := hS9.cellOf Ea.out.2.2.2.1; have a4 := hS9.cellOf Ea.out.2.2.2.2.1; have a5 := hS9.cellOf Ea.out.2.2.2.2.2.1; have a6 := hS9.cellOf Ea.out.2.2.2.2.2.2; have b0 := hS9.cellOf Eb.out.1; have b1 := hS9.cellOf Eb.out.2.1; have b2 := hS9.cellOf Eb.out.2.2.1; have b3 := hS9.cellOf Eb.out.2.2.2.1; have b4 := hS9.cellOf Eb.out.2.2.2.2.1; have b5 := hS9.cellOf Eb.out.2.2.2.2.2.1; have b6 := hS9.cellOf Eb.out.2.2.2.2.2.2; go_simp; try exact rfl)
  try simp only [Act.put, List.setIfInBounds_toArray, List.set_cons_zero, List.set_cons_succ]
  refine wpAnyH_takeL (i := 2) (v := ?v2) rfl (by kernel_rfl) (by kernel_rfl) (by kernel_rfl) (fun _ _ _ h => h) (Or.inl ⟨by kernel_rfl, ?run2⟩) hHeld ?_
  case run2 => (intro w9 hS9; have q0 := hS9.cellOf D0.out.1; have q1 := hS9.cellOf D0.out.2.1; have q2 := hS9.cellOf D0.out.2.2.1; have q3 := hS9.cellOf D0.out.2.2.2.1; have q4 := hS9.cellOf D0.out.2.2.2.2.1; have q5 := hS9.cellOf D0.out.2.2.2.2.2.1; have q6 := hS9.cellOf D0.out.2.2.2.2.2.2; have a0 := hS9.cellOf Ea.out.1; have a1 := hS9.cellOf Ea.out.2.1; have a2 := hS9.cellOf Ea.out.2.2.1; have a3 := hS9.cellOf Ea.out.2.2.2.1; have a4 := hS9.cellOf Ea.out.2.2.2.2.1; have a5 := hS9.cellOf Ea.out.2.2.2.2.2.1; have a6 := hS9.cellOf Ea.out.2.2.2.2.2.2; have b0 := hS9.cellOf Eb.out.1; have b1 := hS9.cellOf Eb.out.2.1; have b2 := hS9.cellOf Eb.out.2.2.1; have b3 := hS9.cellOf Eb.out.2.2.2.1; have b4 := hS9.cellOf Eb.out.2.2.2.2.1; have b5 := hS9.cellOf Eb.out.2.2.2.2.2.1; have b6 := hS9.cellOf Eb.out.2.2.2.2.2.2; go_simp; try exact rfl)
  try simp only [Act.put, List.setIfInBounds_toArray, List.set_cons_zero, List.set_cons_succ]
  refine wpAnyH_takeL (i := 3) (v := ?v3) rfl (by kernel_rfl) (by kernel_rfl) (by kernel_rfl) (fun _ _ _ h => h) (Or.inl ⟨by kernel_rfl, ?run3⟩) hHeld ?_
  case run3 => (intro w9 hS9; have q0 := hS9.cellOf D0.out.1; have q1 := hS9.cellOf D0.out.2.1; have q2 := hS9.cellOf D0.out.2.2.1; have q3 := hS9.cellOf D0.out.2.2.2.1; have q4 := hS9.cellOf D0.out.2.2.2.2.1; have q5 := hS9.cellOf D0.out.2.2.2.2.2.1; have q6 := hS9.cellOf D0.out.2.2.2.2.2.2; have a0 := hS9.cellOf Ea.out.1; have a1 := hS9.cellOf Ea.out.2.1; have a2 := hS9.cellOf Ea.out.2.2.1; have a3 := hS9.cellOf Ea.out.2.2.2.1; have a4 := hS9.cellOf Ea.out.2.2.2.2.1; have a5 := hS9.cellOf Ea.out.2.2.2.2.2.1; have a6 := hS9.cellOf Ea.out.2.2.2.2.2.2; have b0 := hS9.cellOf Eb.out.1; have b1 := hS9.cellOf Eb.out.2.1; have b2 := hS9.cellOf Eb.out.2.2.1; have b3 := hS9.cellOf Eb.out.2.2.2.1; have b4 := hS9.cellOf Eb.out.2.2.2.2.1; have b5 := hS9.cellOf Eb.out.2.2.2.2.2.1; have b6 := hS9.cellOf Eb.out.2.2.2.2.2.2; go_simp; try exact rfl)
  try simp only [Act.put, List.setIfInBounds_toArray, List.set_cons_zero, List.set_cons_succ]
  refine wpAnyH_takeL (i := 6) (v := ?v6) rfl (by kernel_rfl) (by kernel_rfl) (by kernel_rfl) (fun _ _ _ h => h) (Or.inl ⟨by kernel_rfl, ?run6⟩) hHeld ?_
  case run6 => (intro w9 hS9; have q0 := hS9.cellOf D0.out.1; have q1 := hS9.cellOf D0.out.2.1; have q2 := hS9.cellOf D0.out.2.2.1; have q3 := hS9.cellOf D0.out.2.2.2.1; have q4 := hS9.cellOf D0.out.2.2.2.2.1; have q5 := hS9.cellOf D0.out.2.2.2.2.2.1; have q6 := hS9.cellOf D0.out.2.2.2.2.2.2; have a0 := hS9.cellOf Ea.out.1; have a1 := hS9.cellOf Ea.out.2.1; have a2 := hS9.cellOf Ea.out.2.2.1; have a3 := hS9.cellOf Ea.out.2.2.2.1; have a4 := hS9.cellOf Ea.out.2.2.2.2.1; have a5 := hS9.cellOf Ea.out.2.2.2.2.2.1; have a6 := hS9.cellOf Ea.out.2.2.2.2.2.2; have b0 := hS9.cellOf Eb.out.1; have b1 := hS9.cellOf Eb.out.2.1; have b2 := hS9.cellOf Eb.out.2.2.1; have b3 := hS9.cellOf Eb.out.2.2.2.1; have b4 := hS9.cellOf Eb.out.2.2.2.2.1; have b5 := hS9.cellOf Eb.out.2.2.2.2.2.1; have b6 := hS9.cellOf Eb.out.2.2.2.2.2.2; go_simp; try exact rfl)
  try simp only [Act.put, List.setIfInBounds_toArray, List.set_cons_zero, List.set_cons_succ]
  refine wpAnyH_takeL (i := 7) (v := ?v7) rfl (by kernel_rfl) (by kernel_rfl) (by kernel_rfl) (fun _ _ _ h => h) (Or.inl ⟨by kernel_rfl, ?run7⟩) hHeld ?_
  case run7 => (intro w9 hS9; have q0 := hS9.cellOf D0.out.1; have q1 := hS9.cellOf D0.out.2.1; have q2 := hS9.cellOf D0.out.2.2.1; have q3 := hS9.cellOf D0.out.2.2.2.1; have q4 := hS9.cellOf D0.out.2.2.2.2.1; have q5 := hS9.cellOf D0.out.2.2.2.2.2.1; have q6 := hS9.cellOf D0.out.2.2.2.2.2.2; have a0 := hS9.cellOf Ea.out.1; have a1 := hS9.cellOf Ea.out.2.1; have a2 := hS9.cellOf Ea.out.2.2.1; have a3 := hS9.cellOf Ea.out.2.2.2.1; have a4 := hS9.cellOf Ea.out.2.2.2.2.1; have a5 := hS9.cellOf Ea.out.2.2.2.2.2.1; have a6 := hS9.cellOf Ea.out.2.2.2.2.2.2; have b0 := hS9.cellOf Eb.out.1; have b1 := hS9.cellOf Eb.out.2.1; have b2 := hS9.cellOf Eb.out.2.2.1; have b3 := hS9.cellOf Eb.out.2.2.2.1; have b4 := hS9.cellOf Eb.out.2.2.2.2.1; have b5 := hS9.cellOf Eb.out.2.2.2.2.2.1; have b6 := hS9.cellOf Eb.out.2.2.2.2.2.2; go_simp; try exact rfl)
  try simp only [Act.put, List.setIfInBounds_toArray, List.set_cons_zero, List.set_cons_succ]
  refine wpAnyH_takeL (i := 8) (v := ?v8) rfl (by kernel_rfl) (by kernel_rfl) (by kernel_rfl) (fun _ _ _ h => h) (Or.inl ⟨by kernel_rfl, ?run8⟩) hHeld ?_
  case run8 => (intro w9 hS9; have q0 := hS9.cellOf D0.out.1; have q1 := hS9.cellOf D0.out.2.1; have q2 := hS9.cellOf D0.out.2.2.1; have q3 := hS9.cellOf D0.out.2.2.2.1; have q4 := hS9.cellOf D0.out.2.2.2.2.1; have q5 := hS9.cellOf D0.out.2.2.2.2.2.1; have q6 := hS9.cellOf D0.out.2.2.2.2.2.2; have a0 := hS9.cellOf Ea.out.1; have a1 := hS9.cellOf Ea.out.2.1; have a2 := hS9.cellOf Ea.out.2.2.1; have a3 := hS9.cellOf Ea.out.2.2.2.1; have a4 := hS9.cellOf Ea.out.2.2.2.2.1; have a5 := hS9.cellOf Ea.out.2.2.2.2.2.1; have a6 := hS9.cellOf Ea.out.2.2.2.2.2.2; have b0 := hS9.cellOf Eb.out.1; have b1 := hS9.cellOf Eb.out.2.1; have b2 := hS9.cellOf Eb.out.2.2.1; have b3 := hS9.cellOf Eb.out.2.2.2.1; have b4 := hS9.cellOf Eb.out.2.2.2.2.1; have b5 := hS9.cellOf Eb.out.2.2.2.2.2.1; have b6 := hS9.cellOf Eb.out.2.2.2.2.2.2; go_simp; try exact rfl)
  try simp only [Act.put, List.setIfInBounds_toArray, List.set_cons_zero, List.set_cons_succ]
  refine wpAnyH_takeL (i := 9) (v := ?v9) rfl (by kernel_rfl) (by kernel_rfl) (by kernel_rfl) (fun _ _ _ h => h) (Or.inl ⟨by kernel_rfl, ?run9⟩) hHeld ?_
  case run9 => (intro w9 hS9; have q0 := hS9.cellOf D0.out.1; have q1 := hS9.cellOf D0.out.2.1; have q2 := hS9.cellOf D0.out.2.2.1; have q3 := hS9.cellOf D0.out.2.2.2.1; have q4 := hS9.cellOf D0.out.2.2.2.2.1; have q5 := hS9.cellOf D0.out.2.2.2.2.2.1; have q6 := hS9.cellOf D0.out.2.2.2.2.2.2; have a0 := hS9.cellOf Ea.out.1; have a1 := hS9.cellOf Ea.out.2.1; have a2 := hS9.cellOf Ea.out.2.2.1; have a3 := hS9.cellOf Ea.out.2.2.2.1; have a4 := hS9.cellOf Ea.out.2.2.2.2.1; have a5 := hS9.cellOf Ea.out.2.2.2.2.2.1; have a6 := hS9.cellOf Ea.out.2.2.2.2.2.2; have b0 := hS9.cellOf Eb.out.1; have b1 := hS9.cellOf Eb.out.2.1; have b2 := hS9.cellOf Eb.out.2.2.1; have b3 := hS9.cellOf Eb.out.2.2.2.1; have b4 := hS9.cellOf Eb.out.2.2.2.2.1; have b5 := hS9.cellOf Eb.out.2.2.2.2.2.1; have b6 := hS9.cellOf Eb.out.2.2.2.2.2.2; go_simp; try exact rfl)
  try simp only [Act.put, List.setIfInBounds_toArray, List.set_cons_zero, List.set_cons_succ]
  refine wpAnyH_ready (rs := [4]) (by kernel_rfl) (by simp) ?_
  refine AllReadyH.consL rfl (fun K hK => ?_) AllReadyH.nil
  go_simp
  refine (HA.out _ (((Keep.refl [] w5).drew))).mono ?_
  rintro e wc1 ⟨⟨X, rfl, hX⟩, hc⟩
  have HC1 := Lib.hid ((((Keep.refl [] w5).drew)).trans hc (by simp))
  have hsX : X.size = (flat (operI a x)).length := by rw [size_list X, hX]
  have HXX := Lib.hid hX
  clear hX hc
  go_wp2_with fail
  refine hK.out _ _ HC1.out (fun hHeld2 => ?_)
  clear hK K hHeld
  have hHeld := hHeld2
  clear hHeld2
  try simp only [Act.put, List.setIfInBounds_toArray, List.set_cons_zero, List.set_cons_succ]
  refine wpAnyH_takeL (i := 5) (v := (.string (X ++ ⟨#[32, 61, 32]⟩))) rfl (by kernel_rfl) (by kernel_rfl) (by kernel_rfl) (fun _ _ _ h => h) (Or.inl ⟨by kernel_rfl, ?run5⟩) hHeld ?_
  case run5 => (intro w9 hS9; go_simp; first | done | omega | (simp; omega))
  try simp only [Act.put, List.setIfInBounds_toArray, List.set_cons_zero, List.set_cons_succ]
  refine wpAnyH_ready (rs := [10]) (by kernel_rfl) (by simp) ?_
  refine AllReadyH.consL rfl (fun K hK => ?_) AllReadyH.nil
  go_simp
  refine (HB.out _ (HC1.out)).mono ?_
  rintro e wc2 ⟨⟨Y, rfl, hY⟩, hc⟩
  have HC2 := Lib.hid ((HC1.out).trans hc (by simp))
  have hsY : Y.size = (flat (operI b y)).length := by rw [size_list Y, hY]
  have HXY := Lib.hid hY
  clear hY hc
  go_wp2_with fail
  refine hK.out _ _ HC2.out (fun hHeld2 => ?_)
  clear hK K hHeld
  have hHeld := hHeld2
  clear hHeld2
  try simp only [Act.put, List.setIfInBounds_toArray, List.set_cons_zero, List.set_cons_succ]
  refine wpAnyH_takeL (i := 11) (v := (.string (X ++ ⟨#[32, 61, 32]⟩ ++ Y))) rfl (by kernel_rfl) (by kernel_rfl) (by kernel_rfl) (fun _ _ _ h => h) (Or.inl ⟨by kernel_rfl, ?run11⟩) hHeld ?_
  case run11 => (intro w9 hS9; go_simp; first | done | omega | (simp; omega))
  try simp only [Act.put, List.setIfInBounds_toArray, List.set_cons_zero, List.set_cons_succ]
  refine wpAnyH_takeL (i := 12) (v := ?v12) rfl (by kernel_rfl) (by kernel_rfl) (by kernel_rfl) (fun _ _ _ h => h) (Or.inl ⟨by kernel_rfl, ?run12⟩) hHeld ?_
  case run12 => (intro w9 hS9; go_simp; try exact rfl)
  try simp only [Act.put, List.setIfInBounds_toArray, List.set_cons_zero, List.set_cons_succ]
  refine wpAnyH_done (by kernel_rfl) ?_ _
  go_wp2_with fail
  go_ret
  exact ⟨⟨_, rfl, by (simp [HXX.out, HXY.out, flat_cons, flat_app, flat_nil, It.text])⟩, HK5.out.trans HC2.out (by simp)⟩
set_option maxRecDepth 100000 in
set_option maxHeartbeats 4000000 in
theorem tx_send {B : Nat} {a b : Nd} {x y : List It} (ha : TxT B a x) (hb : TxT B b y) (hlen : (flat (operI a x)).length + (flat (operI b y)).length ≤ 140737488354000) (hlx : (flat x).length ≤ 140737488354000) (hly : (flat y).length ≤ 140737488354000) :
    TxT B (.mk 12 0 [] [a, b] [] []) (operI a x ++ sp :: sg 33 :: sp :: operI b y) := by
  intro w S cs ht hnd
  obtain ⟨kd, nu, at1, nm1, a0, b0, c0, va, vb, vc, rfl, hn, h1, h2, h3⟩ := id hnd.un7
  injection hn with e1 e2 e3 e4 e5 e6
  subst e1 e2 e3 e4 e5 e6
  obtain ⟨p1, c1, e1⟩ := h1.form
  obtain ⟨p2, c2, e2⟩ := h2.form
  obtain ⟨p3, c3, e3⟩ := h3.form
  replace e1 : va = .slice p1 2 c1 := e1
  replace e2 : vb = .slice p2 0 c2 := e2
  replace e3 : vc = .slice p3 0 c3 := e3
  subst e1 e2 e3
  have hk5 := (Keep.refl [] w).alloc (.cells #[.int .i64 12, .int .i64 0, .string ⟨#[]⟩, .int .i64 at1, .slice p1 2 c1, .slice p2 0 c2, .slice p3 0 c3] 29)
  have hb5 := heap_alloc_new w (.cells #[.int .i64 12, .int .i64 0, .string ⟨#[]⟩, .int .i64 at1, .slice p1 2 c1, .slice p2 0 c2, .slice p3 0 c3] 29)
  obtain ⟨d0, d1, d2, d3, d4, d5, d6⟩ := cells7 hb5
  have D0 := Lib.hid (And.intro d0 (And.intro d1 (And.intro d2 (And.intro d3 (And.intro d4 (And.intro d5 d6))))))
  have HK5 := Lib.hid hk5
  have hT := ht.keep0 hk5
  have HT := Lib.hid hT
  obtain ⟨aba, aoffa, csa, ea, -, hnda, hcella⟩ := (h1.keep hk5 (by simp)).at7 (i := 0) (by simp)
  replace hnda : NdR S _ false csa a := hnda
  obtain ⟨kda, nua, ata, nma, p1a, n1a, c1a, p2a, n2a, c2a, p3a, n3a, c3a, rfl, -⟩ := id hnda.un7s
  have a0 := hcella 0 (by decide)
  have a1 := hcella 1 (by decide)
  have a2 := hcella 2 (by decide)
  have a3 := hcella 3 (by decide)
  have a4 := hcella 4 (by decide)
  have a5 := hcella 5 (by decide)
  have a6 := hcella 6 (by decide)
  simp only [Nat.zero_mul, Nat.one_mul, Nat.add_zero, List.getElem?_cons_zero, List.getElem?_cons_succ] at a0 a1 a2 a3 a4 a5 a6
  have Ea := Lib.hid (And.intro a0 (And.intro a1 (And.intro a2 (And.intro a3 (And.intro a4 (And.intro a5 a6))))))
  clear hcella a0 a1 a2 a3 a4 a5 a6
  obtain ⟨abb, aoffb, csb, eb, -, hndb, hcellb⟩ := (h1.keep hk5 (by simp)).at7 (i := 1) (by simp)
  replace hndb : NdR S _ false csb b := hndb
  obtain ⟨kdb, nub, atb, nmb, p1b, n1b, c1b, p2b, n2b, c2b, p3b, n3b, c3b, rfl, -⟩ := id hndb.un7s
  have b0 := hcellb 0 (by decide)
  have b1 := hcellb 1 (by decide)
  have b2 := hcellb 2 (by decide)
  have b3 := hcellb 3 (by decide)
  have b4 := hcellb 4 (by decide)
  have b5 := hcellb 5 (by decide)
  have b6 := hcellb 6 (by decide)
  simp only [Nat.zero_mul, Nat.one_mul, Nat.add_zero, List.getElem?_cons_zero, List.getElem?_cons_succ] at b0 b1 b2 b3 b4 b5 b6
  have Eb := Lib.hid (And.intro b0 (And.intro b1 (And.intro b2 (And.intro b3 (And.intro b4 (And.intro b5 b6))))))
  clear hcellb b0 b1 b2 b3 b4 b5 b6
  subst ea
  cases eb
  have HA := Lib.hid (fun W (k : Keep [] (w.alloc _) W) => p_operand (w := W) (hT.keep0 k) (hnda.keep k (by simp)) ha (by omega))
  have HB := Lib.hid (fun W (k : Keep [] (w.alloc _) W) => p_operand (w := W) (hT.keep0 k) (hndb.keep k (by simp)) hb (by omega))
  clear hb5 hk5 hnd h1 h2 h3 ht hT ha hb hnda hndb
  go_enter Tryz.func10, Tryz.ntmps10
  go_wp2_with fail
  generalize w.alloc _ = w5 at *
  clear d0 d1 d2 d3 d4 d5 d6
  refine wp_region_held_drew (S := fun w' => Keep [] w5 w') (by kernel_rfl) ((Keep.refl [] w5).drew) (fun hHeld => ?_)
  refine wpAnyH_takeL (i := 0) (v := ?v0) rfl (by kernel_rfl) (by kernel_rfl) (by kernel_rfl) (fun _ _ _ h => h) (Or.inl ⟨by kernel_rfl, ?run0⟩) hHeld ?_
  case run0 => (intro w9 hS9; have q0 := hS9.cellOf D0.out.1; have q1 := hS9.cellOf D0.out.2.1; have q2 := hS9.cellOf D0.out.2.2.1; have q3 := hS9.cellOf D0.out.2.2.2.1; have q4 := hS9.cellOf D0.out.2.2.2.2.1; have q5 := hS9.cellOf D0.out.2.2.2.2.2.1; have q6 := hS9.cellOf D0.out.2.2.2.2.2.2; have a0 := hS9.cellOf Ea.out.1; have a1 := hS9.cellOf Ea.out.2.1; have a2 := hS9.cellOf Ea.out.2.2.1; have a3 := hS9.cellOf Ea.out.2.2.2.1; have a4 := hS9.cellOf Ea.out.2.2.2.2.1; have a5 := hS9.cellOf Ea.out.2.2.2.2.2.1; have a6 := hS9.cellOf Ea.out.2.2.2.2.2.2; have b0 := hS9.cellOf Eb.out.1; have b1 := hS9.cellOf Eb.out.2.1; have b2 := hS9.cellOf Eb.out.2.2.1; have b3 := hS9.cellOf Eb.out.2.2.2.1; have b4 := hS9.cellOf Eb.out.2.2.2.2.1; have b5 := hS9.cellOf Eb.out.2.2.2.2.2.1; have b6 := hS9.cellOf Eb.out.2.2.2.2.2.2; go_simp; try exact rfl)
  try simp only [Act.put, List.setIfInBounds_toArray, List.set_cons_zero, List.set_cons_succ]
  refine wpAnyH_takeL (i := 1) (v := ?v1) rfl (by kernel_rfl) (by kernel_rfl) (by kernel_rfl) (fun _ _ _ h => h) (Or.inl ⟨by kernel_rfl, ?run1⟩) hHeld ?_
  case run1 => (intro w9 hS9; have q0 := hS9.cellOf D0.out.1; have q1 := hS9.cellOf D0.out.2.1; have q2 := hS9.cellOf D0.out.2.2.1; have q3 := hS9.cellOf D0.out.2.2.2.1; have q4 := hS9.cellOf D0.out.2.2.2.2.1; have q5 := hS9.cellOf D0.out.2.2.2.2.2.1; have q6 := hS9.cellOf D0.out.2.2.2.2.2.2; have a0 := hS9.cellOf Ea.out.1; have a1 := hS9.cellOf Ea.out.2.1; have a2 := hS9.cellOf Ea.out.2.2.1; have a3 := hS9.cellOf Ea.out.2.2.2.1; have a4 := hS9.cellOf Ea.out.2.2.2.2.1; have a5 := hS9.cellOf Ea.out.2.2.2.2.2.1; have a6 := hS9.cellOf Ea.out.2.2.2.2.2.2; have b0 := hS9.cellOf Eb.out.1; have b1 := hS9.cellOf Eb.out.2.1; have b2 := hS9.cellOf Eb.out.2.2.1; have b3 := hS9.cellOf Eb.out.2.2.2.1; have b4 := hS9.cellOf Eb.out.2.2.2.2.1; have b5 := hS9.cellOf Eb.out.2.2.2.2.2.1; have b6 := hS9.cellOf Eb.out.2.2.2.2.2.2; go_simp; try exact rfl)
  try simp only [Act.put, List.setIfInBounds_toArray, List.set_cons_zero, List.set_cons_succ]
  refine wpAnyH_takeL (i := 2) (v := ?v2) rfl (by kernel_rfl) (by kernel_rfl) (by kernel_rfl) (fun _ _ _ h => h) (Or.inl ⟨by kernel_rfl, ?run2⟩) hHeld ?_
  case run2 => (intro w9 hS9; have q0 := hS9.cellOf D0.out.1; have q1 := hS9.cellOf D0.out.2.1; have q2 := hS9.cellOf D0.out.2.2.1; have q3 := hS9.cellOf D0.out.2.2.2.1; have q4 := hS9.cellOf D0.out.2.2.2.2.1; have q5 := hS9.cellOf D0.out.2.2.2.2.2.1; have q6 := hS9.cellOf D0.out.2.2.2.2.2.2; have a0 := hS9.cellOf Ea.out.1; have a1 := hS9.cellOf Ea.out.2.1; have a2 := hS9.cellOf Ea.out.2.2.1; have a3 := hS9.cellOf Ea.out.2.2.2.1; have a4 := hS9.cellOf Ea.out.2.2.2.2.1; have a5 := hS9.cellOf Ea.out.2.2.2.2.2.1; have a6 := hS9.cellOf Ea.out.2.2.2.2.2.2; have b0 := hS9.cellOf Eb.out.1; have b1 := hS9.cellOf Eb.out.2.1; have b2 := hS9.cellOf Eb.out.2.2.1; have b3 := hS9.cellOf Eb.out.2.2.2.1; have b4 := hS9.cellOf Eb.out.2.2.2.2.1; have b5 := hS9.cellOf Eb.out.2.2.2.2.2.1; have b6 := hS9.cellOf Eb.out.2.2.2.2.2.2; go_simp; try exact rfl)
  try simp only [Act.put, List.setIfInBounds_toArray, List.set_cons_zero, List.set_cons_succ]
  refine wpAnyH_takeL (i := 3) (v := ?v3) rfl (by kernel_rfl) (by kernel_rfl) (by kernel_rfl) (fun _ _ _ h => h) (Or.inl ⟨by kernel_rfl, ?run3⟩) hHeld ?_
  case run3 => (intro w9 hS9; have q0 := hS9.cellOf D0.out.1; have q1 := hS9.cellOf D0.out.2.1; have q2 := hS9.cellOf D0.out.2.2.1; have q3 := hS9.cellOf D0.out.2.2.2.1; have q4 := hS9.cellOf D0.out.2.2.2.2.1; have q5 := hS9.cellOf D0.out.2.2.2.2.2.1; have q6 := hS9.cellOf D0.out.2.2.2.2.2.2; have a0 := hS9.cellOf Ea.out.1; have a1 := hS9.cellOf Ea.out.2.1; have a2 := hS9.cellOf Ea.out.2.2.1; have a3 := hS9.cellOf Ea.out.2.2.2.1; have a4 := hS9.cellOf Ea.out.2.2.2.2.1; have a5 := hS9.cellOf Ea.out.2.2.2.2.2.1; have a6 := hS9.cellOf Ea.out.2.2.2.2.2.2; have b0 := hS9.cellOf Eb.out.1; have b1 := hS9.cellOf Eb.out.2.1; have b2 := hS9.cellOf Eb.out.2.2.1; have b3 := hS9.cellOf Eb.out.2.2.2.1; have b4 := hS9.cellOf Eb.out.2.2.2.2.1; have b5 := hS9.cellOf Eb.out.2.2.2.2.2.1; have b6 := hS9.cellOf Eb.out.2.2.2.2.2.2; go_simp; try exact rfl)
  try simp only [Act.put, List.setIfInBounds_toArray, List.set_cons_zero, List.set_cons_succ]
  refine wpAnyH_takeL (i := 6) (v := ?v6) rfl (by kernel_rfl) (by kernel_rfl) (by kernel_rfl) (fun _ _ _ h => h) (Or.inl ⟨by kernel_rfl, ?run6⟩) hHeld ?_
  case run6 => (intro w9 hS9; have q0 := hS9.cellOf D0.out.1; have q1 := hS9.cellOf D0.out.2.1; have q2 := hS9.cellOf D0.out.2.2.1; have q3 := hS9.cellOf D0.out.2.2.2.1; have q4 := hS9.cellOf D0.out.2.2.2.2.1; have q5 := hS9.cellOf D0.out.2.2.2.2.2.1; have q6 := hS9.cellOf D0.out.2.2.2.2.2.2; have a0 := hS9.cellOf Ea.out.1; have a1 := hS9.cellOf Ea.out.2.1; have a2 := hS9.cellOf Ea.out.2.2.1; have a3 := hS9.cellOf Ea.out.2.2.2.1; have a4 := hS9.cellOf Ea.out.2.2.2.2.1; have a5 := hS9.cellOf Ea.out.2.2.2.2.2.1; have a6 := hS9.cellOf Ea.out.2.2.2.2.2.2; have b0 := hS9.cellOf Eb.out.1; have b1 := hS9.cellOf Eb.out.2.1; have b2 := hS9.cellOf Eb.out.2.2.1; have b3 := hS9.cellOf Eb.out.2.2.2.1; have b4 := hS9.cellOf Eb.out.2.2.2.2.1; have b5 := hS9.cellOf Eb.out.2.2.2.2.2.1; have b6 := hS9.cellOf Eb.out.2.2.2.2.2.2; go_simp; try exact rfl)
  try simp only [Act.put, List.setIfInBounds_toArray, List.set_cons_zero, List.set_cons_succ]
  refine wpAnyH_takeL (i := 7) (v := ?v7) rfl (by kernel_rfl) (by kernel_rfl) (by kernel_rfl) (fun _ _ _ h => h) (Or.inl ⟨by kernel_rfl, ?run7⟩) hHeld ?_
  case run7 => (intro w9 hS9; have q0 := hS9.cellOf D0.out.1; have q1 := hS9.cellOf D0.out.2.1; have q2 := hS9.cellOf D0.out.2.2.1; have q3 := hS9.cellOf D0.out.2.2.2.1; have q4 := hS9.cellOf D0.out.2.2.2.2.1; have q5 := hS9.cellOf D0.out.2.2.2.2.2.1; have q6 := hS9.cellOf D0.out.2.2.2.2.2.2; have a0 := hS9.cellOf Ea.out.1; have a1 := hS9.cellOf Ea.out.2.1; have a2 := hS9.cellOf Ea.out.2.2.1; have a3 := hS9.cellOf Ea.out.2.2.2.1; have a4 := hS9.cellOf Ea.out.2.2.2.2.1; have a5 := hS9.cellOf Ea.out.2.2.2.2.2.1; have a6 := hS9.cellOf Ea.out.2.2.2.2.2.2; have b0 := hS9.cellOf Eb.out.1; have b1 := hS9.cellOf Eb.out.2.1; have b2 := hS9.cellOf Eb.out.2.2.1; have b3 := hS9.cellOf Eb.out.2.2.2.1; have b4 := hS9.cellOf Eb.out.2.2.2.2.1; have b5 := hS9.cellOf Eb.out.2.2.2.2.2.1; have b6 := hS9.cellOf Eb.out.2.2.2.2.2.2; go_simp; try exact rfl)
  try simp only [Act.put, List.setIfInBounds_toArray, List.set_cons_zero, List.set_cons_succ]
  refine wpAnyH_takeL (i := 8) (v := ?v8) rfl (by kernel_rfl) (by kernel_rfl) (by kernel_rfl) (fun _ _ _ h => h) (Or.inl ⟨by kernel_rfl, ?run8⟩) hHeld ?_
  case run8 => (intro w9 hS9; have q0 := hS9.cellOf D0.out.1; have q1 := hS9.cellOf D0.out.2.1; have q2 := hS9.cellOf D0.out.2.2.1; have q3 := hS9.cellOf D0.out.2.2.2.1; have q4 := hS9.cellOf D0.out.2.2.2.2.1; have q5 := hS9.cellOf D0.out.2.2.2.2.2.1; have q6 := hS9.cellOf D0.out.2.2.2.2.2.2; have a0 := hS9.cellOf Ea.out.1; have a1 := hS9.cellOf Ea.out.2.1; have a2 := hS9.cellOf Ea.out.2.2.1; have a3 := hS9.cellOf Ea.out.2.2.2.1; have a4 := hS9.cellOf Ea.out.2.2.2.2.1; have a5 := hS9.cellOf Ea.out.2.2.2.2.2.1; have a6 := hS9.cellOf Ea.out.2.2.2.2.2.2; have b0 := hS9.cellOf Eb.out.1; have b1 := hS9.cellOf Eb.out.2.1; have b2 := hS9.cellOf Eb.out.2.2.1; have b3 := hS9.cellOf Eb.out.2.2.2.1; have b4 := hS9.cellOf Eb.out.2.2.2.2.1; have b5 := hS9.cellOf Eb.out.2.2.2.2.2.1; have b6 := hS9.cellOf Eb.out.2.2.2.2.2.2; go_simp; try exact rfl)
  try simp only [Act.put, List.setIfInBounds_toArray, List.set_cons_zero, List.set_cons_succ]
  refine wpAnyH_takeL (i := 9) (v := ?v9) rfl (by kernel_rfl) (by kernel_rfl) (by kernel_rfl) (fun _ _ _ h => h) (Or.inl ⟨by kernel_rfl, ?run9⟩) hHeld ?_
  case run9 => (intro w9 hS9; have q0 := hS9.cellOf D0.out.1; have q1 := hS9.cellOf D0.out.2.1; have q2 := hS9.cellOf D0.out.2.2.1; have q3 := hS9.cellOf D0.out.2.2.2.1; have q4 := hS9.cellOf D0.out.2.2.2.2.1; have q5 := hS9.cellOf D0.out.2.2.2.2.2.1; have q6 := hS9.cellOf D0.out.2.2.2.2.2.2; have a0 := hS9.cellOf Ea.out.1; have a1 := hS9.cellOf Ea.out.2.1; have a2 := hS9.cellOf Ea.out.2.2.1; have a3 := hS9.cellOf Ea.out.2.2.2.1; have a4 := hS9.cellOf Ea.out.2.2.2.2.1; have a5 := hS9.cellOf Ea.out.2.2.2.2.2.1; have a6 := hS9.cellOf Ea.out.2.2.2.2.2.2; have b0 := hS9.cellOf Eb.out.1; have b1 := hS9.cellOf Eb.out.2.1; have b2 := hS9.cellOf Eb.out.2.2.1; have b3 := hS9.cellOf Eb.out.2.2.2.1; have b4 := hS9.cellOf Eb.out.2.2.2.2.1; have b5 := hS9.cellOf Eb.out.2.2.2.2.2.1; have b6 := hS9.cellOf Eb.out.2.2.2.2.2.2; go_simp; try exact rfl)
  try simp only [Act.put, List.setIfInBounds_toArray, List.set_cons_zero, List.set_cons_succ]
  refine wpAnyH_ready (rs := [4]) (by kernel_rfl) (by simp) ?_
  refine AllReadyH.consL rfl (fun K hK => ?_) AllReadyH.nil
  go_simp
  refine (HA.out _ (((Keep.refl [] w5).drew))).mono ?_
  rintro e wc1 ⟨⟨X, rfl, hX⟩, hc⟩
  have HC1 := Lib.hid ((((Keep.refl [] w5).drew)).trans hc (by simp))
  have hsX : X.size = (flat (operI a x)).length := by rw [size_list X, hX]
  have HXX := Lib.hid hX
  clear hX hc
  go_wp2_with fail
  refine hK.out _ _ HC1.out (fun hHeld2 => ?_)
  clear hK K hHeld
  have hHeld := hHeld2
  clear hHeld2
  try simp only [Act.put, List.setIfInBounds_toArray, List.set_cons_zero, List.set_cons_succ]
  refine wpAnyH_takeL (i := 5) (v := (.string (X ++ ⟨#[32, 33, 32]⟩))) rfl (by kernel_rfl) (by kernel_rfl) (by kernel_rfl) (fun _ _ _ h => h) (Or.inl ⟨by kernel_rfl, ?run5⟩) hHeld ?_
  case run5 => (intro w9 hS9; go_simp; first | done | omega | (simp; omega))
  try simp only [Act.put, List.setIfInBounds_toArray, List.set_cons_zero, List.set_cons_succ]
  refine wpAnyH_ready (rs := [10]) (by kernel_rfl) (by simp) ?_
  refine AllReadyH.consL rfl (fun K hK => ?_) AllReadyH.nil
  go_simp
  refine (HB.out _ (HC1.out)).mono ?_
  rintro e wc2 ⟨⟨Y, rfl, hY⟩, hc⟩
  have HC2 := Lib.hid ((HC1.out).trans hc (by simp))
  have hsY : Y.size = (flat (operI b y)).length := by rw [size_list Y, hY]
  have HXY := Lib.hid hY
  clear hY hc
  go_wp2_with fail
  refine hK.out _ _ HC2.out (fun hHeld2 => ?_)
  clear hK K hHeld
  have hHeld := hHeld2
  clear hHeld2
  try simp only [Act.put, List.setIfInBounds_toArray, List.set_cons_zero, List.set_cons_succ]
  refine wpAnyH_takeL (i := 11) (v := (.string (X ++ ⟨#[32, 33, 32]⟩ ++ Y))) rfl (by kernel_rfl) (by kernel_rfl) (by kernel_rfl) (fun _ _ _ h => h) (Or.inl ⟨by kernel_rfl, ?run11⟩) hHeld ?_
  case run11 => (intro w9 hS9; go_simp; first | done | omega | (simp; omega))
  try simp only [Act.put, List.setIfInBounds_toArray, List.set_cons_zero, List.set_cons_succ]
  refine wpAnyH_takeL (i := 12) (v := ?v12) rfl (by kernel_rfl) (by kernel_rfl) (by kernel_rfl) (fun _ _ _ h => h) (Or.inl ⟨by kernel_rfl, ?run12⟩) hHeld ?_
  case run12 => (intro w9 hS9; go_simp; try exact rfl)
  try simp only [Act.put, List.setIfInBounds_toArray, List.set_cons_zero, List.set_cons_succ]
  refine wpAnyH_done (by kernel_rfl) ?_ _
  go_wp2_with fail
  go_ret
  exact ⟨⟨_, rfl, by (simp [HXX.out, HXY.out, flat_cons, flat_app, flat_nil, It.text])⟩, HK5.out.trans HC2.out (by simp)⟩
end Go.Proofs.YtdmmhfbafinkpaaGreatDoor

/- ParseBack: parse/text.go: Text: clauses. Printed by gen-pb9.py. -/
namespace Go.Proofs.YtdmmhfbafinkpaaGreatDoor
open Go.RowKit Go.Emb

/-- clauses of a fun or a function -/
def HdL (B : Nat) (l : List Nd) (ls : List (List It)) : Prop := ls.length = l.length ∧ l.length ≤ 1000000 ∧ ∀ i (_ : i < l.length) (_ : i < ls.length), ∃ nm ps gs bs, ClT B l[i] nm ps gs bs ∧ nm.length ≤ 255 ∧ ls[i] = (if nm = [] then [] else [.t 2 0 nm]) ++ sg 40 :: sepI comma ps ++ sg 41 :: tailI gs bs
/-- arms -/
def ArL (B : Nat) (l : List Nd) (ls : List (List It)) : Prop := ls.length = l.length ∧ l.length ≤ 1000000 ∧ ∀ i (_ : i < l.length) (_ : i < ls.length), ∃ nm ps gs bs, ClT B l[i] nm ps gs bs ∧ ls[i] = sepI comma ps ++ tailI gs bs
theorem p_hd {w : World} {B : Nat} {S : Nat → Prop} {v : Value} {l : List Nd} {ls : List (List It)} (ht : TabOk B w) (h : NsR S w true v l) (hl : HdL B l ls) (hs : Sm (sepI semiB ls)) : Calls Tryz.prog 23 #[v] w (StrE w (flat (sepI semiB ls))) :=
  p_heads ht h hl.1 hl.2.2 (fun i hi => by have := (hs.sub (sep_sub semiB ls i hi)).2; omega) (by have := hs.2; omega) hl.2.1
theorem p_ar {w : World} {B : Nat} {S : Nat → Prop} {v : Value} {l : List Nd} {ls : List (List It)} (ht : TabOk B w) (h : NsR S w true v l) (hl : ArL B l ls) (hs : Sm (sepI semiB ls)) : Calls Tryz.prog 35 #[v] w (StrE w (flat (sepI semiB ls))) :=
  p_arms ht h hl.1 hl.2.2 (fun i hi => by have := (hs.sub (sep_sub semiB ls i hi)).2; omega) (by have := hs.2; omega) hl.2.1
set_option maxRecDepth 100000 in
set_option maxHeartbeats 4000000 in
theorem tx_fn {B : Nat} {l : List Nd} {ls : List (List It)} (hl : HdL B l ls) (hs : Sm (sepI semiB ls)) : TxT B (.mk 13 0 [] [] l []) (wd sFun :: sepI semiB ls ++ [sp, wd sEnd]) := by
  intro w S cs ht hnd
  obtain ⟨kd, nu, at1, nm1, a0, b0, c0, va, vb, vc, rfl, hn, h1, h2, h3⟩ := id hnd.un7
  injection hn with e1 e2 e3 e4 e5 e6
  subst e1 e2 e3 e4 e5 e6
  obtain ⟨p1, c1, e1⟩ := h1.form
  obtain ⟨p2, c2, e2⟩ := h2.form
  obtain ⟨p3, c3, e3⟩ := h3.form
  replace e1 : va = .slice p1 0 c1 := e1
  replace e2 : vb = .slice p2 l.length c2 := e2
  replace e3 : vc = .slice p3 0 c3 := e3
  subst e1 e2 e3
  have hk5 := (Keep.refl [] w).alloc (.cells #[.int .i64 13, .int .i64 0, .string ⟨#[]⟩, .int .i64 at1, .slice p1 0 c1, .slice p2 l.length c2, .slice p3 0 c3] 29)
  have hb5 := heap_alloc_new w (.cells #[.int .i64 13, .int .i64 0, .string ⟨#[]⟩, .int .i64 at1, .slice p1 0 c1, .slice p2 l.length c2, .slice p3 0 c3] 29)
  obtain ⟨d0, d1, d2, d3, d4, d5, d6⟩ := cells7 hb5
  have D0 := Lib.hid (And.intro d0 (And.intro d1 (And.intro d2 (And.intro d3 (And.intro d4 (And.intro d5 d6))))))
  have HK5 := Lib.hid hk5
  have hT := ht.keep0 hk5
  have HT := Lib.hid hT
  have HC := Lib.hid (p_hd hT (h2.keep hk5 (by simp)) hl hs)
  have hlen := hs.2
  clear hb5 hk5 hnd h1 h2 h3 ht hT hl hs
  go_enter Tryz.func10, Tryz.ntmps10
  go_wp2_with fail
  refine HC.out.mono ?_
  rintro e w6 ⟨⟨X, rfl, hX⟩, hk6⟩
  have hxs : X.size = (flat (sepI semiB ls)).length := by rw [size_list X, hX]
  have HK6 := Lib.hid (And.intro hX (HK5.out.trans hk6 (by simp)))
  clear hX hk6
  go_wp2_with fail
  go_ret
  exact ⟨⟨_, rfl, by simp [HK6.out.1, flat_cons, flat_app, flat_nil, It.text]⟩, HK6.out.2⟩
set_option maxRecDepth 100000 in
set_option maxHeartbeats 4000000 in
theorem tx_case {B : Nat} {a : Nd} {x : List It} {l : List Nd} {ls : List (List It)} (ha : TxT B a x) (hl : ArL B l ls) (hs : Sm (sepI semiB ls)) (hlen : (flat x).length + (flat (sepI semiB ls)).length ≤ 140737488354000) :
    TxT B (.mk 14 0 [] [a] l []) (wd sCase :: sp :: x ++ sp :: wd sOf :: sp :: sepI semiB ls ++ [sp, wd sEnd]) := by
  intro w S cs ht hnd
  obtain ⟨kd, nu, at1, nm1, a0, b0, c0, va, vb, vc, rfl, hn, h1, h2, h3⟩ := id hnd.un7
  injection hn with e1 e2 e3 e4 e5 e6
  subst e1 e2 e3 e4 e5 e6
  obtain ⟨p1, c1, e1⟩ := h1.form
  obtain ⟨p2, c2, e2⟩ := h2.form
  obtain ⟨p3, c3, e3⟩ := h3.form
  replace e1 : va = .slice p1 1 c1 := e1
  replace e2 : vb = .slice p2 l.length c2 := e2
  replace e3 : vc = .slice p3 0 c3 := e3
  subst e1 e2 e3
  have hk5 := (Keep.refl [] w).alloc (.cells #[.int .i64 14, .int .i64 0, .string ⟨#[]⟩, .int .i64 at1, .slice p1 1 c1, .slice p2 l.length c2, .slice p3 0 c3] 29)
  have hb5 := heap_alloc_new w (.cells #[.int .i64 14, .int .i64 0, .string ⟨#[]⟩, .int .i64 at1, .slice p1 1 c1, .slice p2 l.length c2, .slice p3 0 c3] 29)
  obtain ⟨d0, d1, d2, d3, d4, d5, d6⟩ := cells7 hb5
  have D0 := Lib.hid (And.intro d0 (And.intro d1 (And.intro d2 (And.intro d3 (And.intro d4 (And.intro d5 d6))))))
  have HK5 := Lib.hid hk5
  have hT := ht.keep0 hk5
  have HT := Lib.hid hT
  obtain ⟨aba, aoffa, csa, ea, -, hnda, hcella⟩ := (h1.keep hk5 (by simp)).at7 (i := 0) (by simp)
  replace hnda : NdR S _ false csa a := hnda
  obtain ⟨kda, nua, ata, nma, p1a, n1a, c1a, p2a, n2a, c2a, p3a, n3a, c3a, rfl, -⟩ := id hnda.un7s
  have a0 := hcella 0 (by decide)
  have a1 := hcella 1 (by decide)
  have a2 := hcella 2 (by decide)
  have a3 := hcella 3 (by decide)
  have a4 := hcella 4 (by decide)
  have a5 := hcella 5 (by decide)
  have a6 := hcella 6 (by decide)
  simp only [Nat.zero_mul, Nat.one_mul, Nat.add_zero, List.getElem?_cons_zero, List.getElem?_cons_succ] at a0 a1 a2 a3 a4 a5 a6
  have Ea := Lib.hid (And.intro a0 (And.intro a1 (And.intro a2 (And.intro a3 (And.intro a4 (And.intro a5 a6))))))
  clear hcella a0 a1 a2 a3 a4 a5 a6
  subst ea
  have HA := Lib.hid (fun W (k : Keep [] (w.alloc _) W) => ha W _ _ (hT.keep0 k) (hnda.keep k (by simp)))
  have HB := Lib.hid (fun W (k : Keep [] (w.alloc _) W) => p_ar (w := W) (hT.keep0 k) ((h2.keep hk5 (by simp)).keep k (by simp)) hl hs)
  clear hb5 hk5 hnd h1 h2 h3 ht hT ha hnda hl hs
  go_enter Tryz.func10, Tryz.ntmps10
  go_wp2_with fail
  generalize w.alloc _ = w5 at *
  clear d0 d1 d2 d3 d4 d5 d6
  refine wp_region_held_drew (S := fun w' => Keep [] w5 w') (by kernel_rfl) ((Keep.refl [] w5).drew) (fun hHeld => ?_)
  refine wpAnyH_takeL (i := 0) (v := ?v0) rfl (by kernel_rfl) (by kernel_rfl) (by kernel_rfl) (fun _ _ _ h => h) (Or.inl ⟨by kernel_rfl, ?run0⟩) hHeld ?_
  case run0 => (intro w9 hS9; have q0 := hS9.cellOf D0.out.1; have q1 := hS9.cellOf D0.out.2.1; have q2 := hS9.cellOf D0.out.2.2.1; have q3 := hS9.cellOf D0.out.2.2.2.1; have q4 := hS9.cellOf D0.out.2.2.2.2.1; have q5 := hS9.cellOf D0.out.2.2.2.2.2.1; have q6 := hS9.cellOf D0.out.2.2.2.2.2.2; have a0 := hS9.cellOf Ea.out.1; have a1 := hS9.cellOf Ea.out.2.1; have a2 := hS9.cellOf Ea.out.2.2.1; have a3 := hS9.cellOf Ea.out.2.2.2.1; have a4 := hS9.cellOf Ea.out.2.2.2.2.1; have a5 := hS9.cellOf Ea.out.2.2.2.2.2.1; have a6 := hS9.cellOf Ea.out.2.2.2.2.2.2; go_simp; try exact rfl)
  try simp only [Act.put, List.setIfInBounds_toArray, List.set_cons_zero, List.set_cons_succ]
  refine wpAnyH_takeL (i := 1) (v := ?v1) rfl (by kernel_rfl) (by kernel_rfl) (by kernel_rfl) (fun _ _ _ h => h) (Or.inl ⟨by kernel_rfl, ?run1⟩) hHeld ?_
  case run1 => (intro w9 hS9; have q0 := hS9.cellOf D0.out.1; have q1 := hS9.cellOf D0.out.2.1; have q2 := hS9.cellOf D0.out.2.2.1; have q3 := hS9.cellOf D0.out.2.2.2.1; have q4 := hS9.cellOf D0.out.2.2.2.2.1; have q5 := hS9.cellOf D0.out.2.2.2.2.2.1; have q6 := hS9.cellOf D0.out.2.2.2.2.2.2; have a0 := hS9.cellOf Ea.out.1; have a1 := hS9.cellOf Ea.out.2.1; have a2 := hS9.cellOf Ea.out.2.2.1; have a3 := hS9.cellOf Ea.out.2.2.2.1; have a4 := hS9.cellOf Ea.out.2.2.2.2.1; have a5 := hS9.cellOf Ea.out.2.2.2.2.2.1; have a6 := hS9.cellOf Ea.out.2.2.2.2.2.2; go_simp; try exact rfl)
  try simp only [Act.put, List.setIfInBounds_toArray, List.set_cons_zero, List.set_cons_succ]
  refine wpAnyH_takeL (i := 2) (v := ?v2) rfl (by kernel_rfl) (by kernel_rfl) (by kernel_rfl) (fun _ _ _ h => h) (Or.inl ⟨by kernel_rfl, ?run2⟩) hHeld ?_
  case run2 => (intro w9 hS9; have q0 := hS9.cellOf D0.out.1; have q1 := hS9.cellOf D0.out.2.1; have q2 := hS9.cellOf D0.out.2.2.1; have q3 := hS9.cellOf D0.out.2.2.2.1; have q4 := hS9.cellOf D0.out.2.2.2.2.1; have q5 := hS9.cellOf D0.out.2.2.2.2.2.1; have q6 := hS9.cellOf D0.out.2.2.2.2.2.2; have a0 := hS9.cellOf Ea.out.1; have a1 := hS9.cellOf Ea.out.2.1; have a2 := hS9.cellOf Ea.out.2.2.1; have a3 := hS9.cellOf Ea.out.2.2.2.1; have a4 := hS9.cellOf Ea.out.2.2.2.2.1; have a5 := hS9.cellOf Ea.out.2.2.2.2.2.1; have a6 := hS9.cellOf Ea.out.2.2.2.2.2.2; go_simp; try exact rfl)
  try simp only [Act.put, List.setIfInBounds_toArray, List.set_cons_zero, List.set_cons_succ]
  refine wpAnyH_takeL (i := 3) (v := ?v3) rfl (by kernel_rfl) (by kernel_rfl) (by kernel_rfl) (fun _ _ _ h => h) (Or.inl ⟨by kernel_rfl, ?run3⟩) hHeld ?_
  case run3 => (intro w9 hS9; have q0 := hS9.cellOf D0.out.1; have q1 := hS9.cellOf D0.out.2.1; have q2 := hS9.cellOf D0.out.2.2.1; have q3 := hS9.cellOf D0.out.2.2.2.1; have q4 := hS9.cellOf D0.out.2.2.2.2.1; have q5 := hS9.cellOf D0.out.2.2.2.2.2.1; have q6 := hS9.cellOf D0.out.2.2.2.2.2.2; have a0 := hS9.cellOf Ea.out.1; have a1 := hS9.cellOf Ea.out.2.1; have a2 := hS9.cellOf Ea.out.2.2.1; have a3 := hS9.cellOf Ea.out.2.2.2.1; have a4 := hS9.cellOf Ea.out.2.2.2.2.1; have a5 := hS9.cellOf Ea.out.2.2.2.2.2.1; have a6 := hS9.cellOf Ea.out.2.2.2.2.2.2; go_simp; try exact rfl)
  try simp only [Act.put, List.setIfInBounds_toArray, List.set_cons_zero, List.set_cons_succ]
  refine wpAnyH_takeL (i := 7) (v := ?v7) rfl (by kernel_rfl) (by kernel_rfl) (by kernel_rfl) (fun _ _ _ h => h) (Or.inl ⟨by kernel_rfl, ?run7⟩) hHeld ?_
  case run7 => (intro w9 hS9; have q0 := hS9.cellOf D0.out.1; have q1 := hS9.cellOf D0.out.2.1; have q2 := hS9.cellOf D0.out.2.2.1; have q3 := hS9.cellOf D0.out.2.2.2.1; have q4 := hS9.cellOf D0.out.2.2.2.2.1; have q5 := hS9.cellOf D0.out.2.2.2.2.2.1; have q6 := hS9.cellOf D0.out.2.2.2.2.2.2; have a0 := hS9.cellOf Ea.out.1; have a1 := hS9.cellOf Ea.out.2.1; have a2 := hS9.cellOf Ea.out.2.2.1; have a3 := hS9.cellOf Ea.out.2.2.2.1; have a4 := hS9.cellOf Ea.out.2.2.2.2.1; have a5 := hS9.cellOf Ea.out.2.2.2.2.2.1; have a6 := hS9.cellOf Ea.out.2.2.2.2.2.2; go_simp; try exact rfl)
  try simp only [Act.put, List.setIfInBounds_toArray, List.set_cons_zero, List.set_cons_succ]
  refine wpAnyH_takeL (i := 8) (v := ?v8) rfl (by kernel_rfl) (by kernel_rfl) (by kernel_rfl) (fun _ _ _ h => h) (Or.inl ⟨by kernel_rfl, ?run8⟩) hHeld ?_
  case run8 => (intro w9 hS9; have q0 := hS9.cellOf D0.out.1; have q1 := hS9.cellOf D0.out.2.1; have q2 := hS9.cellOf D0.out.2.2.1; have q3 := hS9.cellOf D0.out.2.2.2.1; have q4 := hS9.cellOf D0.out.2.2.2.2.1; have q5 := hS9.cellOf D0.out.2.2.2.2.2.1; have q6 := hS9.cellOf D0.out.2.2.2.2.2.2; have a0 := hS9.cellOf Ea.out.1; have a1 := hS9.cellOf Ea.out.2.1; have a2 := hS9.cellOf Ea.out.2.2.1; have a3 := hS9.cellOf Ea.out.2.2.2.1; have a4 := hS9.cellOf Ea.out.2.2.2.2.1; have a5 := hS9.cellOf Ea.out.2.2.2.2.2.1; have a6 := hS9.cellOf Ea.out.2.2.2.2.2.2; go_simp; try exact rfl)
  try simp only [Act.put, List.setIfInBounds_toArray, List.set_cons_zero, List.set_cons_succ]
  refine wpAnyH_ready (rs := [4]) (by kernel_rfl) (by simp) ?_
  refine AllReadyH.consL rfl (fun K hK => ?_) AllReadyH.nil
  go_simp
  refine (HA.out _ (((Keep.refl [] w5).drew))).mono ?_
  rintro e wc1 ⟨⟨X, rfl, hX⟩, hc⟩
  have HC1 := Lib.hid ((((Keep.refl [] w5).drew)).trans hc (by simp))
  have hsX : X.size = (flat x).length := by rw [size_list X, hX]
  have HXX := Lib.hid hX
  clear hX hc
  go_wp2_with fail
  refine hK.out _ _ HC1.out (fun hHeld2 => ?_)
  clear hK K hHeld
  have hHeld := hHeld2
  clear hHeld2
  try simp only [Act.put, List.setIfInBounds_toArray, List.set_cons_zero, List.set_cons_succ]
  refine wpAnyH_takeL (i := 5) (v := (.string (⟨#[99, 97, 115, 101, 32]⟩ ++ X))) rfl (by kernel_rfl) (by kernel_rfl) (by kernel_rfl) (fun _ _ _ h => h) (Or.inl ⟨by kernel_rfl, ?run5⟩) hHeld ?_
  case run5 => (intro w9 hS9; go_simp; first | done | omega | (simp; omega))
  try simp only [Act.put, List.setIfInBounds_toArray, List.set_cons_zero, List.set_cons_succ]
  refine wpAnyH_takeL (i := 6) (v := (.string (⟨#[99, 97, 115, 101, 32]⟩ ++ X ++ ⟨#[32, 111, 102, 32]⟩))) rfl (by kernel_rfl) (by kernel_rfl) (by kernel_rfl) (fun _ _ _ h => h) (Or.inl ⟨by kernel_rfl, ?run6⟩) hHeld ?_
  case run6 => (intro w9 hS9; go_simp; first | done | omega | (simp; omega))
  try simp only [Act.put, List.setIfInBounds_toArray, List.set_cons_zero, List.set_cons_succ]
  refine wpAnyH_ready (rs := [9]) (by kernel_rfl) (by simp) ?_
  refine AllReadyH.consL rfl (fun K hK => ?_) AllReadyH.nil
  go_simp
  refine (HB.out _ (HC1.out)).mono ?_
  rintro e wc2 ⟨⟨Y, rfl, hY⟩, hc⟩
  have HC2 := Lib.hid ((HC1.out).trans hc (by simp))
  have hsY : Y.size = (flat (sepI semiB ls)).length := by rw [size_list Y, hY]
  have HXY := Lib.hid hY
  clear hY hc
  go_wp2_with fail
  refine hK.out _ _ HC2.out (fun hHeld2 => ?_)
  clear hK K hHeld
  have hHeld := hHeld2
  clear hHeld2
  try simp only [Act.put, List.setIfInBounds_toArray, List.set_cons_zero, List.set_cons_succ]
  refine wpAnyH_takeL (i := 10) (v := (.string (⟨#[99, 97, 115, 101, 32]⟩ ++ X ++ ⟨#[32, 111, 102, 32]⟩ ++ Y))) rfl (by kernel_rfl) (by kernel_rfl) (by kernel_rfl) (fun _ _ _ h => h) (Or.inl ⟨by kernel_rfl, ?run10⟩) hHeld ?_
  case run10 => (intro w9 hS9; go_simp; first | done | omega | (simp; omega))
  try simp only [Act.put, List.setIfInBounds_toArray, List.set_cons_zero, List.set_cons_succ]
  refine wpAnyH_takeL (i := 11) (v := (.string (⟨#[99, 97, 115, 101, 32]⟩ ++ X ++ ⟨#[32, 111, 102, 32]⟩ ++ Y ++ ⟨#[32, 101, 110, 100]⟩))) rfl (by kernel_rfl) (by kernel_rfl) (by kernel_rfl) (fun _ _ _ h => h) (Or.inl ⟨by kernel_rfl, ?run11⟩) hHeld ?_
  case run11 => (intro w9 hS9; go_simp; first | done | omega | (simp; omega))
  try simp only [Act.put, List.setIfInBounds_toArray, List.set_cons_zero, List.set_cons_succ]
  refine wpAnyH_takeL (i := 12) (v := ?v12) rfl (by kernel_rfl) (by kernel_rfl) (by kernel_rfl) (fun _ _ _ h => h) (Or.inl ⟨by kernel_rfl, ?run12⟩) hHeld ?_
  case run12 => (intro w9 hS9; go_simp; try exact rfl)
  try simp only [Act.put, List.setIfInBounds_toArray, List.set_cons_zero, List.set_cons_succ]
  refine wpAnyH_done (by kernel_rfl) ?_ _
  go_wp2_with fail
  go_ret
  exact ⟨⟨_, rfl, by (simp [HXX.out, HXY.out, flat_cons, flat_app, flat_nil, It.text])⟩, HK5.out.trans HC2.out (by simp)⟩
set_option maxRecDepth 100000 in
set_option maxHeartbeats 4000000 in
theorem tx_tr {B : Nat} {b l : List Nd} {bs ls : List (List It)} (hb : TL B b bs) (hl : ArL B l ls) (hs : Sm (sepI semiB ls)) (hlen : (flat (sepI commaB bs)).length + (flat (sepI semiB ls)).length ≤ 140737488354000) :
    TxT B (.mk 16 0 [] [] l b) (wd sTry :: sp :: sepI commaB bs ++ sp :: wd sCatch :: sp :: sepI semiB ls ++ [sp, wd sEnd]) := by
  intro w S cs ht hnd
  obtain ⟨kd, nu, at1, nm1, a0, b0, c0, va, vb, vc, rfl, hn, h1, h2, h3⟩ := id hnd.un7
  injection hn with e1 e2 e3 e4 e5 e6
  subst e1 e2 e3 e4 e5 e6
  obtain ⟨p1, c1, e1⟩ := h1.form
  obtain ⟨p2, c2, e2⟩ := h2.form
  obtain ⟨p3, c3, e3⟩ := h3.form
  replace e1 : va = .slice p1 0 c1 := e1
  replace e2 : vb = .slice p2 l.length c2 := e2
  replace e3 : vc = .slice p3 b.length c3 := e3
  subst e1 e2 e3
  have hk5 := (Keep.refl [] w).alloc (.cells #[.int .i64 16, .int .i64 0, .string ⟨#[]⟩, .int .i64 at1, .slice p1 0 c1, .slice p2 l.length c2, .slice p3 b.length c3] 29)
  have hb5 := heap_alloc_new w (.cells #[.int .i64 16, .int .i64 0, .string ⟨#[]⟩, .int .i64 at1, .slice p1 0 c1, .slice p2 l.length c2, .slice p3 b.length c3] 29)
  obtain ⟨d0, d1, d2, d3, d4, d5, d6⟩ := cells7 hb5
  have D0 := Lib.hid (And.intro d0 (And.intro d1 (And.intro d2 (And.intro d3 (And.intro d4 (And.intro d5 d6))))))
  have HK5 := Lib.hid hk5
  have hT := ht.keep0 hk5
  have HT := Lib.hid hT
  have HA := Lib.hid (fun W (k : Keep [] (w.alloc _) W) => p_texts (w := W) (s := commaB) (sep := ⟨#[44, 32]⟩) (hT.keep0 k) ((h3.keep hk5 (by simp)).keep k (by simp)) hb.1 hb.2.2 rfl (by omega) hb.2.1)
  have HB := Lib.hid (fun W (k : Keep [] (w.alloc _) W) => p_ar (w := W) (hT.keep0 k) ((h2.keep hk5 (by simp)).keep k (by simp)) hl hs)
  clear hb5 hk5 hnd h1 h2 h3 ht hT hb hl hs
  go_enter Tryz.func10, Tryz.ntmps10
  go_wp2_with fail
  generalize w.alloc _ = w5 at *
  clear d0 d1 d2 d3 d4 d5 d6
  refine wp_region_held_drew (S := fun w' => Keep [] w5 w') (by kernel_rfl) ((Keep.refl [] w5).drew) (fun hHeld => ?_)
  refine wpAnyH_takeL (i := 0) (v := ?v0) rfl (by kernel_rfl) (by kernel_rfl) (by kernel_rfl) (fun _ _ _ h => h) (Or.inl ⟨by kernel_rfl, ?run0⟩) hHeld ?_
  case run0 => (intro w9 hS9; have q0 := hS9.cellOf D0.out.1; have q1 := hS9.cellOf D0.out.2.1; have q2 := hS9.cellOf D0.out.2.2.1; have q3 := hS9.cellOf D0.out.2.2.2.1; have q4 := hS9.cellOf D0.out.2.2.2.2.1; have q5 := hS9.cellOf D0.out.2.2.2.2.2.1; have q6 := hS9.cellOf D0.out.2.2.2.2.2.2; go_simp; try exact rfl)
  try simp only [Act.put, List.setIfInBounds_toArray, List.set_cons_zero, List.set_cons_succ]
  refine wpAnyH_takeL (i := 1) (v := ?v1) rfl (by kernel_rfl) (by kernel_rfl) (by kernel_rfl) (fun _ _ _ h => h) (Or.inl ⟨by kernel_rfl, ?run1⟩) hHeld ?_
  case run1 => (intro w9 hS9; have q0 := hS9.cellOf D0.out.1; have q1 := hS9.cellOf D0.out.2.1; have q2 := hS9.cellOf D0.out.2.2.1; have q3 := hS9.cellOf D0.out.2.2.2.1; have q4 := hS9.cellOf D0.out.2.2.2.2.1; have q5 := hS9.cellOf D0.out.2.2.2.2.2.1; have q6 := hS9.cellOf D0.out.2.2.2.2.2.2; go_simp; try exact rfl)
  try simp only [Act.put, List.setIfInBounds_toArray, List.set_cons_zero, List.set_cons_succ]
  refine wpAnyH_takeL (i := 5) (v := ?v5) rfl (by kernel_rfl) (by kernel_rfl) (by kernel_rfl) (fun _ _ _ h => h) (Or.inl ⟨by kernel_rfl, ?run5⟩) hHeld ?_
  case run5 => (intro w9 hS9; have q0 := hS9.cellOf D0.out.1; have q1 := hS9.cellOf D0.out.2.1; have q2 := hS9.cellOf D0.out.2.2.1; have q3 := hS9.cellOf D0.out.2.2.2.1; have q4 := hS9.cellOf D0.out.2.2.2.2.1; have q5 := hS9.cellOf D0.out.2.2.2.2.2.1; have q6 := hS9.cellOf D0.out.2.2.2.2.2.2; go_simp; try exact rfl)
  try simp only [Act.put, List.setIfInBounds_toArray, List.set_cons_zero, List.set_cons_succ]
  refine wpAnyH_takeL (i := 6) (v := ?v6) rfl (by kernel_rfl) (by kernel_rfl) (by kernel_rfl) (fun _ _ _ h => h) (Or.inl ⟨by kernel_rfl, ?run6⟩) hHeld ?_
  case run6 => (intro w9 hS9; have q0 := hS9.cellOf D0.out.1; have q1 := hS9.cellOf D0.out.2.1; have q2 := hS9.cellOf D0.out.2.2.1; have q3 := hS9.cellOf D0.out.2.2.2.1; have q4 := hS9.cellOf D0.out.2.2.2.2.1; have q5 := hS9.cellOf D0.out.2.2.2.2.2.1; have q6 := hS9.cellOf D0.out.2.2.2.2.2.2; go_simp; try exact rfl)
  try simp only [Act.put, List.setIfInBounds_toArray, List.set_cons_zero, List.set_cons_succ]
  refine wpAnyH_ready (rs := [2]) (by kernel_rfl) (by simp) ?_
  refine AllReadyH.consL rfl (fun K hK => ?_) AllReadyH.nil
  go_simp
  refine (HA.out _ (((Keep.refl [] w5).drew))).mono ?_
  rintro e wc1 ⟨⟨X, rfl, hX⟩, hc⟩
  have HC1 := Lib.hid ((((Keep.refl [] w5).drew)).trans hc (by simp))
  have hsX : X.size = (flat (sepI commaB bs)).length := by rw [size_list X, hX]
  have HXX := Lib.hid hX
  clear hX hc
  go_wp2_with fail
  refine hK.out _ _ HC1.out (fun hHeld2 => ?_)
  clear hK K hHeld
  have hHeld := hHeld2
  clear hHeld2
  try simp only [Act.put, List.setIfInBounds_toArray, List.set_cons_zero, List.set_cons_succ]
  refine wpAnyH_takeL (i := 3) (v := (.string (⟨#[116, 114, 121, 32]⟩ ++ X))) rfl (by kernel_rfl) (by kernel_rfl) (by kernel_rfl) (fun _ _ _ h => h) (Or.inl ⟨by kernel_rfl, ?run3⟩) hHeld ?_
  case run3 => (intro w9 hS9; go_simp; first | done | omega | (simp; omega))
  try simp only [Act.put, List.setIfInBounds_toArray, List.set_cons_zero, List.set_cons_succ]
  refine wpAnyH_takeL (i := 4) (v := (.string (⟨#[116, 114, 121, 32]⟩ ++ X ++ ⟨#[32, 99, 97, 116, 99, 104, 32]⟩))) rfl (by kernel_rfl) (by kernel_rfl) (by kernel_rfl) (fun _ _ _ h => h) (Or.inl ⟨by kernel_rfl, ?run4⟩) hHeld ?_
  case run4 => (intro w9 hS9; go_simp; first | done | omega | (simp; omega))
  try simp only [Act.put, List.setIfInBounds_toArray, List.set_cons_zero, List.set_cons_succ]
  refine wpAnyH_ready (rs := [7]) (by kernel_rfl) (by simp) ?_
  refine AllReadyH.consL rfl (fun K hK => ?_) AllReadyH.nil
  go_simp
  refine (HB.out _ (HC1.out)).mono ?_
  rintro e wc2 ⟨⟨Y, rfl, hY⟩, hc⟩
  have HC2 := Lib.hid ((HC1.out).trans hc (by simp))
  have hsY : Y.size = (flat (sepI semiB ls)).length := by rw [size_list Y, hY]
  have HXY := Lib.hid hY
  clear hY hc
  go_wp2_with fail
  refine hK.out _ _ HC2.out (fun hHeld2 => ?_)
  clear hK K hHeld
  have hHeld := hHeld2
  clear hHeld2
  try simp only [Act.put, List.setIfInBounds_toArray, List.set_cons_zero, List.set_cons_succ]
  refine wpAnyH_takeL (i := 8) (v := (.string (⟨#[116, 114, 121, 32]⟩ ++ X ++ ⟨#[32, 99, 97, 116, 99, 104, 32]⟩ ++ Y))) rfl (by kernel_rfl) (by kernel_rfl) (by kernel_rfl) (fun _ _ _ h => h) (Or.inl ⟨by kernel_rfl, ?run8⟩) hHeld ?_
  case run8 => (intro w9 hS9; go_simp; first | done | omega | (simp; omega))
  try simp only [Act.put, List.setIfInBounds_toArray, List.set_cons_zero, List.set_cons_succ]
  refine wpAnyH_takeL (i := 9) (v := (.string (⟨#[116, 114, 121, 32]⟩ ++ X ++ ⟨#[32, 99, 97, 116, 99, 104, 32]⟩ ++ Y ++ ⟨#[32, 101, 110, 100]⟩))) rfl (by kernel_rfl) (by kernel_rfl) (by kernel_rfl) (fun _ _ _ h => h) (Or.inl ⟨by kernel_rfl, ?run9⟩) hHeld ?_
  case run9 => (intro w9 hS9; go_simp; first | done | omega | (simp; omega))
  try simp only [Act.put, List.setIfInBounds_toArray, List.set_cons_zero, List.set_cons_succ]
  refine wpAnyH_takeL (i := 10) (v := ?v10) rfl (by kernel_rfl) (by kernel_rfl) (by kernel_rfl) (fun _ _ _ h => h) (Or.inl ⟨by kernel_rfl, ?run10⟩) hHeld ?_
  case run10 => (intro w9 hS9; go_simp; try exact rfl)
  try simp only [Act.put, List.setIfInBounds_toArray, List.set_cons_zero, List.set_cons_succ]
  refine wpAnyH_done (by kernel_rfl) ?_ _
  go_wp2_with fail
  go_ret
  exact ⟨⟨_, rfl, by (simp [HXX.out, HXY.out, flat_cons, flat_app, flat_nil, It.text])⟩, HK5.out.trans HC2.out (by simp)⟩
end Go.Proofs.YtdmmhfbafinkpaaGreatDoor

/- ParseBack: parse/text.go: Text: receive. Printed by gen-pb9.py. -/
namespace Go.Proofs.YtdmmhfbafinkpaaGreatDoor
open Go.RowKit Go.Emb

set_option maxRecDepth 100000 in
set_option maxHeartbeats 4000000 in
theorem tx_recv {B : Nat} {l : List Nd} {ls : List (List It)} (h0 : l ≠ []) (hl : ArL B l ls) (hs : Sm (sepI semiB ls)) : TxT B (.mk 15 0 [] [] l []) (wd sReceive :: sp :: sepI semiB ls ++ [sp, wd sEnd]) := by
  intro w S cs ht hnd
  obtain ⟨kd, nu, at1, nm1, a0, b0, c0, va, vb, vc, rfl, hn, h1, h2, h3⟩ := id hnd.un7
  injection hn with e1 e2 e3 e4 e5 e6
  subst e1 e2 e3 e4 e5 e6
  obtain ⟨p1, c1, e1⟩ := h1.form
  obtain ⟨p2, c2, e2⟩ := h2.form
  obtain ⟨p3, c3, e3⟩ := h3.form
  replace e1 : va = .slice p1 0 c1 := e1
  replace e2 : vb = .slice p2 l.length c2 := e2
  replace e3 : vc = .slice p3 0 c3 := e3
  subst e1 e2 e3
  have hk5 := (Keep.refl [] w).alloc (.cells #[.int .i64 15, .int .i64 0, .string ⟨#[]⟩, .int .i64 at1, .slice p1 0 c1, .slice p2 l.length c2, .slice p3 0 c3] 29)
  have hb5 := heap_alloc_new w (.cells #[.int .i64 15, .int .i64 0, .string ⟨#[]⟩, .int .i64 at1, .slice p1 0 c1, .slice p2 l.length c2, .slice p3 0 c3] 29)
  obtain ⟨d0, d1, d2, d3, d4, d5, d6⟩ := cells7 hb5
  have D0 := Lib.hid (And.intro d0 (And.intro d1 (And.intro d2 (And.intro d3 (And.intro d4 (And.intro d5 d6))))))
  have HK5 := Lib.hid hk5
  have hT := ht.keep0 hk5
  have HT := Lib.hid hT
  have HB := Lib.hid (fun W (k : Keep [] (w.alloc _) W) => p_ar (w := W) (hT.keep0 k) ((h2.keep hk5 (by simp)).keep k (by simp)) hl hs)
  have hgp : (0 : Int) < (l.length : Int) := by have := List.length_pos_iff.2 h0; omega
  have hsl := hs.2
  clear hb5 hk5 hnd h1 h2 h3 ht hT hl hs h0
  go_enter Tryz.func10, Tryz.ntmps10
  go_wp2_with fail
  refine HB.out _ (Keep.refl [] _) |>.mono ?_
  rintro e w6 ⟨⟨Y, rfl, hY⟩, hk6⟩
  have hsY : Y.size = (flat (sepI semiB ls)).length := by rw [size_list Y, hY]
  have HXY := Lib.hid hY
  have HK6 := Lib.hid hk6
  have HK56 := Lib.hid (HK5.out.trans hk6 (by simp))
  clear hY hk6 d0 d1 d2 d3 d4 d5 d6
  generalize w.alloc _ = w5 at *
  have q0 := HK6.out.cellOf D0.out.1
  have q1 := HK6.out.cellOf D0.out.2.1
  have q2 := HK6.out.cellOf D0.out.2.2.1
  have q3 := HK6.out.cellOf D0.out.2.2.2.1
  have q4 := HK6.out.cellOf D0.out.2.2.2.2.1
  have q5 := HK6.out.cellOf D0.out.2.2.2.2.2.1
  have q6 := HK6.out.cellOf D0.out.2.2.2.2.2.2
  go_wp2_with fail
  go_ret
  exact ⟨⟨_, rfl, by simp [HXY.out, flat_cons, flat_app, flat_nil, It.text]⟩, HK56.out⟩
set_option maxRecDepth 100000 in
set_option maxHeartbeats 4000000 in
theorem tx_recvA {B : Nat} {l b : List Nd} {ls bs : List (List It)} {a : Nd} {x : List It} (h0 : l ≠ []) (hl : ArL B l ls) (hs : Sm (sepI semiB ls)) (ha : TxT B a x) (hb : TL B b bs) (hlen : (flat x).length + (flat (sepI commaB bs)).length + (flat (sepI semiB ls)).length ≤ 140737488354000) : TxT B (.mk 15 0 [] [a] l b) (wd sReceive :: sp :: sepI semiB ls ++ (sp :: wd sAfter :: sp :: x ++ sp :: .t 5 0 sTo :: sp :: sepI commaB bs) ++ [sp, wd sEnd]) := by
  intro w S cs ht hnd
  obtain ⟨kd, nu, at1, nm1, a0, b0, c0, va, vb, vc, rfl, hn, h1, h2, h3⟩ := id hnd.un7
  injection hn with e1 e2 e3 e4 e5 e6
  subst e1 e2 e3 e4 e5 e6
  obtain ⟨p1, c1, e1⟩ := h1.form
  obtain ⟨p2, c2, e2⟩ := h2.form
  obtain ⟨p3, c3, e3⟩ := h3.form
  replace e1 : va = .slice p1 1 c1 := e1
  replace e2 : vb = .slice p2 l.length c2 := e2
  replace e3 : vc = .slice p3 b.length c3 := e3
  subst e1 e2 e3
  have hk5 := (Keep.refl [] w).alloc (.cells #[.int .i64 15, .int .i64 0, .string ⟨#[]⟩, .int .i64 at1, .slice p1 1 c1, .slice p2 l.length c2, .slice p3 b.length c3] 29)
  have hb5 := heap_alloc_new w (.cells #[.int .i64 15, .int .i64 0, .string ⟨#[]⟩, .int .i64 at1, .slice p1 1 c1, .slice p2 l.length c2, .slice p3 b.length c3] 29)
  obtain ⟨d0, d1, d2, d3, d4, d5, d6⟩ := cells7 hb5
  have D0 := Lib.hid (And.intro d0 (And.intro d1 (And.intro d2 (And.intro d3 (And.intro d4 (And.intro d5 d6))))))
  have HK5 := Lib.hid hk5
  have hT := ht.keep0 hk5
  have HT := Lib.hid hT
  obtain ⟨aba, aoffa, csa, ea, -, hnda, hcella⟩ := (h1.keep hk5 (by simp)).at7 (i := 0) (by simp)
  replace hnda : NdR S _ false csa a := hnda
  obtain ⟨kda, nua, ata, nma, p1a, n1a, c1a, p2a, n2a, c2a, p3a, n3a, c3a, rfl, -⟩ := id hnda.un7s
  have a0 := hcella 0 (by decide)
  have a1 := hcella 1 (by decide)
  have a2 := hcella 2 (by decide)
  have a3 := hcella 3 (by decide)
  have a4 := hcella 4 (by decide)
  have a5 := hcella 5 (by decide)
  have a6 := hcella 6 (by decide)
  simp only [Nat.zero_mul, Nat.one_mul, Nat.add_zero, List.getElem?_cons_zero, List.getElem?_cons_succ] at a0 a1 a2 a3 a4 a5 a6
  have Ea := Lib.hid (And.intro a0 (And.intro a1 (And.intro a2 (And.intro a3 (And.intro a4 (And.intro a5 a6))))))
  clear hcella a0 a1 a2 a3 a4 a5 a6
  subst ea
  have HA := Lib.hid (fun W (k : Keep [] (w.alloc _) W) => ha W _ _ (hT.keep0 k) (hnda.keep k (by simp)))
  have HC := Lib.hid (fun W (k : Keep [] (w.alloc _) W) => p_texts (w := W) (s := commaB) (sep := ⟨#[44, 32]⟩) (hT.keep0 k) ((h3.keep hk5 (by simp)).keep k (by simp)) hb.1 hb.2.2 rfl (by omega) hb.2.1)
  have HB := Lib.hid (fun W (k : Keep [] (w.alloc _) W) => p_ar (w := W) (hT.keep0 k) ((h2.keep hk5 (by simp)).keep k (by simp)) hl hs)
  have hgp : (0 : Int) < (l.length : Int) := by have := List.length_pos_iff.2 h0; omega
  have hsl := hs.2
  clear hb5 hk5 hnd h1 h2 h3 ht hT hl hs h0 ha hb hnda
  go_enter Tryz.func10, Tryz.ntmps10
  go_wp2_with fail
  refine HB.out _ (Keep.refl [] _) |>.mono ?_
  rintro e w6 ⟨⟨Y, rfl, hY⟩, hk6⟩
  have hsY : Y.size = (flat (sepI semiB ls)).length := by rw [size_list Y, hY]
  have HXY := Lib.hid hY
  have HK6 := Lib.hid hk6
  have HK56 := Lib.hid (HK5.out.trans hk6 (by simp))
  clear hY hk6 d0 d1 d2 d3 d4 d5 d6
  generalize w.alloc _ = w5 at *
  have q0 := HK6.out.cellOf D0.out.1
  have q1 := HK6.out.cellOf D0.out.2.1
  have q2 := HK6.out.cellOf D0.out.2.2.1
  have q3 := HK6.out.cellOf D0.out.2.2.2.1
  have q4 := HK6.out.cellOf D0.out.2.2.2.2.1
  have q5 := HK6.out.cellOf D0.out.2.2.2.2.2.1
  have q6 := HK6.out.cellOf D0.out.2.2.2.2.2.2
  go_wp2_with fail
  clear q0 q1 q2 q3 q4 q5 q6
  refine wp_region_held_drew (S := fun w' => Keep [] w5 w') (by kernel_rfl) (HK6.out.drew) (fun hHeld => ?_)
  refine wpAnyH_takeL (i := 0) (v := ?v0) rfl (by kernel_rfl) (by kernel_rfl) (by kernel_rfl) (fun _ _ _ h => h) (Or.inl ⟨by kernel_rfl, ?run0⟩) hHeld ?_
  case run0 => (intro w9 hS9; have q0 := hS9.cellOf D0.out.1; have q1 := hS9.cellOf D0.out.2.1; have q2 := hS9.cellOf D0.out.2.2.1; have q3 := hS9.cellOf D0.out.2.2.2.1; have q4 := hS9.cellOf D0.out.2.2.2.2.1; have q5 := hS9.cellOf D0.out.2.2.2.2.2.1; have q6 := hS9.cellOf D0.out.2.2.2.2.2.2; have a0 := hS9.cellOf Ea.out.1; have a1 := hS9.cellOf Ea.out.2.1; have a2 := hS9.cellOf Ea.out.2.2.1; have a3 := hS9.cellOf Ea.out.2.2.2.1; have a4 := hS9.cellOf Ea.out.2.2.2.2.1; have a5 := hS9.cellOf Ea.out.2.2.2.2.2.1; have a6 := hS9.cellOf Ea.out.2.2.2.2.2.2; go_simp; try exact rfl)
  try simp only [Act.put, List.setIfInBounds_toArray, List.set_cons_zero, List.set_cons_succ]
  refine wpAnyH_takeL (i := 1) (v := ?v1) rfl (by kernel_rfl) (by kernel_rfl) (by kernel_rfl) (fun _ _ _ h => h) (Or.inl ⟨by kernel_rfl, ?run1⟩) hHeld ?_
  case run1 => (intro w9 hS9; have q0 := hS9.cellOf D0.out.1; have q1 := hS9.cellOf D0.out.2.1; have q2 := hS9.cellOf D0.out.2.2.1; have q3 := hS9.cellOf D0.out.2.2.2.1; have q4 := hS9.cellOf D0.out.2.2.2.2.1; have q5 := hS9.cellOf D0.out.2.2.2.2.2.1; have q6 := hS9.cellOf D0.out.2.2.2.2.2.2; have a0 := hS9.cellOf Ea.out.1; have a1 := hS9.cellOf Ea.out.2.1; have a2 := hS9.cellOf Ea.out.2.2.1; have a3 := hS9.cellOf Ea.out.2.2.2.1; have a4 := hS9.cellOf Ea.out.2.2.2.2.1; have a5 := hS9.cellOf Ea.out.2.2.2.2.2.1; have a6 := hS9.cellOf Ea.out.2.2.2.2.2.2; go_simp; try exact rfl)
  try simp only [Act.put, List.setIfInBounds_toArray, List.set_cons_zero, List.set_cons_succ]
  refine wpAnyH_takeL (i := 2) (v := ?v2) rfl (by kernel_rfl) (by kernel_rfl) (by kernel_rfl) (fun _ _ _ h => h) (Or.inl ⟨by kernel_rfl, ?run2⟩) hHeld ?_
  case run2 => (intro w9 hS9; have q0 := hS9.cellOf D0.out.1; have q1 := hS9.cellOf D0.out.2.1; have q2 := hS9.cellOf D0.out.2.2.1; have q3 := hS9.cellOf D0.out.2.2.2.1; have q4 := hS9.cellOf D0.out.2.2.2.2.1; have q5 := hS9.cellOf D0.out.2.2.2.2.2.1; have q6 := hS9.cellOf D0.out.2.2.2.2.2.2; have a0 := hS9.cellOf Ea.out.1; have a1 := hS9.cellOf Ea.out.2.1; have a2 := hS9.cellOf Ea.out.2.2.1; have a3 := hS9.cellOf Ea.out.2.2.2.1; have a4 := hS9.cellOf Ea.out.2.2.2.2.1; have a5 := hS9.cellOf Ea.out.2.2.2.2.2.1; have a6 := hS9.cellOf Ea.out.2.2.2.2.2.2; go_simp; try exact rfl)
  try simp only [Act.put, List.setIfInBounds_toArray, List.set_cons_zero, List.set_cons_succ]
  refine wpAnyH_takeL (i := 3) (v := ?v3) rfl (by kernel_rfl) (by kernel_rfl) (by kernel_rfl) (fun _ _ _ h => h) (Or.inl ⟨by kernel_rfl, ?run3⟩) hHeld ?_
  case run3 => (intro w9 hS9; have q0 := hS9.cellOf D0.out.1; have q1 := hS9.cellOf D0.out.2.1; have q2 := hS9.cellOf D0.out.2.2.1; have q3 := hS9.cellOf D0.out.2.2.2.1; have q4 := hS9.cellOf D0.out.2.2.2.2.1; have q5 := hS9.cellOf D0.out.2.2.2.2.2.1; have q6 := hS9.cellOf D0.out.2.2.2.2.2.2; have a0 := hS9.cellOf Ea.out.1; have a1 := hS9.cellOf Ea.out.2.1; have a2 := hS9.cellOf Ea.out.2.2.1; have a3 := hS9.cellOf Ea.out.2.2.2.1; have a4 := hS9.cellOf Ea.out.2.2.2.2.1; have a5 := hS9.cellOf Ea.out.2.2.2.2.2.1; have a6 := hS9.cellOf Ea.out.2.2.2.2.2.2; go_simp; try exact rfl)
  try simp only [Act.put, List.setIfInBounds_toArray, List.set_cons_zero, List.set_cons_succ]
  refine wpAnyH_takeL (i := 4) (v := ?v4) rfl (by kernel_rfl) (by kernel_rfl) (by kernel_rfl) (fun _ _ _ h => h) (Or.inl ⟨by kernel_rfl, ?run4⟩) hHeld ?_
  case run4 => (intro w9 hS9; have q0 := hS9.cellOf D0.out.1; have q1 := hS9.cellOf D0.out.2.1; have q2 := hS9.cellOf D0.out.2.2.1; have q3 := hS9.cellOf D0.out.2.2.2.1; have q4 := hS9.cellOf D0.out.2.2.2.2.1; have q5 := hS9.cellOf D0.out.2.2.2.2.2.1; have q6 := hS9.cellOf D0.out.2.2.2.2.2.2; have a0 := hS9.cellOf Ea.out.1; have a1 := hS9.cellOf Ea.out.2.1; have a2 := hS9.cellOf Ea.out.2.2.1; have a3 := hS9.cellOf Ea.out.2.2.2.1; have a4 := hS9.cellOf Ea.out.2.2.2.2.1; have a5 := hS9.cellOf Ea.out.2.2.2.2.2.1; have a6 := hS9.cellOf Ea.out.2.2.2.2.2.2; go_simp; try exact rfl)
  try simp only [Act.put, List.setIfInBounds_toArray, List.set_cons_zero, List.set_cons_succ]
  refine wpAnyH_takeL (i := 8) (v := ?v8) rfl (by kernel_rfl) (by kernel_rfl) (by kernel_rfl) (fun _ _ _ h => h) (Or.inl ⟨by kernel_rfl, ?run8⟩) hHeld ?_
  case run8 => (intro w9 hS9; have q0 := hS9.cellOf D0.out.1; have q1 := hS9.cellOf D0.out.2.1; have q2 := hS9.cellOf D0.out.2.2.1; have q3 := hS9.cellOf D0.out.2.2.2.1; have q4 := hS9.cellOf D0.out.2.2.2.2.1; have q5 := hS9.cellOf D0.out.2.2.2.2.2.1; have q6 := hS9.cellOf D0.out.2.2.2.2.2.2; have a0 := hS9.cellOf Ea.out.1; have a1 := hS9.cellOf Ea.out.2.1; have a2 := hS9.cellOf Ea.out.2.2.1; have a3 := hS9.cellOf Ea.out.2.2.2.1; have a4 := hS9.cellOf Ea.out.2.2.2.2.1; have a5 := hS9.cellOf Ea.out.2.2.2.2.2.1; have a6 := hS9.cellOf Ea.out.2.2.2.2.2.2; go_simp; try exact rfl)
  try simp only [Act.put, List.setIfInBounds_toArray, List.set_cons_zero, List.set_cons_succ]
  refine wpAnyH_takeL (i := 9) (v := ?v9) rfl (by kernel_rfl) (by kernel_rfl) (by kernel_rfl) (fun _ _ _ h => h) (Or.inl ⟨by kernel_rfl, ?run9⟩) hHeld ?_
  case run9 => (intro w9 hS9; have q0 := hS9.cellOf D0.out.1; have q1 := hS9.cellOf D0.out.2.1; have q2 := hS9.cellOf D0.out.2.2.1; have q3 := hS9.cellOf D0.out.2.2.2.1; have q4 := hS9.cellOf D0.out.2.2.2.2.1; have q5 := hS9.cellOf D0.out.2.2.2.2.2.1; have q6 := hS9.cellOf D0.out.2.2.2.2.2.2; have a0 := hS9.cellOf Ea.out.1; have a1 := hS9.cellOf Ea.out.2.1; have a2 := hS9.cellOf Ea.out.2.2.1; have a3 := hS9.cellOf Ea.out.2.2.2.1; have a4 := hS9.cellOf Ea.out.2.2.2.2.1; have a5 := hS9.cellOf Ea.out.2.2.2.2.2.1; have a6 := hS9.cellOf Ea.out.2.2.2.2.2.2; go_simp; try exact rfl)
  try simp only [Act.put, List.setIfInBounds_toArray, List.set_cons_zero, List.set_cons_succ]
  refine wpAnyH_ready (rs := [5]) (by kernel_rfl) (by simp) ?_
  refine AllReadyH.consL rfl (fun K hK => ?_) AllReadyH.nil
  go_simp
  refine (HA.out _ ((HK6.out.drew))).mono ?_
  rintro e wc1 ⟨⟨X, rfl, hX⟩, hc⟩
  have HC1 := Lib.hid (((HK6.out.drew)).trans hc (by simp))
  have hsX : X.size = (flat x).length := by rw [size_list X, hX]
  have HXX := Lib.hid hX
  clear hX hc
  go_wp2_with fail
  refine hK.out _ _ HC1.out (fun hHeld2 => ?_)
  clear hK K hHeld
  have hHeld := hHeld2
  clear hHeld2
  try simp only [Act.put, List.setIfInBounds_toArray, List.set_cons_zero, List.set_cons_succ]
  refine wpAnyH_takeL (i := 6) (v := (.string (⟨#[32, 97, 102, 116, 101, 114, 32]⟩ ++ X))) rfl (by kernel_rfl) (by kernel_rfl) (by kernel_rfl) (fun _ _ _ h => h) (Or.inl ⟨by kernel_rfl, ?run6⟩) hHeld ?_
  case run6 => (intro w9 hS9; go_simp; first | done | omega | (simp; omega))
  try simp only [Act.put, List.setIfInBounds_toArray, List.set_cons_zero, List.set_cons_succ]
  refine wpAnyH_takeL (i := 7) (v := (.string (⟨#[32, 97, 102, 116, 101, 114, 32]⟩ ++ X ++ ⟨#[32, 45, 62, 32]⟩))) rfl (by kernel_rfl) (by kernel_rfl) (by kernel_rfl) (fun _ _ _ h => h) (Or.inl ⟨by kernel_rfl, ?run7⟩) hHeld ?_
  case run7 => (intro w9 hS9; go_simp; first | done | omega | (simp; omega))
  try simp only [Act.put, List.setIfInBounds_toArray, List.set_cons_zero, List.set_cons_succ]
  refine wpAnyH_ready (rs := [10]) (by kernel_rfl) (by simp) ?_
  refine AllReadyH.consL rfl (fun K hK => ?_) AllReadyH.nil
  go_simp
  refine (HC.out _ (HC1.out)).mono ?_
  rintro e wc2 ⟨⟨Z, rfl, hZ⟩, hc⟩
  have HC2 := Lib.hid ((HC1.out).trans hc (by simp))
  have hsZ : Z.size = (flat (sepI commaB bs)).length := by rw [size_list Z, hZ]
  have HXZ := Lib.hid hZ
  clear hZ hc
  go_wp2_with fail
  refine hK.out _ _ HC2.out (fun hHeld2 => ?_)
  clear hK K hHeld
  have hHeld := hHeld2
  clear hHeld2
  try simp only [Act.put, List.setIfInBounds_toArray, List.set_cons_zero, List.set_cons_succ]
  refine wpAnyH_takeL (i := 11) (v := (.string (⟨#[32, 97, 102, 116, 101, 114, 32]⟩ ++ X ++ ⟨#[32, 45, 62, 32]⟩ ++ Z))) rfl (by kernel_rfl) (by kernel_rfl) (by kernel_rfl) (fun _ _ _ h => h) (Or.inl ⟨by kernel_rfl, ?run11⟩) hHeld ?_
  case run11 => (intro w9 hS9; go_simp; first | done | omega | (simp; omega))
  try simp only [Act.put, List.setIfInBounds_toArray, List.set_cons_zero, List.set_cons_succ]
  refine wpAnyH_takeL (i := 12) (v := (.string ((⟨#[114, 101, 99, 101, 105, 118, 101]⟩ ++ (⟨#[32]⟩ ++ Y)) ++ (⟨#[32, 97, 102, 116, 101, 114, 32]⟩ ++ X ++ ⟨#[32, 45, 62, 32]⟩ ++ Z)))) rfl (by kernel_rfl) (by kernel_rfl) (by kernel_rfl) (fun _ _ _ h => h) (Or.inl ⟨by kernel_rfl, ?run12⟩) hHeld ?_
  case run12 => (intro w9 hS9; go_simp; first | done | omega | (simp; omega))
  try simp only [Act.put, List.setIfInBounds_toArray, List.set_cons_zero, List.set_cons_succ]
  refine wpAnyH_takeL (i := 13) (v := ?v13) rfl (by kernel_rfl) (by kernel_rfl) (by kernel_rfl) (fun _ _ _ h => h) (Or.inl ⟨by kernel_rfl, ?run13⟩) hHeld ?_
  case run13 => (intro w9 hS9; go_simp; try exact rfl)
  try simp only [Act.put, List.setIfInBounds_toArray, List.set_cons_zero, List.set_cons_succ]
  refine wpAnyH_done (by kernel_rfl) ?_ _
  go_wp2_with fail
  go_ret
  exact ⟨⟨_, rfl, by (simp [HXY.out, HXX.out, HXZ.out, flat_cons, flat_app, flat_nil, It.text])⟩, HK5.out.trans HC2.out (by simp)⟩
set_option maxRecDepth 100000 in
set_option maxHeartbeats 4000000 in
theorem tx_recvB {B : Nat} {b : List Nd} {bs : List (List It)} {a : Nd} {x : List It} (ha : TxT B a x) (hb : TL B b bs) (hlen : (flat x).length + (flat (sepI commaB bs)).length ≤ 140737488354000) : TxT B (.mk 15 0 [] [a] [] b) (wd sReceive :: (sp :: wd sAfter :: sp :: x ++ sp :: .t 5 0 sTo :: sp :: sepI commaB bs) ++ [sp, wd sEnd]) := by
  intro w S cs ht hnd
  obtain ⟨kd, nu, at1, nm1, a0, b0, c0, va, vb, vc, rfl, hn, h1, h2, h3⟩ := id hnd.un7
  injection hn with e1 e2 e3 e4 e5 e6
  subst e1 e2 e3 e4 e5 e6
  obtain ⟨p1, c1, e1⟩ := h1.form
  obtain ⟨p2, c2, e2⟩ := h2.form
  obtain ⟨p3, c3, e3⟩ := h3.form
  replace e1 : va = .slice p1 1 c1 := e1
  replace e2 : vb = .slice p2 0 c2 := e2
  replace e3 : vc = .slice p3 b.length c3 := e3
  subst e1 e2 e3
  have hk5 := (Keep.refl [] w).alloc (.cells #[.int .i64 15, .int .i64 0, .string ⟨#[]⟩, .int .i64 at1, .slice p1 1 c1, .slice p2 0 c2, .slice p3 b.length c3] 29)
  have hb5 := heap_alloc_new w (.cells #[.int .i64 15, .int .i64 0, .string ⟨#[]⟩, .int .i64 at1, .slice p1 1 c1, .slice p2 0 c2, .slice p3 b.length c3] 29)
  obtain ⟨d0, d1, d2, d3, d4, d5, d6⟩ := cells7 hb5
  have D0 := Lib.hid (And.intro d0 (And.intro d1 (And.intro d2 (And.intro d3 (And.intro d4 (And.intro d5 d6))))))
  have HK5 := Lib.hid hk5
  have hT := ht.keep0 hk5
  have HT := Lib.hid hT
  obtain ⟨aba, aoffa, csa, ea, -, hnda, hcella⟩ := (h1.keep hk5 (by simp)).at7 (i := 0) (by simp)
  replace hnda : NdR S _ false csa a := hnda
  obtain ⟨kda, nua, ata, nma, p1a, n1a, c1a, p2a, n2a, c2a, p3a, n3a, c3a, rfl, -⟩ := id hnda.un7s
  have a0 := hcella 0 (by decide)
  have a1 := hcella 1 (by decide)
  have a2 := hcella 2 (by decide)
  have a3 := hcella 3 (by decide)
  have a4 := hcella 4 (by decide)
  have a5 := hcella 5 (by decide)
  have a6 := hcella 6 (by decide)
  simp only [Nat.zero_mul, Nat.one_mul, Nat.add_zero, List.getElem?_cons_zero, List.getElem?_cons_succ] at a0 a1 a2 a3 a4 a5 a6
  have Ea := Lib.hid (And.intro a0 (And.intro a1 (And.intro a2 (And.intro a3 (And.intro a4 (And.intro a5 a6))))))
  clear hcella a0 a1 a2 a3 a4 a5 a6
  subst ea
  have HA := Lib.hid (fun W (k : Keep [] (w.alloc _) W) => ha W _ _ (hT.keep0 k) (hnda.keep k (by simp)))
  have HC := Lib.hid (fun W (k : Keep [] (w.alloc _) W) => p_texts (w := W) (s := commaB) (sep := ⟨#[44, 32]⟩) (hT.keep0 k) ((h3.keep hk5 (by simp)).keep k (by simp)) hb.1 hb.2.2 rfl (by omega) hb.2.1)
  clear hb5 hk5 hnd h1 h2 h3 ht hT ha hb hnda
  go_enter Tryz.func10, Tryz.ntmps10
  go_wp2_with fail
  generalize w.alloc _ = w5 at *
  clear d0 d1 d2 d3 d4 d5 d6
  refine wp_region_held_drew (S := fun w' => Keep [] w5 w') (by kernel_rfl) ((Keep.refl [] w5).drew) (fun hHeld => ?_)
  refine wpAnyH_takeL (i := 0) (v := ?v0) rfl (by kernel_rfl) (by kernel_rfl) (by kernel_rfl) (fun _ _ _ h => h) (Or.inl ⟨by kernel_rfl, ?run0⟩) hHeld ?_
  case run0 => (intro w9 hS9; have q0 := hS9.cellOf D0.out.1; have q1 := hS9.cellOf D0.out.2.1; have q2 := hS9.cellOf D0.out.2.2.1; have q3 := hS9.cellOf D0.out.2.2.2.1; have q4 := hS9.cellOf D0.out.2.2.2.2.1; have q5 := hS9.cellOf D0.out.2.2.2.2.2.1; have q6 := hS9.cellOf D0.out.2.2.2.2.2.2; have a0 := hS9.cellOf Ea.out.1; have a1 := hS9.cellOf Ea.out.2.1; have a2 := hS9.cellOf Ea.out.2.2.1; have a3 := hS9.cellOf Ea.out.2.2.2.1; have a4 := hS9.cellOf Ea.out.2.2.2.2.1; have a5 := hS9.cellOf Ea.out.2.2.2.2.2.1; have a6 := hS9.cellOf Ea.out.2.2.2.2.2.2; go_simp; try exact rfl)
  try simp only [Act.put, List.setIfInBounds_toArray, List.set_cons_zero, List.set_cons_succ]
  refine wpAnyH_takeL (i := 1) (v := ?v1) rfl (by kernel_rfl) (by kernel_rfl) (by kernel_rfl) (fun _ _ _ h => h) (Or.inl ⟨by kernel_rfl, ?run1⟩) hHeld ?_
  case run1 => (intro w9 hS9; have q0 := hS9.cellOf D0.out.1; have q1 := hS9.cellOf D0.out.2.1; have q2 := hS9.cellOf D0.out.2.2.1; have q3 := hS9.cellOf D0.out.2.2.2.1; have q4 := hS9.cellOf D0.out.2.2.2.2.1; have q5 := hS9.cellOf D0.out.2.2.2.2.2.1; have q6 := hS9.cellOf D0.out.2.2.2.2.2.2; have a0 := hS9.cellOf Ea.out.1; have a1 := hS9.cellOf Ea.out.2.1; have a2 := hS9.cellOf Ea.out.2.2.1; have a3 := hS9.cellOf Ea.out.2.2.2.1; have a4 := hS9.cellOf Ea.out.2.2.2.2.1; have a5 := hS9.cellOf Ea.out.2.2.2.2.2.1; have a6 := hS9.cellOf Ea.out.2.2.2.2.2.2; go_simp; try exact rfl)
  try simp only [Act.put, List.setIfInBounds_toArray, List.set_cons_zero, List.set_cons_succ]
  refine wpAnyH_takeL (i := 2) (v := ?v2) rfl (by kernel_rfl) (by kernel_rfl) (by kernel_rfl) (fun _ _ _ h => h) (Or.inl ⟨by kernel_rfl, ?run2⟩) hHeld ?_
  case run2 => (intro w9 hS9; have q0 := hS9.cellOf D0.out.1; have q1 := hS9.cellOf D0.out.2.1; have q2 := hS9.cellOf D0.out.2.2.1; have q3 := hS9.cellOf D0.out.2.2.2.1; have q4 := hS9.cellOf D0.out.2.2.2.2.1; have q5 := hS9.cellOf D0.out.2.2.2.2.2.1; have q6 := hS9.cellOf D0.out.2.2.2.2.2.2; have a0 := hS9.cellOf Ea.out.1; have a1 := hS9.cellOf Ea.out.2.1; have a2 := hS9.cellOf Ea.out.2.2.1; have a3 := hS9.cellOf Ea.out.2.2.2.1; have a4 := hS9.cellOf Ea.out.2.2.2.2.1; have a5 := hS9.cellOf Ea.out.2.2.2.2.2.1; have a6 := hS9.cellOf Ea.out.2.2.2.2.2.2; go_simp; try exact rfl)
  try simp only [Act.put, List.setIfInBounds_toArray, List.set_cons_zero, List.set_cons_succ]
  refine wpAnyH_takeL (i := 3) (v := ?v3) rfl (by kernel_rfl) (by kernel_rfl) (by kernel_rfl) (fun _ _ _ h => h) (Or.inl ⟨by kernel_rfl, ?run3⟩) hHeld ?_
  case run3 => (intro w9 hS9; have q0 := hS9.cellOf D0.out.1; have q1 := hS9.cellOf D0.out.2.1; have q2 := hS9.cellOf D0.out.2.2.1; have q3 := hS9.cellOf D0.out.2.2.2.1; have q4 := hS9.cellOf D0.out.2.2.2.2.1; have q5 := hS9.cellOf D0.out.2.2.2.2.2.1; have q6 := hS9.cellOf D0.out.2.2.2.2.2.2; have a0 := hS9.cellOf Ea.out.1; have a1 := hS9.cellOf Ea.out.2.1; have a2 := hS9.cellOf Ea.out.2.2.1; have a3 := hS9.cellOf Ea.out.2.2.2.1; have a4 := hS9.cellOf Ea.out.2.2.2.2.1; have a5 := hS9.cellOf Ea.out.2.2.2.2.2.1; have a6 := hS9.cellOf Ea.out.2.2.2.2.2.2; go_simp; try exact rfl)
  try simp only [Act.put, List.setIfInBounds_toArray, List.set_cons_zero, List.set_cons_succ]
  refine wpAnyH_takeL (i := 4) (v := ?v4) rfl (by kernel_rfl) (by kernel_rfl) (by kernel_rfl) (fun _ _ _ h => h) (Or.inl ⟨by kernel_rfl, ?run4⟩) hHeld ?_
  case run4 => (intro w9 hS9; have q0 := hS9.cellOf D0.out.1; have q1 := hS9.cellOf D0.out.2.1; have q2 := hS9.cellOf D0.out.2.2.1; have q3 := hS9.cellOf D0.out.2.2.2.1; have q4 := hS9.cellOf D0.out.2.2.2.2.1; have q5 := hS9.cellOf D0.out.2.2.2.2.2.1; have q6 := hS9.cellOf D0.out.2.2.2.2.2.2; have a0 := hS9.cellOf Ea.out.1; have a1 := hS9.cellOf Ea.out.2.1; have a2 := hS9.cellOf Ea.out.2.2.1; have a3 := hS9.cellOf Ea.out.2.2.2.1; have a4 := hS9.cellOf Ea.out.2.2.2.2.1; have a5 := hS9.cellOf Ea.out.2.2.2.2.2.1; have a6 := hS9.cellOf Ea.out.2.2.2.2.2.2; go_simp; try exact rfl)
  try simp only [Act.put, List.setIfInBounds_toArray, List.set_cons_zero, List.set_cons_succ]
  refine wpAnyH_takeL (i := 8) (v := ?v8) rfl (by kernel_rfl) (by kernel_rfl) (by kernel_rfl) (fun _ _ _ h => h) (Or.inl ⟨by kernel_rfl, ?run8⟩) hHeld ?_
  case run8 => (intro w9 hS9; have q0 := hS9.cellOf D0.out.1; have q1 := hS9.cellOf D0.out.2.1; have q2 := hS9.cellOf D0.out.2.2.1; have q3 := hS9.cellOf D0.out.2.2.2.1; have q4 := hS9.cellOf D0.out.2.2.2.2.1; have q5 := hS9.cellOf D0.out.2.2.2.2.2.1; have q6 := hS9.cellOf D0.out.2.2.2.2.2.2; have a0 := hS9.cellOf Ea.out.1; have a1 := hS9.cellOf Ea.out.2.1; have a2 := hS9.cellOf Ea.out.2.2.1; have a3 := hS9.cellOf Ea.out.2.2.2.1; have a4 := hS9.cellOf Ea.out.2.2.2.2.1; have a5 := hS9.cellOf Ea.out.2.2.2.2.2.1; have a6 := hS9.cellOf Ea.out.2.2.2.2.2.2; go_simp; try exact rfl)
  try simp only [Act.put, List.setIfInBounds_toArray, List.set_cons_zero, List.set_cons_succ]
  refine wpAnyH_takeL (i := 9) (v := ?v9) rfl (by kernel_rfl) (by kernel_rfl) (by kernel_rfl) (fun _ _ _ h => h) (Or.inl ⟨by kernel_rfl, ?run9⟩) hHeld ?_
  case run9 => (intro w9 hS9; have q0 := hS9.cellOf D0.out.1; have q1 := hS9.cellOf D0.out.2.1; have q2 := hS9.cellOf D0.out.2.2.1; have q3 := hS9.cellOf D0.out.2.2.2.1; have q4 := hS9.cellOf D0.out.2.2.2.2.1; have q5 := hS9.cellOf D0.out.2.2.2.2.2.1; have q6 := hS9.cellOf D0.out.2.2.2.2.2.2; have a0 := hS9.cellOf Ea.out.1; have a1 := hS9.cellOf Ea.out.2.1; have a2 := hS9.cellOf Ea.out.2.2.1; have a3 := hS9.cellOf Ea.out.2.2.2.1; have a4 := hS9.cellOf Ea.out.2.2.2.2.1; have a5 := hS9.cellOf Ea.out.2.2.2.2.2.1; have a6 := hS9.cellOf Ea.out.2.2.2.2.2.2; go_simp; try exact rfl)
  try simp only [Act.put, List.setIfInBounds_toArray, List.set_cons_zero, List.set_cons_succ]
  refine wpAnyH_ready (rs := [5]) (by kernel_rfl) (by simp) ?_
  refine AllReadyH.consL rfl (fun K hK => ?_) AllReadyH.nil
  go_simp
  refine (HA.out _ (((Keep.refl [] w5).drew))).mono ?_
  rintro e wc1 ⟨⟨X, rfl, hX⟩, hc⟩
  have HC1 := Lib.hid ((((Keep.refl [] w5).drew)).trans hc (by simp))
  have hsX : X.size = (flat x).length := by rw [size_list X, hX]
  have HXX := Lib.hid hX
  clear hX hc
  go_wp2_with fail
  refine hK.out _ _ HC1.out (fun hHeld2 => ?_)
  clear hK K hHeld
  have hHeld := hHeld2
  clear hHeld2
  try simp only [Act.put, List.setIfInBounds_toArray, List.set_cons_zero, List.set_cons_succ]
  refine wpAnyH_takeL (i := 6) (v := (.string (⟨#[32, 97, 102, 116, 101, 114, 32]⟩ ++ X))) rfl (by kernel_rfl) (by kernel_rfl) (by kernel_rfl) (fun _ _ _ h => h) (Or.inl ⟨by kernel_rfl, ?run6⟩) hHeld ?_
  case run6 => (intro w9 hS9; go_simp; first | done | omega | (simp; omega))
  try simp only [Act.put, List.setIfInBounds_toArray, List.set_cons_zero, List.set_cons_succ]
  refine wpAnyH_takeL (i := 7) (v := (.string (⟨#[32, 97, 102, 116, 101, 114, 32]⟩ ++ X ++ ⟨#[32, 45, 62, 32]⟩))) rfl (by kernel_rfl) (by kernel_rfl) (by kernel_rfl) (fun _ _ _ h => h) (Or.inl ⟨by kernel_rfl, ?run7⟩) hHeld ?_
  case run7 => (intro w9 hS9; go_simp; first | done | omega | (simp; omega))
  try simp only [Act.put, List.setIfInBounds_toArray, List.set_cons_zero, List.set_cons_succ]
  refine wpAnyH_ready (rs := [10]) (by kernel_rfl) (by simp) ?_
  refine AllReadyH.consL rfl (fun K hK => ?_) AllReadyH.nil
  go_simp
  refine (HC.out _ (HC1.out)).mono ?_
  rintro e wc2 ⟨⟨Z, rfl, hZ⟩, hc⟩
  have HC2 := Lib.hid ((HC1.out).trans hc (by simp))
  have hsZ : Z.size = (flat (sepI commaB bs)).length := by rw [size_list Z, hZ]
  have HXZ := Lib.hid hZ
  clear hZ hc
  go_wp2_with fail
  refine hK.out _ _ HC2.out (fun hHeld2 => ?_)
  clear hK K hHeld
  have hHeld := hHeld2
  clear hHeld2
  try simp only [Act.put, List.setIfInBounds_toArray, List.set_cons_zero, List.set_cons_succ]
  refine wpAnyH_takeL (i := 11) (v := (.string (⟨#[32, 97, 102, 116, 101, 114, 32]⟩ ++ X ++ ⟨#[32, 45, 62, 32]⟩ ++ Z))) rfl (by kernel_rfl) (by kernel_rfl) (by kernel_rfl) (fun _ _ _ h => h) (Or.inl ⟨by kernel_rfl, ?run11⟩) hHeld ?_
  case run11 => (intro w9 hS9; go_simp; first | done | omega | (simp; omega))
  try simp only [Act.put, List.setIfInBounds_toArray, List.set_cons_zero, List.set_cons_succ]
  refine wpAnyH_takeL (i := 12) (v := (.string (⟨#[114, 101, 99, 101, 105, 118, 101]⟩ ++ (⟨#[32, 97, 102, 116, 101, 114, 32]⟩ ++ X ++ ⟨#[32, 45, 62, 32]⟩ ++ Z)))) rfl (by kernel_rfl) (by kernel_rfl) (by kernel_rfl) (fun _ _ _ h => h) (Or.inl ⟨by kernel_rfl, ?run12⟩) hHeld ?_
  case run12 => (intro w9 hS9; go_simp; first | done | omega | (simp; omega))
  try simp only [Act.put, List.setIfInBounds_toArray, List.set_cons_zero, List.set_cons_succ]
  refine wpAnyH_takeL (i := 13) (v := ?v13) rfl (by kernel_rfl) (by kernel_rfl) (by kernel_rfl) (fun _ _ _ h => h) (Or.inl ⟨by kernel_rfl, ?run13⟩) hHeld ?_
  case run13 => (intro w9 hS9; go_simp; try exact rfl)
  try simp only [Act.put, List.setIfInBounds_toArray, List.set_cons_zero, List.set_cons_succ]
  refine wpAnyH_done (by kernel_rfl) ?_ _
  go_wp2_with fail
  go_ret
  exact ⟨⟨_, rfl, by (simp [HXX.out, HXZ.out, flat_cons, flat_app, flat_nil, It.text])⟩, HK5.out.trans HC2.out (by simp)⟩
end Go.Proofs.YtdmmhfbafinkpaaGreatDoor

/- ParseBack: parse/text.go: Text of every tree that has pieces is what they say. -/
namespace Go.Proofs.YtdmmhfbafinkpaaGreatDoor
open Go.RowKit Go.Emb

theorem oper_flat (a : Nd) (x : List It) : (flat x).length ≤ (flat (operI a x)).length := by
  unfold operI; split
  · simp [inBr, flat_cons, flat_app, flat_nil]; omega
  · exact Nat.le_refl _
theorem callI_flat (a : Nd) (x : List It) : (flat x).length ≤ (flat (callI a x)).length := by
  unfold callI; split
  · exact Nat.le_refl _
  · simp [inBr, flat_cons, flat_app, flat_nil]; omega
theorem oper_sub (a : Nd) (x : List It) : x.Sublist (operI a x) := by
  unfold operI; split
  · exact List.IsInfix.sublist ⟨[sg 40], [sg 41], by simp [inBr]⟩
  · exact List.Sublist.refl _
theorem callI_sub (a : Nd) (x : List It) : x.Sublist (callI a x) := by
  unfold callI; split
  · exact List.Sublist.refl _
  · exact List.IsInfix.sublist ⟨[sg 40], [sg 41], by simp [inBr]⟩
theorem tail_b (gs bs : List (List It)) : (sepI commaB bs).Sublist (tailI gs bs) :=
  List.IsInfix.sublist ⟨(if gs = [] then [] else sp :: wd sWhen :: sp :: sepI commaB gs) ++ [sp, .t 5 0 sTo, sp], [], by simp [tailI]⟩
theorem tail_g (gs bs : List (List It)) : (sepI commaB gs).Sublist (tailI gs bs) := by
  by_cases h : gs = []
  · subst h; exact List.nil_sublist _
  · exact List.IsInfix.sublist ⟨[sp, wd sWhen, sp], sp :: .t 5 0 sTo :: sp :: sepI commaB bs, by simp [tailI, h]⟩
theorem tok2 {nm : List UInt8} (h : TokOk ⟨2, 0, nm, 0⟩) : nm.length ≤ 255 ∧ nm ≠ [] := by
  rcases h with ⟨h, -⟩ | ⟨-, ⟨-, l1, l2⟩ | ⟨h, -⟩ | ⟨h, -⟩ | ⟨h, -⟩⟩
  · simp at h
  · refine ⟨by simpa using l2, ?_⟩
    rintro rfl
    simp at l1
  · simp at h
  · simp at h
  · simp at h
theorem level_len {u : Nat} {t : List UInt8} (hu : u < 5) (ht : t ∈ levelsL u) : t.length ≤ 100 := by
  have h : ∀ u, u < 5 → ∀ t ∈ levelsL u, t.length ≤ 100 := by decide
  exact h u hu t ht
theorem un_len {t : List UInt8} (ht : t ∈ [sMinus, sNot]) : t.length ≤ 100 := by
  have h : ∀ t ∈ [sMinus, sNot], t.length ≤ 100 := by decide
  exact h t ht
theorem ar_of {B : Nat} {l : List Nd} {ls : List (List It)} (hl : ls.length = l.length) (h : ∀ i (h : i < l.length) (h' : i < ls.length), Pr 1 l[i] ls[i]) (ih : ∀ i (h : i < l.length) (h' : i < ls.length), Sm ls[i] → QT B 1 l[i] ls[i])
    (hs : Sm (sepI semiB ls)) : ArL B l ls :=
  ⟨hl, by have := sep_many semiB ls (pl_ne hl h); have := hs.1; omega, fun i hi hi' => (ih i hi hi' (hs.sub (sep_sub _ ls i hi'))).2.1 rfl⟩
theorem hd_of {B : Nat} {l : List Nd} {ls : List (List It)} (hl : ls.length = l.length) (h : ∀ i (h : i < l.length) (h' : i < ls.length), Pr 2 l[i] ls[i]) (ih : ∀ i (h : i < l.length) (h' : i < ls.length), Sm ls[i] → QT B 2 l[i] ls[i])
    (hs : Sm (sepI semiB ls)) : HdL B l ls :=
  ⟨hl, by have := sep_many semiB ls (pl_ne hl h); have := hs.1; omega, fun i hi hi' => by
    obtain ⟨ps, gs, bs, h1, h2⟩ := (ih i hi hi' (hs.sub (sep_sub _ ls i hi'))).2.2.1 rfl
    exact ⟨[], ps, gs, bs, h1, by simp, by rw [h2]; simp⟩⟩
theorem fhd_of {B : Nat} {l : List Nd} {ls : List (List It)} (hl : ls.length = l.length) (h : ∀ i (h : i < l.length) (h' : i < ls.length), Pr 3 l[i] ls[i]) (ih : ∀ i (h : i < l.length) (h' : i < ls.length), Sm ls[i] → QT B 3 l[i] ls[i])
    (hs : Sm (sepI semiB ls)) : HdL B l ls :=
  ⟨hl, by have := sep_many semiB ls (pl_ne hl h); have := hs.1; omega, fun i hi hi' => by
    obtain ⟨nm, ps, gs, bs, h1, h0, h3, h2⟩ := (ih i hi hi' (hs.sub (sep_sub _ ls i hi'))).2.2.2.1 rfl
    exact ⟨nm, ps, gs, bs, h1, h3, by rw [h2, if_neg h0]; simp⟩⟩
theorem one_tl {B : Nat} {p : Nd} {x : List It} (h : TxT B p x) : TL B [p] [x] :=
  ⟨rfl, by simp, fun i hi hi' => by
    have : i = 0 := by simp at hi; exact hi
    subst this; exact h⟩

set_option maxHeartbeats 4000000 in
theorem tx_all (B : Nat) {k : Nat} {n : Nd} {x : List It} (h : Pr k n x) : Sm x → QT B k n x := by
  induction h with
  | leaf h h3 => exact fun _ => .tree (tx_leaf h h3)
  | @tuple l ls hl h ih =>
    intro hs
    have h1 : Sm (sepI comma ls) := hs.inf [sg 123] [sg 125] (by simp)
    exact .tree (tx_tuple (tl_of hl h (fun i h h' hs => (ih i h h' hs).1 rfl) h1) (by have := h1.2; omega))
  | nil => exact fun _ => .tree (tx_list (l := []) (ls := []) (t := .mk 5 0 [] [] [] []) (y := []) (tl := []) rfl (.inl rfl) ⟨rfl, by simp, fun i h => by simp at h⟩ (by simp [Nd.kind]) rfl (fun h => absurd rfl h) rfl (by decide))
  | @cons a t x r ha ht iha iht =>
    intro hs
    obtain ⟨l, ls, t', y, tl, e, hTL, hll, h6, htl, hy5, hy, hfl⟩ := (iht (hs.inf (sg 91 :: x) [] (by simp))).2.2.2.2 rfl
    have hxa := (iha (hs.inf [sg 91] r (by simp))).1 rfl
    have hfx : flat (sg 91 :: x ++ r) = 91 :: Lib.join ((x :: ls).map flat) [44] ++ tl ++ [93] := by
      rw [flat_app, hfl, List.map_cons, Lib.join_cons, flat_cons]; simp [It.text]
    have hlen : (Lib.join ((x :: ls).map flat) [44]).length + (flat y).length ≤ 140737488354000 := by
      have h2 := hs.2
      rw [hfx] at h2
      simp only [List.length_append, List.length_cons, List.length_nil] at h2
      by_cases h5 : t'.kind = 5
      · rw [hy5 h5, flat_nil]; simp only [List.length_nil]; omega
      · rw [if_neg h5] at htl
        rw [htl] at h2
        simp only [List.length_cons] at h2
        omega
    refine .tree (tx_list (l := a :: l) (ls := x :: ls) (t := t') (y := y) (tl := tl) (by rw [e]; rfl) (.inr rfl) ⟨by simp [hTL.1], ?_, ?_⟩ h6 htl hy hfx hlen)
    · have h1 := hs.1
      simp only [List.length_append, List.length_cons] at h1 ⊢
      omega
    · rintro (_ | i) hi hi'
      · exact hxa
      · exact hTL.2.2 i (by simp at hi; omega) (by simp at hi'; omega)
  | rest_nil => exact fun _ => .rst ⟨[], [], .mk 5 0 [] [] [] [], [], [], rfl, ⟨rfl, by simp, fun i h => by simp at h⟩, by simp, by simp [Nd.kind], rfl, fun _ => rfl, fun h => absurd rfl h, rfl⟩
  | @rest_cons a t x r ha ht iha iht =>
    intro hs
    obtain ⟨l, ls, t', y, tl, e, hTL, hll, h6, htl, hy5, hy, hfl⟩ := (iht (hs.inf (sg 44 :: x) [] (by simp))).2.2.2.2 rfl
    have hxa := (iha (hs.inf [sg 44] r (by simp))).1 rfl
    have h1 := hs.1
    simp only [List.length_append, List.length_cons] at h1
    refine .rst ⟨a :: l, x :: ls, t', y, tl, by rw [e]; rfl, ⟨by simp [hTL.1], by simp only [List.length_cons]; omega, ?_⟩, by simp; omega, h6, htl, hy5, hy, ?_⟩
    · rintro (_ | i) hi hi'
      · exact hxa
      · exact hTL.2.2 i (by simp at hi; omega) (by simp at hi'; omega)
    · rw [flat_app, hfl, flat_cons]; simp [It.text, Lib.joinTail]
  | @rest_bar t x ht h5 h6 ih =>
    intro hs
    have hx := (ih (hs.inf [sg 124] [sg 93] (by simp))).1 rfl
    exact .rst ⟨[], [], t, x, 124 :: flat x, rfl, ⟨rfl, by simp, fun i h => by simp at h⟩, by simp, h6, by rw [if_neg h5], fun h => absurd h h5, fun _ => hx, by simp [flat_cons, flat_app, flat_nil, It.text, Lib.joinTail]⟩
  | @call nm l ls hn hl h ih =>
    intro hs
    have h1 : Sm (sepI comma ls) := hs.inf [.t 2 0 nm, sg 40] [sg 41] (by simp)
    have h2 := hs.2
    simp [flat_cons, flat_app, flat_nil, It.text] at h2
    exact .tree (tx_call (tok2 hn).1 (tl_of hl h (fun i h h' hs => (ih i h h' hs).1 rfl) h1) (by omega))
  | @apply f x l ls hf hl h ihf ih =>
    intro hs
    have h1 : Sm (sepI comma ls) := hs.inf (callI f x ++ [sg 40]) [sg 41] (by simp)
    have h0 : Sm (callI f x) := hs.inf [] (sg 40 :: sepI comma ls ++ [sg 41]) (by simp)
    have h2 := hs.2
    simp [flat_cons, flat_app, flat_nil, It.text] at h2
    have h3 := callI_flat f x
    exact .tree (tx_apply ((ihf (h0.sub (callI_sub f x))).1 rfl) (tl_of hl h (fun i h h' hs => (ih i h h' hs).1 rfl) h1) (by omega) (by omega))
  | @op k v u t a b x y hu ht hk h4 ha hb iha ihb =>
    intro hs
    have h0 : Sm (operI a x) := hs.inf [] (sp :: .t k v t :: sp :: operI b y) (by simp)
    have h1 : Sm (operI b y) := hs.inf (operI a x ++ [sp, .t k v t, sp]) [] (by simp)
    have h2 := hs.2
    simp only [flat_cons, flat_app, flat_nil, List.length_append] at h2
    have h3 := oper_flat a x
    have h5 := oper_flat b y
    exact .tree (tx_op ((iha (h0.sub (oper_sub a x))).1 rfl) ((ihb (h1.sub (oper_sub b y))).1 rfl) h4 (level_len hu ht) (by omega) (by omega) (by omega))
  | @un k v t a x ht hk h4 ha iha =>
    intro hs
    have h0 : Sm (operI a x) := hs.inf [.t k v t, sp] [] (by simp)
    have h2 := h0.2
    have h3 := oper_flat a x
    exact .tree (tx_un ((iha (h0.sub (oper_sub a x))).1 rfl) h4 (un_len ht) (by omega) (by omega))
  | @mat a b x y ha hb iha ihb =>
    intro hs
    have h0 : Sm (operI a x) := hs.inf [] (sp :: sg 61 :: sp :: operI b y) (by simp)
    have h1 : Sm (operI b y) := hs.inf (operI a x ++ [sp, sg 61, sp]) [] (by simp)
    have h2 := hs.2
    simp only [flat_cons, flat_app, flat_nil, List.length_append] at h2
    have h3 := oper_flat a x
    have h5 := oper_flat b y
    exact .tree (tx_mat ((iha (h0.sub (oper_sub a x))).1 rfl) ((ihb (h1.sub (oper_sub b y))).1 rfl) (by omega) (by omega) (by omega))
  | @send a b x y ha hb iha ihb =>
    intro hs
    have h0 : Sm (operI a x) := hs.inf [] (sp :: sg 33 :: sp :: operI b y) (by simp)
    have h1 : Sm (operI b y) := hs.inf (operI a x ++ [sp, sg 33, sp]) [] (by simp)
    have h2 := hs.2
    simp only [flat_cons, flat_app, flat_nil, List.length_append] at h2
    have h3 := oper_flat a x
    have h5 := oper_flat b y
    exact .tree (tx_send ((iha (h0.sub (oper_sub a x))).1 rfl) ((ihb (h1.sub (oper_sub b y))).1 rfl) (by omega) (by omega) (by omega))
  | @fn l ls h0 hl h ih =>
    intro hs
    have h1 : Sm (sepI semiB ls) := hs.inf [wd sFun] [sp, wd sEnd] (by simp)
    exact .tree (tx_fn (hd_of hl h ih h1) h1)
  | @case a x l ls ha h0 hl h iha ih =>
    intro hs
    have h1 : Sm (sepI semiB ls) := hs.inf (wd sCase :: sp :: x ++ [sp, wd sOf, sp]) [sp, wd sEnd] (by simp)
    have h2 : Sm x := hs.inf [wd sCase, sp] (sp :: wd sOf :: sp :: sepI semiB ls ++ [sp, wd sEnd]) (by simp)
    have h3 := hs.2
    simp only [flat_cons, flat_app, flat_nil, List.length_append] at h3
    exact .tree (tx_case ((iha h2).1 rfl) (ar_of hl h ih h1) h1 (by omega))
  | @tr b l bs ls hb0 hbl hb h0 hl h ihb ih =>
    intro hs
    have h1 : Sm (sepI semiB ls) := hs.inf (wd sTry :: sp :: sepI commaB bs ++ [sp, wd sCatch, sp]) [sp, wd sEnd] (by simp)
    have h2 : Sm (sepI commaB bs) := hs.inf [wd sTry, sp] (sp :: wd sCatch :: sp :: sepI semiB ls ++ [sp, wd sEnd]) (by simp)
    have h3 := hs.2
    simp only [flat_cons, flat_app, flat_nil, List.length_append] at h3
    exact .tree (tx_tr (tl_of hbl hb (fun i h h' hs => (ihb i h h' hs).1 rfl) h2) (ar_of hl h ih h1) h1 (by omega))
  | @recv l ls h0 hl h ih =>
    intro hs
    have h1 : Sm (sepI semiB ls) := hs.inf [wd sReceive, sp] [sp, wd sEnd] (by simp)
    exact .tree (tx_recv h0 (ar_of hl h ih h1) h1)
  | @recvA l b ls bs a x hl h ha hb0 hbl hb ih iha ihb =>
    intro hs
    by_cases h0 : ls = []
    · subst h0
      have := List.eq_nil_of_length_eq_zero hl.symm
      subst this
      rw [if_pos rfl] at hs ⊢
      have h1 : Sm x := hs.inf [wd sReceive, sp, wd sAfter, sp] (sp :: .t 5 0 sTo :: sp :: sepI commaB bs ++ [sp, wd sEnd]) (by simp)
      have h2 : Sm (sepI commaB bs) := hs.inf (wd sReceive :: sp :: wd sAfter :: sp :: x ++ [sp, .t 5 0 sTo, sp]) [sp, wd sEnd] (by simp)
      have h3 := hs.2
      simp only [flat_cons, flat_app, flat_nil, List.length_append] at h3
      exact .tree (by simpa using tx_recvB ((iha h1).1 rfl) (tl_of hbl hb (fun i h h' hs => (ihb i h h' hs).1 rfl) h2) (by omega))
    · rw [if_neg h0] at hs ⊢
      have h1 : Sm x := hs.inf (wd sReceive :: sp :: sepI semiB ls ++ [sp, wd sAfter, sp]) (sp :: .t 5 0 sTo :: sp :: sepI commaB bs ++ [sp, wd sEnd]) (by simp)
      have h2 : Sm (sepI commaB bs) := hs.inf (wd sReceive :: sp :: sepI semiB ls ++ sp :: wd sAfter :: sp :: x ++ [sp, .t 5 0 sTo, sp]) [sp, wd sEnd] (by simp)
      have h4 : Sm (sepI semiB ls) := hs.inf [wd sReceive, sp] (sp :: wd sAfter :: sp :: x ++ sp :: .t 5 0 sTo :: sp :: sepI commaB bs ++ [sp, wd sEnd]) (by simp)
      have h3 := hs.2
      simp only [flat_cons, flat_app, flat_nil, List.length_append] at h3
      have hl0 : l ≠ [] := by rintro rfl; exact h0 (List.eq_nil_of_length_eq_zero hl)
      exact .tree (by simpa using tx_recvA hl0 (ar_of hl h ih h4) h4 ((iha h1).1 rfl) (tl_of hbl hb (fun i h h' hs => (ihb i h h' hs).1 rfl) h2) (by omega))
  | @arm p x g b gs bs hp hgl hg hb0 hbl hb ihp ihg ihb =>
    intro hs
    have h1 : Sm x := hs.inf [] (tailI gs bs) (by simp)
    have h2 : Sm (tailI gs bs) := hs.inf x [] (by simp)
    exact .arm ⟨[], [x], gs, bs, ⟨[p], g, b, rfl, one_tl ((ihp h1).1 rfl), tl_of hgl hg (fun i h h' hs => (ihg i h h' hs).1 rfl) (h2.sub (tail_g gs bs)), tl_of hbl hb (fun i h h' hs => (ihb i h h' hs).1 rfl) (h2.sub (tail_b gs bs))⟩, rfl⟩
  | @head p g b ps gs bs hpl hp hgl hg hb0 hbl hb ihp ihg ihb =>
    intro hs
    have h1 : Sm (sepI comma ps) := hs.inf [sg 40] (sg 41 :: tailI gs bs) (by simp)
    have h2 : Sm (tailI gs bs) := hs.inf (sg 40 :: sepI comma ps ++ [sg 41]) [] (by simp)
    exact .hd ⟨ps, gs, bs, ⟨p, g, b, rfl, tl_of hpl hp (fun i h h' hs => (ihp i h h' hs).1 rfl) h1, tl_of hgl hg (fun i h h' hs => (ihg i h h' hs).1 rfl) (h2.sub (tail_g gs bs)), tl_of hbl hb (fun i h h' hs => (ihb i h h' hs).1 rfl) (h2.sub (tail_b gs bs))⟩, rfl⟩
  | @fhead nm p g b ps gs bs hn hpl hp hgl hg hb0 hbl hb ihp ihg ihb =>
    intro hs
    have h1 : Sm (sepI comma ps) := hs.inf [.t 2 0 nm, sg 40] (sg 41 :: tailI gs bs) (by simp)
    have h2 : Sm (tailI gs bs) := hs.inf (.t 2 0 nm :: sg 40 :: sepI comma ps ++ [sg 41]) [] (by simp)
    exact .fhd ⟨nm, ps, gs, bs, ⟨p, g, b, rfl, tl_of hpl hp (fun i h h' hs => (ihp i h h' hs).1 rfl) h1, tl_of hgl hg (fun i h h' hs => (ihg i h h' hs).1 rfl) (h2.sub (tail_g gs bs)), tl_of hbl hb (fun i h h' hs => (ihb i h h' hs).1 rfl) (h2.sub (tail_b gs bs))⟩, (tok2 hn).2, (tok2 hn).1, rfl⟩
end Go.Proofs.YtdmmhfbafinkpaaGreatDoor
