import Derived.Test.YtdmmhfbafinkpaaGreatDoorSc7
/- Scanning: token (the program's). Printed by gen-sc8.py. -/
namespace Go.Proofs.YtdmmhfbafinkpaaGreatDoor
open Go.RowKit Go.Emb

theorem token_size : (Tryz.prog.info? 88).map (·.size) = some 5 := by kernel_rfl
theorem cells5b {w : World} {q : Nat} {a b c d e : Value} {t : TypeId} (h : w.heap[q]? = some (.cells #[a, b, c, d, e] t (0, 0))) :
    (w.cell? ⟨q, 0, none⟩ = some a ∧ w.cell? ⟨q, 1, none⟩ = some b ∧ w.cell? ⟨q, 2, none⟩ = some c ∧ w.cell? ⟨q, 3, none⟩ = some d ∧ w.cell? ⟨q, 4, none⟩ = some e) ∧ w.frozen? ⟨q, 0, none⟩ = false ∧ w.frozen? ⟨q, 1, none⟩ = false ∧ w.frozen? ⟨q, 2, none⟩ = false ∧ w.frozen? ⟨q, 3, none⟩ = false ∧ w.frozen? ⟨q, 4, none⟩ = false := by
  refine ⟨⟨?_, ?_, ?_, ?_, ?_⟩, ?_, ?_, ?_, ?_, ?_⟩ <;> simp [World.cell?, World.frozen?, h]
/-- what token answers -/
def TokenP (w : World) (R : Except (Int × Nat) Tk) (e : Ending) (w' : World) : Prop :=
  (∃ (k n a z : Int) (S : ByteArray) (f g : Int), e = .returned (.tuple #[.agg #[.int .i64 k, .int .i64 n, .string S, .int .i64 a, .int .i64 z], .agg #[.int .i64 f, .int .i64 g]]) ∧
    (match R with
    | .ok t => f = 0 ∧ k = t.kind ∧ n = t.num ∧ S.data.toList = t.text ∧ a = 0 ∧ z = (t.en : Nat)
    | .error p => f = p.1 ∧ g = (p.2 : Nat))) ∧ Keep [] w w'
/-- the two boxes of token in a world -/
def TwoB (w W : World) (C D : Obj) : Prop := Keep [] w W ∧ W.heap[w.heap.size]? = some C ∧ W.heap[w.heap.size + 1]? = some D
theorem TwoB.keep {w W W' : World} {C D : Obj} (h : TwoB w W C D) (k : Keep [] W W') : TwoB w W' C D := ⟨h.1.trans k (by simp), blkk h.2.1 k, blkk h.2.2 k⟩
theorem TwoB.tok {w W : World} {cs : Array Value} {t : TypeId} {D : Obj} (h : TwoB w W (.cells cs t (0, 0)) D) (i : Nat) (u : Value) : TwoB w (W.setCell ⟨w.heap.size, i, none⟩ u) (.cells (cs.setIfInBounds i u) t (0, 0)) D :=
  ⟨h.1.setCell (p := ⟨w.heap.size, i, none⟩) (.inr (Nat.le_refl _)) u, heap_setCell_at h.2.1 u, ((Keep.set1 W ⟨w.heap.size, i, none⟩ u).block _ (Array.getElem?_eq_some_iff.1 h.2.2).1 (by simp)).trans h.2.2⟩
theorem TwoB.fau {w W : World} {cs : Array Value} {t : TypeId} {C : Obj} (h : TwoB w W C (.cells cs t (0, 0))) (i : Nat) (u : Value) : TwoB w (W.setCell ⟨w.heap.size + 1, i, none⟩ u) C (.cells (cs.setIfInBounds i u) t (0, 0)) :=
  ⟨h.1.setCell (p := ⟨w.heap.size + 1, i, none⟩) (.inr (Nat.le_succ _)) u, ((Keep.set1 W ⟨w.heap.size + 1, i, none⟩ u).block _ (Array.getElem?_eq_some_iff.1 h.2.1).1 (by simp)).trans h.2.1, heap_setCell_at h.2.2 u⟩
set_option maxRecDepth 100000 in
set_option maxHeartbeats 4000000 in
theorem p_token (s : ByteArray) (w : World) (he : ErrOk w) (hs0 : 0 < s.size) (hs : s.size ≤ 20000) : Calls Tryz.prog 93 #[.string s] w (TokenP w (tokL s.data.toList)) := by
  obtain ⟨R, hR⟩ : ∃ R, R = tokL s.data.toList := ⟨_, rfl⟩
  rw [← hR]
  have hst : TwoB w ((w.alloc (.cells #[.int .i64 0, .int .i64 0, .string ⟨#[]⟩, .int .i64 0, .int .i64 0] 88 (0, 0))).alloc (.cells #[.int .i64 0, .int .i64 0] 129 (0, 0))) (.cells #[.int .i64 0, .int .i64 0, .string ⟨#[]⟩, .int .i64 0, .int .i64 0] 88 (0, 0)) (.cells #[.int .i64 0, .int .i64 0] 129 (0, 0)) := by
    refine ⟨((Keep.refl [] w).alloc _).alloc _, blkk (heap_alloc_new w _) ((Keep.refl [] _).alloc _), ?_⟩
    have h1 := heap_alloc_new (w.alloc (.cells #[.int .i64 0, .int .i64 0, .string ⟨#[]⟩, .int .i64 0, .int .i64 0] 88 (0, 0))) (.cells #[.int .i64 0, .int .i64 0] 129 (0, 0))
    rwa [show (w.alloc (.cells #[.int .i64 0, .int .i64 0, .string ⟨#[]⟩, .int .i64 0, .int .i64 0] 88 (0, 0))).heap.size = w.heap.size + 1 by simp] at h1
  have HST := Lib.hid hst
  obtain ⟨c, r, hcr⟩ : ∃ c r, s.data.toList = c :: r := by
    match e : s.data.toList with
    | [] => have : s.data.toList.length = s.size := by simp
            rw [e] at this; simp at this; omega
    | c :: r => exact ⟨c, r, rfl⟩
  have hc0 : s[0] = c := by rw [← index_at s 0 hs0]; simp [hcr]
  have i0 : (0 : Int) < (s.size : Int) := by omega
  have hsl : s.data.toList.length = s.size := by simp
  have HSL := Lib.hid hsl
  have HE := Lib.hid he
  have HCR := Lib.hid hcr
  have HC0 := Lib.hid hc0
  have hib := fun (a : ByteArray) (W : World) => (Tryz.strings_IndexByte a (s[0].toNat : Int) W).mono (R' := fun e w' => e = .returned (.int .i64 (Lib.indexByte a.data.toList s[0])) ∧ W = w') (fun e w' h => ⟨by rw [h.1]; simp, h.2.symm⟩)
  have HIB := Lib.hid hib
  have hge : ∀ a : List UInt8, (0 ≤ Lib.indexByte a s[0]) ↔ a.contains c = true := fun a => by
    have h1 := indexByte_neg a s[0]
    rw [HC0.out] at h1 ⊢
    have h2 := Lib.indexByte_ge a c
    cases h3 : a.contains c with
    | true => rw [h3] at h1; simp at h1; simp; omega
    | false => rw [h3] at h1; simp at h1; simp; omega
  have HGE := Lib.hid hge
  rw [hcr] at hR
  unfold tokL at hR
  simp only at hR
  have HRR := Lib.hid hR
  clear hst he hsl hib hge hR
  clear hcr hc0
  go_enter Tryz.func93, Tryz.ntmps93
  go_wp2_with fail
  generalize (w.alloc (.cells #[.int .i64 0, .int .i64 0, .string ⟨#[]⟩, .int .i64 0, .int .i64 0] 88 (0, 0))).alloc (.cells #[.int .i64 0, .int .i64 0] 129 (0, 0)) = w1 at *
  by_cases hd : digitB c = true
  · have hq := (HGE.out [48, 49, 50, 51, 52, 53, 54, 55, 56, 57]).2 (by rw [set_digit]; exact hd)
    have hcall := HIB.out ⟨#[48, 49, 50, 51, 52, 53, 54, 55, 56, 57]⟩ w1
    have hr := HRR.out
    rw [if_pos hd, ← HCR.out] at hr
    have hrun := p_run s ⟨#[48, 49, 50, 51, 52, 53, 54, 55, 56, 57]⟩ w1 (by omega)
    have hrn : runN s.data.toList [48, 49, 50, 51, 52, 53, 54, 55, 56, 57] = (s.data.toList.takeWhile digitB).length := by unfold runN; simp only [set_digit]
    simp only at hcall hrun
    rw [hrn] at hrun
    have hle := tw_le digitB s.data.toList
    have htk := take_tw digitB s.data.toList
    have hall := tw_all digitB s.data.toList
    have hpos : 1 ≤ (s.data.toList.takeWhile digitB).length := by rw [HCR.out]; exact tw_pos r hd
    obtain ⟨D, hD⟩ : ∃ D, D = s.data.toList.takeWhile digitB := ⟨_, rfl⟩
    rw [← hD] at hr hrun hle htk hall hpos
    rw [HSL.out] at hle
    have HCALL := Lib.hid hcall
    have HRUN := Lib.hid hrun
    have HR := Lib.hid hr
    have HALL := Lib.hid hall
    have HTK := Lib.hid htk
    generalize Lib.indexByte [48, 49, 50, 51, 52, 53, 54, 55, 56, 57] s[0] = ix at *
    clear hcall hrun hr hrn hall htk hd hD
    obtain ⟨⟨c0, c1, c2, c3, c4⟩, f0, f1, f2, f3, f4⟩ := cells5b HST.out.2.1
    go_wp2_with fail
    refine HCALL.out.mono ?_
    rintro e w2 ⟨rfl, rfl⟩
    go_wp2_with fail
    refine HRUN.out.mono ?_
    rintro e w2 ⟨rfl, rfl⟩
    go_wp2_with fail
    have h2 : TwoB w ((w1.setCell ⟨w.heap.size, 0, none⟩ (.int .i64 1)).setCell ⟨w.heap.size, 4, none⟩ (.int .i64 (D.length : Nat))) (.cells #[.int .i64 1, .int .i64 0, .string ⟨#[]⟩, .int .i64 0, .int .i64 (D.length : Nat)] 88 (0, 0)) (.cells #[.int .i64 0, .int .i64 0] 129 (0, 0)) := ((HST.out.tok 0 _).tok 4 _)
    have H2 := Lib.hid h2
    have hpa := p_parse (s.extract 0 D.length) ((w1.setCell ⟨w.heap.size, 0, none⟩ (.int .i64 1)).setCell ⟨w.heap.size, 4, none⟩ (.int .i64 (D.length : Nat))) (HE.out.keep h2.1) (by rw [show (s.extract 0 D.length).data.toList = D from by rw [← HTK.out]; simp [ByteArray.data_extract]]; intro h; rw [h] at hpos; simp at hpos) (by rw [show (s.extract 0 D.length).data.toList = D from by rw [← HTK.out]; simp [ByteArray.data_extract]]; exact HALL.out) (by simp; omega)
    have hel : (s.extract 0 D.length).data.toList = D := by rw [← HTK.out]; simp [ByteArray.data_extract]
    rw [hel] at hpa
    have HPA := Lib.hid hpa
    clear h2 hpa hel c0 c1 c2 c3 c4 f0 f1 f2 f3 f4
    generalize ((w1.setCell ⟨w.heap.size, 0, none⟩ (.int .i64 1)).setCell ⟨w.heap.size, 4, none⟩ (.int .i64 (D.length : Nat))) = w2 at *
    refine HPA.out.mono ?_
    rintro e w3 ⟨⟨v, x, rfl, hx⟩, hk3⟩
    have h3 := H2.out.keep hk3
    have HB3 := Lib.hid h3
    obtain ⟨⟨c0, c1, c2, c3, c4⟩, f0, f1, f2, f3, f4⟩ := cells5b h3.2.1
    obtain ⟨d0, d1, g0, g1, -⟩ := cells2b h3.2.2
    clear h3 hk3 H2 HPA
    by_cases hm : numD D ≤ 576460752303423487
    · have hr := HR.out
      rw [if_pos hm] at hr
      have HR2 := Lib.hid hr
      clear hr
      rcases hx with ⟨rfl, rfl⟩ | ⟨N, rfl, hN⟩
      · have hm' : ¬ (576460752303423487 : Int) < (numD D : Int) := by omega
        go_upto_region 25 with fail
        generalize hn : (numD D : Int) = n at *
        have h4 : TwoB w (w3.setCell ⟨w.heap.size, 1, none⟩ (.int .i64 n)) (.cells #[.int .i64 1, .int .i64 n, .string ⟨#[]⟩, .int .i64 0, .int .i64 (D.length : Nat)] 88 (0, 0)) (.cells #[.int .i64 0, .int .i64 0] 129 (0, 0)) := HB3.out.tok 1 _
        have HB4 := Lib.hid h4
        clear h4 c0 c1 c2 c3 c4 f0 f1 f2 f3 f4 d0 d1 g0 g1
        generalize (w3.setCell ⟨w.heap.size, 1, none⟩ (.int .i64 n)) = w4 at *
        have HN := Lib.hid hn
        clear hn
        refine wp_region_held_drew (S := fun w' => TwoB w w' (.cells #[.int .i64 1, .int .i64 n, .string ⟨#[]⟩, .int .i64 0, .int .i64 (D.length : Nat)] 88 (0, 0)) (.cells #[.int .i64 0, .int .i64 0] 129 (0, 0))) (by kernel_rfl) (HB4.out.keep ((Keep.refl [] w4).drew)) (fun hHeld => ?_)
        have HS0 := Lib.hid hHeld
        clear hHeld
        have hHeld := HS0.out
        generalize w4.drew = w8 at *
        refine wpAnyH_takeL (i := 0) (v := ?vA0) rfl (by kernel_rfl) (by kernel_rfl) (by kernel_rfl) (fun _ _ _ h => h) (Or.inl ⟨by kernel_rfl, ?runA0⟩) hHeld ?_
        case runA0 => (intro w9 hS9; obtain ⟨⟨c0, c1, c2, c3, c4⟩, f0, f1, f2, f3, f4⟩ := cells5b hS9.2.1; obtain ⟨d0, d1, -⟩ := cells2b hS9.2.2; go_simp; try exact rfl)
        try simp only [Act.put, List.setIfInBounds_toArray, List.set_cons_zero, List.set_cons_succ]
        refine wpAnyH_takeL (i := 1) (v := ?vA1) rfl (by kernel_rfl) (by kernel_rfl) (by kernel_rfl) (fun _ _ _ h => h) (Or.inl ⟨by kernel_rfl, ?runA1⟩) hHeld ?_
        case runA1 => (intro w9 hS9; obtain ⟨⟨c0, c1, c2, c3, c4⟩, f0, f1, f2, f3, f4⟩ := cells5b hS9.2.1; obtain ⟨d0, d1, -⟩ := cells2b hS9.2.2; go_simp; try exact rfl)
        try simp only [Act.put, List.setIfInBounds_toArray, List.set_cons_zero, List.set_cons_succ]
        obtain ⟨⟨c0, c1, c2, c3, c4⟩, f0, f1, f2, f3, f4⟩ := cells5b HS0.out.2.1
        refine wpAnyH_ready (rs := [2]) (by kernel_rfl) (by simp) ?_
        refine AllReadyH.consL rfl (fun K hK => ?_) AllReadyH.nil
        go_simp
        have hS2 : TwoB w (((((w8.setCell ⟨w.heap.size, 0, none⟩ (.int .i64 1)).setCell ⟨w.heap.size, 1, none⟩ (.int .i64 n)).setCell ⟨w.heap.size, 2, none⟩ (.string ⟨#[]⟩)).setCell ⟨w.heap.size, 3, none⟩ (.int .i64 0)).setCell ⟨w.heap.size, 4, none⟩ (.int .i64 (D.length : Nat))) (.cells #[.int .i64 1, .int .i64 n, .string ⟨#[]⟩, .int .i64 0, .int .i64 (D.length : Nat)] 88 (0, 0)) (.cells #[.int .i64 0, .int .i64 0] 129 (0, 0)) := (((((HS0.out.tok 0 _).tok 1 _).tok 2 _).tok 3 _).tok 4 _)
        have HS2 := Lib.hid hS2
        clear hS2 hHeld c0 c1 c2 c3 c4 f0 f1 f2 f3 f4
        refine hK.out _ _ HS2.out (fun hHeld => ?_)
        clear hK K
        generalize (((((w8.setCell ⟨w.heap.size, 0, none⟩ (.int .i64 1)).setCell ⟨w.heap.size, 1, none⟩ (.int .i64 n)).setCell ⟨w.heap.size, 2, none⟩ (.string ⟨#[]⟩)).setCell ⟨w.heap.size, 3, none⟩ (.int .i64 0)).setCell ⟨w.heap.size, 4, none⟩ (.int .i64 (D.length : Nat))) = w9 at *
        try simp only [Act.put, List.setIfInBounds_toArray, List.set_cons_zero, List.set_cons_succ]
        obtain ⟨c0, c1, f0, f1, -⟩ := cells2b HS2.out.2.2
        refine wpAnyH_ready (rs := [3]) (by kernel_rfl) (by simp) ?_
        refine AllReadyH.consL rfl (fun K hK => ?_) AllReadyH.nil
        go_simp
        have hS3 : TwoB w ((w9.setCell ⟨(w.heap.size + 1), 0, none⟩ (.int .i64 0)).setCell ⟨(w.heap.size + 1), 1, none⟩ (.int .i64 0)) (.cells #[.int .i64 1, .int .i64 n, .string ⟨#[]⟩, .int .i64 0, .int .i64 (D.length : Nat)] 88 (0, 0)) (.cells #[.int .i64 0, .int .i64 0] 129 (0, 0)) := ((HS2.out.fau 0 _).fau 1 _)
        have HS3 := Lib.hid hS3
        clear hS3 hHeld c0 c1 f0 f1
        refine hK.out _ _ HS3.out (fun hHeld => ?_)
        clear hK K hHeld
        generalize ((w9.setCell ⟨(w.heap.size + 1), 0, none⟩ (.int .i64 0)).setCell ⟨(w.heap.size + 1), 1, none⟩ (.int .i64 0)) = w10 at *
        try simp only [Act.put, List.setIfInBounds_toArray, List.set_cons_zero, List.set_cons_succ]
        refine wpAnyH_done (by kernel_rfl) ?_ _
        go_wp2_with fail
        refine bodyPost_ret (results_cc (ty := 88) (uy := 129) rfl _ w10 w.heap.size (w.heap.size + 1) _ _ _ _ _ _ _ _ rfl HS3.out.2.1 Tryz.underlying88 rfl token_size rfl HS3.out.2.2 Tryz.underlying129 rfl fault_size) rfl ?_
        refine ⟨⟨_, _, _, _, _, _, _, rfl, ?_⟩, HS3.out.1⟩
        rw [HR2.out]
        exact ⟨rfl, rfl, rfl, rfl, rfl, rfl⟩
      · omega
    · have hr := HR.out
      rw [if_neg hm] at hr
      have HR2 := Lib.hid hr
      clear hr
      rcases hx with ⟨rfl, rfl⟩ | ⟨N, rfl, hN⟩
      · have hm' : (576460752303423487 : Int) < (numD D : Int) := by omega
        go_wp2_with fail
        have h9 : TwoB w (((((((w3.setCell ⟨w.heap.size, 0, none⟩ (.int .i64 1)).setCell ⟨w.heap.size, 1, none⟩ (.int .i64 0)).setCell ⟨w.heap.size, 2, none⟩ (.string ⟨#[]⟩)).setCell ⟨w.heap.size, 3, none⟩ (.int .i64 0)).setCell ⟨w.heap.size, 4, none⟩ (.int .i64 (D.length : Nat))).setCell ⟨(w.heap.size + 1), 0, none⟩ (.int .i64 101)).setCell ⟨(w.heap.size + 1), 1, none⟩ (.int .i64 0)) (.cells #[.int .i64 1, .int .i64 0, .string ⟨#[]⟩, .int .i64 0, .int .i64 (D.length : Nat)] 88 (0, 0)) (.cells #[.int .i64 101, .int .i64 0] 129 (0, 0)) := (((((((HB3.out.tok 0 _).tok 1 _).tok 2 _).tok 3 _).tok 4 _).fau 0 _).fau 1 _)
        have H9 := Lib.hid h9
        clear h9
        generalize (((((((w3.setCell ⟨w.heap.size, 0, none⟩ (.int .i64 1)).setCell ⟨w.heap.size, 1, none⟩ (.int .i64 0)).setCell ⟨w.heap.size, 2, none⟩ (.string ⟨#[]⟩)).setCell ⟨w.heap.size, 3, none⟩ (.int .i64 0)).setCell ⟨w.heap.size, 4, none⟩ (.int .i64 (D.length : Nat))).setCell ⟨(w.heap.size + 1), 0, none⟩ (.int .i64 101)).setCell ⟨(w.heap.size + 1), 1, none⟩ (.int .i64 0)) = w9 at *
        refine bodyPost_ret (results_cc (ty := 88) (uy := 129) rfl _ w9 w.heap.size (w.heap.size + 1) _ _ _ _ _ _ _ _ rfl H9.out.2.1 Tryz.underlying88 rfl token_size rfl H9.out.2.2 Tryz.underlying129 rfl fault_size) rfl ?_
        refine ⟨⟨_, _, _, _, _, _, _, rfl, ?_⟩, H9.out.1⟩
        rw [HR2.out]
        exact ⟨rfl, rfl⟩
      · go_wp2_with fail
        have h9 : TwoB w (((((((w3.setCell ⟨w.heap.size, 0, none⟩ (.int .i64 1)).setCell ⟨w.heap.size, 1, none⟩ (.int .i64 0)).setCell ⟨w.heap.size, 2, none⟩ (.string ⟨#[]⟩)).setCell ⟨w.heap.size, 3, none⟩ (.int .i64 0)).setCell ⟨w.heap.size, 4, none⟩ (.int .i64 (D.length : Nat))).setCell ⟨(w.heap.size + 1), 0, none⟩ (.int .i64 101)).setCell ⟨(w.heap.size + 1), 1, none⟩ (.int .i64 0)) (.cells #[.int .i64 1, .int .i64 0, .string ⟨#[]⟩, .int .i64 0, .int .i64 (D.length : Nat)] 88 (0, 0)) (.cells #[.int .i64 101, .int .i64 0] 129 (0, 0)) := (((((((HB3.out.tok 0 _).tok 1 _).tok 2 _).tok 3 _).tok 4 _).fau 0 _).fau 1 _)
        have H9 := Lib.hid h9
        clear h9
        generalize (((((((w3.setCell ⟨w.heap.size, 0, none⟩ (.int .i64 1)).setCell ⟨w.heap.size, 1, none⟩ (.int .i64 0)).setCell ⟨w.heap.size, 2, none⟩ (.string ⟨#[]⟩)).setCell ⟨w.heap.size, 3, none⟩ (.int .i64 0)).setCell ⟨w.heap.size, 4, none⟩ (.int .i64 (D.length : Nat))).setCell ⟨(w.heap.size + 1), 0, none⟩ (.int .i64 101)).setCell ⟨(w.heap.size + 1), 1, none⟩ (.int .i64 0)) = w9 at *
        refine bodyPost_ret (results_cc (ty := 88) (uy := 129) rfl _ w9 w.heap.size (w.heap.size + 1) _ _ _ _ _ _ _ _ rfl H9.out.2.1 Tryz.underlying88 rfl token_size rfl H9.out.2.2 Tryz.underlying129 rfl fault_size) rfl ?_
        refine ⟨⟨_, _, _, _, _, _, _, rfl, ?_⟩, H9.out.1⟩
        rw [HR2.out]
        exact ⟨rfl, rfl⟩
  · have hdn := (HGE.out [48, 49, 50, 51, 52, 53, 54, 55, 56, 57])
    rw [set_digit] at hdn
    have hq : ¬ 0 ≤ Lib.indexByte [48, 49, 50, 51, 52, 53, 54, 55, 56, 57] s[0] := fun h => hd (hdn.1 h)
    have hcall := HIB.out ⟨#[48, 49, 50, 51, 52, 53, 54, 55, 56, 57]⟩ w1
    simp only at hcall
    have HCALL := Lib.hid hcall
    have hr := HRR.out
    rw [if_neg hd, ← HCR.out] at hr
    clear hcall hdn
    obtain ⟨ix1, hix1⟩ : ∃ i, i = Lib.indexByte [48, 49, 50, 51, 52, 53, 54, 55, 56, 57] s[0] := ⟨_, rfl⟩
    rw [← hix1] at hq HCALL
    have hln := (HGE.out [97, 98, 99, 100, 101, 102, 103, 104, 105, 106, 107, 108, 109, 110, 111, 112, 113, 114, 115, 116, 117, 118, 119, 120, 121, 122, 65, 66, 67, 68, 69, 70, 71, 72, 73, 74, 75, 76, 77, 78, 79, 80, 81, 82, 83, 84, 85, 86, 87, 88, 89, 90, 95])
    rw [set_letter] at hln
    obtain ⟨ix2, hix2⟩ : ∃ i, i = Lib.indexByte [97, 98, 99, 100, 101, 102, 103, 104, 105, 106, 107, 108, 109, 110, 111, 112, 113, 114, 115, 116, 117, 118, 119, 120, 121, 122, 65, 66, 67, 68, 69, 70, 71, 72, 73, 74, 75, 76, 77, 78, 79, 80, 81, 82, 83, 84, 85, 86, 87, 88, 89, 90, 95] s[0] := ⟨_, rfl⟩
    have hcall2 := HIB.out ⟨#[97, 98, 99, 100, 101, 102, 103, 104, 105, 106, 107, 108, 109, 110, 111, 112, 113, 114, 115, 116, 117, 118, 119, 120, 121, 122, 65, 66, 67, 68, 69, 70, 71, 72, 73, 74, 75, 76, 77, 78, 79, 80, 81, 82, 83, 84, 85, 86, 87, 88, 89, 90, 95]⟩ w1
    simp only at hcall2
    rw [← hix2] at hcall2 hln
    have HCALL2 := Lib.hid hcall2
    clear hcall2 hix1 hix2
    by_cases hl : (smallB c || greatB c) = true
    · have hq2 := hln.2 hl
      rw [if_pos hl] at hr
      have hrun := p_run s ⟨#[97, 98, 99, 100, 101, 102, 103, 104, 105, 106, 107, 108, 109, 110, 111, 112, 113, 114, 115, 116, 117, 118, 119, 120, 121, 122, 65, 66, 67, 68, 69, 70, 71, 72, 73, 74, 75, 76, 77, 78, 79, 80, 81, 82, 83, 84, 85, 86, 87, 88, 89, 90, 95, 48, 49, 50, 51, 52, 53, 54, 55, 56, 57, 64]⟩ w1 (by omega)
      have hrn : runN s.data.toList [97, 98, 99, 100, 101, 102, 103, 104, 105, 106, 107, 108, 109, 110, 111, 112, 113, 114, 115, 116, 117, 118, 119, 120, 121, 122, 65, 66, 67, 68, 69, 70, 71, 72, 73, 74, 75, 76, 77, 78, 79, 80, 81, 82, 83, 84, 85, 86, 87, 88, 89, 90, 95, 48, 49, 50, 51, 52, 53, 54, 55, 56, 57, 64] = (s.data.toList.takeWhile moreB).length := by unfold runN; simp only [set_more]
      simp only at hrun
      rw [hrn] at hrun
      have hle := tw_le moreB s.data.toList
      have htk := take_tw moreB s.data.toList
      obtain ⟨M, hM⟩ : ∃ M, M = s.data.toList.takeWhile moreB := ⟨_, rfl⟩
      rw [← hM] at hr hrun hle htk
      rw [HSL.out] at hle
      have HRUN := Lib.hid hrun
      have HR := Lib.hid hr
      have hel : (s.extract 0 M.length).data.toList = M := by rw [← htk]; simp [ByteArray.data_extract]
      have HEL := Lib.hid hel
      clear hrun hr hrn htk hM hln hl hel
      obtain ⟨⟨c0, c1, c2, c3, c4⟩, f0, f1, f2, f3, f4⟩ := cells5b HST.out.2.1
      go_wp2_with fail
      refine HCALL.out.mono ?_
      rintro e w2 ⟨rfl, rfl⟩
      go_wp2_with fail
      refine HCALL2.out.mono ?_
      rintro e w2 ⟨rfl, rfl⟩
      go_wp2_with fail
      refine HRUN.out.mono ?_
      rintro e w2 ⟨rfl, rfl⟩
      go_upto_region 16 with fail
      obtain ⟨T, hT⟩ : ∃ T, T = s.extract 0 M.length := ⟨_, rfl⟩
      rw [← hT] at HEL ⊢
      have h2 : TwoB w ((w1.setCell ⟨w.heap.size, 4, none⟩ (.int .i64 (M.length : Nat))).setCell ⟨w.heap.size, 2, none⟩ (.string T)) (.cells #[.int .i64 0, .int .i64 0, .string T, .int .i64 0, .int .i64 (M.length : Nat)] 88 (0, 0)) (.cells #[.int .i64 0, .int .i64 0] 129 (0, 0)) := ((HST.out.tok 4 _).tok 2 _)
      have HB2 := Lib.hid h2
      clear h2 hT c0 c1 c2 c3 c4 f0 f1 f2 f3 f4
      generalize ((w1.setCell ⟨w.heap.size, 4, none⟩ (.int .i64 (M.length : Nat))).setCell ⟨w.heap.size, 2, none⟩ (.string T)) = w2 at *
      obtain ⟨⟨c0, c1, c2, c3, c4⟩, f0, f1, f2, f3, f4⟩ := cells5b HB2.out.2.1
      obtain ⟨d0, d1, g0, g1, -⟩ := cells2b HB2.out.2.2
      by_cases h255 : 255 < M.length
      · have h255' : (255 : Int) < (M.length : Int) := by omega
        have hr := HR.out
        rw [if_pos h255] at hr
        have HR2 := Lib.hid hr
        clear hr
        go_wp2_with fail
        have h9 : TwoB w (((((((w2.setCell ⟨w.heap.size, 0, none⟩ (.int .i64 0)).setCell ⟨w.heap.size, 1, none⟩ (.int .i64 0)).setCell ⟨w.heap.size, 2, none⟩ (.string T)).setCell ⟨w.heap.size, 3, none⟩ (.int .i64 0)).setCell ⟨w.heap.size, 4, none⟩ (.int .i64 (M.length : Nat))).setCell ⟨(w.heap.size + 1), 0, none⟩ (.int .i64 100)).setCell ⟨(w.heap.size + 1), 1, none⟩ (.int .i64 0)) (.cells #[.int .i64 0, .int .i64 0, .string T, .int .i64 0, .int .i64 (M.length : Nat)] 88 (0, 0)) (.cells #[.int .i64 100, .int .i64 0] 129 (0, 0)) := (((((((HB2.out.tok 0 _).tok 1 _).tok 2 _).tok 3 _).tok 4 _).fau 0 _).fau 1 _)
        have H9 := Lib.hid h9
        clear h9
        generalize (((((((w2.setCell ⟨w.heap.size, 0, none⟩ (.int .i64 0)).setCell ⟨w.heap.size, 1, none⟩ (.int .i64 0)).setCell ⟨w.heap.size, 2, none⟩ (.string T)).setCell ⟨w.heap.size, 3, none⟩ (.int .i64 0)).setCell ⟨w.heap.size, 4, none⟩ (.int .i64 (M.length : Nat))).setCell ⟨(w.heap.size + 1), 0, none⟩ (.int .i64 100)).setCell ⟨(w.heap.size + 1), 1, none⟩ (.int .i64 0)) = w9 at *
        refine bodyPost_ret (results_cc (ty := 88) (uy := 129) rfl _ w9 w.heap.size (w.heap.size + 1) _ _ _ _ _ _ _ _ rfl H9.out.2.1 Tryz.underlying88 rfl token_size rfl H9.out.2.2 Tryz.underlying129 rfl fault_size) rfl ?_
        refine ⟨⟨_, _, _, _, _, _, _, rfl, ?_⟩, H9.out.1⟩
        rw [HR2.out]
        exact ⟨rfl, rfl⟩
      · have h255' : ¬ (255 : Int) < (M.length : Int) := by omega
        have hr := HR.out
        rw [if_neg h255] at hr
        have hgn := (HGE.out [65, 66, 67, 68, 69, 70, 71, 72, 73, 74, 75, 76, 77, 78, 79, 80, 81, 82, 83, 84, 85, 86, 87, 88, 89, 90, 95])
        rw [set_great] at hgn
        obtain ⟨ix3, hix3⟩ : ∃ i, i = Lib.indexByte [65, 66, 67, 68, 69, 70, 71, 72, 73, 74, 75, 76, 77, 78, 79, 80, 81, 82, 83, 84, 85, 86, 87, 88, 89, 90, 95] s[0] := ⟨_, rfl⟩
        have hcall3 := HIB.out ⟨#[65, 66, 67, 68, 69, 70, 71, 72, 73, 74, 75, 76, 77, 78, 79, 80, 81, 82, 83, 84, 85, 86, 87, 88, 89, 90, 95]⟩ w2
        simp only at hcall3
        rw [← hix3] at hcall3 hgn
        have HCALL3 := Lib.hid hcall3
        clear hcall3 hix3
        by_cases hg : greatB c = true
        · have hq3 := hgn.2 hg
          rw [if_pos hg] at hr
          have HR2 := Lib.hid hr
          clear hr hgn hg
          go_wp2_with fail
          refine HCALL3.out.mono ?_
          rintro e w3 ⟨rfl, rfl⟩
          go_upto_region 25 with fail
          have h8 : TwoB w (w2.setCell ⟨w.heap.size, 0, none⟩ (.int .i64 3)) (.cells #[.int .i64 3, .int .i64 0, .string T, .int .i64 0, .int .i64 (M.length : Nat)] 88 (0, 0)) (.cells #[.int .i64 0, .int .i64 0] 129 (0, 0)) := (HB2.out.tok 0 _)
          have HB8 := Lib.hid h8
          clear h8 c0 c1 c2 c3 c4 f0 f1 f2 f3 f4 d0 d1 g0 g1
          generalize (w2.setCell ⟨w.heap.size, 0, none⟩ (.int .i64 3)) = wb8 at *
          refine wp_region_held_drew (S := fun w' => TwoB w w' (.cells #[.int .i64 3, .int .i64 0, .string T, .int .i64 0, .int .i64 (M.length : Nat)] 88 (0, 0)) (.cells #[.int .i64 0, .int .i64 0] 129 (0, 0))) (by kernel_rfl) (HB8.out.keep ((Keep.refl [] wb8).drew)) (fun hHeld => ?_)
          have HS0 := Lib.hid hHeld
          clear hHeld
          have hHeld := HS0.out
          generalize wb8.drew = w8 at *
          refine wpAnyH_takeL (i := 0) (v := ?vK30) rfl (by kernel_rfl) (by kernel_rfl) (by kernel_rfl) (fun _ _ _ h => h) (Or.inl ⟨by kernel_rfl, ?runK30⟩) hHeld ?_
          case runK30 => (intro w9 hS9; obtain ⟨⟨c0, c1, c2, c3, c4⟩, f0, f1, f2, f3, f4⟩ := cells5b hS9.2.1; obtain ⟨d0, d1, -⟩ := cells2b hS9.2.2; go_simp; try exact rfl)
          try simp only [Act.put, List.setIfInBounds_toArray, List.set_cons_zero, List.set_cons_succ]
          refine wpAnyH_takeL (i := 1) (v := ?vK31) rfl (by kernel_rfl) (by kernel_rfl) (by kernel_rfl) (fun _ _ _ h => h) (Or.inl ⟨by kernel_rfl, ?runK31⟩) hHeld ?_
          case runK31 => (intro w9 hS9; obtain ⟨⟨c0, c1, c2, c3, c4⟩, f0, f1, f2, f3, f4⟩ := cells5b hS9.2.1; obtain ⟨d0, d1, -⟩ := cells2b hS9.2.2; go_simp; try exact rfl)
          try simp only [Act.put, List.setIfInBounds_toArray, List.set_cons_zero, List.set_cons_succ]
          obtain ⟨⟨c0, c1, c2, c3, c4⟩, f0, f1, f2, f3, f4⟩ := cells5b HS0.out.2.1
          refine wpAnyH_ready (rs := [2]) (by kernel_rfl) (by simp) ?_
          refine AllReadyH.consL rfl (fun K hK => ?_) AllReadyH.nil
          go_simp
          have hS2 : TwoB w (((((w8.setCell ⟨w.heap.size, 0, none⟩ (.int .i64 3)).setCell ⟨w.heap.size, 1, none⟩ (.int .i64 0)).setCell ⟨w.heap.size, 2, none⟩ (.string T)).setCell ⟨w.heap.size, 3, none⟩ (.int .i64 0)).setCell ⟨w.heap.size, 4, none⟩ (.int .i64 (M.length : Nat))) (.cells #[.int .i64 3, .int .i64 0, .string T, .int .i64 0, .int .i64 (M.length : Nat)] 88 (0, 0)) (.cells #[.int .i64 0, .int .i64 0] 129 (0, 0)) := (((((HS0.out.tok 0 _).tok 1 _).tok 2 _).tok 3 _).tok 4 _)
          have HS2 := Lib.hid hS2
          clear hS2 hHeld c0 c1 c2 c3 c4 f0 f1 f2 f3 f4
          refine hK.out _ _ HS2.out (fun hHeld => ?_)
          clear hK K
          generalize (((((w8.setCell ⟨w.heap.size, 0, none⟩ (.int .i64 3)).setCell ⟨w.heap.size, 1, none⟩ (.int .i64 0)).setCell ⟨w.heap.size, 2, none⟩ (.string T)).setCell ⟨w.heap.size, 3, none⟩ (.int .i64 0)).setCell ⟨w.heap.size, 4, none⟩ (.int .i64 (M.length : Nat))) = w9 at *
          try simp only [Act.put, List.setIfInBounds_toArray, List.set_cons_zero, List.set_cons_succ]
          obtain ⟨c0, c1, f0, f1, -⟩ := cells2b HS2.out.2.2
          refine wpAnyH_ready (rs := [3]) (by kernel_rfl) (by simp) ?_
          refine AllReadyH.consL rfl (fun K hK => ?_) AllReadyH.nil
          go_simp
          have hS3 : TwoB w ((w9.setCell ⟨(w.heap.size + 1), 0, none⟩ (.int .i64 0)).setCell ⟨(w.heap.size + 1), 1, none⟩ (.int .i64 0)) (.cells #[.int .i64 3, .int .i64 0, .string T, .int .i64 0, .int .i64 (M.length : Nat)] 88 (0, 0)) (.cells #[.int .i64 0, .int .i64 0] 129 (0, 0)) := ((HS2.out.fau 0 _).fau 1 _)
          have HS3 := Lib.hid hS3
          clear hS3 hHeld c0 c1 f0 f1
          refine hK.out _ _ HS3.out (fun hHeld => ?_)
          clear hK K hHeld
          generalize ((w9.setCell ⟨(w.heap.size + 1), 0, none⟩ (.int .i64 0)).setCell ⟨(w.heap.size + 1), 1, none⟩ (.int .i64 0)) = w10 at *
          try simp only [Act.put, List.setIfInBounds_toArray, List.set_cons_zero, List.set_cons_succ]
          refine wpAnyH_done (by kernel_rfl) ?_ _
          go_wp2_with fail
          refine bodyPost_ret (results_cc (ty := 88) (uy := 129) rfl _ w10 w.heap.size (w.heap.size + 1) _ _ _ _ _ _ _ _ rfl HS3.out.2.1 Tryz.underlying88 rfl token_size rfl HS3.out.2.2 Tryz.underlying129 rfl fault_size) rfl ?_
          refine ⟨⟨_, _, _, _, _, _, _, rfl, ?_⟩, HS3.out.1⟩
          rw [HR2.out]
          exact ⟨rfl, rfl, rfl, HEL.out, rfl, rfl⟩
        · have hq3 : ¬ 0 ≤ ix3 := fun h => hg (hgn.1 h)
          rw [if_neg hg] at hr
          have hwd := p_word T w2
          rw [HEL.out] at hwd
          have HWD := Lib.hid hwd
          clear hwd hgn hg
          cases hw : wordsS.contains M with
          | true =>
            rw [hw] at hr HWD
            have HR2 := Lib.hid hr
            clear hr hw
            go_wp2_with fail
            refine HCALL3.out.mono ?_
            rintro e w3 ⟨rfl, rfl⟩
            go_wp2_with fail
            refine HWD.out.mono ?_
            rintro e w3 ⟨rfl, rfl⟩
            go_upto_region 25 with fail
            have h8 : TwoB w (w2.setCell ⟨w.heap.size, 0, none⟩ (.int .i64 4)) (.cells #[.int .i64 4, .int .i64 0, .string T, .int .i64 0, .int .i64 (M.length : Nat)] 88 (0, 0)) (.cells #[.int .i64 0, .int .i64 0] 129 (0, 0)) := (HB2.out.tok 0 _)
            have HB8 := Lib.hid h8
            clear h8 c0 c1 c2 c3 c4 f0 f1 f2 f3 f4 d0 d1 g0 g1
            generalize (w2.setCell ⟨w.heap.size, 0, none⟩ (.int .i64 4)) = wb8 at *
            refine wp_region_held_drew (S := fun w' => TwoB w w' (.cells #[.int .i64 4, .int .i64 0, .string T, .int .i64 0, .int .i64 (M.length : Nat)] 88 (0, 0)) (.cells #[.int .i64 0, .int .i64 0] 129 (0, 0))) (by kernel_rfl) (HB8.out.keep ((Keep.refl [] wb8).drew)) (fun hHeld => ?_)
            have HS0 := Lib.hid hHeld
            clear hHeld
            have hHeld := HS0.out
            generalize wb8.drew = w8 at *
            refine wpAnyH_takeL (i := 0) (v := ?vK40) rfl (by kernel_rfl) (by kernel_rfl) (by kernel_rfl) (fun _ _ _ h => h) (Or.inl ⟨by kernel_rfl, ?runK40⟩) hHeld ?_
            case runK40 => (intro w9 hS9; obtain ⟨⟨c0, c1, c2, c3, c4⟩, f0, f1, f2, f3, f4⟩ := cells5b hS9.2.1; obtain ⟨d0, d1, -⟩ := cells2b hS9.2.2; go_simp; try exact rfl)
            try simp only [Act.put, List.setIfInBounds_toArray, List.set_cons_zero, List.set_cons_succ]
            refine wpAnyH_takeL (i := 1) (v := ?vK41) rfl (by kernel_rfl) (by kernel_rfl) (by kernel_rfl) (fun _ _ _ h => h) (Or.inl ⟨by kernel_rfl, ?runK41⟩) hHeld ?_
            case runK41 => (intro w9 hS9; obtain ⟨⟨c0, c1, c2, c3, c4⟩, f0, f1, f2, f3, f4⟩ := cells5b hS9.2.1; obtain ⟨d0, d1, -⟩ := cells2b hS9.2.2; go_simp; try exact rfl)
            try simp only [Act.put, List.setIfInBounds_toArray, List.set_cons_zero, List.set_cons_succ]
            obtain ⟨⟨c0, c1, c2, c3, c4⟩, f0, f1, f2, f3, f4⟩ := cells5b HS0.out.2.1
            refine wpAnyH_ready (rs := [2]) (by kernel_rfl) (by simp) ?_
            refine AllReadyH.consL rfl (fun K hK => ?_) AllReadyH.nil
            go_simp
            have hS2 : TwoB w (((((w8.setCell ⟨w.heap.size, 0, none⟩ (.int .i64 4)).setCell ⟨w.heap.size, 1, none⟩ (.int .i64 0)).setCell ⟨w.heap.size, 2, none⟩ (.string T)).setCell ⟨w.heap.size, 3, none⟩ (.int .i64 0)).setCell ⟨w.heap.size, 4, none⟩ (.int .i64 (M.length : Nat))) (.cells #[.int .i64 4, .int .i64 0, .string T, .int .i64 0, .int .i64 (M.length : Nat)] 88 (0, 0)) (.cells #[.int .i64 0, .int .i64 0] 129 (0, 0)) := (((((HS0.out.tok 0 _).tok 1 _).tok 2 _).tok 3 _).tok 4 _)
            have HS2 := Lib.hid hS2
            clear hS2 hHeld c0 c1 c2 c3 c4 f0 f1 f2 f3 f4
            refine hK.out _ _ HS2.out (fun hHeld => ?_)
            clear hK K
            generalize (((((w8.setCell ⟨w.heap.size, 0, none⟩ (.int .i64 4)).setCell ⟨w.heap.size, 1, none⟩ (.int .i64 0)).setCell ⟨w.heap.size, 2, none⟩ (.string T)).setCell ⟨w.heap.size, 3, none⟩ (.int .i64 0)).setCell ⟨w.heap.size, 4, none⟩ (.int .i64 (M.length : Nat))) = w9 at *
            try simp only [Act.put, List.setIfInBounds_toArray, List.set_cons_zero, List.set_cons_succ]
            obtain ⟨c0, c1, f0, f1, -⟩ := cells2b HS2.out.2.2
            refine wpAnyH_ready (rs := [3]) (by kernel_rfl) (by simp) ?_
            refine AllReadyH.consL rfl (fun K hK => ?_) AllReadyH.nil
            go_simp
            have hS3 : TwoB w ((w9.setCell ⟨(w.heap.size + 1), 0, none⟩ (.int .i64 0)).setCell ⟨(w.heap.size + 1), 1, none⟩ (.int .i64 0)) (.cells #[.int .i64 4, .int .i64 0, .string T, .int .i64 0, .int .i64 (M.length : Nat)] 88 (0, 0)) (.cells #[.int .i64 0, .int .i64 0] 129 (0, 0)) := ((HS2.out.fau 0 _).fau 1 _)
            have HS3 := Lib.hid hS3
            clear hS3 hHeld c0 c1 f0 f1
            refine hK.out _ _ HS3.out (fun hHeld => ?_)
            clear hK K hHeld
            generalize ((w9.setCell ⟨(w.heap.size + 1), 0, none⟩ (.int .i64 0)).setCell ⟨(w.heap.size + 1), 1, none⟩ (.int .i64 0)) = w10 at *
            try simp only [Act.put, List.setIfInBounds_toArray, List.set_cons_zero, List.set_cons_succ]
            refine wpAnyH_done (by kernel_rfl) ?_ _
            go_wp2_with fail
            refine bodyPost_ret (results_cc (ty := 88) (uy := 129) rfl _ w10 w.heap.size (w.heap.size + 1) _ _ _ _ _ _ _ _ rfl HS3.out.2.1 Tryz.underlying88 rfl token_size rfl HS3.out.2.2 Tryz.underlying129 rfl fault_size) rfl ?_
            refine ⟨⟨_, _, _, _, _, _, _, rfl, ?_⟩, HS3.out.1⟩
            rw [HR2.out]
            exact ⟨rfl, rfl, rfl, HEL.out, rfl, rfl⟩
          | false =>
            rw [hw] at hr HWD
            have HR2 := Lib.hid hr
            clear hr hw
            go_wp2_with fail
            refine HCALL3.out.mono ?_
            rintro e w3 ⟨rfl, rfl⟩
            go_wp2_with fail
            refine HWD.out.mono ?_
            rintro e w3 ⟨rfl, rfl⟩
            go_upto_region 25 with fail
            have h8 : TwoB w (w2.setCell ⟨w.heap.size, 0, none⟩ (.int .i64 2)) (.cells #[.int .i64 2, .int .i64 0, .string T, .int .i64 0, .int .i64 (M.length : Nat)] 88 (0, 0)) (.cells #[.int .i64 0, .int .i64 0] 129 (0, 0)) := (HB2.out.tok 0 _)
            have HB8 := Lib.hid h8
            clear h8 c0 c1 c2 c3 c4 f0 f1 f2 f3 f4 d0 d1 g0 g1
            generalize (w2.setCell ⟨w.heap.size, 0, none⟩ (.int .i64 2)) = wb8 at *
            refine wp_region_held_drew (S := fun w' => TwoB w w' (.cells #[.int .i64 2, .int .i64 0, .string T, .int .i64 0, .int .i64 (M.length : Nat)] 88 (0, 0)) (.cells #[.int .i64 0, .int .i64 0] 129 (0, 0))) (by kernel_rfl) (HB8.out.keep ((Keep.refl [] wb8).drew)) (fun hHeld => ?_)
            have HS0 := Lib.hid hHeld
            clear hHeld
            have hHeld := HS0.out
            generalize wb8.drew = w8 at *
            refine wpAnyH_takeL (i := 0) (v := ?vK20) rfl (by kernel_rfl) (by kernel_rfl) (by kernel_rfl) (fun _ _ _ h => h) (Or.inl ⟨by kernel_rfl, ?runK20⟩) hHeld ?_
            case runK20 => (intro w9 hS9; obtain ⟨⟨c0, c1, c2, c3, c4⟩, f0, f1, f2, f3, f4⟩ := cells5b hS9.2.1; obtain ⟨d0, d1, -⟩ := cells2b hS9.2.2; go_simp; try exact rfl)
            try simp only [Act.put, List.setIfInBounds_toArray, List.set_cons_zero, List.set_cons_succ]
            refine wpAnyH_takeL (i := 1) (v := ?vK21) rfl (by kernel_rfl) (by kernel_rfl) (by kernel_rfl) (fun _ _ _ h => h) (Or.inl ⟨by kernel_rfl, ?runK21⟩) hHeld ?_
            case runK21 => (intro w9 hS9; obtain ⟨⟨c0, c1, c2, c3, c4⟩, f0, f1, f2, f3, f4⟩ := cells5b hS9.2.1; obtain ⟨d0, d1, -⟩ := cells2b hS9.2.2; go_simp; try exact rfl)
            try simp only [Act.put, List.setIfInBounds_toArray, List.set_cons_zero, List.set_cons_succ]
            obtain ⟨⟨c0, c1, c2, c3, c4⟩, f0, f1, f2, f3, f4⟩ := cells5b HS0.out.2.1
            refine wpAnyH_ready (rs := [2]) (by kernel_rfl) (by simp) ?_
            refine AllReadyH.consL rfl (fun K hK => ?_) AllReadyH.nil
            go_simp
            have hS2 : TwoB w (((((w8.setCell ⟨w.heap.size, 0, none⟩ (.int .i64 2)).setCell ⟨w.heap.size, 1, none⟩ (.int .i64 0)).setCell ⟨w.heap.size, 2, none⟩ (.string T)).setCell ⟨w.heap.size, 3, none⟩ (.int .i64 0)).setCell ⟨w.heap.size, 4, none⟩ (.int .i64 (M.length : Nat))) (.cells #[.int .i64 2, .int .i64 0, .string T, .int .i64 0, .int .i64 (M.length : Nat)] 88 (0, 0)) (.cells #[.int .i64 0, .int .i64 0] 129 (0, 0)) := (((((HS0.out.tok 0 _).tok 1 _).tok 2 _).tok 3 _).tok 4 _)
            have HS2 := Lib.hid hS2
            clear hS2 hHeld c0 c1 c2 c3 c4 f0 f1 f2 f3 f4
            refine hK.out _ _ HS2.out (fun hHeld => ?_)
            clear hK K
            generalize (((((w8.setCell ⟨w.heap.size, 0, none⟩ (.int .i64 2)).setCell ⟨w.heap.size, 1, none⟩ (.int .i64 0)).setCell ⟨w.heap.size, 2, none⟩ (.string T)).setCell ⟨w.heap.size, 3, none⟩ (.int .i64 0)).setCell ⟨w.heap.size, 4, none⟩ (.int .i64 (M.length : Nat))) = w9 at *
            try simp only [Act.put, List.setIfInBounds_toArray, List.set_cons_zero, List.set_cons_succ]
            obtain ⟨c0, c1, f0, f1, -⟩ := cells2b HS2.out.2.2
            refine wpAnyH_ready (rs := [3]) (by kernel_rfl) (by simp) ?_
            refine AllReadyH.consL rfl (fun K hK => ?_) AllReadyH.nil
            go_simp
            have hS3 : TwoB w ((w9.setCell ⟨(w.heap.size + 1), 0, none⟩ (.int .i64 0)).setCell ⟨(w.heap.size + 1), 1, none⟩ (.int .i64 0)) (.cells #[.int .i64 2, .int .i64 0, .string T, .int .i64 0, .int .i64 (M.length : Nat)] 88 (0, 0)) (.cells #[.int .i64 0, .int .i64 0] 129 (0, 0)) := ((HS2.out.fau 0 _).fau 1 _)
            have HS3 := Lib.hid hS3
            clear hS3 hHeld c0 c1 f0 f1
            refine hK.out _ _ HS3.out (fun hHeld => ?_)
            clear hK K hHeld
            generalize ((w9.setCell ⟨(w.heap.size + 1), 0, none⟩ (.int .i64 0)).setCell ⟨(w.heap.size + 1), 1, none⟩ (.int .i64 0)) = w10 at *
            try simp only [Act.put, List.setIfInBounds_toArray, List.set_cons_zero, List.set_cons_succ]
            refine wpAnyH_done (by kernel_rfl) ?_ _
            go_wp2_with fail
            refine bodyPost_ret (results_cc (ty := 88) (uy := 129) rfl _ w10 w.heap.size (w.heap.size + 1) _ _ _ _ _ _ _ _ rfl HS3.out.2.1 Tryz.underlying88 rfl token_size rfl HS3.out.2.2 Tryz.underlying129 rfl fault_size) rfl ?_
            refine ⟨⟨_, _, _, _, _, _, _, rfl, ?_⟩, HS3.out.1⟩
            rw [HR2.out]
            exact ⟨rfl, rfl, rfl, HEL.out, rfl, rfl⟩
    · have hq2 : ¬ 0 ≤ ix2 := fun h => hl (hln.1 h)
      rw [if_neg hl] at hr
      by_cases h39 : c.toNat = 39
      · rw [if_pos h39] at hr
        have e1 : ((s[0].toNat : Int) == 39) = true := by rw [HC0.out]; simp [h39]
        have hqu := p_quoted s
        have hdr : s.data.toList.drop 1 = r := by rw [HCR.out]; rfl
        rw [hdr] at hqu
        have HQU := Lib.hid hqu
        have HR := Lib.hid hr
        clear hqu hdr hr hln hl h39
        obtain ⟨⟨c0, c1, c2, c3, c4⟩, f0, f1, f2, f3, f4⟩ := cells5b HST.out.2.1
        go_wp2_with fail
        refine HCALL.out.mono ?_
        rintro e w2 ⟨rfl, rfl⟩
        go_wp2_with fail
        refine HCALL2.out.mono ?_
        rintro e w2 ⟨rfl, rfl⟩
        go_wp2_with fail
        have h2 : TwoB w (w1.setCell ⟨w.heap.size, 0, none⟩ (.int .i64 2)) (.cells #[.int .i64 2, .int .i64 0, .string ⟨#[]⟩, .int .i64 0, .int .i64 0] 88 (0, 0)) (.cells #[.int .i64 0, .int .i64 0] 129 (0, 0)) := (HST.out.tok 0 _)
        have H2 := Lib.hid h2
        clear h2 c0 c1 c2 c3 c4 f0 f1 f2 f3 f4
        generalize (w1.setCell ⟨w.heap.size, 0, none⟩ (.int .i64 2)) = w2 at *
        refine (HQU.out w2 hs0 hs).mono ?_
        rintro e w3 ⟨hq3, hk3⟩
        have h3 := H2.out.keep hk3
        have HB3 := Lib.hid h3
        obtain ⟨⟨c0, c1, c2, c3, c4⟩, f0, f1, f2, f3, f4⟩ := cells5b h3.2.1
        obtain ⟨d0, d1, g0, g1, -⟩ := cells2b h3.2.2
        clear h3 hk3 H2
        cases hqq : quoL r 1 [] with
        | error a =>
          rw [hqq] at hq3
          simp only at hq3
          subst hq3
          have hr := HR.out
          rw [hqq] at hr
          have HR2 := Lib.hid hr
          clear hr hqq
          go_upto_region 25 with fail
          have h8 : TwoB w ((((w3.setCell ⟨w.heap.size, 2, none⟩ (.string ⟨#[]⟩)).setCell ⟨w.heap.size, 4, none⟩ (.int .i64 0)).setCell ⟨(w.heap.size + 1), 0, none⟩ (.int .i64 100)).setCell ⟨(w.heap.size + 1), 1, none⟩ (.int .i64 (a : Nat))) (.cells #[.int .i64 2, .int .i64 0, .string ⟨#[]⟩, .int .i64 0, .int .i64 0] 88 (0, 0)) (.cells #[.int .i64 100, .int .i64 (a : Nat)] 129 (0, 0)) := ((((HB3.out.tok 2 _).tok 4 _).fau 0 _).fau 1 _)
          have HB8 := Lib.hid h8
          clear h8 c0 c1 c2 c3 c4 f0 f1 f2 f3 f4 d0 d1 g0 g1
          generalize ((((w3.setCell ⟨w.heap.size, 2, none⟩ (.string ⟨#[]⟩)).setCell ⟨w.heap.size, 4, none⟩ (.int .i64 0)).setCell ⟨(w.heap.size + 1), 0, none⟩ (.int .i64 100)).setCell ⟨(w.heap.size + 1), 1, none⟩ (.int .i64 (a : Nat))) = wb8 at *
          refine wp_region_held_drew (S := fun w' => TwoB w w' (.cells #[.int .i64 2, .int .i64 0, .string ⟨#[]⟩, .int .i64 0, .int .i64 0] 88 (0, 0)) (.cells #[.int .i64 100, .int .i64 (a : Nat)] 129 (0, 0))) (by kernel_rfl) (HB8.out.keep ((Keep.refl [] wb8).drew)) (fun hHeld => ?_)
          have HS0 := Lib.hid hHeld
          clear hHeld
          have hHeld := HS0.out
          generalize wb8.drew = w8 at *
          refine wpAnyH_takeL (i := 0) (v := ?vQE0) rfl (by kernel_rfl) (by kernel_rfl) (by kernel_rfl) (fun _ _ _ h => h) (Or.inl ⟨by kernel_rfl, ?runQE0⟩) hHeld ?_
          case runQE0 => (intro w9 hS9; obtain ⟨⟨c0, c1, c2, c3, c4⟩, f0, f1, f2, f3, f4⟩ := cells5b hS9.2.1; obtain ⟨d0, d1, -⟩ := cells2b hS9.2.2; go_simp; try exact rfl)
          try simp only [Act.put, List.setIfInBounds_toArray, List.set_cons_zero, List.set_cons_succ]
          refine wpAnyH_takeL (i := 1) (v := ?vQE1) rfl (by kernel_rfl) (by kernel_rfl) (by kernel_rfl) (fun _ _ _ h => h) (Or.inl ⟨by kernel_rfl, ?runQE1⟩) hHeld ?_
          case runQE1 => (intro w9 hS9; obtain ⟨⟨c0, c1, c2, c3, c4⟩, f0, f1, f2, f3, f4⟩ := cells5b hS9.2.1; obtain ⟨d0, d1, -⟩ := cells2b hS9.2.2; go_simp; try exact rfl)
          try simp only [Act.put, List.setIfInBounds_toArray, List.set_cons_zero, List.set_cons_succ]
          obtain ⟨⟨c0, c1, c2, c3, c4⟩, f0, f1, f2, f3, f4⟩ := cells5b HS0.out.2.1
          refine wpAnyH_ready (rs := [2]) (by kernel_rfl) (by simp) ?_
          refine AllReadyH.consL rfl (fun K hK => ?_) AllReadyH.nil
          go_simp
          have hS2 : TwoB w (((((w8.setCell ⟨w.heap.size, 0, none⟩ (.int .i64 2)).setCell ⟨w.heap.size, 1, none⟩ (.int .i64 0)).setCell ⟨w.heap.size, 2, none⟩ (.string ⟨#[]⟩)).setCell ⟨w.heap.size, 3, none⟩ (.int .i64 0)).setCell ⟨w.heap.size, 4, none⟩ (.int .i64 0)) (.cells #[.int .i64 2, .int .i64 0, .string ⟨#[]⟩, .int .i64 0, .int .i64 0] 88 (0, 0)) (.cells #[.int .i64 100, .int .i64 (a : Nat)] 129 (0, 0)) := (((((HS0.out.tok 0 _).tok 1 _).tok 2 _).tok 3 _).tok 4 _)
          have HS2 := Lib.hid hS2
          clear hS2 hHeld c0 c1 c2 c3 c4 f0 f1 f2 f3 f4
          refine hK.out _ _ HS2.out (fun hHeld => ?_)
          clear hK K
          generalize (((((w8.setCell ⟨w.heap.size, 0, none⟩ (.int .i64 2)).setCell ⟨w.heap.size, 1, none⟩ (.int .i64 0)).setCell ⟨w.heap.size, 2, none⟩ (.string ⟨#[]⟩)).setCell ⟨w.heap.size, 3, none⟩ (.int .i64 0)).setCell ⟨w.heap.size, 4, none⟩ (.int .i64 0)) = w9 at *
          try simp only [Act.put, List.setIfInBounds_toArray, List.set_cons_zero, List.set_cons_succ]
          obtain ⟨c0, c1, f0, f1, -⟩ := cells2b HS2.out.2.2
          refine wpAnyH_ready (rs := [3]) (by kernel_rfl) (by simp) ?_
          refine AllReadyH.consL rfl (fun K hK => ?_) AllReadyH.nil
          go_simp
          have hS3 : TwoB w ((w9.setCell ⟨(w.heap.size + 1), 0, none⟩ (.int .i64 100)).setCell ⟨(w.heap.size + 1), 1, none⟩ (.int .i64 (a : Nat))) (.cells #[.int .i64 2, .int .i64 0, .string ⟨#[]⟩, .int .i64 0, .int .i64 0] 88 (0, 0)) (.cells #[.int .i64 100, .int .i64 (a : Nat)] 129 (0, 0)) := ((HS2.out.fau 0 _).fau 1 _)
          have HS3 := Lib.hid hS3
          clear hS3 hHeld c0 c1 f0 f1
          refine hK.out _ _ HS3.out (fun hHeld => ?_)
          clear hK K hHeld
          generalize ((w9.setCell ⟨(w.heap.size + 1), 0, none⟩ (.int .i64 100)).setCell ⟨(w.heap.size + 1), 1, none⟩ (.int .i64 (a : Nat))) = w10 at *
          try simp only [Act.put, List.setIfInBounds_toArray, List.set_cons_zero, List.set_cons_succ]
          refine wpAnyH_done (by kernel_rfl) ?_ _
          go_wp2_with fail
          refine bodyPost_ret (results_cc (ty := 88) (uy := 129) rfl _ w10 w.heap.size (w.heap.size + 1) _ _ _ _ _ _ _ _ rfl HS3.out.2.1 Tryz.underlying88 rfl token_size rfl HS3.out.2.2 Tryz.underlying129 rfl fault_size) rfl ?_
          refine ⟨⟨_, _, _, _, _, _, _, rfl, ?_⟩, HS3.out.1⟩
          rw [HR2.out]
          exact ⟨rfl, rfl⟩
        | ok p =>
          rw [hqq] at hq3
          obtain ⟨S, rfl, hS⟩ := hq3
          have hr := HR.out
          rw [hqq] at hr
          have HR2 := Lib.hid hr
          have HSS := Lib.hid hS
          obtain ⟨z, hz⟩ : ∃ z : Int, z = (p.2 : Nat) := ⟨_, rfl⟩
          rw [← hz]
          have HZ := Lib.hid hz
          clear hr hqq hS hz
          go_upto_region 25 with fail
          have h8 : TwoB w ((((w3.setCell ⟨w.heap.size, 2, none⟩ (.string S)).setCell ⟨w.heap.size, 4, none⟩ (.int .i64 z)).setCell ⟨(w.heap.size + 1), 0, none⟩ (.int .i64 0)).setCell ⟨(w.heap.size + 1), 1, none⟩ (.int .i64 0)) (.cells #[.int .i64 2, .int .i64 0, .string S, .int .i64 0, .int .i64 z] 88 (0, 0)) (.cells #[.int .i64 0, .int .i64 0] 129 (0, 0)) := ((((HB3.out.tok 2 _).tok 4 _).fau 0 _).fau 1 _)
          have HB8 := Lib.hid h8
          clear h8 c0 c1 c2 c3 c4 f0 f1 f2 f3 f4 d0 d1 g0 g1
          generalize ((((w3.setCell ⟨w.heap.size, 2, none⟩ (.string S)).setCell ⟨w.heap.size, 4, none⟩ (.int .i64 z)).setCell ⟨(w.heap.size + 1), 0, none⟩ (.int .i64 0)).setCell ⟨(w.heap.size + 1), 1, none⟩ (.int .i64 0)) = wb8 at *
          refine wp_region_held_drew (S := fun w' => TwoB w w' (.cells #[.int .i64 2, .int .i64 0, .string S, .int .i64 0, .int .i64 z] 88 (0, 0)) (.cells #[.int .i64 0, .int .i64 0] 129 (0, 0))) (by kernel_rfl) (HB8.out.keep ((Keep.refl [] wb8).drew)) (fun hHeld => ?_)
          have HS0 := Lib.hid hHeld
          clear hHeld
          have hHeld := HS0.out
          generalize wb8.drew = w8 at *
          refine wpAnyH_takeL (i := 0) (v := ?vQK0) rfl (by kernel_rfl) (by kernel_rfl) (by kernel_rfl) (fun _ _ _ h => h) (Or.inl ⟨by kernel_rfl, ?runQK0⟩) hHeld ?_
          case runQK0 => (intro w9 hS9; obtain ⟨⟨c0, c1, c2, c3, c4⟩, f0, f1, f2, f3, f4⟩ := cells5b hS9.2.1; obtain ⟨d0, d1, -⟩ := cells2b hS9.2.2; go_simp; try exact rfl)
          try simp only [Act.put, List.setIfInBounds_toArray, List.set_cons_zero, List.set_cons_succ]
          refine wpAnyH_takeL (i := 1) (v := ?vQK1) rfl (by kernel_rfl) (by kernel_rfl) (by kernel_rfl) (fun _ _ _ h => h) (Or.inl ⟨by kernel_rfl, ?runQK1⟩) hHeld ?_
          case runQK1 => (intro w9 hS9; obtain ⟨⟨c0, c1, c2, c3, c4⟩, f0, f1, f2, f3, f4⟩ := cells5b hS9.2.1; obtain ⟨d0, d1, -⟩ := cells2b hS9.2.2; go_simp; try exact rfl)
          try simp only [Act.put, List.setIfInBounds_toArray, List.set_cons_zero, List.set_cons_succ]
          obtain ⟨⟨c0, c1, c2, c3, c4⟩, f0, f1, f2, f3, f4⟩ := cells5b HS0.out.2.1
          refine wpAnyH_ready (rs := [2]) (by kernel_rfl) (by simp) ?_
          refine AllReadyH.consL rfl (fun K hK => ?_) AllReadyH.nil
          go_simp
          have hS2 : TwoB w (((((w8.setCell ⟨w.heap.size, 0, none⟩ (.int .i64 2)).setCell ⟨w.heap.size, 1, none⟩ (.int .i64 0)).setCell ⟨w.heap.size, 2, none⟩ (.string S)).setCell ⟨w.heap.size, 3, none⟩ (.int .i64 0)).setCell ⟨w.heap.size, 4, none⟩ (.int .i64 z)) (.cells #[.int .i64 2, .int .i64 0, .string S, .int .i64 0, .int .i64 z] 88 (0, 0)) (.cells #[.int .i64 0, .int .i64 0] 129 (0, 0)) := (((((HS0.out.tok 0 _).tok 1 _).tok 2 _).tok 3 _).tok 4 _)
          have HS2 := Lib.hid hS2
          clear hS2 hHeld c0 c1 c2 c3 c4 f0 f1 f2 f3 f4
          refine hK.out _ _ HS2.out (fun hHeld => ?_)
          clear hK K
          generalize (((((w8.setCell ⟨w.heap.size, 0, none⟩ (.int .i64 2)).setCell ⟨w.heap.size, 1, none⟩ (.int .i64 0)).setCell ⟨w.heap.size, 2, none⟩ (.string S)).setCell ⟨w.heap.size, 3, none⟩ (.int .i64 0)).setCell ⟨w.heap.size, 4, none⟩ (.int .i64 z)) = w9 at *
          try simp only [Act.put, List.setIfInBounds_toArray, List.set_cons_zero, List.set_cons_succ]
          obtain ⟨c0, c1, f0, f1, -⟩ := cells2b HS2.out.2.2
          refine wpAnyH_ready (rs := [3]) (by kernel_rfl) (by simp) ?_
          refine AllReadyH.consL rfl (fun K hK => ?_) AllReadyH.nil
          go_simp
          have hS3 : TwoB w ((w9.setCell ⟨(w.heap.size + 1), 0, none⟩ (.int .i64 0)).setCell ⟨(w.heap.size + 1), 1, none⟩ (.int .i64 0)) (.cells #[.int .i64 2, .int .i64 0, .string S, .int .i64 0, .int .i64 z] 88 (0, 0)) (.cells #[.int .i64 0, .int .i64 0] 129 (0, 0)) := ((HS2.out.fau 0 _).fau 1 _)
          have HS3 := Lib.hid hS3
          clear hS3 hHeld c0 c1 f0 f1
          refine hK.out _ _ HS3.out (fun hHeld => ?_)
          clear hK K hHeld
          generalize ((w9.setCell ⟨(w.heap.size + 1), 0, none⟩ (.int .i64 0)).setCell ⟨(w.heap.size + 1), 1, none⟩ (.int .i64 0)) = w10 at *
          try simp only [Act.put, List.setIfInBounds_toArray, List.set_cons_zero, List.set_cons_succ]
          refine wpAnyH_done (by kernel_rfl) ?_ _
          go_wp2_with fail
          refine bodyPost_ret (results_cc (ty := 88) (uy := 129) rfl _ w10 w.heap.size (w.heap.size + 1) _ _ _ _ _ _ _ _ rfl HS3.out.2.1 Tryz.underlying88 rfl token_size rfl HS3.out.2.2 Tryz.underlying129 rfl fault_size) rfl ?_
          refine ⟨⟨_, _, _, _, _, _, _, rfl, ?_⟩, HS3.out.1⟩
          rw [HR2.out]
          exact ⟨rfl, rfl, rfl, HSS.out, rfl, HZ.out⟩
      · rw [if_neg h39, HCR.out] at hr
        have e1 : ((s[0].toNat : Int) == 39) = false := by rw [HC0.out]; exact beq_eq_false_iff_ne.2 (by omega)
        have hsg := p_sign s w1 hs0 (by omega)
        rw [HCR.out] at hsg
        have hsn := signN_le (c :: r)
        obtain ⟨N, hN⟩ : ∃ N, N = signN (c :: r) := ⟨_, rfl⟩
        rw [← hN] at hsg hr hsn
        have HSG := Lib.hid hsg
        have HR := Lib.hid hr
        clear hsg hr hln hl h39 hN
        go_wp2_with fail
        refine HCALL.out.mono ?_
        rintro e w2 ⟨rfl, rfl⟩
        go_wp2_with fail
        refine HCALL2.out.mono ?_
        rintro e w2 ⟨rfl, rfl⟩
        go_wp2_with fail
        refine HSG.out.mono ?_
        rintro e w2 ⟨⟨S, rfl, hS⟩, hk2⟩
        have h2 := HST.out.keep hk2
        have HB2 := Lib.hid h2
        have hsz : S.size = N := by
          have h1 : S.data.toList.length = S.size := by simp
          rw [hS, List.length_take] at h1
          omega
        have HSS := Lib.hid hS
        have HSZ := Lib.hid hsz
        obtain ⟨⟨c0, c1, c2, c3, c4⟩, f0, f1, f2, f3, f4⟩ := cells5b h2.2.1
        obtain ⟨d0, d1, g0, g1, -⟩ := cells2b h2.2.2
        clear h2 hk2 hS hsz
        by_cases hz : S.size = 0
        · have hr := HR.out
          rw [if_pos (by rw [← HSZ.out]; exact hz)] at hr
          have HR2 := Lib.hid hr
          have hz' : ((S.size : Int) == 0) = true := by simp [hz]
          clear hr hz
          go_upto_region 25 with fail
          have h8 : TwoB w (((((w2.setCell ⟨w.heap.size, 0, none⟩ (.int .i64 5)).setCell ⟨w.heap.size, 2, none⟩ (.string S)).setCell ⟨w.heap.size, 4, none⟩ (.int .i64 (S.size : Nat))).setCell ⟨(w.heap.size + 1), 0, none⟩ (.int .i64 100)).setCell ⟨(w.heap.size + 1), 1, none⟩ (.int .i64 0)) (.cells #[.int .i64 5, .int .i64 0, .string S, .int .i64 0, .int .i64 (S.size : Nat)] 88 (0, 0)) (.cells #[.int .i64 100, .int .i64 0] 129 (0, 0)) := (((((HB2.out.tok 0 _).tok 2 _).tok 4 _).fau 0 _).fau 1 _)
          have HB8 := Lib.hid h8
          clear h8 c0 c1 c2 c3 c4 f0 f1 f2 f3 f4 d0 d1 g0 g1
          generalize (((((w2.setCell ⟨w.heap.size, 0, none⟩ (.int .i64 5)).setCell ⟨w.heap.size, 2, none⟩ (.string S)).setCell ⟨w.heap.size, 4, none⟩ (.int .i64 (S.size : Nat))).setCell ⟨(w.heap.size + 1), 0, none⟩ (.int .i64 100)).setCell ⟨(w.heap.size + 1), 1, none⟩ (.int .i64 0)) = wb8 at *
          refine wp_region_held_drew (S := fun w' => TwoB w w' (.cells #[.int .i64 5, .int .i64 0, .string S, .int .i64 0, .int .i64 (S.size : Nat)] 88 (0, 0)) (.cells #[.int .i64 100, .int .i64 0] 129 (0, 0))) (by kernel_rfl) (HB8.out.keep ((Keep.refl [] wb8).drew)) (fun hHeld => ?_)
          have HS0 := Lib.hid hHeld
          clear hHeld
          have hHeld := HS0.out
          generalize wb8.drew = w8 at *
          refine wpAnyH_takeL (i := 0) (v := ?vSN0) rfl (by kernel_rfl) (by kernel_rfl) (by kernel_rfl) (fun _ _ _ h => h) (Or.inl ⟨by kernel_rfl, ?runSN0⟩) hHeld ?_
          case runSN0 => (intro w9 hS9; obtain ⟨⟨c0, c1, c2, c3, c4⟩, f0, f1, f2, f3, f4⟩ := cells5b hS9.2.1; obtain ⟨d0, d1, -⟩ := cells2b hS9.2.2; go_simp; try exact rfl)
          try simp only [Act.put, List.setIfInBounds_toArray, List.set_cons_zero, List.set_cons_succ]
          refine wpAnyH_takeL (i := 1) (v := ?vSN1) rfl (by kernel_rfl) (by kernel_rfl) (by kernel_rfl) (fun _ _ _ h => h) (Or.inl ⟨by kernel_rfl, ?runSN1⟩) hHeld ?_
          case runSN1 => (intro w9 hS9; obtain ⟨⟨c0, c1, c2, c3, c4⟩, f0, f1, f2, f3, f4⟩ := cells5b hS9.2.1; obtain ⟨d0, d1, -⟩ := cells2b hS9.2.2; go_simp; try exact rfl)
          try simp only [Act.put, List.setIfInBounds_toArray, List.set_cons_zero, List.set_cons_succ]
          obtain ⟨⟨c0, c1, c2, c3, c4⟩, f0, f1, f2, f3, f4⟩ := cells5b HS0.out.2.1
          refine wpAnyH_ready (rs := [2]) (by kernel_rfl) (by simp) ?_
          refine AllReadyH.consL rfl (fun K hK => ?_) AllReadyH.nil
          go_simp
          have hS2 : TwoB w (((((w8.setCell ⟨w.heap.size, 0, none⟩ (.int .i64 5)).setCell ⟨w.heap.size, 1, none⟩ (.int .i64 0)).setCell ⟨w.heap.size, 2, none⟩ (.string S)).setCell ⟨w.heap.size, 3, none⟩ (.int .i64 0)).setCell ⟨w.heap.size, 4, none⟩ (.int .i64 (S.size : Nat))) (.cells #[.int .i64 5, .int .i64 0, .string S, .int .i64 0, .int .i64 (S.size : Nat)] 88 (0, 0)) (.cells #[.int .i64 100, .int .i64 0] 129 (0, 0)) := (((((HS0.out.tok 0 _).tok 1 _).tok 2 _).tok 3 _).tok 4 _)
          have HS2 := Lib.hid hS2
          clear hS2 hHeld c0 c1 c2 c3 c4 f0 f1 f2 f3 f4
          refine hK.out _ _ HS2.out (fun hHeld => ?_)
          clear hK K
          generalize (((((w8.setCell ⟨w.heap.size, 0, none⟩ (.int .i64 5)).setCell ⟨w.heap.size, 1, none⟩ (.int .i64 0)).setCell ⟨w.heap.size, 2, none⟩ (.string S)).setCell ⟨w.heap.size, 3, none⟩ (.int .i64 0)).setCell ⟨w.heap.size, 4, none⟩ (.int .i64 (S.size : Nat))) = w9 at *
          try simp only [Act.put, List.setIfInBounds_toArray, List.set_cons_zero, List.set_cons_succ]
          obtain ⟨c0, c1, f0, f1, -⟩ := cells2b HS2.out.2.2
          refine wpAnyH_ready (rs := [3]) (by kernel_rfl) (by simp) ?_
          refine AllReadyH.consL rfl (fun K hK => ?_) AllReadyH.nil
          go_simp
          have hS3 : TwoB w ((w9.setCell ⟨(w.heap.size + 1), 0, none⟩ (.int .i64 100)).setCell ⟨(w.heap.size + 1), 1, none⟩ (.int .i64 0)) (.cells #[.int .i64 5, .int .i64 0, .string S, .int .i64 0, .int .i64 (S.size : Nat)] 88 (0, 0)) (.cells #[.int .i64 100, .int .i64 0] 129 (0, 0)) := ((HS2.out.fau 0 _).fau 1 _)
          have HS3 := Lib.hid hS3
          clear hS3 hHeld c0 c1 f0 f1
          refine hK.out _ _ HS3.out (fun hHeld => ?_)
          clear hK K hHeld
          generalize ((w9.setCell ⟨(w.heap.size + 1), 0, none⟩ (.int .i64 100)).setCell ⟨(w.heap.size + 1), 1, none⟩ (.int .i64 0)) = w10 at *
          try simp only [Act.put, List.setIfInBounds_toArray, List.set_cons_zero, List.set_cons_succ]
          refine wpAnyH_done (by kernel_rfl) ?_ _
          go_wp2_with fail
          refine bodyPost_ret (results_cc (ty := 88) (uy := 129) rfl _ w10 w.heap.size (w.heap.size + 1) _ _ _ _ _ _ _ _ rfl HS3.out.2.1 Tryz.underlying88 rfl token_size rfl HS3.out.2.2 Tryz.underlying129 rfl fault_size) rfl ?_
          refine ⟨⟨_, _, _, _, _, _, _, rfl, ?_⟩, HS3.out.1⟩
          rw [HR2.out]
          exact ⟨rfl, rfl⟩
        · have hr := HR.out
          rw [if_neg (by rw [← HSZ.out]; exact hz)] at hr
          have HR2 := Lib.hid hr
          have hz' : ((S.size : Int) == 0) = false := beq_eq_false_iff_ne.2 (by omega)
          clear hr
          go_upto_region 25 with fail
          have h8 : TwoB w (((w2.setCell ⟨w.heap.size, 0, none⟩ (.int .i64 5)).setCell ⟨w.heap.size, 2, none⟩ (.string S)).setCell ⟨w.heap.size, 4, none⟩ (.int .i64 (S.size : Nat))) (.cells #[.int .i64 5, .int .i64 0, .string S, .int .i64 0, .int .i64 (S.size : Nat)] 88 (0, 0)) (.cells #[.int .i64 0, .int .i64 0] 129 (0, 0)) := (((HB2.out.tok 0 _).tok 2 _).tok 4 _)
          have HB8 := Lib.hid h8
          clear h8 c0 c1 c2 c3 c4 f0 f1 f2 f3 f4 d0 d1 g0 g1
          generalize (((w2.setCell ⟨w.heap.size, 0, none⟩ (.int .i64 5)).setCell ⟨w.heap.size, 2, none⟩ (.string S)).setCell ⟨w.heap.size, 4, none⟩ (.int .i64 (S.size : Nat))) = wb8 at *
          refine wp_region_held_drew (S := fun w' => TwoB w w' (.cells #[.int .i64 5, .int .i64 0, .string S, .int .i64 0, .int .i64 (S.size : Nat)] 88 (0, 0)) (.cells #[.int .i64 0, .int .i64 0] 129 (0, 0))) (by kernel_rfl) (HB8.out.keep ((Keep.refl [] wb8).drew)) (fun hHeld => ?_)
          have HS0 := Lib.hid hHeld
          clear hHeld
          have hHeld := HS0.out
          generalize wb8.drew = w8 at *
          refine wpAnyH_takeL (i := 0) (v := ?vSK0) rfl (by kernel_rfl) (by kernel_rfl) (by kernel_rfl) (fun _ _ _ h => h) (Or.inl ⟨by kernel_rfl, ?runSK0⟩) hHeld ?_
          case runSK0 => (intro w9 hS9; obtain ⟨⟨c0, c1, c2, c3, c4⟩, f0, f1, f2, f3, f4⟩ := cells5b hS9.2.1; obtain ⟨d0, d1, -⟩ := cells2b hS9.2.2; go_simp; try exact rfl)
          try simp only [Act.put, List.setIfInBounds_toArray, List.set_cons_zero, List.set_cons_succ]
          refine wpAnyH_takeL (i := 1) (v := ?vSK1) rfl (by kernel_rfl) (by kernel_rfl) (by kernel_rfl) (fun _ _ _ h => h) (Or.inl ⟨by kernel_rfl, ?runSK1⟩) hHeld ?_
          case runSK1 => (intro w9 hS9; obtain ⟨⟨c0, c1, c2, c3, c4⟩, f0, f1, f2, f3, f4⟩ := cells5b hS9.2.1; obtain ⟨d0, d1, -⟩ := cells2b hS9.2.2; go_simp; try exact rfl)
          try simp only [Act.put, List.setIfInBounds_toArray, List.set_cons_zero, List.set_cons_succ]
          obtain ⟨⟨c0, c1, c2, c3, c4⟩, f0, f1, f2, f3, f4⟩ := cells5b HS0.out.2.1
          refine wpAnyH_ready (rs := [2]) (by kernel_rfl) (by simp) ?_
          refine AllReadyH.consL rfl (fun K hK => ?_) AllReadyH.nil
          go_simp
          have hS2 : TwoB w (((((w8.setCell ⟨w.heap.size, 0, none⟩ (.int .i64 5)).setCell ⟨w.heap.size, 1, none⟩ (.int .i64 0)).setCell ⟨w.heap.size, 2, none⟩ (.string S)).setCell ⟨w.heap.size, 3, none⟩ (.int .i64 0)).setCell ⟨w.heap.size, 4, none⟩ (.int .i64 (S.size : Nat))) (.cells #[.int .i64 5, .int .i64 0, .string S, .int .i64 0, .int .i64 (S.size : Nat)] 88 (0, 0)) (.cells #[.int .i64 0, .int .i64 0] 129 (0, 0)) := (((((HS0.out.tok 0 _).tok 1 _).tok 2 _).tok 3 _).tok 4 _)
          have HS2 := Lib.hid hS2
          clear hS2 hHeld c0 c1 c2 c3 c4 f0 f1 f2 f3 f4
          refine hK.out _ _ HS2.out (fun hHeld => ?_)
          clear hK K
          generalize (((((w8.setCell ⟨w.heap.size, 0, none⟩ (.int .i64 5)).setCell ⟨w.heap.size, 1, none⟩ (.int .i64 0)).setCell ⟨w.heap.size, 2, none⟩ (.string S)).setCell ⟨w.heap.size, 3, none⟩ (.int .i64 0)).setCell ⟨w.heap.size, 4, none⟩ (.int .i64 (S.size : Nat))) = w9 at *
          try simp only [Act.put, List.setIfInBounds_toArray, List.set_cons_zero, List.set_cons_succ]
          obtain ⟨c0, c1, f0, f1, -⟩ := cells2b HS2.out.2.2
          refine wpAnyH_ready (rs := [3]) (by kernel_rfl) (by simp) ?_
          refine AllReadyH.consL rfl (fun K hK => ?_) AllReadyH.nil
          go_simp
          have hS3 : TwoB w ((w9.setCell ⟨(w.heap.size + 1), 0, none⟩ (.int .i64 0)).setCell ⟨(w.heap.size + 1), 1, none⟩ (.int .i64 0)) (.cells #[.int .i64 5, .int .i64 0, .string S, .int .i64 0, .int .i64 (S.size : Nat)] 88 (0, 0)) (.cells #[.int .i64 0, .int .i64 0] 129 (0, 0)) := ((HS2.out.fau 0 _).fau 1 _)
          have HS3 := Lib.hid hS3
          clear hS3 hHeld c0 c1 f0 f1
          refine hK.out _ _ HS3.out (fun hHeld => ?_)
          clear hK K hHeld
          generalize ((w9.setCell ⟨(w.heap.size + 1), 0, none⟩ (.int .i64 0)).setCell ⟨(w.heap.size + 1), 1, none⟩ (.int .i64 0)) = w10 at *
          try simp only [Act.put, List.setIfInBounds_toArray, List.set_cons_zero, List.set_cons_succ]
          refine wpAnyH_done (by kernel_rfl) ?_ _
          go_wp2_with fail
          refine bodyPost_ret (results_cc (ty := 88) (uy := 129) rfl _ w10 w.heap.size (w.heap.size + 1) _ _ _ _ _ _ _ _ rfl HS3.out.2.1 Tryz.underlying88 rfl token_size rfl HS3.out.2.2 Tryz.underlying129 rfl fault_size) rfl ?_
          refine ⟨⟨_, _, _, _, _, _, _, rfl, ?_⟩, HS3.out.1⟩
          rw [HR2.out]
          exact ⟨rfl, rfl, rfl, HSS.out, rfl, by rw [HSZ.out]⟩

end Go.Proofs.YtdmmhfbafinkpaaGreatDoor
