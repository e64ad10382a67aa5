/- ParsePrints: a part of the proof (Sc8, Sc9, Pa17, Pa18, Pa19, Pa20, Pa21, Pa22, Pa23, PaS, PaK, PaR, PaU), squeezed by squeeze.py. -/
import Derived.Test.YtdmmhfbafinkpaaGreatDoorY05
import Derived.Test.YtdmmhfbafinkpaaGreatDoorY03
import Derived.Deep.QuietTactic
import Derived.Test.YtdmmhfbafinkpaaGreatDoorY00
set_option maxRecDepth 100000
set_option maxHeartbeats 8000000
namespace Go.Proofs.YtdmmhfbafinkpaaGreatDoor
open Go.RowKit Go.Emb
theorem token_size : (Tryz.prog.info? 88).map (·.size) = some 5 := by kernel_rfl
theorem cells5b {w : World} {q : Nat} {a b c d e : Value} {t : TypeId} (h : w.heap[q]? = some (.cells #[a, b, c, d, e] t (0, 0))) :
  (w.cell? ⟨q, 0, none⟩ = some a ∧ w.cell? ⟨q, 1, none⟩ = some b ∧ w.cell? ⟨q, 2, none⟩ = some c ∧ w.cell? ⟨q, 3, none⟩ = some d ∧ w.cell? ⟨q, 4, none⟩ = some e) ∧ w.frozen? ⟨q, 0, none⟩ = false ∧ w.frozen? ⟨q, 1, none⟩ = false ∧ w.frozen? ⟨q, 2, none⟩ = false ∧ w.frozen? ⟨q, 3, none⟩ = false ∧ w.frozen? ⟨q, 4, none⟩ = false := by
 refine ⟨⟨?_, ?_, ?_, ?_, ?_⟩, ?_, ?_, ?_, ?_, ?_⟩ <;> simp [World.cell?, World.frozen?, h]
def TokenP (w : World) (R : Except (Int × Nat) Tk) (e : Ending) (w' : World) : Prop :=
 (∃ (k n a z : Int) (S : ByteArray) (f g : Int), e = .returned (.tuple #[.agg #[.int .i64 k, .int .i64 n, .string S, .int .i64 a, .int .i64 z], .agg #[.int .i64 f, .int .i64 g]]) ∧
   (match R with
   | .ok t => f = 0 ∧ k = t.kind ∧ n = t.num ∧ S.data.toList = t.text ∧ a = 0 ∧ z = (t.en : Nat)
   | .error p => f = p.1 ∧ g = (p.2 : Nat))) ∧ Keep [] w w'
def TwoB (w W : World) (C D : Obj) : Prop := Keep [] w W ∧ W.heap[w.heap.size]? = some C ∧ W.heap[w.heap.size + 1]? = some D
theorem TwoB.keep {w W W' : World} {C D : Obj} (h : TwoB w W C D) (k : Keep [] W W') : TwoB w W' C D := ⟨h.1.trans k (by simp), blkk h.2.1 k, blkk h.2.2 k⟩
theorem TwoB.tok {w W : World} {cs : Array Value} {t : TypeId} {D : Obj} (h : TwoB w W (.cells cs t (0, 0)) D) (i : Nat) (u : Value) : TwoB w (W.setCell ⟨w.heap.size, i, none⟩ u) (.cells (cs.setIfInBounds i u) t (0, 0)) D :=
 ⟨h.1.setCell (p := ⟨w.heap.size, i, none⟩) (.inr (Nat.le_refl _)) u, heap_setCell_at h.2.1 u, ((Keep.set1 W ⟨w.heap.size, i, none⟩ u).block _ (Array.getElem?_eq_some_iff.1 h.2.2).1 (by simp)).trans h.2.2⟩
theorem TwoB.fau {w W : World} {cs : Array Value} {t : TypeId} {C : Obj} (h : TwoB w W C (.cells cs t (0, 0))) (i : Nat) (u : Value) : TwoB w (W.setCell ⟨w.heap.size + 1, i, none⟩ u) C (.cells (cs.setIfInBounds i u) t (0, 0)) :=
 ⟨h.1.setCell (p := ⟨w.heap.size + 1, i, none⟩) (.inr (Nat.le_succ _)) u, ((Keep.set1 W ⟨w.heap.size + 1, i, none⟩ u).block _ (Array.getElem?_eq_some_iff.1 h.2.1).1 (by simp)).trans h.2.1, heap_setCell_at h.2.2 u⟩
theorem p_token (s : ByteArray) (w : World) (he : ErrOk w) (hs0 : 0 < s.size) (hs : s.size ≤ 20000) : Calls Tryz.prog 93 #[.string s] w (TokenP w (tokL s.data.toList)) := by
 obtain ⟨R, hR⟩ : ∃ R, R = tokL s.data.toList := ⟨_, rfl⟩; rw [← hR]
 have hst : TwoB w ((w.alloc (.cells #[.int .i64 0, .int .i64 0, .string ⟨#[]⟩, .int .i64 0, .int .i64 0] 88 (0, 0))).alloc (.cells #[.int .i64 0, .int .i64 0] 129 (0, 0))) (.cells #[.int .i64 0, .int .i64 0, .string ⟨#[]⟩, .int .i64 0, .int .i64 0] 88 (0, 0)) (.cells #[.int .i64 0, .int .i64 0] 129 (0, 0)) := by
  refine ⟨((Keep.refl [] w).alloc _).alloc _, blkk (heap_alloc_new w _) ((Keep.refl [] _).alloc _), ?_⟩; have h1 := heap_alloc_new (w.alloc (.cells #[.int .i64 0, .int .i64 0, .string ⟨#[]⟩, .int .i64 0, .int .i64 0] 88 (0, 0))) (.cells #[.int .i64 0, .int .i64 0] 129 (0, 0))
  rwa [show (w.alloc (.cells #[.int .i64 0, .int .i64 0, .string ⟨#[]⟩, .int .i64 0, .int .i64 0] 88 (0, 0))).heap.size = w.heap.size + 1 by simp] at h1
 have HST := hyd hst
 obtain ⟨c, r, hcr⟩ : ∃ c r, s.data.toList = c :: r := by
  match e : s.data.toList with
  | [] => have : s.data.toList.length = s.size := by simp
          rw [e] at this; simp at this; omega
  | c :: r => exact ⟨c, r, rfl⟩
 have hc0 : s[0] = c := by rw [← index_at s 0 hs0]; simp [hcr]
 have i0 : (0 : Int) < (s.size : Int) := by omega
 have hsl : s.data.toList.length = s.size := by simp
 have HSL := hyd hsl; have HE := hyd he; have HCR := hyd hcr; have HC0 := hyd hc0; have hib := fun (a : ByteArray) (W : World) => (Tryz.strings_IndexByte a (s[0].toNat : Int) W).mono (R' := fun e w' => e = .returned (.int .i64 (Lib.indexByte a.data.toList s[0])) ∧ W = w') (fun e w' h => ⟨by rw [h.1]; simp, h.2.symm⟩)
 have HIB := hyd hib
 have hge : ∀ a : List UInt8, (0 ≤ Lib.indexByte a s[0]) ↔ a.contains c = true := fun a => by
  have h1 := indexByte_neg a s[0]; rw [HC0.o] at h1 ⊢; have h2 := Lib.indexByte_ge a c
  cases h3 : a.contains c with
  | true => rw [h3] at h1; simp at h1; simp; omega
  | false => rw [h3] at h1; simp at h1; simp; omega
 have HGE := hyd hge; rw [hcr] at hR; unfold tokL at hR; simp only at hR; have HRR := hyd hR; clear hst he hsl hib hge hR; clear hcr hc0; go_enter Tryz.func93, Tryz.ntmps93; go_wp2_with fail; generalize (w.alloc (.cells #[.int .i64 0, .int .i64 0, .string ⟨#[]⟩, .int .i64 0, .int .i64 0] 88 (0, 0))).alloc (.cells #[.int .i64 0, .int .i64 0] 129 (0, 0)) = w1 at *
 by_cases hd : digitB c = true
 ·have hq := (HGE.o [48, 49, 50, 51, 52, 53, 54, 55, 56, 57]).2 (by rw [set_digit]; exact hd); have hcall := HIB.o ⟨#[48, 49, 50, 51, 52, 53, 54, 55, 56, 57]⟩ w1; have hr := HRR.o; rw [if_pos hd, ← HCR.o] at hr; have hrun := p_run s ⟨#[48, 49, 50, 51, 52, 53, 54, 55, 56, 57]⟩ w1 (by omega); have hrn : runN s.data.toList [48, 49, 50, 51, 52, 53, 54, 55, 56, 57] = (s.data.toList.takeWhile digitB).length := by unfold runN; simp only [set_digit]
  simp only at hcall hrun; rw [hrn] at hrun; have hle := tw_le digitB s.data.toList; have htk := take_tw digitB s.data.toList; have hall := tw_all digitB s.data.toList; have hpos : 1 ≤ (s.data.toList.takeWhile digitB).length := by rw [HCR.o]; exact tw_pos r hd
  obtain ⟨D, hD⟩ : ∃ D, D = s.data.toList.takeWhile digitB := ⟨_, rfl⟩; rw [← hD] at hr hrun hle htk hall hpos; rw [HSL.o] at hle; have HCALL := hyd hcall; have HRUN := hyd hrun; have HR := hyd hr; have HALL := hyd hall; have HTK := hyd htk; generalize Lib.indexByte [48, 49, 50, 51, 52, 53, 54, 55, 56, 57] s[0] = ix at *; clear hcall hrun hr hrn hall htk hd hD; obtain ⟨⟨c0, c1, c2, c3, c4⟩, f0, f1, f2, f3, f4⟩ := cells5b HST.o.2.1; go_wp2_with fail; refine HCALL.o.mono ?_; rintro e w2 ⟨rfl, rfl⟩; go_wp2_with fail; refine HRUN.o.mono ?_; rintro e w2 ⟨rfl, rfl⟩; go_wp2_with fail; have h2 : TwoB w ((w1.setCell ⟨w.heap.size, 0, none⟩ (.int .i64 1)).setCell ⟨w.heap.size, 4, none⟩ (.int .i64 (D.length : Nat))) (.cells #[.int .i64 1, .int .i64 0, .string ⟨#[]⟩, .int .i64 0, .int .i64 (D.length : Nat)] 88 (0, 0)) (.cells #[.int .i64 0, .int .i64 0] 129 (0, 0)) := ((HST.o.tok 0 _).tok 4 _); have H2 := hyd h2; have hpa := p_parse (s.extract 0 D.length) ((w1.setCell ⟨w.heap.size, 0, none⟩ (.int .i64 1)).setCell ⟨w.heap.size, 4, none⟩ (.int .i64 (D.length : Nat))) (HE.o.keep h2.1) (by rw [show (s.extract 0 D.length).data.toList = D from by rw [← HTK.o]; simp [ByteArray.data_extract]]; intro h; rw [h] at hpos; simp at hpos) (by rw [show (s.extract 0 D.length).data.toList = D from by rw [← HTK.o]; simp [ByteArray.data_extract]]; exact HALL.o) (by simp; omega); have hel : (s.extract 0 D.length).data.toList = D := by rw [← HTK.o]; simp [ByteArray.data_extract]
  rw [hel] at hpa; have HPA := hyd hpa; clear h2 hpa hel c0 c1 c2 c3 c4 f0 f1 f2 f3 f4; generalize ((w1.setCell ⟨w.heap.size, 0, none⟩ (.int .i64 1)).setCell ⟨w.heap.size, 4, none⟩ (.int .i64 (D.length : Nat))) = w2 at *; refine HPA.o.mono ?_; rintro e w3 ⟨⟨v, x, rfl, hx⟩, hk3⟩; have h3 := H2.o.keep hk3; have HB3 := hyd h3; obtain ⟨⟨c0, c1, c2, c3, c4⟩, f0, f1, f2, f3, f4⟩ := cells5b h3.2.1; obtain ⟨d0, d1, g0, g1, -⟩ := cells2b h3.2.2; clear h3 hk3 H2 HPA
  by_cases hm : numD D ≤ 576460752303423487
  ·have hr := HR.o; rw [if_pos hm] at hr; have HR2 := hyd hr; clear hr; rcases hx with ⟨rfl, rfl⟩ | ⟨N, rfl, hN⟩
   ·have hm' : ¬ (576460752303423487 : Int) < (numD D : Int) := by omega
    go_upto_region 25 with fail; generalize hn : (numD D : Int) = n at *; have h4 : TwoB w (w3.setCell ⟨w.heap.size, 1, none⟩ (.int .i64 n)) (.cells #[.int .i64 1, .int .i64 n, .string ⟨#[]⟩, .int .i64 0, .int .i64 (D.length : Nat)] 88 (0, 0)) (.cells #[.int .i64 0, .int .i64 0] 129 (0, 0)) := HB3.o.tok 1 _; have HB4 := hyd h4; clear h4 c0 c1 c2 c3 c4 f0 f1 f2 f3 f4 d0 d1 g0 g1; generalize (w3.setCell ⟨w.heap.size, 1, none⟩ (.int .i64 n)) = w4 at *; have HN := hyd hn; clear hn; refine wp_region_held_drew (S := fun w' => TwoB w w' (.cells #[.int .i64 1, .int .i64 n, .string ⟨#[]⟩, .int .i64 0, .int .i64 (D.length : Nat)] 88 (0, 0)) (.cells #[.int .i64 0, .int .i64 0] 129 (0, 0))) (by kernel_rfl) (HB4.o.keep ((Keep.refl [] w4).drew)) (fun hHeld => ?_); have HS0 := hyd hHeld; clear hHeld; have hHeld := HS0.o; generalize w4.drew = w8 at *; refine tkL 0 ?vA0 rfl ?runA0 hHeld ?_
    case runA0 => (intro w9 hS9; obtain ⟨⟨c0, c1, c2, c3, c4⟩, f0, f1, f2, f3, f4⟩ := cells5b hS9.2.1; obtain ⟨d0, d1, -⟩ := cells2b hS9.2.2; go_simp; try exact rfl)
    try simp only [Act.put, lA, lZ, lS]
    refine tkL 1 ?vA1 rfl ?runA1 hHeld ?_
    case runA1 => (intro w9 hS9; obtain ⟨⟨c0, c1, c2, c3, c4⟩, f0, f1, f2, f3, f4⟩ := cells5b hS9.2.1; obtain ⟨d0, d1, -⟩ := cells2b hS9.2.2; go_simp; try exact rfl)
    try simp only [Act.put, lA, lZ, lS]
    obtain ⟨⟨c0, c1, c2, c3, c4⟩, f0, f1, f2, f3, f4⟩ := cells5b HS0.o.2.1; refine rdH 2 rfl (fun K hK => ?_); go_simp; have hS2 : TwoB w (((((w8.setCell ⟨w.heap.size, 0, none⟩ (.int .i64 1)).setCell ⟨w.heap.size, 1, none⟩ (.int .i64 n)).setCell ⟨w.heap.size, 2, none⟩ (.string ⟨#[]⟩)).setCell ⟨w.heap.size, 3, none⟩ (.int .i64 0)).setCell ⟨w.heap.size, 4, none⟩ (.int .i64 (D.length : Nat))) (.cells #[.int .i64 1, .int .i64 n, .string ⟨#[]⟩, .int .i64 0, .int .i64 (D.length : Nat)] 88 (0, 0)) (.cells #[.int .i64 0, .int .i64 0] 129 (0, 0)) := (((((HS0.o.tok 0 _).tok 1 _).tok 2 _).tok 3 _).tok 4 _); have HS2 := hyd hS2; clear hS2 hHeld c0 c1 c2 c3 c4 f0 f1 f2 f3 f4; refine hK.out _ _ HS2.o (fun hHeld => ?_); clear hK K; generalize (((((w8.setCell ⟨w.heap.size, 0, none⟩ (.int .i64 1)).setCell ⟨w.heap.size, 1, none⟩ (.int .i64 n)).setCell ⟨w.heap.size, 2, none⟩ (.string ⟨#[]⟩)).setCell ⟨w.heap.size, 3, none⟩ (.int .i64 0)).setCell ⟨w.heap.size, 4, none⟩ (.int .i64 (D.length : Nat))) = w9 at *
    try simp only [Act.put, lA, lZ, lS]
    obtain ⟨c0, c1, f0, f1, -⟩ := cells2b HS2.o.2.2; refine rdH 3 rfl (fun K hK => ?_); go_simp; have hS3 : TwoB w ((w9.setCell ⟨(w.heap.size + 1), 0, none⟩ (.int .i64 0)).setCell ⟨(w.heap.size + 1), 1, none⟩ (.int .i64 0)) (.cells #[.int .i64 1, .int .i64 n, .string ⟨#[]⟩, .int .i64 0, .int .i64 (D.length : Nat)] 88 (0, 0)) (.cells #[.int .i64 0, .int .i64 0] 129 (0, 0)) := ((HS2.o.fau 0 _).fau 1 _); have HS3 := hyd hS3; clear hS3 hHeld c0 c1 f0 f1; refine hK.out _ _ HS3.o (fun hHeld => ?_); clear hK K hHeld; generalize ((w9.setCell ⟨(w.heap.size + 1), 0, none⟩ (.int .i64 0)).setCell ⟨(w.heap.size + 1), 1, none⟩ (.int .i64 0)) = w10 at *
    try simp only [Act.put, lA, lZ, lS]
    refine wpAnyH_done (by kernel_rfl) ?_ _; go_wp2_with fail; refine bodyPost_ret (results_cc (ty := 88) (uy := 129) rfl _ w10 w.heap.size (w.heap.size + 1) _ _ _ _ _ _ _ _ rfl HS3.o.2.1 Tryz.underlying88 rfl token_size rfl HS3.o.2.2 Tryz.underlying129 rfl fault_size) rfl ?_; refine ⟨⟨_, _, _, _, _, _, _, rfl, ?_⟩, HS3.o.1⟩; rw [HR2.o]; exact ⟨rfl, rfl, rfl, rfl, rfl, rfl⟩
   ·omega
  ·have hr := HR.o; rw [if_neg hm] at hr; have HR2 := hyd hr; clear hr; rcases hx with ⟨rfl, rfl⟩ | ⟨N, rfl, hN⟩
   ·have hm' : (576460752303423487 : Int) < (numD D : Int) := by omega
    go_wp2_with fail; have h9 : TwoB w (((((((w3.setCell ⟨w.heap.size, 0, none⟩ (.int .i64 1)).setCell ⟨w.heap.size, 1, none⟩ (.int .i64 0)).setCell ⟨w.heap.size, 2, none⟩ (.string ⟨#[]⟩)).setCell ⟨w.heap.size, 3, none⟩ (.int .i64 0)).setCell ⟨w.heap.size, 4, none⟩ (.int .i64 (D.length : Nat))).setCell ⟨(w.heap.size + 1), 0, none⟩ (.int .i64 101)).setCell ⟨(w.heap.size + 1), 1, none⟩ (.int .i64 0)) (.cells #[.int .i64 1, .int .i64 0, .string ⟨#[]⟩, .int .i64 0, .int .i64 (D.length : Nat)] 88 (0, 0)) (.cells #[.int .i64 101, .int .i64 0] 129 (0, 0)) := (((((((HB3.o.tok 0 _).tok 1 _).tok 2 _).tok 3 _).tok 4 _).fau 0 _).fau 1 _); have H9 := hyd h9; clear h9; generalize (((((((w3.setCell ⟨w.heap.size, 0, none⟩ (.int .i64 1)).setCell ⟨w.heap.size, 1, none⟩ (.int .i64 0)).setCell ⟨w.heap.size, 2, none⟩ (.string ⟨#[]⟩)).setCell ⟨w.heap.size, 3, none⟩ (.int .i64 0)).setCell ⟨w.heap.size, 4, none⟩ (.int .i64 (D.length : Nat))).setCell ⟨(w.heap.size + 1), 0, none⟩ (.int .i64 101)).setCell ⟨(w.heap.size + 1), 1, none⟩ (.int .i64 0)) = w9 at *; refine bodyPost_ret (results_cc (ty := 88) (uy := 129) rfl _ w9 w.heap.size (w.heap.size + 1) _ _ _ _ _ _ _ _ rfl H9.o.2.1 Tryz.underlying88 rfl token_size rfl H9.o.2.2 Tryz.underlying129 rfl fault_size) rfl ?_; refine ⟨⟨_, _, _, _, _, _, _, rfl, ?_⟩, H9.o.1⟩; rw [HR2.o]; exact ⟨rfl, rfl⟩
   ·go_wp2_with fail; have h9 : TwoB w (((((((w3.setCell ⟨w.heap.size, 0, none⟩ (.int .i64 1)).setCell ⟨w.heap.size, 1, none⟩ (.int .i64 0)).setCell ⟨w.heap.size, 2, none⟩ (.string ⟨#[]⟩)).setCell ⟨w.heap.size, 3, none⟩ (.int .i64 0)).setCell ⟨w.heap.size, 4, none⟩ (.int .i64 (D.length : Nat))).setCell ⟨(w.heap.size + 1), 0, none⟩ (.int .i64 101)).setCell ⟨(w.heap.size + 1), 1, none⟩ (.int .i64 0)) (.cells #[.int .i64 1, .int .i64 0, .string ⟨#[]⟩, .int .i64 0, .int .i64 (D.length : Nat)] 88 (0, 0)) (.cells #[.int .i64 101, .int .i64 0] 129 (0, 0)) := (((((((HB3.o.tok 0 _).tok 1 _).tok 2 _).tok 3 _).tok 4 _).fau 0 _).fau 1 _); have H9 := hyd h9; clear h9; generalize (((((((w3.setCell ⟨w.heap.size, 0, none⟩ (.int .i64 1)).setCell ⟨w.heap.size, 1, none⟩ (.int .i64 0)).setCell ⟨w.heap.size, 2, none⟩ (.string ⟨#[]⟩)).setCell ⟨w.heap.size, 3, none⟩ (.int .i64 0)).setCell ⟨w.heap.size, 4, none⟩ (.int .i64 (D.length : Nat))).setCell ⟨(w.heap.size + 1), 0, none⟩ (.int .i64 101)).setCell ⟨(w.heap.size + 1), 1, none⟩ (.int .i64 0)) = w9 at *; refine bodyPost_ret (results_cc (ty := 88) (uy := 129) rfl _ w9 w.heap.size (w.heap.size + 1) _ _ _ _ _ _ _ _ rfl H9.o.2.1 Tryz.underlying88 rfl token_size rfl H9.o.2.2 Tryz.underlying129 rfl fault_size) rfl ?_; refine ⟨⟨_, _, _, _, _, _, _, rfl, ?_⟩, H9.o.1⟩; rw [HR2.o]; exact ⟨rfl, rfl⟩
 ·have hdn := (HGE.o [48, 49, 50, 51, 52, 53, 54, 55, 56, 57]); rw [set_digit] at hdn; have hq : ¬ 0 ≤ Lib.indexByte [48, 49, 50, 51, 52, 53, 54, 55, 56, 57] s[0] := fun h => hd (hdn.1 h)
  have hcall := HIB.o ⟨#[48, 49, 50, 51, 52, 53, 54, 55, 56, 57]⟩ w1; simp only at hcall; have HCALL := hyd hcall; have hr := HRR.o; rw [if_neg hd, ← HCR.o] at hr; clear hcall hdn; obtain ⟨ix1, hix1⟩ : ∃ i, i = Lib.indexByte [48, 49, 50, 51, 52, 53, 54, 55, 56, 57] s[0] := ⟨_, rfl⟩; rw [← hix1] at hq HCALL; have hln := (HGE.o [97, 98, 99, 100, 101, 102, 103, 104, 105, 106, 107, 108, 109, 110, 111, 112, 113, 114, 115, 116, 117, 118, 119, 120, 121, 122, 65, 66, 67, 68, 69, 70, 71, 72, 73, 74, 75, 76, 77, 78, 79, 80, 81, 82, 83, 84, 85, 86, 87, 88, 89, 90, 95]); rw [set_letter] at hln; obtain ⟨ix2, hix2⟩ : ∃ i, i = Lib.indexByte [97, 98, 99, 100, 101, 102, 103, 104, 105, 106, 107, 108, 109, 110, 111, 112, 113, 114, 115, 116, 117, 118, 119, 120, 121, 122, 65, 66, 67, 68, 69, 70, 71, 72, 73, 74, 75, 76, 77, 78, 79, 80, 81, 82, 83, 84, 85, 86, 87, 88, 89, 90, 95] s[0] := ⟨_, rfl⟩; have hcall2 := HIB.o ⟨#[97, 98, 99, 100, 101, 102, 103, 104, 105, 106, 107, 108, 109, 110, 111, 112, 113, 114, 115, 116, 117, 118, 119, 120, 121, 122, 65, 66, 67, 68, 69, 70, 71, 72, 73, 74, 75, 76, 77, 78, 79, 80, 81, 82, 83, 84, 85, 86, 87, 88, 89, 90, 95]⟩ w1; simp only at hcall2; rw [← hix2] at hcall2 hln; have HCALL2 := hyd hcall2; clear hcall2 hix1 hix2
  by_cases hl : (smallB c || greatB c) = true
  ·have hq2 := hln.2 hl; rw [if_pos hl] at hr; have hrun := p_run s ⟨#[97, 98, 99, 100, 101, 102, 103, 104, 105, 106, 107, 108, 109, 110, 111, 112, 113, 114, 115, 116, 117, 118, 119, 120, 121, 122, 65, 66, 67, 68, 69, 70, 71, 72, 73, 74, 75, 76, 77, 78, 79, 80, 81, 82, 83, 84, 85, 86, 87, 88, 89, 90, 95, 48, 49, 50, 51, 52, 53, 54, 55, 56, 57, 64]⟩ w1 (by omega); have hrn : runN s.data.toList [97, 98, 99, 100, 101, 102, 103, 104, 105, 106, 107, 108, 109, 110, 111, 112, 113, 114, 115, 116, 117, 118, 119, 120, 121, 122, 65, 66, 67, 68, 69, 70, 71, 72, 73, 74, 75, 76, 77, 78, 79, 80, 81, 82, 83, 84, 85, 86, 87, 88, 89, 90, 95, 48, 49, 50, 51, 52, 53, 54, 55, 56, 57, 64] = (s.data.toList.takeWhile moreB).length := by unfold runN; simp only [set_more]
   simp only at hrun; rw [hrn] at hrun; have hle := tw_le moreB s.data.toList; have htk := take_tw moreB s.data.toList; obtain ⟨M, hM⟩ : ∃ M, M = s.data.toList.takeWhile moreB := ⟨_, rfl⟩; rw [← hM] at hr hrun hle htk; rw [HSL.o] at hle; have HRUN := hyd hrun; have HR := hyd hr; have hel : (s.extract 0 M.length).data.toList = M := by rw [← htk]; simp [ByteArray.data_extract]
   have HEL := hyd hel; clear hrun hr hrn htk hM hln hl hel; obtain ⟨⟨c0, c1, c2, c3, c4⟩, f0, f1, f2, f3, f4⟩ := cells5b HST.o.2.1; go_wp2_with fail; refine HCALL.o.mono ?_; rintro e w2 ⟨rfl, rfl⟩; go_wp2_with fail; refine HCALL2.o.mono ?_; rintro e w2 ⟨rfl, rfl⟩; go_wp2_with fail; refine HRUN.o.mono ?_; rintro e w2 ⟨rfl, rfl⟩; go_upto_region 16 with fail; obtain ⟨T, hT⟩ : ∃ T, T = s.extract 0 M.length := ⟨_, rfl⟩; rw [← hT] at HEL ⊢; have h2 : TwoB w ((w1.setCell ⟨w.heap.size, 4, none⟩ (.int .i64 (M.length : Nat))).setCell ⟨w.heap.size, 2, none⟩ (.string T)) (.cells #[.int .i64 0, .int .i64 0, .string T, .int .i64 0, .int .i64 (M.length : Nat)] 88 (0, 0)) (.cells #[.int .i64 0, .int .i64 0] 129 (0, 0)) := ((HST.o.tok 4 _).tok 2 _); have HB2 := hyd h2; clear h2 hT c0 c1 c2 c3 c4 f0 f1 f2 f3 f4; generalize ((w1.setCell ⟨w.heap.size, 4, none⟩ (.int .i64 (M.length : Nat))).setCell ⟨w.heap.size, 2, none⟩ (.string T)) = w2 at *; obtain ⟨⟨c0, c1, c2, c3, c4⟩, f0, f1, f2, f3, f4⟩ := cells5b HB2.o.2.1; obtain ⟨d0, d1, g0, g1, -⟩ := cells2b HB2.o.2.2
   by_cases h255 : 255 < M.length
   ·have h255' : (255 : Int) < (M.length : Int) := by omega
    have hr := HR.o; rw [if_pos h255] at hr; have HR2 := hyd hr; clear hr; go_wp2_with fail; have h9 : TwoB w (((((((w2.setCell ⟨w.heap.size, 0, none⟩ (.int .i64 0)).setCell ⟨w.heap.size, 1, none⟩ (.int .i64 0)).setCell ⟨w.heap.size, 2, none⟩ (.string T)).setCell ⟨w.heap.size, 3, none⟩ (.int .i64 0)).setCell ⟨w.heap.size, 4, none⟩ (.int .i64 (M.length : Nat))).setCell ⟨(w.heap.size + 1), 0, none⟩ (.int .i64 100)).setCell ⟨(w.heap.size + 1), 1, none⟩ (.int .i64 0)) (.cells #[.int .i64 0, .int .i64 0, .string T, .int .i64 0, .int .i64 (M.length : Nat)] 88 (0, 0)) (.cells #[.int .i64 100, .int .i64 0] 129 (0, 0)) := (((((((HB2.o.tok 0 _).tok 1 _).tok 2 _).tok 3 _).tok 4 _).fau 0 _).fau 1 _); have H9 := hyd h9; clear h9; generalize (((((((w2.setCell ⟨w.heap.size, 0, none⟩ (.int .i64 0)).setCell ⟨w.heap.size, 1, none⟩ (.int .i64 0)).setCell ⟨w.heap.size, 2, none⟩ (.string T)).setCell ⟨w.heap.size, 3, none⟩ (.int .i64 0)).setCell ⟨w.heap.size, 4, none⟩ (.int .i64 (M.length : Nat))).setCell ⟨(w.heap.size + 1), 0, none⟩ (.int .i64 100)).setCell ⟨(w.heap.size + 1), 1, none⟩ (.int .i64 0)) = w9 at *; refine bodyPost_ret (results_cc (ty := 88) (uy := 129) rfl _ w9 w.heap.size (w.heap.size + 1) _ _ _ _ _ _ _ _ rfl H9.o.2.1 Tryz.underlying88 rfl token_size rfl H9.o.2.2 Tryz.underlying129 rfl fault_size) rfl ?_; refine ⟨⟨_, _, _, _, _, _, _, rfl, ?_⟩, H9.o.1⟩; rw [HR2.o]; exact ⟨rfl, rfl⟩
   ·have h255' : ¬ (255 : Int) < (M.length : Int) := by omega
    have hr := HR.o; rw [if_neg h255] at hr; have hgn := (HGE.o [65, 66, 67, 68, 69, 70, 71, 72, 73, 74, 75, 76, 77, 78, 79, 80, 81, 82, 83, 84, 85, 86, 87, 88, 89, 90, 95]); rw [set_great] at hgn; obtain ⟨ix3, hix3⟩ : ∃ i, i = Lib.indexByte [65, 66, 67, 68, 69, 70, 71, 72, 73, 74, 75, 76, 77, 78, 79, 80, 81, 82, 83, 84, 85, 86, 87, 88, 89, 90, 95] s[0] := ⟨_, rfl⟩; have hcall3 := HIB.o ⟨#[65, 66, 67, 68, 69, 70, 71, 72, 73, 74, 75, 76, 77, 78, 79, 80, 81, 82, 83, 84, 85, 86, 87, 88, 89, 90, 95]⟩ w2; simp only at hcall3; rw [← hix3] at hcall3 hgn; have HCALL3 := hyd hcall3; clear hcall3 hix3
    by_cases hg : greatB c = true
    ·have hq3 := hgn.2 hg; rw [if_pos hg] at hr; have HR2 := hyd hr; clear hr hgn hg; go_wp2_with fail; refine HCALL3.o.mono ?_; rintro e w3 ⟨rfl, rfl⟩; go_upto_region 25 with fail; have h8 : TwoB w (w2.setCell ⟨w.heap.size, 0, none⟩ (.int .i64 3)) (.cells #[.int .i64 3, .int .i64 0, .string T, .int .i64 0, .int .i64 (M.length : Nat)] 88 (0, 0)) (.cells #[.int .i64 0, .int .i64 0] 129 (0, 0)) := (HB2.o.tok 0 _); have HB8 := hyd h8; clear h8 c0 c1 c2 c3 c4 f0 f1 f2 f3 f4 d0 d1 g0 g1; generalize (w2.setCell ⟨w.heap.size, 0, none⟩ (.int .i64 3)) = wb8 at *; refine wp_region_held_drew (S := fun w' => TwoB w w' (.cells #[.int .i64 3, .int .i64 0, .string T, .int .i64 0, .int .i64 (M.length : Nat)] 88 (0, 0)) (.cells #[.int .i64 0, .int .i64 0] 129 (0, 0))) (by kernel_rfl) (HB8.o.keep ((Keep.refl [] wb8).drew)) (fun hHeld => ?_); have HS0 := hyd hHeld; clear hHeld; have hHeld := HS0.o; generalize wb8.drew = w8 at *; refine tkL 0 ?vK30 rfl ?runK30 hHeld ?_
     case runK30 => (intro w9 hS9; obtain ⟨⟨c0, c1, c2, c3, c4⟩, f0, f1, f2, f3, f4⟩ := cells5b hS9.2.1; obtain ⟨d0, d1, -⟩ := cells2b hS9.2.2; go_simp; try exact rfl)
     try simp only [Act.put, lA, lZ, lS]
     refine tkL 1 ?vK31 rfl ?runK31 hHeld ?_
     case runK31 => (intro w9 hS9; obtain ⟨⟨c0, c1, c2, c3, c4⟩, f0, f1, f2, f3, f4⟩ := cells5b hS9.2.1; obtain ⟨d0, d1, -⟩ := cells2b hS9.2.2; go_simp; try exact rfl)
     try simp only [Act.put, lA, lZ, lS]
     obtain ⟨⟨c0, c1, c2, c3, c4⟩, f0, f1, f2, f3, f4⟩ := cells5b HS0.o.2.1; refine rdH 2 rfl (fun K hK => ?_); go_simp; have hS2 : TwoB w (((((w8.setCell ⟨w.heap.size, 0, none⟩ (.int .i64 3)).setCell ⟨w.heap.size, 1, none⟩ (.int .i64 0)).setCell ⟨w.heap.size, 2, none⟩ (.string T)).setCell ⟨w.heap.size, 3, none⟩ (.int .i64 0)).setCell ⟨w.heap.size, 4, none⟩ (.int .i64 (M.length : Nat))) (.cells #[.int .i64 3, .int .i64 0, .string T, .int .i64 0, .int .i64 (M.length : Nat)] 88 (0, 0)) (.cells #[.int .i64 0, .int .i64 0] 129 (0, 0)) := (((((HS0.o.tok 0 _).tok 1 _).tok 2 _).tok 3 _).tok 4 _); have HS2 := hyd hS2; clear hS2 hHeld c0 c1 c2 c3 c4 f0 f1 f2 f3 f4; refine hK.out _ _ HS2.o (fun hHeld => ?_); clear hK K; generalize (((((w8.setCell ⟨w.heap.size, 0, none⟩ (.int .i64 3)).setCell ⟨w.heap.size, 1, none⟩ (.int .i64 0)).setCell ⟨w.heap.size, 2, none⟩ (.string T)).setCell ⟨w.heap.size, 3, none⟩ (.int .i64 0)).setCell ⟨w.heap.size, 4, none⟩ (.int .i64 (M.length : Nat))) = w9 at *
     try simp only [Act.put, lA, lZ, lS]
     obtain ⟨c0, c1, f0, f1, -⟩ := cells2b HS2.o.2.2; refine rdH 3 rfl (fun K hK => ?_); go_simp; have hS3 : TwoB w ((w9.setCell ⟨(w.heap.size + 1), 0, none⟩ (.int .i64 0)).setCell ⟨(w.heap.size + 1), 1, none⟩ (.int .i64 0)) (.cells #[.int .i64 3, .int .i64 0, .string T, .int .i64 0, .int .i64 (M.length : Nat)] 88 (0, 0)) (.cells #[.int .i64 0, .int .i64 0] 129 (0, 0)) := ((HS2.o.fau 0 _).fau 1 _); have HS3 := hyd hS3; clear hS3 hHeld c0 c1 f0 f1; refine hK.out _ _ HS3.o (fun hHeld => ?_); clear hK K hHeld; generalize ((w9.setCell ⟨(w.heap.size + 1), 0, none⟩ (.int .i64 0)).setCell ⟨(w.heap.size + 1), 1, none⟩ (.int .i64 0)) = w10 at *
     try simp only [Act.put, lA, lZ, lS]
     refine wpAnyH_done (by kernel_rfl) ?_ _; go_wp2_with fail; refine bodyPost_ret (results_cc (ty := 88) (uy := 129) rfl _ w10 w.heap.size (w.heap.size + 1) _ _ _ _ _ _ _ _ rfl HS3.o.2.1 Tryz.underlying88 rfl token_size rfl HS3.o.2.2 Tryz.underlying129 rfl fault_size) rfl ?_; refine ⟨⟨_, _, _, _, _, _, _, rfl, ?_⟩, HS3.o.1⟩; rw [HR2.o]; exact ⟨rfl, rfl, rfl, HEL.o, rfl, rfl⟩
    ·have hq3 : ¬ 0 ≤ ix3 := fun h => hg (hgn.1 h)
     rw [if_neg hg] at hr; have hwd := p_word T w2; rw [HEL.o] at hwd; have HWD := hyd hwd; clear hwd hgn hg
     cases hw : wordsS.contains M with
     | true =>
      rw [hw] at hr HWD; have HR2 := hyd hr; clear hr hw; go_wp2_with fail; refine HCALL3.o.mono ?_; rintro e w3 ⟨rfl, rfl⟩; go_wp2_with fail; refine HWD.o.mono ?_; rintro e w3 ⟨rfl, rfl⟩; go_upto_region 25 with fail; have h8 : TwoB w (w2.setCell ⟨w.heap.size, 0, none⟩ (.int .i64 4)) (.cells #[.int .i64 4, .int .i64 0, .string T, .int .i64 0, .int .i64 (M.length : Nat)] 88 (0, 0)) (.cells #[.int .i64 0, .int .i64 0] 129 (0, 0)) := (HB2.o.tok 0 _); have HB8 := hyd h8; clear h8 c0 c1 c2 c3 c4 f0 f1 f2 f3 f4 d0 d1 g0 g1; generalize (w2.setCell ⟨w.heap.size, 0, none⟩ (.int .i64 4)) = wb8 at *; refine wp_region_held_drew (S := fun w' => TwoB w w' (.cells #[.int .i64 4, .int .i64 0, .string T, .int .i64 0, .int .i64 (M.length : Nat)] 88 (0, 0)) (.cells #[.int .i64 0, .int .i64 0] 129 (0, 0))) (by kernel_rfl) (HB8.o.keep ((Keep.refl [] wb8).drew)) (fun hHeld => ?_); have HS0 := hyd hHeld; clear hHeld; have hHeld := HS0.o; generalize wb8.drew = w8 at *; refine tkL 0 ?vK40 rfl ?runK40 hHeld ?_
      case runK40 => (intro w9 hS9; obtain ⟨⟨c0, c1, c2, c3, c4⟩, f0, f1, f2, f3, f4⟩ := cells5b hS9.2.1; obtain ⟨d0, d1, -⟩ := cells2b hS9.2.2; go_simp; try exact rfl)
      try simp only [Act.put, lA, lZ, lS]
      refine tkL 1 ?vK41 rfl ?runK41 hHeld ?_
      case runK41 => (intro w9 hS9; obtain ⟨⟨c0, c1, c2, c3, c4⟩, f0, f1, f2, f3, f4⟩ := cells5b hS9.2.1; obtain ⟨d0, d1, -⟩ := cells2b hS9.2.2; go_simp; try exact rfl)
      try simp only [Act.put, lA, lZ, lS]
      obtain ⟨⟨c0, c1, c2, c3, c4⟩, f0, f1, f2, f3, f4⟩ := cells5b HS0.o.2.1; refine rdH 2 rfl (fun K hK => ?_); go_simp; have hS2 : TwoB w (((((w8.setCell ⟨w.heap.size, 0, none⟩ (.int .i64 4)).setCell ⟨w.heap.size, 1, none⟩ (.int .i64 0)).setCell ⟨w.heap.size, 2, none⟩ (.string T)).setCell ⟨w.heap.size, 3, none⟩ (.int .i64 0)).setCell ⟨w.heap.size, 4, none⟩ (.int .i64 (M.length : Nat))) (.cells #[.int .i64 4, .int .i64 0, .string T, .int .i64 0, .int .i64 (M.length : Nat)] 88 (0, 0)) (.cells #[.int .i64 0, .int .i64 0] 129 (0, 0)) := (((((HS0.o.tok 0 _).tok 1 _).tok 2 _).tok 3 _).tok 4 _); have HS2 := hyd hS2; clear hS2 hHeld c0 c1 c2 c3 c4 f0 f1 f2 f3 f4; refine hK.out _ _ HS2.o (fun hHeld => ?_); clear hK K; generalize (((((w8.setCell ⟨w.heap.size, 0, none⟩ (.int .i64 4)).setCell ⟨w.heap.size, 1, none⟩ (.int .i64 0)).setCell ⟨w.heap.size, 2, none⟩ (.string T)).setCell ⟨w.heap.size, 3, none⟩ (.int .i64 0)).setCell ⟨w.heap.size, 4, none⟩ (.int .i64 (M.length : Nat))) = w9 at *
      try simp only [Act.put, lA, lZ, lS]
      obtain ⟨c0, c1, f0, f1, -⟩ := cells2b HS2.o.2.2; refine rdH 3 rfl (fun K hK => ?_); go_simp; have hS3 : TwoB w ((w9.setCell ⟨(w.heap.size + 1), 0, none⟩ (.int .i64 0)).setCell ⟨(w.heap.size + 1), 1, none⟩ (.int .i64 0)) (.cells #[.int .i64 4, .int .i64 0, .string T, .int .i64 0, .int .i64 (M.length : Nat)] 88 (0, 0)) (.cells #[.int .i64 0, .int .i64 0] 129 (0, 0)) := ((HS2.o.fau 0 _).fau 1 _); have HS3 := hyd hS3; clear hS3 hHeld c0 c1 f0 f1; refine hK.out _ _ HS3.o (fun hHeld => ?_); clear hK K hHeld; generalize ((w9.setCell ⟨(w.heap.size + 1), 0, none⟩ (.int .i64 0)).setCell ⟨(w.heap.size + 1), 1, none⟩ (.int .i64 0)) = w10 at *
      try simp only [Act.put, lA, lZ, lS]
      refine wpAnyH_done (by kernel_rfl) ?_ _; go_wp2_with fail; refine bodyPost_ret (results_cc (ty := 88) (uy := 129) rfl _ w10 w.heap.size (w.heap.size + 1) _ _ _ _ _ _ _ _ rfl HS3.o.2.1 Tryz.underlying88 rfl token_size rfl HS3.o.2.2 Tryz.underlying129 rfl fault_size) rfl ?_; refine ⟨⟨_, _, _, _, _, _, _, rfl, ?_⟩, HS3.o.1⟩; rw [HR2.o]; exact ⟨rfl, rfl, rfl, HEL.o, rfl, rfl⟩
     | false =>
      rw [hw] at hr HWD; have HR2 := hyd hr; clear hr hw; go_wp2_with fail; refine HCALL3.o.mono ?_; rintro e w3 ⟨rfl, rfl⟩; go_wp2_with fail; refine HWD.o.mono ?_; rintro e w3 ⟨rfl, rfl⟩; go_upto_region 25 with fail; have h8 : TwoB w (w2.setCell ⟨w.heap.size, 0, none⟩ (.int .i64 2)) (.cells #[.int .i64 2, .int .i64 0, .string T, .int .i64 0, .int .i64 (M.length : Nat)] 88 (0, 0)) (.cells #[.int .i64 0, .int .i64 0] 129 (0, 0)) := (HB2.o.tok 0 _); have HB8 := hyd h8; clear h8 c0 c1 c2 c3 c4 f0 f1 f2 f3 f4 d0 d1 g0 g1; generalize (w2.setCell ⟨w.heap.size, 0, none⟩ (.int .i64 2)) = wb8 at *; refine wp_region_held_drew (S := fun w' => TwoB w w' (.cells #[.int .i64 2, .int .i64 0, .string T, .int .i64 0, .int .i64 (M.length : Nat)] 88 (0, 0)) (.cells #[.int .i64 0, .int .i64 0] 129 (0, 0))) (by kernel_rfl) (HB8.o.keep ((Keep.refl [] wb8).drew)) (fun hHeld => ?_); have HS0 := hyd hHeld; clear hHeld; have hHeld := HS0.o; generalize wb8.drew = w8 at *; refine tkL 0 ?vK20 rfl ?runK20 hHeld ?_
      case runK20 => (intro w9 hS9; obtain ⟨⟨c0, c1, c2, c3, c4⟩, f0, f1, f2, f3, f4⟩ := cells5b hS9.2.1; obtain ⟨d0, d1, -⟩ := cells2b hS9.2.2; go_simp; try exact rfl)
      try simp only [Act.put, lA, lZ, lS]
      refine tkL 1 ?vK21 rfl ?runK21 hHeld ?_
      case runK21 => (intro w9 hS9; obtain ⟨⟨c0, c1, c2, c3, c4⟩, f0, f1, f2, f3, f4⟩ := cells5b hS9.2.1; obtain ⟨d0, d1, -⟩ := cells2b hS9.2.2; go_simp; try exact rfl)
      try simp only [Act.put, lA, lZ, lS]
      obtain ⟨⟨c0, c1, c2, c3, c4⟩, f0, f1, f2, f3, f4⟩ := cells5b HS0.o.2.1; refine rdH 2 rfl (fun K hK => ?_); go_simp; have hS2 : TwoB w (((((w8.setCell ⟨w.heap.size, 0, none⟩ (.int .i64 2)).setCell ⟨w.heap.size, 1, none⟩ (.int .i64 0)).setCell ⟨w.heap.size, 2, none⟩ (.string T)).setCell ⟨w.heap.size, 3, none⟩ (.int .i64 0)).setCell ⟨w.heap.size, 4, none⟩ (.int .i64 (M.length : Nat))) (.cells #[.int .i64 2, .int .i64 0, .string T, .int .i64 0, .int .i64 (M.length : Nat)] 88 (0, 0)) (.cells #[.int .i64 0, .int .i64 0] 129 (0, 0)) := (((((HS0.o.tok 0 _).tok 1 _).tok 2 _).tok 3 _).tok 4 _); have HS2 := hyd hS2; clear hS2 hHeld c0 c1 c2 c3 c4 f0 f1 f2 f3 f4; refine hK.out _ _ HS2.o (fun hHeld => ?_); clear hK K; generalize (((((w8.setCell ⟨w.heap.size, 0, none⟩ (.int .i64 2)).setCell ⟨w.heap.size, 1, none⟩ (.int .i64 0)).setCell ⟨w.heap.size, 2, none⟩ (.string T)).setCell ⟨w.heap.size, 3, none⟩ (.int .i64 0)).setCell ⟨w.heap.size, 4, none⟩ (.int .i64 (M.length : Nat))) = w9 at *
      try simp only [Act.put, lA, lZ, lS]
      obtain ⟨c0, c1, f0, f1, -⟩ := cells2b HS2.o.2.2; refine rdH 3 rfl (fun K hK => ?_); go_simp; have hS3 : TwoB w ((w9.setCell ⟨(w.heap.size + 1), 0, none⟩ (.int .i64 0)).setCell ⟨(w.heap.size + 1), 1, none⟩ (.int .i64 0)) (.cells #[.int .i64 2, .int .i64 0, .string T, .int .i64 0, .int .i64 (M.length : Nat)] 88 (0, 0)) (.cells #[.int .i64 0, .int .i64 0] 129 (0, 0)) := ((HS2.o.fau 0 _).fau 1 _); have HS3 := hyd hS3; clear hS3 hHeld c0 c1 f0 f1; refine hK.out _ _ HS3.o (fun hHeld => ?_); clear hK K hHeld; generalize ((w9.setCell ⟨(w.heap.size + 1), 0, none⟩ (.int .i64 0)).setCell ⟨(w.heap.size + 1), 1, none⟩ (.int .i64 0)) = w10 at *
      try simp only [Act.put, lA, lZ, lS]
      refine wpAnyH_done (by kernel_rfl) ?_ _; go_wp2_with fail; refine bodyPost_ret (results_cc (ty := 88) (uy := 129) rfl _ w10 w.heap.size (w.heap.size + 1) _ _ _ _ _ _ _ _ rfl HS3.o.2.1 Tryz.underlying88 rfl token_size rfl HS3.o.2.2 Tryz.underlying129 rfl fault_size) rfl ?_; refine ⟨⟨_, _, _, _, _, _, _, rfl, ?_⟩, HS3.o.1⟩; rw [HR2.o]; exact ⟨rfl, rfl, rfl, HEL.o, rfl, rfl⟩
  ·have hq2 : ¬ 0 ≤ ix2 := fun h => hl (hln.1 h)
   rw [if_neg hl] at hr
   by_cases h39 : c.toNat = 39
   ·rw [if_pos h39] at hr; have e1 : ((s[0].toNat : Int) == 39) = true := by rw [HC0.o]; simp [h39]
    have hqu := p_quoted s; have hdr : s.data.toList.drop 1 = r := by rw [HCR.o]; rfl
    rw [hdr] at hqu; have HQU := hyd hqu; have HR := hyd hr; clear hqu hdr hr hln hl h39; obtain ⟨⟨c0, c1, c2, c3, c4⟩, f0, f1, f2, f3, f4⟩ := cells5b HST.o.2.1; go_wp2_with fail; refine HCALL.o.mono ?_; rintro e w2 ⟨rfl, rfl⟩; go_wp2_with fail; refine HCALL2.o.mono ?_; rintro e w2 ⟨rfl, rfl⟩; go_wp2_with fail; have h2 : TwoB w (w1.setCell ⟨w.heap.size, 0, none⟩ (.int .i64 2)) (.cells #[.int .i64 2, .int .i64 0, .string ⟨#[]⟩, .int .i64 0, .int .i64 0] 88 (0, 0)) (.cells #[.int .i64 0, .int .i64 0] 129 (0, 0)) := (HST.o.tok 0 _); have H2 := hyd h2; clear h2 c0 c1 c2 c3 c4 f0 f1 f2 f3 f4; generalize (w1.setCell ⟨w.heap.size, 0, none⟩ (.int .i64 2)) = w2 at *; refine (HQU.o w2 hs0 hs).mono ?_; rintro e w3 ⟨hq3, hk3⟩; have h3 := H2.o.keep hk3; have HB3 := hyd h3; obtain ⟨⟨c0, c1, c2, c3, c4⟩, f0, f1, f2, f3, f4⟩ := cells5b h3.2.1; obtain ⟨d0, d1, g0, g1, -⟩ := cells2b h3.2.2; clear h3 hk3 H2
    cases hqq : quoL r 1 [] with
    | error a =>
     rw [hqq] at hq3; simp only at hq3; subst hq3; have hr := HR.o; rw [hqq] at hr; have HR2 := hyd hr; clear hr hqq; go_upto_region 25 with fail; have h8 : TwoB w ((((w3.setCell ⟨w.heap.size, 2, none⟩ (.string ⟨#[]⟩)).setCell ⟨w.heap.size, 4, none⟩ (.int .i64 0)).setCell ⟨(w.heap.size + 1), 0, none⟩ (.int .i64 100)).setCell ⟨(w.heap.size + 1), 1, none⟩ (.int .i64 (a : Nat))) (.cells #[.int .i64 2, .int .i64 0, .string ⟨#[]⟩, .int .i64 0, .int .i64 0] 88 (0, 0)) (.cells #[.int .i64 100, .int .i64 (a : Nat)] 129 (0, 0)) := ((((HB3.o.tok 2 _).tok 4 _).fau 0 _).fau 1 _); have HB8 := hyd h8; clear h8 c0 c1 c2 c3 c4 f0 f1 f2 f3 f4 d0 d1 g0 g1; generalize ((((w3.setCell ⟨w.heap.size, 2, none⟩ (.string ⟨#[]⟩)).setCell ⟨w.heap.size, 4, none⟩ (.int .i64 0)).setCell ⟨(w.heap.size + 1), 0, none⟩ (.int .i64 100)).setCell ⟨(w.heap.size + 1), 1, none⟩ (.int .i64 (a : Nat))) = wb8 at *; refine wp_region_held_drew (S := fun w' => TwoB w w' (.cells #[.int .i64 2, .int .i64 0, .string ⟨#[]⟩, .int .i64 0, .int .i64 0] 88 (0, 0)) (.cells #[.int .i64 100, .int .i64 (a : Nat)] 129 (0, 0))) (by kernel_rfl) (HB8.o.keep ((Keep.refl [] wb8).drew)) (fun hHeld => ?_); have HS0 := hyd hHeld; clear hHeld; have hHeld := HS0.o; generalize wb8.drew = w8 at *; refine tkL 0 ?vQE0 rfl ?runQE0 hHeld ?_
     case runQE0 => (intro w9 hS9; obtain ⟨⟨c0, c1, c2, c3, c4⟩, f0, f1, f2, f3, f4⟩ := cells5b hS9.2.1; obtain ⟨d0, d1, -⟩ := cells2b hS9.2.2; go_simp; try exact rfl)
     try simp only [Act.put, lA, lZ, lS]
     refine tkL 1 ?vQE1 rfl ?runQE1 hHeld ?_
     case runQE1 => (intro w9 hS9; obtain ⟨⟨c0, c1, c2, c3, c4⟩, f0, f1, f2, f3, f4⟩ := cells5b hS9.2.1; obtain ⟨d0, d1, -⟩ := cells2b hS9.2.2; go_simp; try exact rfl)
     try simp only [Act.put, lA, lZ, lS]
     obtain ⟨⟨c0, c1, c2, c3, c4⟩, f0, f1, f2, f3, f4⟩ := cells5b HS0.o.2.1; refine rdH 2 rfl (fun K hK => ?_); go_simp; have hS2 : TwoB w (((((w8.setCell ⟨w.heap.size, 0, none⟩ (.int .i64 2)).setCell ⟨w.heap.size, 1, none⟩ (.int .i64 0)).setCell ⟨w.heap.size, 2, none⟩ (.string ⟨#[]⟩)).setCell ⟨w.heap.size, 3, none⟩ (.int .i64 0)).setCell ⟨w.heap.size, 4, none⟩ (.int .i64 0)) (.cells #[.int .i64 2, .int .i64 0, .string ⟨#[]⟩, .int .i64 0, .int .i64 0] 88 (0, 0)) (.cells #[.int .i64 100, .int .i64 (a : Nat)] 129 (0, 0)) := (((((HS0.o.tok 0 _).tok 1 _).tok 2 _).tok 3 _).tok 4 _); have HS2 := hyd hS2; clear hS2 hHeld c0 c1 c2 c3 c4 f0 f1 f2 f3 f4; refine hK.out _ _ HS2.o (fun hHeld => ?_); clear hK K; generalize (((((w8.setCell ⟨w.heap.size, 0, none⟩ (.int .i64 2)).setCell ⟨w.heap.size, 1, none⟩ (.int .i64 0)).setCell ⟨w.heap.size, 2, none⟩ (.string ⟨#[]⟩)).setCell ⟨w.heap.size, 3, none⟩ (.int .i64 0)).setCell ⟨w.heap.size, 4, none⟩ (.int .i64 0)) = w9 at *
     try simp only [Act.put, lA, lZ, lS]
     obtain ⟨c0, c1, f0, f1, -⟩ := cells2b HS2.o.2.2; refine rdH 3 rfl (fun K hK => ?_); go_simp; have hS3 : TwoB w ((w9.setCell ⟨(w.heap.size + 1), 0, none⟩ (.int .i64 100)).setCell ⟨(w.heap.size + 1), 1, none⟩ (.int .i64 (a : Nat))) (.cells #[.int .i64 2, .int .i64 0, .string ⟨#[]⟩, .int .i64 0, .int .i64 0] 88 (0, 0)) (.cells #[.int .i64 100, .int .i64 (a : Nat)] 129 (0, 0)) := ((HS2.o.fau 0 _).fau 1 _); have HS3 := hyd hS3; clear hS3 hHeld c0 c1 f0 f1; refine hK.out _ _ HS3.o (fun hHeld => ?_); clear hK K hHeld; generalize ((w9.setCell ⟨(w.heap.size + 1), 0, none⟩ (.int .i64 100)).setCell ⟨(w.heap.size + 1), 1, none⟩ (.int .i64 (a : Nat))) = w10 at *
     try simp only [Act.put, lA, lZ, lS]
     refine wpAnyH_done (by kernel_rfl) ?_ _; go_wp2_with fail; refine bodyPost_ret (results_cc (ty := 88) (uy := 129) rfl _ w10 w.heap.size (w.heap.size + 1) _ _ _ _ _ _ _ _ rfl HS3.o.2.1 Tryz.underlying88 rfl token_size rfl HS3.o.2.2 Tryz.underlying129 rfl fault_size) rfl ?_; refine ⟨⟨_, _, _, _, _, _, _, rfl, ?_⟩, HS3.o.1⟩; rw [HR2.o]; exact ⟨rfl, rfl⟩
    | ok p =>
     rw [hqq] at hq3; obtain ⟨S, rfl, hS⟩ := hq3; have hr := HR.o; rw [hqq] at hr; have HR2 := hyd hr; have HSS := hyd hS; obtain ⟨z, hz⟩ : ∃ z : Int, z = (p.2 : Nat) := ⟨_, rfl⟩; rw [← hz]; have HZ := hyd hz; clear hr hqq hS hz; go_upto_region 25 with fail; have h8 : TwoB w ((((w3.setCell ⟨w.heap.size, 2, none⟩ (.string S)).setCell ⟨w.heap.size, 4, none⟩ (.int .i64 z)).setCell ⟨(w.heap.size + 1), 0, none⟩ (.int .i64 0)).setCell ⟨(w.heap.size + 1), 1, none⟩ (.int .i64 0)) (.cells #[.int .i64 2, .int .i64 0, .string S, .int .i64 0, .int .i64 z] 88 (0, 0)) (.cells #[.int .i64 0, .int .i64 0] 129 (0, 0)) := ((((HB3.o.tok 2 _).tok 4 _).fau 0 _).fau 1 _); have HB8 := hyd h8; clear h8 c0 c1 c2 c3 c4 f0 f1 f2 f3 f4 d0 d1 g0 g1; generalize ((((w3.setCell ⟨w.heap.size, 2, none⟩ (.string S)).setCell ⟨w.heap.size, 4, none⟩ (.int .i64 z)).setCell ⟨(w.heap.size + 1), 0, none⟩ (.int .i64 0)).setCell ⟨(w.heap.size + 1), 1, none⟩ (.int .i64 0)) = wb8 at *; refine wp_region_held_drew (S := fun w' => TwoB w w' (.cells #[.int .i64 2, .int .i64 0, .string S, .int .i64 0, .int .i64 z] 88 (0, 0)) (.cells #[.int .i64 0, .int .i64 0] 129 (0, 0))) (by kernel_rfl) (HB8.o.keep ((Keep.refl [] wb8).drew)) (fun hHeld => ?_); have HS0 := hyd hHeld; clear hHeld; have hHeld := HS0.o; generalize wb8.drew = w8 at *; refine tkL 0 ?vQK0 rfl ?runQK0 hHeld ?_
     case runQK0 => (intro w9 hS9; obtain ⟨⟨c0, c1, c2, c3, c4⟩, f0, f1, f2, f3, f4⟩ := cells5b hS9.2.1; obtain ⟨d0, d1, -⟩ := cells2b hS9.2.2; go_simp; try exact rfl)
     try simp only [Act.put, lA, lZ, lS]
     refine tkL 1 ?vQK1 rfl ?runQK1 hHeld ?_
     case runQK1 => (intro w9 hS9; obtain ⟨⟨c0, c1, c2, c3, c4⟩, f0, f1, f2, f3, f4⟩ := cells5b hS9.2.1; obtain ⟨d0, d1, -⟩ := cells2b hS9.2.2; go_simp; try exact rfl)
     try simp only [Act.put, lA, lZ, lS]
     obtain ⟨⟨c0, c1, c2, c3, c4⟩, f0, f1, f2, f3, f4⟩ := cells5b HS0.o.2.1; refine rdH 2 rfl (fun K hK => ?_); go_simp; have hS2 : TwoB w (((((w8.setCell ⟨w.heap.size, 0, none⟩ (.int .i64 2)).setCell ⟨w.heap.size, 1, none⟩ (.int .i64 0)).setCell ⟨w.heap.size, 2, none⟩ (.string S)).setCell ⟨w.heap.size, 3, none⟩ (.int .i64 0)).setCell ⟨w.heap.size, 4, none⟩ (.int .i64 z)) (.cells #[.int .i64 2, .int .i64 0, .string S, .int .i64 0, .int .i64 z] 88 (0, 0)) (.cells #[.int .i64 0, .int .i64 0] 129 (0, 0)) := (((((HS0.o.tok 0 _).tok 1 _).tok 2 _).tok 3 _).tok 4 _); have HS2 := hyd hS2; clear hS2 hHeld c0 c1 c2 c3 c4 f0 f1 f2 f3 f4; refine hK.out _ _ HS2.o (fun hHeld => ?_); clear hK K; generalize (((((w8.setCell ⟨w.heap.size, 0, none⟩ (.int .i64 2)).setCell ⟨w.heap.size, 1, none⟩ (.int .i64 0)).setCell ⟨w.heap.size, 2, none⟩ (.string S)).setCell ⟨w.heap.size, 3, none⟩ (.int .i64 0)).setCell ⟨w.heap.size, 4, none⟩ (.int .i64 z)) = w9 at *
     try simp only [Act.put, lA, lZ, lS]
     obtain ⟨c0, c1, f0, f1, -⟩ := cells2b HS2.o.2.2; refine rdH 3 rfl (fun K hK => ?_); go_simp; have hS3 : TwoB w ((w9.setCell ⟨(w.heap.size + 1), 0, none⟩ (.int .i64 0)).setCell ⟨(w.heap.size + 1), 1, none⟩ (.int .i64 0)) (.cells #[.int .i64 2, .int .i64 0, .string S, .int .i64 0, .int .i64 z] 88 (0, 0)) (.cells #[.int .i64 0, .int .i64 0] 129 (0, 0)) := ((HS2.o.fau 0 _).fau 1 _); have HS3 := hyd hS3; clear hS3 hHeld c0 c1 f0 f1; refine hK.out _ _ HS3.o (fun hHeld => ?_); clear hK K hHeld; generalize ((w9.setCell ⟨(w.heap.size + 1), 0, none⟩ (.int .i64 0)).setCell ⟨(w.heap.size + 1), 1, none⟩ (.int .i64 0)) = w10 at *
     try simp only [Act.put, lA, lZ, lS]
     refine wpAnyH_done (by kernel_rfl) ?_ _; go_wp2_with fail; refine bodyPost_ret (results_cc (ty := 88) (uy := 129) rfl _ w10 w.heap.size (w.heap.size + 1) _ _ _ _ _ _ _ _ rfl HS3.o.2.1 Tryz.underlying88 rfl token_size rfl HS3.o.2.2 Tryz.underlying129 rfl fault_size) rfl ?_; refine ⟨⟨_, _, _, _, _, _, _, rfl, ?_⟩, HS3.o.1⟩; rw [HR2.o]; exact ⟨rfl, rfl, rfl, HSS.o, rfl, HZ.o⟩
   ·rw [if_neg h39, HCR.o] at hr; have e1 : ((s[0].toNat : Int) == 39) = false := by rw [HC0.o]; exact beq_eq_false_iff_ne.2 (by omega)
    have hsg := p_sign s w1 hs0 (by omega); rw [HCR.o] at hsg; have hsn := signN_le (c :: r); obtain ⟨N, hN⟩ : ∃ N, N = signN (c :: r) := ⟨_, rfl⟩; rw [← hN] at hsg hr hsn; have HSG := hyd hsg; have HR := hyd hr; clear hsg hr hln hl h39 hN; go_wp2_with fail; refine HCALL.o.mono ?_; rintro e w2 ⟨rfl, rfl⟩; go_wp2_with fail; refine HCALL2.o.mono ?_; rintro e w2 ⟨rfl, rfl⟩; go_wp2_with fail; refine HSG.o.mono ?_; rintro e w2 ⟨⟨S, rfl, hS⟩, hk2⟩; have h2 := HST.o.keep hk2; have HB2 := hyd h2
    have hsz : S.size = N := by
     have h1 : S.data.toList.length = S.size := by simp
     rw [hS, List.length_take] at h1
     omega
    have HSS := hyd hS; have HSZ := hyd hsz; obtain ⟨⟨c0, c1, c2, c3, c4⟩, f0, f1, f2, f3, f4⟩ := cells5b h2.2.1; obtain ⟨d0, d1, g0, g1, -⟩ := cells2b h2.2.2; clear h2 hk2 hS hsz
    by_cases hz : S.size = 0
    ·have hr := HR.o; rw [if_pos (by rw [← HSZ.o]; exact hz)] at hr; have HR2 := hyd hr; have hz' : ((S.size : Int) == 0) = true := by simp [hz]
     clear hr hz; go_upto_region 25 with fail; have h8 : TwoB w (((((w2.setCell ⟨w.heap.size, 0, none⟩ (.int .i64 5)).setCell ⟨w.heap.size, 2, none⟩ (.string S)).setCell ⟨w.heap.size, 4, none⟩ (.int .i64 (S.size : Nat))).setCell ⟨(w.heap.size + 1), 0, none⟩ (.int .i64 100)).setCell ⟨(w.heap.size + 1), 1, none⟩ (.int .i64 0)) (.cells #[.int .i64 5, .int .i64 0, .string S, .int .i64 0, .int .i64 (S.size : Nat)] 88 (0, 0)) (.cells #[.int .i64 100, .int .i64 0] 129 (0, 0)) := (((((HB2.o.tok 0 _).tok 2 _).tok 4 _).fau 0 _).fau 1 _); have HB8 := hyd h8; clear h8 c0 c1 c2 c3 c4 f0 f1 f2 f3 f4 d0 d1 g0 g1; generalize (((((w2.setCell ⟨w.heap.size, 0, none⟩ (.int .i64 5)).setCell ⟨w.heap.size, 2, none⟩ (.string S)).setCell ⟨w.heap.size, 4, none⟩ (.int .i64 (S.size : Nat))).setCell ⟨(w.heap.size + 1), 0, none⟩ (.int .i64 100)).setCell ⟨(w.heap.size + 1), 1, none⟩ (.int .i64 0)) = wb8 at *; refine wp_region_held_drew (S := fun w' => TwoB w w' (.cells #[.int .i64 5, .int .i64 0, .string S, .int .i64 0, .int .i64 (S.size : Nat)] 88 (0, 0)) (.cells #[.int .i64 100, .int .i64 0] 129 (0, 0))) (by kernel_rfl) (HB8.o.keep ((Keep.refl [] wb8).drew)) (fun hHeld => ?_); have HS0 := hyd hHeld; clear hHeld; have hHeld := HS0.o; generalize wb8.drew = w8 at *; refine tkL 0 ?vSN0 rfl ?runSN0 hHeld ?_
     case runSN0 => (intro w9 hS9; obtain ⟨⟨c0, c1, c2, c3, c4⟩, f0, f1, f2, f3, f4⟩ := cells5b hS9.2.1; obtain ⟨d0, d1, -⟩ := cells2b hS9.2.2; go_simp; try exact rfl)
     try simp only [Act.put, lA, lZ, lS]
     refine tkL 1 ?vSN1 rfl ?runSN1 hHeld ?_
     case runSN1 => (intro w9 hS9; obtain ⟨⟨c0, c1, c2, c3, c4⟩, f0, f1, f2, f3, f4⟩ := cells5b hS9.2.1; obtain ⟨d0, d1, -⟩ := cells2b hS9.2.2; go_simp; try exact rfl)
     try simp only [Act.put, lA, lZ, lS]
     obtain ⟨⟨c0, c1, c2, c3, c4⟩, f0, f1, f2, f3, f4⟩ := cells5b HS0.o.2.1; refine rdH 2 rfl (fun K hK => ?_); go_simp; have hS2 : TwoB w (((((w8.setCell ⟨w.heap.size, 0, none⟩ (.int .i64 5)).setCell ⟨w.heap.size, 1, none⟩ (.int .i64 0)).setCell ⟨w.heap.size, 2, none⟩ (.string S)).setCell ⟨w.heap.size, 3, none⟩ (.int .i64 0)).setCell ⟨w.heap.size, 4, none⟩ (.int .i64 (S.size : Nat))) (.cells #[.int .i64 5, .int .i64 0, .string S, .int .i64 0, .int .i64 (S.size : Nat)] 88 (0, 0)) (.cells #[.int .i64 100, .int .i64 0] 129 (0, 0)) := (((((HS0.o.tok 0 _).tok 1 _).tok 2 _).tok 3 _).tok 4 _); have HS2 := hyd hS2; clear hS2 hHeld c0 c1 c2 c3 c4 f0 f1 f2 f3 f4; refine hK.out _ _ HS2.o (fun hHeld => ?_); clear hK K; generalize (((((w8.setCell ⟨w.heap.size, 0, none⟩ (.int .i64 5)).setCell ⟨w.heap.size, 1, none⟩ (.int .i64 0)).setCell ⟨w.heap.size, 2, none⟩ (.string S)).setCell ⟨w.heap.size, 3, none⟩ (.int .i64 0)).setCell ⟨w.heap.size, 4, none⟩ (.int .i64 (S.size : Nat))) = w9 at *
     try simp only [Act.put, lA, lZ, lS]
     obtain ⟨c0, c1, f0, f1, -⟩ := cells2b HS2.o.2.2; refine rdH 3 rfl (fun K hK => ?_); go_simp; have hS3 : TwoB w ((w9.setCell ⟨(w.heap.size + 1), 0, none⟩ (.int .i64 100)).setCell ⟨(w.heap.size + 1), 1, none⟩ (.int .i64 0)) (.cells #[.int .i64 5, .int .i64 0, .string S, .int .i64 0, .int .i64 (S.size : Nat)] 88 (0, 0)) (.cells #[.int .i64 100, .int .i64 0] 129 (0, 0)) := ((HS2.o.fau 0 _).fau 1 _); have HS3 := hyd hS3; clear hS3 hHeld c0 c1 f0 f1; refine hK.out _ _ HS3.o (fun hHeld => ?_); clear hK K hHeld; generalize ((w9.setCell ⟨(w.heap.size + 1), 0, none⟩ (.int .i64 100)).setCell ⟨(w.heap.size + 1), 1, none⟩ (.int .i64 0)) = w10 at *
     try simp only [Act.put, lA, lZ, lS]
     refine wpAnyH_done (by kernel_rfl) ?_ _; go_wp2_with fail; refine bodyPost_ret (results_cc (ty := 88) (uy := 129) rfl _ w10 w.heap.size (w.heap.size + 1) _ _ _ _ _ _ _ _ rfl HS3.o.2.1 Tryz.underlying88 rfl token_size rfl HS3.o.2.2 Tryz.underlying129 rfl fault_size) rfl ?_; refine ⟨⟨_, _, _, _, _, _, _, rfl, ?_⟩, HS3.o.1⟩; rw [HR2.o]; exact ⟨rfl, rfl⟩
    ·have hr := HR.o; rw [if_neg (by rw [← HSZ.o]; exact hz)] at hr; have HR2 := hyd hr; have hz' : ((S.size : Int) == 0) = false := beq_eq_false_iff_ne.2 (by omega); clear hr; go_upto_region 25 with fail; have h8 : TwoB w (((w2.setCell ⟨w.heap.size, 0, none⟩ (.int .i64 5)).setCell ⟨w.heap.size, 2, none⟩ (.string S)).setCell ⟨w.heap.size, 4, none⟩ (.int .i64 (S.size : Nat))) (.cells #[.int .i64 5, .int .i64 0, .string S, .int .i64 0, .int .i64 (S.size : Nat)] 88 (0, 0)) (.cells #[.int .i64 0, .int .i64 0] 129 (0, 0)) := (((HB2.o.tok 0 _).tok 2 _).tok 4 _); have HB8 := hyd h8; clear h8 c0 c1 c2 c3 c4 f0 f1 f2 f3 f4 d0 d1 g0 g1; generalize (((w2.setCell ⟨w.heap.size, 0, none⟩ (.int .i64 5)).setCell ⟨w.heap.size, 2, none⟩ (.string S)).setCell ⟨w.heap.size, 4, none⟩ (.int .i64 (S.size : Nat))) = wb8 at *; refine wp_region_held_drew (S := fun w' => TwoB w w' (.cells #[.int .i64 5, .int .i64 0, .string S, .int .i64 0, .int .i64 (S.size : Nat)] 88 (0, 0)) (.cells #[.int .i64 0, .int .i64 0] 129 (0, 0))) (by kernel_rfl) (HB8.o.keep ((Keep.refl [] wb8).drew)) (fun hHeld => ?_); have HS0 := hyd hHeld; clear hHeld; have hHeld := HS0.o; generalize wb8.drew = w8 at *; refine tkL 0 ?vSK0 rfl ?runSK0 hHeld ?_
     case runSK0 => (intro w9 hS9; obtain ⟨⟨c0, c1, c2, c3, c4⟩, f0, f1, f2, f3, f4⟩ := cells5b hS9.2.1; obtain ⟨d0, d1, -⟩ := cells2b hS9.2.2; go_simp; try exact rfl)
     try simp only [Act.put, lA, lZ, lS]
     refine tkL 1 ?vSK1 rfl ?runSK1 hHeld ?_
     case runSK1 => (intro w9 hS9; obtain ⟨⟨c0, c1, c2, c3, c4⟩, f0, f1, f2, f3, f4⟩ := cells5b hS9.2.1; obtain ⟨d0, d1, -⟩ := cells2b hS9.2.2; go_simp; try exact rfl)
     try simp only [Act.put, lA, lZ, lS]
     obtain ⟨⟨c0, c1, c2, c3, c4⟩, f0, f1, f2, f3, f4⟩ := cells5b HS0.o.2.1; refine rdH 2 rfl (fun K hK => ?_); go_simp; have hS2 : TwoB w (((((w8.setCell ⟨w.heap.size, 0, none⟩ (.int .i64 5)).setCell ⟨w.heap.size, 1, none⟩ (.int .i64 0)).setCell ⟨w.heap.size, 2, none⟩ (.string S)).setCell ⟨w.heap.size, 3, none⟩ (.int .i64 0)).setCell ⟨w.heap.size, 4, none⟩ (.int .i64 (S.size : Nat))) (.cells #[.int .i64 5, .int .i64 0, .string S, .int .i64 0, .int .i64 (S.size : Nat)] 88 (0, 0)) (.cells #[.int .i64 0, .int .i64 0] 129 (0, 0)) := (((((HS0.o.tok 0 _).tok 1 _).tok 2 _).tok 3 _).tok 4 _); have HS2 := hyd hS2; clear hS2 hHeld c0 c1 c2 c3 c4 f0 f1 f2 f3 f4; refine hK.out _ _ HS2.o (fun hHeld => ?_); clear hK K; generalize (((((w8.setCell ⟨w.heap.size, 0, none⟩ (.int .i64 5)).setCell ⟨w.heap.size, 1, none⟩ (.int .i64 0)).setCell ⟨w.heap.size, 2, none⟩ (.string S)).setCell ⟨w.heap.size, 3, none⟩ (.int .i64 0)).setCell ⟨w.heap.size, 4, none⟩ (.int .i64 (S.size : Nat))) = w9 at *
     try simp only [Act.put, lA, lZ, lS]
     obtain ⟨c0, c1, f0, f1, -⟩ := cells2b HS2.o.2.2; refine rdH 3 rfl (fun K hK => ?_); go_simp; have hS3 : TwoB w ((w9.setCell ⟨(w.heap.size + 1), 0, none⟩ (.int .i64 0)).setCell ⟨(w.heap.size + 1), 1, none⟩ (.int .i64 0)) (.cells #[.int .i64 5, .int .i64 0, .string S, .int .i64 0, .int .i64 (S.size : Nat)] 88 (0, 0)) (.cells #[.int .i64 0, .int .i64 0] 129 (0, 0)) := ((HS2.o.fau 0 _).fau 1 _); have HS3 := hyd hS3; clear hS3 hHeld c0 c1 f0 f1; refine hK.out _ _ HS3.o (fun hHeld => ?_); clear hK K hHeld; generalize ((w9.setCell ⟨(w.heap.size + 1), 0, none⟩ (.int .i64 0)).setCell ⟨(w.heap.size + 1), 1, none⟩ (.int .i64 0)) = w10 at *
     try simp only [Act.put, lA, lZ, lS]
     refine wpAnyH_done (by kernel_rfl) ?_ _; go_wp2_with fail; refine bodyPost_ret (results_cc (ty := 88) (uy := 129) rfl _ w10 w.heap.size (w.heap.size + 1) _ _ _ _ _ _ _ _ rfl HS3.o.2.1 Tryz.underlying88 rfl token_size rfl HS3.o.2.2 Tryz.underlying129 rfl fault_size) rfl ?_; refine ⟨⟨_, _, _, _, _, _, _, rfl, ?_⟩, HS3.o.1⟩; rw [HR2.o]; exact ⟨rfl, rfl, rfl, HSS.o, rfl, by rw [HSZ.o]⟩
theorem src_blk {P : Program} {w : World} {T e : TypeId} {k b : Nat} {xs : List Value} {t : TypeId} (hk : P.underlying T = some (.slice e)) (hb : w.heap[b]? = some (.cells xs.toArray t)) (hl : xs.length = 1 * k) (h1 : ∀ u ∈ xs, u.oneCell' = true) : Src P k T (.slice (some ⟨b, 0, none⟩) 1 1) 1 xs w :=
 Src.ofSlice w hk ⟨b, 0, none⟩ 1 1 xs hl (fun j u hj => by
   have hadd : (⟨b, 0, none⟩ : Addr).add j = ⟨b, j, none⟩ := by unfold Addr.add; split <;> simp_all
   rw [hadd]; simp [World.cell?, hb]
   exact hj) h1
theorem tok_info : (Tryz.prog.info? 88).map (fun i => (i.zero, i.size, i.bytes)) = some (some (.agg #[.int .i64 0, .int .i64 0, .string ⟨#[]⟩, .int .i64 0, .int .i64 0]), 5, 48) := by kernel_rfl
def encT (x : Tk × Nat) : List Value := [.int .i64 x.1.kind, .int .i64 x.1.num, .string ⟨x.1.text.toArray⟩, .int .i64 (x.2 : Nat), .int .i64 (x.2 + x.1.en : Nat)]
def RowT (w : World) (v : Value) (ts : List (Tk × Nat)) (o : Option Nat) : Prop := Row w 88 5 v ts.length (ts.flatMap encT) o
theorem RowT.slice {w : World} {v : Value} {ts : List (Tk × Nat)} {o : Option Nat} (h : RowT w v ts o) : ∃ a c, v = .slice a ts.length c := by
 obtain ⟨-, ⟨-, h, hn⟩ | ⟨_, _, _, _, -, h, -⟩⟩ := h
 ·exact ⟨none, 0, by rw [h, hn]⟩
 ·exact ⟨_, _, h⟩
def prepT (ts : List (Tk × Nat)) : Except (Int × Nat) (List (Tk × Nat)) → Except (Int × Nat) (List (Tk × Nat))
 | .ok us => .ok (ts ++ us)
 | .error x => .error x
def ScanP (w : World) (big : Bool) (R : Except (Int × Nat) (List (Tk × Nat))) (e : Ending) (w' : World) : Prop :=
 (if big then e = .returned (.tuple #[.slice none 0 0, .int .i64 1, .int .i64 0]) else
   match R with
   | .ok ts => ∃ v o, e = .returned (.tuple #[v, .int .i64 0, .int .i64 0]) ∧ RowT w' v ts o ∧ ∀ b, o = some b → w.heap.size ≤ b
   | .error p => e = .returned (.tuple #[.slice none 0 0, .int .i64 p.1, .int .i64 (p.2 : Nat)])) ∧ Keep [] w w'
def ScanI (w : World) (l : List UInt8) (R : Except (Int × Nat) (List (Tk × Nat))) (k : Nat) (v : Value) (wr : World) : Prop :=
 ∃ ts o, RowT wr v ts o ∧ (∀ b, o = some b → w.heap.size ≤ b) ∧ Keep [] w wr ∧ R = prepT ts (scanL (l.drop k) k) ∧ ts.length ≤ k
theorem scan_run : ∀ (u v : List UInt8) (a : Nat), (∀ x ∈ u, blankB x = true) → scanL (u ++ v) a = scanL v (a + u.length)
 | [], v, a, _ => rfl
 | c :: u, v, a, h => by
  rw [List.cons_append, scanL_blank _ _ (h c (by simp)), scan_run u v (a + 1) (fun x hx => h x (by simp [hx]))]; simp [Nat.add_assoc, Nat.add_comm 1]
theorem tw_drop (p : UInt8 → Bool) (l : List UInt8) : l.drop (l.takeWhile p).length = l.dropWhile p := by
 conv => lhs; rw [← List.takeWhile_append_dropWhile (p := p) (l := l)]
 have : ∀ (x y z : List UInt8), z = x → (x ++ y).drop z.length = y := fun x y z h => by subst h; simp
 exact this _ _ _ (by rw [List.takeWhile_append_dropWhile])
theorem scan_blanks (l : List UInt8) (a : Nat) : scanL l a = scanL (l.drop (l.takeWhile blankB).length) (a + (l.takeWhile blankB).length) := by
 have e : l = l.takeWhile blankB ++ l.drop (l.takeWhile blankB).length := by rw [tw_drop, List.takeWhile_append_dropWhile]
 have h := scan_run (l.takeWhile blankB) (l.drop (l.takeWhile blankB).length) a (tw_all _ _)
 rwa [← e] at h
theorem scan_skip {l : List UInt8} {c : UInt8} {r : List UInt8} (hl : l = c :: r) (hb : blankB c = false) (hc : c.toNat = 37) (a : Nat) : scanL l a = scanL (l.drop (l.takeWhile noNL).length) (a + (l.takeWhile noNL).length) ∧ 1 ≤ (l.takeWhile noNL).length := by
 subst hl; have hp : noNL c = true := by simp [noNL, hc]
 rw [scanL_note r a hb hc, List.takeWhile_cons_of_pos hp]; refine ⟨?_, by simp⟩; have e : a + 1 + (r.takeWhile (fun x : UInt8 => decide (x.toNat ≠ 10))).length = a + ((r.takeWhile noNL).length + 1) := by show a + 1 + (r.takeWhile noNL).length = _; omega
 rw [List.length_cons, List.drop_succ_cons, tw_drop, e]
theorem string_eq {S : ByteArray} {t : List UInt8} (h : S.data.toList = t) : S = ⟨t.toArray⟩ := by cases S; simp at h; subst h; simp
theorem ScanI.push {w w1 w2 : World} {l : List UInt8} {R : Except (Int × Nat) (List (Tk × Nat))} {k g off cap : Nat} {ts : List (Tk × Nat)} {o : Option Nat} {t : Tk} {c : UInt8} {r : List UInt8} (ho : ∀ b, o = some b → w.heap.size ≤ b) (hk : Keep [] w w1)
  (hr : RowT w2 (.slice (some ⟨g, off, none⟩) (ts.length + 1) cap) (ts ++ [(t, k)]) (some g)) (hk2 : Keep o.toList w1 w2) (hg : o = some g ∨ w1.heap.size ≤ g) (hR : R = prepT ts (scanL (l.drop k) k)) (hl : ts.length ≤ k)
  (hc : l.drop k = c :: r) (hb : blankB c = false) (hn : c.toNat ≠ 37) (ht : tokL (l.drop k) = .ok t) : ScanI w l R (k + t.en) (.slice (some ⟨g, off, none⟩) (ts.length + 1) cap) w2 := by
 have hen := tokL_en ht; refine ⟨ts ++ [(t, k)], some g, hr, ?_, hk.trans hk2 (fun x hx => .inr ?_), ?_, by rw [List.length_append]; simp only [List.length_cons, List.length_nil]; omega⟩
 ·rintro b ⟨⟩; rcases hg with h | h
  ·exact ho _ h
  ·have := hk.size; omega
 ·cases o with
  | none => simp at hx
  | some y => simp at hx; subst hx; exact ho _ rfl
 ·rw [hR, hc, scanL_tok r k hb hn, ← hc, ht]; simp only; rw [List.drop_drop]
  cases scanL (l.drop (k + t.en)) (k + t.en) with
  | ok us => simp [prepT]
  | error x => rfl
theorem p_scan (s : ByteArray) (w : World) (he : ErrOk w) (hs : s.size ≤ 140737488355328) : Calls Tryz.prog 59 #[.string s] w (ScanP w (decide (16384 < s.size)) (scanL s.data.toList 0)) := by
 by_cases hbig : 16384 < s.size
 ·have hb' : (16384 : Int) < (s.size : Int) := by omega
  rw [decide_eq_true hbig]; go_enter Tryz.func59, Tryz.ntmps59; go_wp2_with fail; refine bodyPost_ret (results_tmp3 rfl _ _ _) rfl ?_; exact ⟨rfl, Keep.refl _ _⟩
 ·have hb' : ¬ (16384 : Int) < (s.size : Int) := by omega
  rw [decide_eq_false hbig]; obtain ⟨R, hR⟩ : ∃ R, R = scanL s.data.toList 0 := ⟨_, rfl⟩; rw [← hR]; have hst : ScanI w s.data.toList R 0 (.slice none 0 0) w := ⟨[], none, Row.nil _ _ _, by simp, Keep.refl _ _, by rw [List.drop_zero, ← hR]; cases R <;> simp [prepT], Nat.le_refl _⟩; have HST := hyd hst; have hsl : s.data.toList.length = s.size := by simp
  have HSL := hyd hsl; have HE := hyd he; clear hst hsl he hR; obtain ⟨i0, hi, hz0, hz1, hz2⟩ := info_parts tok_info; have HI := hyd hi; clear hi; go_enter Tryz.func59, Tryz.ntmps59; go_wp2_with fail
  go_loopw [2, 4] (fun l i wr => ∃ k : Nat, k ≤ s.size ∧ i = .int .i64 k ∧ ScanI w s.data.toList R k l wr) (fun _ i _ => s.size - (RowKit.intOf i).toNat)
  case atStart => exact ⟨0, Nat.zero_le _, rfl, HST.o⟩
  case round =>
   clear HST; obtain ⟨k, hk, rfl, ts, o, hrow, ho, hkw, hR, hlen⟩ := hrel; obtain ⟨la, lc, rfl⟩ := hrow.slice; have HROW := hyd hrow; have HO := hyd ho; have HKW := hyd hkw; have HR := hyd hR; clear hrow ho hkw hR
   by_cases hlt : k < s.size
   ·have i0' : (0 : Int) ≤ (k : Int) := by omega
    have i1' : (k : Int) < (s.size : Int) := by omega
    have i2' : (k : Int) ≤ (s.size : Int) := by omega
    have hcons : s.data.toList.drop k = s[k] :: s.data.toList.drop (k + 1) := by
     rw [List.drop_eq_getElem_cons (by simpa using hlt), index_at s k hlt]
    have hel : (s.extract k s.size).data.toList = s.data.toList.drop k := by
     simp [ByteArray.data_extract]; rw [List.take_of_length_le (by simp)]
    have hesz : (s.extract k s.size).size = s.size - k := by simp
    have hrun := p_run (s.extract k s.size) ⟨#[32, 9, 10, 13]⟩ wr (by rw [hesz]; omega); have hrn : runN (s.extract k s.size).data.toList [32, 9, 10, 13] = ((s.data.toList.drop k).takeWhile blankB).length := by unfold runN; rw [hel]; simp only [set_blank]
    simp only at hrun; rw [hrn] at hrun; have hbl := scan_blanks (s.data.toList.drop k) k; rw [List.drop_drop] at hbl; have hnle := tw_le blankB (s.data.toList.drop k)
    have hn00 : ((s.data.toList.drop k).takeWhile blankB).length = 0 → blankB s[k] = false := fun h => by
     rw [hcons] at h
     cases hb : blankB s[k] with
     | false => rfl
     | true => rw [List.takeWhile_cons_of_pos hb] at h; simp at h
    obtain ⟨n, hn⟩ : ∃ n, n = ((s.data.toList.drop k).takeWhile blankB).length := ⟨_, rfl⟩; rw [← hn] at hrun hbl hnle hn00; rw [List.length_drop, HSL.o] at hnle; have HRUN := hyd hrun; have HBL := hyd hbl; have HCONS := hyd hcons; clear hrun hrn hbl hn
    by_cases hn0 : 0 < n
    ·have hn0' : (0 : Int) < (n : Int) := by omega
     have hkn : IntKind.i64.wrap ((k : Int) + (n : Int)) = ((k + n : Nat) : Int) := (IntWalk.i64_in _ (by omega)).trans (by omega); clear hesz hcons hn00 hel; go_wp2_with fail; refine HRUN.o.mono ?_; rintro e w2 ⟨rfl, rfl⟩; go_wp2_with fail; go_roundw
     case rel => exact ⟨k + n, by omega, by go_num, ts, o, HROW.o, HO.o, HKW.o, by rw [← HBL.o]; exact HR.o, by omega⟩
     case measure => simp [intOf]; omega
    ·obtain rfl : n = 0 := by omega
     have hbf := hn00 rfl; have HBF := hyd hbf
     by_cases h37 : s[k].toNat = 37
     ·have e1 : ((s[k].toNat : Int) == 37) = true := by simp [h37]
      have hsk := scan_skip hcons hbf h37 k; have hcut := p_cut (s.extract k s.size); unfold CutP at hcut; rw [hel] at hcut; have hmle := tw_le noNL (s.data.toList.drop k); rw [List.length_drop, HSL.o] at hmle; obtain ⟨m, hm⟩ : ∃ m, m = ((s.data.toList.drop k).takeWhile noNL).length := ⟨_, rfl⟩; rw [← hm, List.drop_drop] at hsk; rw [← hm] at hmle; have hm1 := hsk.2; have HSK := hyd hsk.1; have HM := hyd hm; have HCUT := hyd (hcut wr (by rw [hesz]; omega)); have hkm : IntKind.i64.wrap ((k : Int) + (m : Int)) = ((k + m : Nat) : Int) := (IntWalk.i64_in _ (by omega)).trans (by omega); clear hsk hm hcut hbf hn00 h37 hcons hel hesz; go_wp2_with fail; refine HRUN.o.mono ?_; rintro e w2 ⟨rfl, rfl⟩; go_wp2_with fail; refine HCUT.o.mono ?_; rintro e w3 ⟨S, T, b, rfl, hS, hk3⟩
      have hsz : S.size = m := by
       have h1 : S.data.toList.length = S.size := by simp
       rw [← h1, hS, ← HM.o]
      have HK3 := hyd hk3; clear hS hk3; subst hsz; go_wp2_with fail; go_roundw
      case rel => exact ⟨k + S.size, by omega, by go_num, ts, o, Row.keep HROW.o HK3.o (by simp), HO.o, HKW.o.trans HK3.o (by simp), by rw [← HSK.o]; exact HR.o, by omega⟩
      case measure => simp [intOf]; omega
     ·have e1 : ((s[k].toNat : Int) == 37) = false := beq_eq_false_iff_ne.2 (by omega); have htok := p_token (s.extract k s.size) wr (HE.o.keep HKW.o) (by rw [hesz]; omega) (by rw [hesz]; omega); rw [hel] at htok; have HTOK := hyd htok; have H37 := hyd h37; clear htok hbf hn00 h37 hcons hel hesz; go_wp2_with fail; refine HRUN.o.mono ?_; rintro e w2 ⟨rfl, rfl⟩; go_wp2_with fail; refine HTOK.o.mono ?_; rintro e w3 ⟨⟨tk0, tn0, ta0, tz0, S, f0', g0', rfl, hres⟩, hk3⟩; have HK3 := hyd hk3; have hk4 : Keep [] w3 ((w3.alloc (.cells #[.int .i64 tk0, .int .i64 tn0, .string S, .int .i64 ta0, .int .i64 tz0] 88)).alloc (.cells #[.int .i64 f0', .int .i64 g0'] 129)) := ((Keep.refl [] w3).alloc _).alloc _; have hb1 := blkk (heap_alloc_new w3 (.cells #[.int .i64 tk0, .int .i64 tn0, .string S, .int .i64 ta0, .int .i64 tz0] 88)) ((Keep.refl [] _).alloc (.cells #[.int .i64 f0', .int .i64 g0'] 129)); have hb2 := heap_alloc_new (w3.alloc (.cells #[.int .i64 tk0, .int .i64 tn0, .string S, .int .i64 ta0, .int .i64 tz0] 88)) (.cells #[.int .i64 f0', .int .i64 g0'] 129); rw [show (w3.alloc (.cells #[.int .i64 tk0, .int .i64 tn0, .string S, .int .i64 ta0, .int .i64 tz0] 88)).heap.size = w3.heap.size + 1 by simp] at hb2; have HK4 := hyd hk4; have HB1 := hyd hb1; have HB2 := hyd hb2; obtain ⟨⟨c0, c1, c2, c3, c4⟩, f0, f1, f2, f3, f4⟩ := cells5b hb1; obtain ⟨d0, d1, g0, g1, -⟩ := cells2b hb2; clear hk3 hk4 hb1 hb2
      cases htk : tokL (s.data.toList.drop k) with
      | error p =>
       rw [htk] at hres; obtain ⟨hf, hg⟩ := hres; have hpe := tokL_err (e := p.1) (f := p.2) htk; rw [List.length_drop, HSL.o] at hpe; have hne : (f0' != 0) = true := by rw [hf]; rcases hpe.2 with h | h <;> rw [h] <;> rfl
       have hadd : IntKind.i64.wrap ((k : Int) + g0') = (k : Int) + g0' := IntWalk.i64_in _ (by rw [hg]; omega); have hr := HR.o; rw [HCONS.o, scanL_tok _ k HBF.o H37.o, ← HCONS.o, htk] at hr; have HR2 := hyd hr; have HF := hyd hf; have HG := hyd hg; clear hf hg hpe hr htk; go_wp2_with fail; generalize (w3.alloc (.cells #[.int .i64 tk0, .int .i64 tn0, .string S, .int .i64 ta0, .int .i64 tz0] 88)).alloc (.cells #[.int .i64 f0', .int .i64 g0'] 129) = w4 at *; go_quiet (fail); go_wp2_with fail; refine bodyPost_ret (results_tmp3 rfl _ _ _) rfl ?_; refine ⟨?_, ((HKW.o.trans HK3.o (by simp)).trans HK4.o (by simp)).drewN _⟩; rw [HR2.o]; simp only [prepT]; rw [HF.o, HG.o]
       rfl
      | ok t =>
       rw [htk] at hres; obtain ⟨rfl, rfl, rfl, hS, rfl, rfl⟩ := hres; have hS2 := string_eq hS; have hen := tokL_en htk; rw [List.length_drop, HSL.o] at hen; have hadd : IntKind.i64.wrap (((t.en : Nat) : Int) + (k : Int)) = (k : Int) + (t.en : Int) := (IntWalk.i64_in _ (by omega)).trans (by omega); have HS2 := hyd hS2; have HTK := hyd htk; clear hS hS2 htk; go_upto_region 16 with fail; have h7a : Keep [] w3 (((w3.alloc (.cells #[.int .i64 t.kind, .int .i64 t.num, .string S, .int .i64 (k : Nat), .int .i64 ((k : Int) + (t.en : Int))] 88)).alloc (.cells #[.int .i64 0, .int .i64 g0'] 129))) := ((Keep.refl [] w3).alloc _).alloc _; have h7k : Keep [] w (((w3.alloc (.cells #[.int .i64 t.kind, .int .i64 t.num, .string S, .int .i64 (k : Nat), .int .i64 ((k : Int) + (t.en : Int))] 88)).alloc (.cells #[.int .i64 0, .int .i64 g0'] 129))) := (HKW.o.trans HK3.o (by simp)).trans h7a (by simp); have h7r : RowT (((w3.alloc (.cells #[.int .i64 t.kind, .int .i64 t.num, .string S, .int .i64 (k : Nat), .int .i64 ((k : Int) + (t.en : Int))] 88)).alloc (.cells #[.int .i64 0, .int .i64 g0'] 129))) (.slice la ts.length lc) ts o := Row.keep HROW.o (HK3.o.trans h7a (by simp)) (by simp); have h7b : (((w3.alloc (.cells #[.int .i64 t.kind, .int .i64 t.num, .string S, .int .i64 (k : Nat), .int .i64 ((k : Int) + (t.en : Int))] 88)).alloc (.cells #[.int .i64 0, .int .i64 g0'] 129))).heap[w3.heap.size]? = some (.cells #[.int .i64 t.kind, .int .i64 t.num, .string S, .int .i64 (k : Nat), .int .i64 ((k : Int) + (t.en : Int))] 88 (0, 0)) := blkk (heap_alloc_new w3 (.cells #[.int .i64 t.kind, .int .i64 t.num, .string S, .int .i64 (k : Nat), .int .i64 ((k : Int) + (t.en : Int))] 88)) ((Keep.refl [] _).alloc _); clear h7a; have H7K := hyd h7k; have H7R := hyd h7r; clear h7k h7r c0 c1 c2 c3 c4 f0 f1 f2 f3 f4 d0 d1 g0 g1; generalize ((w3.alloc (.cells #[.int .i64 t.kind, .int .i64 t.num, .string S, .int .i64 (k : Nat), .int .i64 ((k : Int) + (t.en : Int))] 88)).alloc (.cells #[.int .i64 0, .int .i64 g0'] 129)) = w7 at *; obtain ⟨⟨c0, c1, c2, c3, c4⟩, -⟩ := cells5b h7b; clear h7b; have t1 := src_blk (P := Tryz.prog) (k := 5) Tryz.underlying46 (heap_alloc_new w7 (.cells #[.int .i64 t.kind, .int .i64 t.num, .string S, .int .i64 (k : Nat), .int .i64 ((k : Int) + (t.en : Int))] 88)) rfl (by intro u hu; simp at hu; rcases hu with rfl | rfl | rfl | rfl | rfl <;> rfl); have t2 : Row (w7.alloc (.cells #[.int .i64 t.kind, .int .i64 t.num, .string S, .int .i64 (k : Nat), .int .i64 ((k : Int) + (t.en : Int))] 88)) 88 5 (.slice la ts.length lc) ts.length (ts.flatMap encT) o := Row.keep H7R.o ((Keep.refl [] w7).alloc _) (by simp); have T1 := hyd t1; have T2 := hyd t2; clear t1 t2
       go_wp2_with (at_builtin; refine wpList_append_row _ rfl _ _ 46 46 rfl 88 i0 (.agg #[.int .i64 0, .int .i64 0, .string ⟨#[]⟩, .int .i64 0, .int .i64 0]) 5 48 Tryz.underlying46 HI.o hz0 hz1 hz2 rfl _ ts.length _ o rfl T2.o _ rfl 1 _ T1.o (by omega) (by first | (unfold maxLen; omega) | (simp [maxLen] <;> omega)) (by omega) ?_)
       intro g off cap w9 hr9 hk9 hg9
       have hr9' : RowT w9 (.slice (some ⟨g, off, none⟩) (ts.length + 1) cap) (ts ++ [(t, k)]) (some g) := by
        unfold RowT; rw [List.flatMap_append, List.length_append]; have e : [(t, k)].flatMap encT = [.int .i64 t.kind, .int .i64 t.num, .string S, .int .i64 (k : Nat), .int .i64 ((k : Int) + (t.en : Int))] := by rw [HS2.o]; simp [encT, Int.natCast_add]
        rw [e]; exact hr9
       have hpush := ScanI.push HO.o H7K.o hr9' (((Keep.refl o.toList w7).alloc _).trans hk9 (fun b hb => .inl hb)) (by
         rcases hg9 with h | h
         · exact .inl h
         · exact .inr (by first | omega | (simp at h; omega))) HR.o hlen HCONS.o HBF.o H37.o HTK.o
       have HPUSH := hyd hpush; clear hr9 hr9' hk9 hg9 hpush T1 T2 c0 c1 c2 c3 c4; go_wp2_with fail; go_roundw
       case rel => exact ⟨k + t.en, by omega, by go_num, HPUSH.o⟩
       case measure => simp [intOf]; omega
   ·obtain rfl : k = s.size := by omega
    have i1' : ¬ (s.size : Int) < (s.size : Int) := by omega
    have hr := HR.o; rw [List.drop_eq_nil_of_le (by simp), scanL_nil] at hr; have HR2 := hyd hr; clear hr; go_wp2_with fail; refine bodyPost_ret (results_tmp3 rfl _ _ _) rfl ?_; refine ⟨?_, HKW.o⟩; rw [HR2.o]; exact ⟨_, o, rfl, by rw [List.append_nil]; exact HROW.o, HO.o⟩
open Go.RowKit Go.Emb Go.Shelf
theorem fun_size : (Tryz.prog.info? 50).map (·.size) = some 1 := by kernel_rfl
def FuncP (lo : Nat) (w : World) (pb : Nat) (s : St) (e : Ending) (w' : World) : Prop :=
 ∃ v l s', e = .returned (.agg #[v]) ∧ Ev funP s l s' ∧ NsR (Frs w.heap.size w') w' true v l ∧ PS lo w' pb s' ∧ s'.toks.length ≤ s.toks.length ∧ Keep [pb] w w'
theorem Ev.of_fun {s s1 : St} {l : List Nd} (h1 : Ev (fun n => clausesL n 2 0) s l s1) : Ev funP s l (mustS sDot s1) := by
 obtain ⟨N, h1⟩ := h1; refine ⟨N, fun n hn => ?_⟩; have h1 : clausesL n 2 0 s = (l, s1) := h1 n hn; show funP n s = (l, mustS sDot s1); unfold funP; simp [doS, bnd, ret, h1]
theorem cells1 {w : World} {q : Nat} {a : Value} {t : TypeId} (h : w.heap[q]? = some (.cells #[a] t (0, 0))) : w.cell? ⟨q, 0, none⟩ = some a := by simp [World.cell?, h]
theorem p_function {lo pb : Nat} {w : World} {s : St} (h : PS lo w pb s) (hlo : lo ≤ w.heap.size) (hd : s.toks.length ≤ 1000000) :
  Calls Tryz.prog 41 #[.pointer (some ⟨pb, 0, none⟩)] w (FuncP lo w pb s) := by
 have hplo := h.plo; have hkA := (Keep.refl [] w).alloc (.cells #[.pointer (some ⟨pb, 0, none⟩)] 76); have hpA := heap_alloc_new w (.cells #[.pointer (some ⟨pb, 0, none⟩)] 76); have hk1 := hkA.alloc (.cells #[.slice none 0 0] 50); have hp1 := blkK hpA ((Keep.refl [] _).alloc (.cells #[.slice none 0 0] 50)) (by simp); have hr1 := heap_alloc_new (w.alloc (.cells #[.pointer (some ⟨pb, 0, none⟩)] 76)) (.cells #[.slice none 0 0] 50); rw [size_alloc] at hr1; have hs1 : ((w.alloc (.cells #[.pointer (some ⟨pb, 0, none⟩)] 76)).alloc (.cells #[.slice none 0 0] 50)).heap.size = w.heap.size + 2 := by rw [size_alloc, size_alloc]
 have c1 := cells1 hp1; have hps1 := h.keep0 hk1; have eg : ∀ args w, (callFunc 61 args).run Tryz.prog w = .ok (.enter 61 args) w := enters_of Tryz.func61 (by kernel_rfl) rfl
 have hcl := p_clauses (k := 2) (d := 0) 61 #[.pointer (some ⟨w.heap.size, 0, none⟩)] eg (fun W2 si cb at_ hk2 hps2 hl2 hle2 hcb2 hb2 => by
   have hp2 := blkK hp1 hk2 (by simp; omega)
   exact w_fun2 (allC lo pb (32 * s.toks.length + 13)) (by omega) hps2 hl2 (by omega) (by omega) hb2 (cells1 hp2) ⟨hlo, by omega⟩) hps1 (Nat.le_trans hlo hk1.size) hd
 have HCL := hyd hcl; have HP1 := hyd hp1; have HR1 := hyd hr1; have HK1 := hyd hk1; have HS1 := hyd hs1; have HN := hyd (And.intro hplo hlo); clear h hplo hlo hd hkA hpA hk1 hp1 hr1 hs1 hps1 eg hcl; go_enter Tryz.func41, Tryz.ntmps41; go_wp2_with fail; refine HCL.o.mono ?_; rintro e w2 ⟨v, l, s2, rfl, hev, hns, hps2, hle, hk2⟩; obtain ⟨q1, q2, rfl⟩ := hns.form; obtain ⟨hplo, hlo⟩ := HN.o; have hs1 := HS1.o; have hr2 := blkK HR1.o hk2 (by simp; omega); have hp2 := blkK HP1.o hk2 (by simp; omega); have hr3 : (w2.setCell ⟨w.heap.size + 1, 0, none⟩ (.slice q1 l.length q2)).heap[w.heap.size + 1]? = some (.cells #[.slice q1 l.length q2] 50 (0, 0)) := by simpa using heap_setCell_at (i := 0) hr2 (.slice q1 l.length q2)
 have hk3 := Keep.set1 w2 ⟨w.heap.size + 1, 0, none⟩ (.slice q1 l.length q2); have hp3 := blkK hp2 hk3 (by simp); have hps3 := hps2.keep hk3 (by simp; omega); rw [hs1] at hns; have hns3 := hns.up hk3 (by simp) (Nat.le_refl _); have hkw3 : Keep [pb] w _ := keepB (lo := w.heap.size) (((HK1.o.mono (G := [pb, w.heap.size + 1]) (by simp)).trans hk2 (by simp)).trans hk3 (by simp)) (by simp) (Nat.le_refl _); have hl3 := Nat.le_trans hlo hkw3.size; have HM := hyd (p_must hps3 hl3 sDot); have g2 := cells1 hr2; have f2 := frozenP hr2; have p2 := cells1 hp2; have g3 := cells1 hr3; have p3 := cells1 hp3; have HR3 := hyd hr3; have HNS3 := hyd hns3; have HKW3 := hyd hkw3; have HEV := hyd hev; have HLE := hyd hle; clear hplo hlo hs1 hr2 hp2 hr3 hk3 hp3 hps3 hns3 hkw3 hl3 hev hns hps2 hle hk2 c1; go_wp2_with fail; refine HM.o.mono ?_; rintro e w4 ⟨rfl, hps4, hk4⟩; obtain ⟨hplo, hlo⟩ := HN.o; have hr4 := blkK HR3.o hk4 (by simp; omega); have hns4 := HNS3.o.up hk4 (by simp; omega) (Nat.le_refl _); have hkw4 := HKW3.o.trans hk4 (by simp); have g4 := cells1 hr4; have f4 := frozenP hr4; have HR4 := hyd hr4; have HNS4 := hyd hns4; have HKW4 := hyd hkw4; have HPS4 := hyd hps4; clear hplo hlo hr4 hns4 hkw4 hps4 hk4 g2 f2 p2 g3 p3; go_wp2_with fail; have hr5 : (w4.setCell ⟨w.heap.size + 1, 0, none⟩ (.slice q1 l.length q2)).heap[w.heap.size + 1]? = some (.cells #[.slice q1 l.length q2] 50 (0, 0)) := by simpa using heap_setCell_at (i := 0) HR4.o (.slice q1 l.length q2)
 have hk5 := Keep.set1 w4 ⟨w.heap.size + 1, 0, none⟩ (.slice q1 l.length q2); refine bodyPost_ret (results_cell_row (ty := 50) rfl _ _ (w.heap.size + 1) _ _ _ _ rfl hr5 Tryz.underlying50 rfl fun_size) rfl ?_; obtain ⟨hplo, hlo⟩ := HN.o; exact ⟨_, l, _, rfl, Ev.of_fun HEV.o, HNS4.o.up hk5 (by simp) (by omega), HPS4.o.keep hk5 (by simp; omega), Nat.le_trans (must_len sDot s2) HLE.o, keepB (lo := w.heap.size) ((HKW4.o.mono (G := [pb, w.heap.size + 1]) (by simp)).trans hk5 (by simp)) (by simp) (Nat.le_refl _)⟩
def beginS (l : List UInt8) : St := match scanL l 0 with
 | .ok ts => ⟨ts, l.length, 0, 0⟩
 | .error p => ⟨[], l.length, p.1, p.2⟩
def BeginP (w : World) (l : List UInt8) (e : Ending) (w' : World) : Prop :=
 ∃ q, e = .returned (.pointer (some ⟨q, 0, none⟩)) ∧ PS (q + 1) w' q (beginS l) ∧ w.heap.size ≤ q ∧ q + 1 = w'.heap.size ∧ Keep [] w w'
theorem LvT.lt {B C : Nat} {w : World} (h : LvT B w) (hBC : B ≤ C) : LvT C w := fun v hv => by
 obtain ⟨sv, o, h1, h2, h3, h4⟩ := h v hv; exact ⟨sv, o, h1, h2, Nat.lt_of_lt_of_le h3 hBC, fun b hb => Nat.lt_of_lt_of_le (h4 b hb) hBC⟩
theorem p_begin (s : ByteArray) (w : World) (he : ErrOk w) (hs : s.size ≤ 16384) (hlv : LvT w.heap.size w) :
  Calls Tryz.prog 40 #[.string s] w (BeginP w s.data.toList) := by
 have hsc := p_scan s w he (by omega); rw [decide_eq_false (show ¬ 16384 < s.size by omega)] at hsc; have HSC := hyd hsc; have HLV := hyd hlv; have hlen : s.data.toList.length = s.size := by simp
 have HLEN := hyd hlen; clear he hlv hsc hlen; go_enter Tryz.func40, Tryz.ntmps40; go_wp2_with fail; refine HSC.o.mono ?_; rintro e w2 ⟨hsc, hk2⟩; rw [if_neg (by decide)] at hsc; have hlv2 := (HLV.o.keep hk2 (by simp)).lt hk2.size; rcases hR : scanL s.data.toList 0 with p | ts
 ·rw [hR] at hsc; simp only at hsc; subst hsc
  have hps : PS (w2.heap.size + 1) (w2.alloc (.cells #[.slice none 0 0, .int .i64 s.size, .int .i64 p.1, .int .i64 (p.2 : Nat)] 79)) w2.heap.size (beginS s.data.toList) := by
   unfold beginS; rw [hR]; simp only; rw [HLEN.o]; exact ⟨⟨_, none, heap_alloc_new w2 _, ⟨rfl, none, 0, rfl, Nat.le_refl _, by simp [maxLen], .inl ⟨rfl, rfl⟩⟩, by simp⟩, by omega, hlv2.keep ((Keep.refl [] w2).alloc _) (by simp)⟩
  have HFIN := hyd (show BeginP w s.data.toList (.returned (.pointer (some ⟨w2.heap.size, 0, none⟩))) (w2.alloc (.cells #[.slice none 0 0, .int .i64 s.size, .int .i64 p.1, .int .i64 (p.2 : Nat)] 79)) from ⟨_, rfl, hps, hk2.size, by rw [size_alloc], hk2.alloc _⟩); clear hps hlv2 hk2 hR; go_wp2_with fail; go_ret; exact HFIN.o
 ·rw [hR] at hsc; simp only at hsc; obtain ⟨v, o, rfl, hrow, ho⟩ := hsc; obtain ⟨a, c, rfl⟩ := hrow.slice; obtain ⟨o', hrd, ho'⟩ := Row.rd hrow; have hlt := Row.lt hrow; have hk3 := (Keep.refl [] w2).alloc (.cells #[.slice a ts.length c, .int .i64 s.size, .int .i64 0, .int .i64 0] 79)
  have hps : PS (w2.heap.size + 1) (w2.alloc (.cells #[.slice a ts.length c, .int .i64 s.size, .int .i64 0, .int .i64 0] 79)) w2.heap.size (beginS s.data.toList) := by
   unfold beginS; rw [hR]; simp only; rw [HLEN.o]
   exact ⟨⟨_, o', heap_alloc_new w2 _, hrd.keep0 hk3, fun b hb => by
     rcases ho' with h | h
     · rw [h] at hb; cases hb
     · rw [h] at hb; have := hlt b hb; omega⟩, by omega, hlv2.keep hk3 (by simp)⟩
  have HFIN := hyd (show BeginP w s.data.toList (.returned (.pointer (some ⟨w2.heap.size, 0, none⟩))) (w2.alloc (.cells #[.slice a ts.length c, .int .i64 s.size, .int .i64 0, .int .i64 0] 79)) from ⟨_, rfl, hps, hk2.size, by rw [size_alloc], hk2.alloc _⟩); clear hps hlv2 hk2 hR hk3 hlt ho' hrd ho hrow; go_wp2_with fail; go_ret; exact HFIN.o
def funsL : Nat → Bool → P (List (List Nd))
 | 0, _ => fun s => ([], failS 999 s)
 | n + 1, b => fun s => if s.err = 0 ∧ (b = true ∨ s.toks ≠ []) then bnd (funP n) (fun f => bnd (funsL n false) fun l => ret (f :: l)) s else ([], s)
theorem Ev.of_funs_stop {b : Bool} {s : St} (h : ¬ (s.err = 0 ∧ (b = true ∨ s.toks ≠ []))) : Ev (fun n => funsL n b) s [] s := by
 refine ⟨1, fun n hn => ?_⟩; obtain ⟨m, rfl⟩ : ∃ m, n = m + 1 := ⟨n - 1, by omega⟩; show funsL (m + 1) b s = ([], s); rw [funsL]; simp only [if_neg h]
theorem Ev.of_funs_go {b : Bool} {s s1 s2 : St} {f : List Nd} {l : List (List Nd)} (h : s.err = 0 ∧ (b = true ∨ s.toks ≠ [])) (h1 : Ev funP s f s1) (h2 : Ev (fun n => funsL n false) s1 l s2) : Ev (fun n => funsL n b) s (f :: l) s2 := by
 obtain ⟨N0, h1⟩ := h1; obtain ⟨N1, h2⟩ := h2; refine ⟨N0 + N1 + 1, fun n hn => ?_⟩; obtain ⟨m, rfl⟩ : ∃ m, n = m + 1 := ⟨n - 1, by omega⟩; have h1 : funP m s = (f, s1) := h1 m (by omega); have h2 : funsL m false s1 = (l, s2) := h2 m (by omega); show funsL (m + 1) b s = (f :: l, s2); rw [funsL]; simp only [if_pos h]; simp [bnd, ret, h1, h2]
theorem Ev.fun_less {s s1 : St} {f : List Nd} (h : Ev funP s f s1) (he : s1.err = 0) : s1.toks.length + 1 ≤ s.toks.length := by
 obtain ⟨N, h⟩ := h; have h0 := h N (Nat.le_refl _); unfold funP bnd doS ret at h0; simp only [Prod.mk.injEq] at h0; obtain ⟨-, h2⟩ := h0; have h3 := ((allG N).clausesL 2 0 s).1; rw [← h2] at he ⊢; obtain ⟨h4, h5, h6⟩ := must_ok he; rw [h6]; have := has_lt h5
 omega
theorem placed_len (z : Nat) : ∀ (ts : List (Tk × Nat)) (a : Nat), a ≤ z → Placed z a ts → a + ts.length ≤ z := by
 intro ts
 induction ts with
 | nil => intro a ha _; simpa using ha
 | cons x r ih =>
  intro a _ h; obtain ⟨t, p⟩ := x; simp only [Placed] at h; have := ih _ h.2.2.1 h.2.2.2; simp only [List.length_cons]
  omega
theorem begin_len (l : List UInt8) : (beginS l).toks.length ≤ l.length := by
 unfold beginS; rcases hR : scanL l 0 with p | ts
 ·simp
 ·have := placed_len _ ts 0 (by omega) (scan_placed ts l 0 hR); simp at this ⊢
  omega
def FsR (S : Nat → Prop) (w : World) (v : Value) (l : List (List Nd)) : Prop :=
 ∃ (es : List Value) (o : Option Nat), Rd w 1 v l.length es o ∧ (∀ x, o = some x → S x) ∧ es.length = l.length ∧ ∀ i (h : i < es.length) (h' : i < l.length), NsR S w true es[i] l[i]
def RowF (lo : Nat) (w : World) (v : Value) (l : List (List Nd)) (o : Option Nat) : Prop :=
 ∃ (es : List Value), Row w 50 1 v l.length es o ∧ es.length = l.length ∧ (∀ i (h : i < es.length) (h' : i < l.length), NsR (FrsX lo w o) w true es[i] l[i]) ∧ ∀ b, o = some b → lo ≤ b
theorem RowF.nil (lo : Nat) (w : World) : RowF lo w (.slice none 0 0) [] none := ⟨[], Row.nil _ _ _, rfl, fun i h => by simp at h, by simp⟩
theorem RowF.lt {lo : Nat} {w : World} {v : Value} {l : List (List Nd)} {o : Option Nat} (h : RowF lo w v l o) : ∀ b, o = some b → b < w.heap.size := by
 obtain ⟨es, h1, -⟩ := h; exact Row.lt h1
theorem RowF.keep {lo : Nat} {w w' : World} {v : Value} {l : List (List Nd)} {o : Option Nat} {F : List Nat} (h : RowF lo w v l o) (hk : Keep F w w') (hF : ∀ b ∈ F, b < lo) : RowF lo w' v l o := by
 obtain ⟨es, h1, h2, h3, h4⟩ := h; exact ⟨es, h1.keep hk (fun b hb hf => absurd (h4 b hb) (by have := hF b hf; omega)), h2, fun i h h' => ((h3 i h h').keep hk (fun b hb h => absurd h.1 (by have := hF b hb; omega))).mono (fun b h => ⟨h.1, Nat.lt_of_lt_of_le h.2.1 hk.size, h.2.2⟩), h4⟩
theorem RowF.form {lo : Nat} {w : World} {v : Value} {l : List (List Nd)} {o : Option Nat} (h : RowF lo w v l o) : ∃ a c, v = .slice a l.length c := by
 obtain ⟨es, h1, -⟩ := h; obtain ⟨o', ⟨-, a, c, hv, -⟩, -⟩ := Row.rd h1; exact ⟨a, c, hv⟩
theorem RowF.push {lo lo' : Nat} {w w' : World} {v' : Value} {l : List (List Nd)} {o : Option Nat} {g : Nat} {cs : Value} {n : List Nd} {es : List Value}
  (he : es.length = l.length) (ht : ∀ i (h : i < es.length) (h' : i < l.length), NsR (FrsX lo w o) w true es[i] l[i]) (ho : ∀ b, o = some b → lo ≤ b) (hx : NsR (Frs lo' w) w true cs n) (hlo : lo ≤ lo') (hlo2 : lo' ≤ w.heap.size) (hol : ∀ b, o = some b → b < lo')
  (hk : Keep o.toList w w') (hg : o = some g ∨ w.heap.size ≤ g) (hr : Row w' 50 1 v' (l.length + 1) (es ++ [cs]) (some g)) : RowF lo w' v' (l ++ [n]) (some g) := by
 have hS : ∀ b, FrsX lo w o b → FrsX lo w' (some g) b := fun b h => ⟨h.1, Nat.lt_of_lt_of_le h.2.1 hk.size, fun e => by
   cases e
   rcases hg with hg | hg
   · exact h.2.2 hg
   · have := h.2.1; omega⟩
 have hX : ∀ b, Frs lo' w b → FrsX lo w' (some g) b := fun b h => ⟨Nat.le_trans hlo h.1, Nat.lt_of_lt_of_le h.2 hk.size, fun e => by
   cases e
   rcases hg with hg | hg
   · have := hol _ hg; have := h.1; omega
   · have := h.2; omega⟩
 refine ⟨es ++ [cs], by simpa using hr, by simp [he], fun i h h' => ?_, fun b hb => ?_⟩
 ·by_cases hi : i < es.length
  ·rw [List.getElem_append_left hi, List.getElem_append_left (by omega)]; exact ((ht i hi (by omega)).keep hk (fun b hb h => by simp at hb; exact h.2.2 hb)).mono hS
  ·obtain rfl : i = es.length := by simp at h; omega
   have e1 : (es ++ [cs])[es.length]'h = cs := by simp
   have e2 : (l ++ [n])[es.length]'h' = n := by rw [List.getElem_append_right (by omega)]; simp [he]
   rw [e1, e2]; exact (hx.keep hk (fun b hb h => by simp at hb; have := hol _ hb; have := h.1; omega)).mono hX
 ·cases hb
  rcases hg with hg | hg
  ·exact ho _ hg
  ·omega
theorem RowF.fs {lo : Nat} {w : World} {v : Value} {l : List (List Nd)} {o : Option Nat} (h : RowF lo w v l o) : FsR (Frs lo w) w v l := by
 have hlt := h.lt; obtain ⟨es, h1, h2, h3, h4⟩ := h; obtain ⟨o', h5, h6⟩ := Row.rd h1; refine ⟨es, o', h5, fun x hx => ?_, h2, fun i h h' => (h3 i h h').mono (fun b hb => ⟨hb.1, hb.2.1⟩)⟩; rcases h6 with h6 | h6
 ·rw [h6] at hx; cases hx
 ·rw [h6] at hx; exact ⟨h4 x hx, hlt x hx⟩
theorem RowF.app {lo lo' : Nat} {w : World} {v : Value} {l : List (List Nd)} {o : Option Nat} {cs : Value} {n : List Nd} (h : RowF lo w v l o) (hx : NsR (Frs lo' w) w true cs n) (hlo : lo ≤ lo') (hlo2 : lo' ≤ w.heap.size) (hol : ∀ b, o = some b → b < lo') (ar : Array Value) (t : TypeId) :
  ∃ es : List Value, Row (w.alloc (.cells ar t)) 50 1 v l.length es o ∧ ∀ g v' w4, Row w4 50 1 v' (l.length + 1) (es ++ [cs]) (some g) → Keep o.toList (w.alloc (.cells ar t)) w4 → (o = some g ∨ (w.alloc (.cells ar t)).heap.size ≤ g) → RowF lo w4 v' (l ++ [n]) (some g) := by
 have hk := (Keep.refl [] w).alloc (.cells ar t); obtain ⟨es, h1, h2, h3, h4⟩ := h.keep hk (by simp); exact ⟨es, h1, fun g v' w4 hr hk4 hg => RowF.push h2 h3 h4 (hx.up hk (by simp) (Nat.le_refl _)) hlo (Nat.le_trans hlo2 hk.size) hol hk4 hg hr⟩
theorem fun_info : (Tryz.prog.info? 50).map (fun i => (i.zero, i.size, i.bytes)) = some (some (.agg #[.slice none 0 0]), 1, 24) := by kernel_rfl
def perr (w : World) (pb : Nat) : Int := RowKit.intOf ((w.cell? ⟨pb, 2, none⟩).getD undef)
def pmeas (w : World) (pb : Nat) : Nat := if perr w pb = 0 then plen w pb + 1 else 0
theorem PS.meas {lo : Nat} {w : World} {pb : Nat} {s : St} (h : PS lo w pb s) : pmeas w pb = if s.err = 0 then s.toks.length + 1 else 0 := by
 have h1 := h.len; obtain ⟨v, o, h2, -⟩ := h.blk; unfold pmeas perr; rw [(cells4p h2).2.2.1, h1]
 rfl
def ProgP (w : World) (bs : List UInt8) (e : Ending) (w' : World) : Prop :=
 ∃ l s', Ev (fun n => funsL n true) (beginS bs) l s' ∧ Keep [] w w' ∧
  ((s'.err = 0 ∧ ∃ v, e = .returned (.tuple #[v, .int .i64 0, .int .i64 0]) ∧ FsR (Frs w.heap.size w') w' v l) ∨ (s'.err ≠ 0 ∧ e = .returned (.tuple #[.slice none 0 0, .int .i64 s'.err, .int .i64 s'.at_])))
theorem FsR.mono {S S' : Nat → Prop} {w : World} {v : Value} {l : List (List Nd)} (h : FsR S w v l) (hs : ∀ b, S b → S' b) : FsR S' w v l := by
 obtain ⟨es, o, h1, h2, h3, h4⟩ := h; exact ⟨es, o, h1, fun x hx => hs x (h2 x hx), h3, fun i h h' => (h4 i h h').mono hs⟩
theorem FsR.keep {S : Nat → Prop} {w w' : World} {v : Value} {l : List (List Nd)} {F : List Nat} (h : FsR S w v l) (hk : Keep F w w') (hs : ∀ b ∈ F, ¬ S b) : FsR S w' v l := by
 obtain ⟨es, o, h1, h2, h3, h4⟩ := h; exact ⟨es, o, h1.keep hk (fun b hb hm => hs b hm (h2 b hb)), h2, h3, fun i h h' => (h4 i h h').keep hk hs⟩
theorem FsR.form {S : Nat → Prop} {w : World} {v : Value} {l : List (List Nd)} (h : FsR S w v l) : ∃ a c, v = .slice a l.length c := by
 obtain ⟨es, o, ⟨-, a, c, h, -⟩, -⟩ := h; exact ⟨a, c, h⟩
theorem p_program (s : ByteArray) (w : World) (he : ErrOk w) (hs : s.size ≤ 16384) (hlv : LvT w.heap.size w) :
  Calls Tryz.prog 12 #[.string s] w (ProgP w s.data.toList) := by
 have hbl := begin_len s.data.toList; have HBL := hyd (show (beginS s.data.toList).toks.length ≤ 16384 by simp at hbl; omega); have HBG := hyd (p_begin s w he hs hlv); obtain ⟨i0, hi0, hz0, hz1, hz2⟩ := info3 fun_info; have HI := hyd hi0; clear he hs hlv hbl hi0; obtain ⟨bs, hbs⟩ : ∃ bs, bs = s.data.toList := ⟨_, rfl⟩; rw [← hbs] at HBL HBG ⊢; clear hbs; go_enter Tryz.func12, Tryz.ntmps12; go_wp2_with fail; refine HBG.o.mono ?_; rintro e w2 ⟨q, rfl, hps2, hq, hq2, hk2⟩; have HPS2 := hyd hps2; have HK2 := hyd hk2; have HQ := hyd (And.intro hq hq2); clear hps2 hk2 hq hq2 HBG; go_wp2_with fail
 go_loopw [2] (fun v wr => ∃ (l : List (List Nd)) (si : St) (o : Option Nat), RowF (q + 1) wr v l o ∧ PS (q + 1) wr q si ∧ Keep [q] w2 wr ∧ (si.err = 0 → l.length + si.toks.length ≤ 16384) ∧ si.toks.length ≤ 16384 ∧ ∀ l' s', Ev (fun n => funsL n (decide (l = []))) si l' s' → Ev (fun n => funsL n true) (beginS bs) (l ++ l') s') (fun _ wr => pmeas wr q)
 case atStart => exact ⟨[], beginS bs, none, RowF.nil _ _, HPS2.o, Keep.refl _ _, by simpa using fun _ => HBL.o, HBL.o, fun l' s' h => by simpa using h⟩
 case round =>
  obtain ⟨l, si, o, hrow, hps, hkw, hlen, htl, hev⟩ := hrel; obtain ⟨pa, pc, rfl⟩ := hrow.form; have HROW := hyd hrow; have HPS := hyd hps; have HKW := hyd hkw; have HLEN := hyd hlen; have HTL := hyd htl; have HEV := hyd hev; have HM := hyd hps.meas; obtain ⟨v, po, hb, ⟨-, ta, tc, rfl, -⟩, -⟩ := hps.blk; obtain ⟨s0, s1, s2, s3⟩ := cells4p hb; clear hrow hps hkw hlen htl hev hb HPS2
  by_cases herr : si.err = 0
  ·have herr' : (si.err == 0) = true := by simp [herr]
   by_cases hgo : l = [] ∨ si.toks ≠ []
   ·have HGO := hyd hgo; have hfn := p_function HPS.o (by have := HKW.o.size; have := HQ.o.2; omega) (by have := HTL.o; omega); have HFN := hyd hfn; clear hfn; have hstart : ∀ wr', wr' = wr → Calls Tryz.prog 41 #[.pointer (some ⟨q, 0, none⟩)] wr' (FuncP (q + 1) wr q si) := fun _ h => by subst h; exact HFN.o
    have HST := hyd hstart; clear hstart; rcases (show (l = [] ∨ (l ≠ [] ∧ si.toks ≠ [])) by rcases hgo with h | h; exact .inl h; by_cases h0 : l = []; exact .inl h0; exact .inr ⟨h0, h⟩) with h0 | ⟨h0, h1⟩
    ·have hl' : ((l.length : Int) == 0) = true := by simp [h0]
     have hlz : l.length = 0 := by simp [h0]
     clear hgo h0; go_wp2_with fail; refine (HST.o wr rfl).mono ?_; rintro e w3 ⟨v, f, sv, rfl, hev2, hns, hps2, hle2, hk3⟩; obtain ⟨va, vc, rfl⟩ := hns.form; have hq2 := HQ.o.2; have hqr := HKW.o.size; have hol : ∀ b, o = some b → b < wr.heap.size := HROW.o.lt; obtain ⟨es, hrow3, hpush⟩ := (HROW.o.keep hk3 (by simp)).app hns (by omega) hk3.size hol #[.slice va f.length vc] 50; have hk4 := (Keep.refl [] w3).alloc (.cells #[.slice va f.length vc] 50); have hsrc := src_lit1 (P := Tryz.prog) w3 [.slice va f.length vc] 1 rfl (by simp [Value.oneCell']) 23 50 50 Tryz.underlying23; have HROW3 := hyd hrow3; have HPUSH := hyd hpush; have HSRC := hyd hsrc; have HPS3 := hyd (hps2.keep0 hk4); have HK3 := hyd ((HKW.o.trans hk3 (by simp)).trans hk4 (by simp)); have hoge : ∀ b, o = some b → q + 1 ≤ b := by obtain ⟨_, -, -, -, h⟩ := HROW.o; exact h
     have HOGE := hyd hoge; have HEV2 := hyd hev2; have HLE2 := hyd hle2; have hlm : l.length ≤ 1000000 := by have := HLEN.o herr; omega
     clear hrow3 hpush hsrc hps2 hk3 hk4 hoge hev2 hle2 hns hol hq2 hqr HST HFN HPS HKW HROW s0 s1 s2 s3 hlz hl'
     go_wp2_with (at_builtin; go_loud (refine wpList_append_row _ rfl _ _ 23 23 rfl 50 i0 _ 1 24 Tryz.underlying23 HI.o hz0 hz1 hz2 rfl _ _ _ o rfl HROW3.o _ rfl 1 _ HSRC.o (by omega) (by unfold maxLen; omega) (by omega) ?_); intro g off cap w4 hr4 hk4 hg4; have hr5 := HPUSH.o g _ w4 hr4 hk4 hg4; have hps4 := HPS3.o.keep hk4 (fun b hb => HOGE.o b (by simpa using hb)); have hk5 : Keep [q] w2 w4 := keepB (lo := w2.heap.size) ((HK3.o.mono (G := q :: o.toList) (by simp)).trans hk4 (fun x hx => .inl (List.mem_cons_of_mem _ hx))) (fun b hb => by simp at hb; rcases hb with rfl | hb; exact .inl rfl; have := HOGE.o b hb; have := HQ.o.2; exact .inr (by omega)) (Nat.le_refl _); have HR5 := hyd hr5; have HPS4 := hyd hps4; have HK5 := hyd hk5; clear hr4 hk4 hg4 hr5 hps4 hk5)
     go_roundw
     case rel =>
      exact ⟨l ++ [f], sv, some g, HR5.o, HPS4.o, HK5.o, fun he2 => by have h3 := HEV2.o.fun_less he2; have := HLEN.o herr; simp; omega, by have := HTL.o; have := HLE2.o; omega, fun l' s' h => by
          have h4 := HEV.o (f :: l') s' (Ev.of_funs_go ⟨herr, by rcases HGO.o with h | h; exact .inl (by simp [h]); exact .inr h⟩ HEV2.o (by simpa using h))
          simpa using h4⟩
     case measure =>
      rw [HPS4.o.meas, HM.o, if_pos herr]
      split
      ·rename_i he2; have h3 := HEV2.o.fun_less he2
       omega
      ·omega
    ·have hl' : ((l.length : Int) == 0) = false := beq_eq_false_iff_ne.2 (by have := List.length_pos_iff.2 h0; omega); have hlz : ¬ (l.length = 0) := by have := List.length_pos_iff.2 h0; omega
     have ht' : (0 : Int) < (si.toks.length : Int) := by have := List.length_pos_iff.2 h1; omega
     have ht2 : 0 < si.toks.length := by have := List.length_pos_iff.2 h1; omega
     clear hgo h0 h1; go_wp2_with fail; refine (HST.o wr rfl).mono ?_; rintro e w3 ⟨v, f, sv, rfl, hev2, hns, hps2, hle2, hk3⟩; obtain ⟨va, vc, rfl⟩ := hns.form; have hq2 := HQ.o.2; have hqr := HKW.o.size; have hol : ∀ b, o = some b → b < wr.heap.size := HROW.o.lt; obtain ⟨es, hrow3, hpush⟩ := (HROW.o.keep hk3 (by simp)).app hns (by omega) hk3.size hol #[.slice va f.length vc] 50; have hk4 := (Keep.refl [] w3).alloc (.cells #[.slice va f.length vc] 50); have hsrc := src_lit1 (P := Tryz.prog) w3 [.slice va f.length vc] 1 rfl (by simp [Value.oneCell']) 23 50 50 Tryz.underlying23; have HROW3 := hyd hrow3; have HPUSH := hyd hpush; have HSRC := hyd hsrc; have HPS3 := hyd (hps2.keep0 hk4); have HK3 := hyd ((HKW.o.trans hk3 (by simp)).trans hk4 (by simp)); have hoge : ∀ b, o = some b → q + 1 ≤ b := by obtain ⟨_, -, -, -, h⟩ := HROW.o; exact h
     have HOGE := hyd hoge; have HEV2 := hyd hev2; have HLE2 := hyd hle2; have hlm : l.length ≤ 1000000 := by have := HLEN.o herr; omega
     clear hrow3 hpush hsrc hps2 hk3 hk4 hoge hev2 hle2 hns hol hq2 hqr HST HFN HPS HKW HROW s0 s1 s2 s3 hlz hl'
     go_wp2_with (at_builtin; go_loud (refine wpList_append_row _ rfl _ _ 23 23 rfl 50 i0 _ 1 24 Tryz.underlying23 HI.o hz0 hz1 hz2 rfl _ _ _ o rfl HROW3.o _ rfl 1 _ HSRC.o (by omega) (by unfold maxLen; omega) (by omega) ?_); intro g off cap w4 hr4 hk4 hg4; have hr5 := HPUSH.o g _ w4 hr4 hk4 hg4; have hps4 := HPS3.o.keep hk4 (fun b hb => HOGE.o b (by simpa using hb)); have hk5 : Keep [q] w2 w4 := keepB (lo := w2.heap.size) ((HK3.o.mono (G := q :: o.toList) (by simp)).trans hk4 (fun x hx => .inl (List.mem_cons_of_mem _ hx))) (fun b hb => by simp at hb; rcases hb with rfl | hb; exact .inl rfl; have := HOGE.o b hb; have := HQ.o.2; exact .inr (by omega)) (Nat.le_refl _); have HR5 := hyd hr5; have HPS4 := hyd hps4; have HK5 := hyd hk5; clear hr4 hk4 hg4 hr5 hps4 hk5)
     go_roundw
     case rel =>
      exact ⟨l ++ [f], sv, some g, HR5.o, HPS4.o, HK5.o, fun he2 => by have h3 := HEV2.o.fun_less he2; have := HLEN.o herr; simp; omega, by have := HTL.o; have := HLE2.o; omega, fun l' s' h => by
          have h4 := HEV.o (f :: l') s' (Ev.of_funs_go ⟨herr, by rcases HGO.o with h | h; exact .inl (by simp [h]); exact .inr h⟩ HEV2.o (by simpa using h))
          simpa using h4⟩
     case measure =>
      rw [HPS4.o.meas, HM.o, if_pos herr]
      split
      ·rename_i he2; have h3 := HEV2.o.fun_less he2
       omega
      ·omega
   ·have hl : l ≠ [] := fun h => hgo (.inl h)
    have ht : si.toks = [] := Classical.byContradiction fun h => hgo (.inr h)
    have hl' : ((l.length : Int) == 0) = false := beq_eq_false_iff_ne.2 (by have := List.length_pos_iff.2 hl; omega); have ht' : ¬ (0 : Int) < (si.toks.length : Int) := by rw [ht]; simp
    have hlz : ¬ (l.length = 0) := by have := List.length_pos_iff.2 hl; omega
    go_wp2_with fail; refine bodyPost_ret (results_tmp3 rfl _ _ _) rfl ?_; have hq := HQ.o; have hev := HEV.o [] si (Ev.of_funs_stop (by simp [hl, ht])); rw [List.append_nil] at hev; exact ⟨l, si, hev, ((HK2.o.mono (G := [q]) (by simp)).trans HKW.o (by simp)).mono (fun b hb hl => by simp at hb; omega), .inl ⟨herr, _, rfl, HROW.o.fs.mono (fun b h => ⟨by have := h.1; omega, h.2⟩)⟩⟩
  ·have herr' : (si.err == 0) = false := beq_eq_false_iff_ne.2 herr; go_wp2_with fail; go_quiet (fail); go_wp2_with fail; refine bodyPost_ret (results_tmp3 rfl _ _ _) rfl ?_; have hq := HQ.o; have hev := HEV.o [] si (Ev.of_funs_stop (by simp [herr])); rw [List.append_nil] at hev; exact ⟨l, si, hev, (((HK2.o.mono (G := [q]) (by simp)).trans HKW.o (by simp)).drewN _).mono (fun b hb hl => by simp at hb; omega), .inr ⟨herr, rfl⟩⟩
theorem results_node_tmp2 {P : Program} {fn : Func} {p t u : Tmp} {ty : TypeId} (h : fn.results = #[.cell p ty, .tmp t, .tmp u]) (tmps : Array Value) (w : World) (g : Nat) (tt : TypeId) (cs : Array Value) (fr : Nat × Nat) (d : TypeDesc)
  (hp : tmps.getD p undef = .pointer (some ⟨g, 0, none⟩)) (hg : w.heap[g]? = some (.cells cs tt fr))
  (hu : P.underlying ty = some d) (hd : (match d with | .struct _ | .array _ _ => true | _ => false) = true) (hi : (P.info? ty).map (·.size) = some cs.size) :
  (results fn tmps).run P w = .ok (.tuple #[.agg cs, tmps.getD t undef, tmps.getD u undef]) w := by
 have hp' : tmps[p]?.getD undef = .pointer (some ⟨g, 0, none⟩) := by simpa using hp
 simp [results, h, hp', asAddr, run_loadVar_row w g tt ty cs fr d hg hu hd hi]
theorem PS.keepZ {lo : Nat} {w w' : World} {pb B : Nat} {s : St} (h : PS lo w pb s) (hb : w.heap[B]? = some zN) (hB : B ≠ pb) (hk : Keep [B] w w') : PS lo w' pb s := by
 obtain ⟨c0, c1, c2, c3, c4, c5, c6⟩ := cells7 hb
 have cx : ∀ i, 7 ≤ i → w.cell? ⟨B, i, none⟩ = none := fun i hi => by
  simp only [World.cell?, hb]; have : (#[Value.int .i64 0, .int .i64 0, .string ⟨#[]⟩, .int .i64 0, .slice none 0 0, .slice none 0 0, .slice none 0 0] : Array Value)[i]? = none := Array.getElem?_eq_none (by simpa using hi); simp [this]
 have h5 : ∀ i v, w.cell? ⟨B, i, none⟩ = some v → i < 7 := fun i v hv => by
  rcases Nat.lt_or_ge i 7 with h | h
  ·exact h
  ·rw [cx i h] at hv; cases hv
 obtain ⟨v, o, h1, h2, h3⟩ := h.blk; refine ⟨⟨v, o, blkK h1 hk (by simpa using Ne.symm hB), ?_, h3⟩, h.plo, fun k hk5 => ?_⟩
 ·obtain ⟨hl, a, c, rfl, e1, e2, e3⟩ := h2; refine ⟨hl, a, c, rfl, e1, e2, ?_⟩; rcases e3 with e3 | ⟨b, off, rfl, rfl, e3⟩
  ·exact .inl e3
  ·refine .inr ⟨b, off, rfl, rfl, fun i hi => ?_⟩; rw [← e3 i hi]
   by_cases hbB : b = B
   ·exfalso
    subst hbB
    match ht : s.toks with
    | [] => rw [ht] at hi; simp at hi
    | x :: r =>
     rw [ht] at e3; have q0 := e3 0 (by simp); have q1 := e3 1 (by simp; omega); have q2 := e3 2 (by simp; omega); have q3 := e3 3 (by simp; omega); have q4 := e3 4 (by simp; omega); simp [encK] at q0 q1 q2 q3 q4; have := h5 _ _ q4; have hoff : off = 0 ∨ off = 1 ∨ off = 2 := by omega
     rcases hoff with rfl | rfl | rfl
     ·rw [show (0 + 4) = 4 from rfl, c4] at q4; cases q4
     ·rw [show (1 + 1) = 2 from rfl, c2] at q1; cases q1
     ·rw [c2] at q0; cases q0
   ·have hlt : b < w.heap.size := by
     rcases Nat.lt_or_ge b w.heap.size with h | h
     ·exact h
     ·exfalso
      have hx := e3 i hi
      have : w.cell? ⟨b, off + i, none⟩ = none := by
       simp only [World.cell?, Array.getElem?_eq_none h]
      rw [this, List.getElem?_eq_getElem (by omega)] at hx
      cases hx
    exact hk.cell (p := ⟨b, off + i, none⟩) hlt (by simpa using hbB)
 ·obtain ⟨sv, so, g1, g2, g3, g4⟩ := h.lv k hk5; obtain ⟨hl, a, c, rfl, e1, e2, e3⟩ := g2
  have hlen : 0 < (levelsL k).length := by
   have hk' : k = 0 ∨ k = 1 ∨ k = 2 ∨ k = 3 ∨ k = 4 := by omega
   rcases hk' with rfl | rfl | rfl | rfl | rfl <;> decide
  have hne : ∀ x ∈ levelsL k, x ≠ [] := by
   have hk' : k = 0 ∨ k = 1 ∨ k = 2 ∨ k = 3 ∨ k = 4 := by omega
   rcases hk' with rfl | rfl | rfl | rfl | rfl <;> decide
  rcases e3 with ⟨e3, e4⟩ | ⟨b, off, rfl, rfl, e3⟩
  ·omega
  have hgB : 0 ≠ B := by
   intro e; rw [e] at g1; have hk' : k = 0 ∨ k = 1 ∨ k = 2 ∨ k = 3 ∨ k = 4 := by omega
   rcases hk' with rfl | rfl | rfl | rfl | rfl
   ·rw [c0] at g1; cases g1
   ·rw [c1] at g1; cases g1
   ·rw [c2] at g1; cases g1
   ·rw [c3] at g1; cases g1
   ·rw [c4] at g1; cases g1
  have hbB : b ≠ B := by
   rintro rfl; have q0 := e3 0 (by omega); rw [Nat.add_zero] at q0; obtain ⟨x, hx⟩ : ∃ x, (levelsL k)[0]? = some x := ⟨(levelsL k)[0], by simp [hlen]⟩; have hx0 := hne x (List.mem_of_getElem? hx); rw [List.getElem?_map, hx] at q0; simp only [Option.map_some, strV] at q0; have := h5 _ _ q0; have hoff : off = 0 ∨ off = 1 ∨ off = 2 ∨ off = 3 ∨ off = 4 ∨ off = 5 ∨ off = 6 := by omega
   rcases hoff with rfl | rfl | rfl | rfl | rfl | rfl | rfl
   ·rw [c0] at q0; cases q0
   ·rw [c1] at q0; cases q0
   ·rw [c2] at q0; simp at q0; exact hx0 (by simpa using q0.symm)
   ·rw [c3] at q0; cases q0
   ·rw [c4] at q0; cases q0
   ·rw [c5] at q0; cases q0
   ·rw [c6] at q0; cases q0
  exact ⟨_, some b, by rw [hk.cell (p := ⟨0, k, none⟩) (World.block_lt_of_cell? _ _ g1) (by simpa using hgB)]; exact g1, (show Rd w 1 _ _ _ _ from ⟨hl, _, c, rfl, e1, e2, .inr ⟨b, off, rfl, rfl, e3⟩⟩).keep hk (fun x hx => by cases hx; simpa using hbB), g3, g4⟩
def ExR (bs : List UInt8) (n : Nd) (s' : St) : Prop :=
 ((beginS bs).err = 0 ∧ ∃ s1, Ev (fun n => expr n 0) (beginS bs) n s1 ∧ s' = if s1.toks = [] then s1 else failS 110 s1) ∨ ((beginS bs).err ≠ 0 ∧ s' = beginS bs)
def ExpP (w : World) (bs : List UInt8) (e : Ending) (w' : World) : Prop :=
 ∃ n s', ExR bs n s' ∧ Keep [] w w' ∧
  ((s'.err = 0 ∧ ∃ cs : List Value, e = .returned (.tuple #[.agg cs.toArray, .int .i64 0, .int .i64 0]) ∧ NdR (Frs w.heap.size w') w' false cs n) ∨
   (s'.err ≠ 0 ∧ e = .returned (.tuple #[.agg #[.int .i64 0, .int .i64 0, .string ⟨#[]⟩, .int .i64 0, .slice none 0 0, .slice none 0 0, .slice none 0 0], .int .i64 s'.err, .int .i64 s'.at_])))
theorem p_expression (s : ByteArray) (w : World) (he : ErrOk w) (hs : s.size ≤ 16384) (hlv : LvT w.heap.size w) :
  Calls Tryz.prog 15 #[.string s] w (ExpP w s.data.toList) := by
 have hbl := begin_len s.data.toList; have HBL := hyd (show (beginS s.data.toList).toks.length ≤ 16384 by simp at hbl; omega); have hk1 := (Keep.refl [] w).alloc zN; have hb1 := heap_alloc_new w zN; have HBG := hyd (p_begin s (w.alloc zN) (he.keep hk1) hs ((hlv.keep hk1 (by simp)).lt hk1.size)); have HB1 := hyd hb1; have HK1 := hyd hk1; clear he hs hlv hbl hk1 hb1; obtain ⟨bs, hbs⟩ : ∃ bs, bs = s.data.toList := ⟨_, rfl⟩; rw [← hbs] at HBL HBG ⊢; clear hbs; obtain ⟨B, hB⟩ : ∃ B, B = w.heap.size := ⟨_, rfl⟩; go_enter Tryz.func15, Tryz.ntmps15; go_wp2_with fail; refine HBG.o.mono ?_; rintro e w2 ⟨q, rfl, hps2, hq, hq2, hk2⟩; rw [size_alloc] at hq; rw [← hB]; rw [← hB] at hq HB1; have hb2 := blkK HB1.o hk2 (by simp); have HB2 := hyd hb2; have HPS2 := hyd hps2; have HK2 := hyd (HK1.o.trans hk2 (by simp)); have HQ := hyd (And.intro hB (And.intro hq hq2)); obtain ⟨pv, po, hpb, ⟨-, ta, tc, rfl, -⟩, -⟩ := hps2.blk; obtain ⟨s0, s1, s2, s3⟩ := cells4p hpb; clear hps2 hk2 hq hq2 HBG hb2 hB HB1 HK1 hpb; go_upto_region 2 with fail; rename_i K_out a_out K_in a_in
 have hcut : ∀ a' w', CutF 38 (fun f wx => f 2 = .pointer (some ⟨B, 0, none⟩) ∧ f 3 = .int .i64 0 ∧ f 4 = .int .i64 0 ∧ f 5 = .pointer (some ⟨q, 0, none⟩) ∧ ∃ (n : Nd) (s' : St) (cs : List Value), ExR bs n s' ∧ wx.heap[B]? = some (.cells cs.toArray 29 (0, 0)) ∧ NdR (Frs (q + 1) wx) wx false cs n ∧ PS (q + 1) wx q s' ∧ Keep [] w wx) a' w' → K_out a' w' := by
  intro a' w' hc; refine a_out _ _ ?_; clear a_out a_in K_in s0 s1 s2 s3; obtain ⟨f, rfl, h2, h3, h4, h5, n, s', cs, hex, hbx, hnd, hps, hkw⟩ := hc.lit; obtain ⟨kindA, numA, atA, nameA, p1A, n1A, c1A, p2A, n2A, c2A, p3A, n3A, c3A, rfl, -⟩ := id hnd.un7s; rw [show ((List.range 38).map f).toArray = #[f 0, f 1, f 2, f 3, f 4, f 5, f 6, f 7, f 8, f 9, f 10, f 11, f 12, f 13, f 14, f 15, f 16, f 17, f 18, f 19, f 20, f 21, f 22, f 23, f 24, f 25, f 26, f 27, f 28, f 29, f 30, f 31, f 32, f 33, f 34, f 35, f 36, f 37] from rfl]; rw [h2, h3, h4, h5]; obtain ⟨pv, po, hpb, ⟨-, ta, tc, rfl, -⟩, -⟩ := hps.blk; obtain ⟨s0, s1, s2, s3⟩ := cells4p hpb; have HEX := hyd hex; have HBX := hyd hbx; have HND := hyd hnd; have HPB := hyd hpb; have HKW := hyd hkw; clear hc h2 h3 h4 h5 hex hbx hnd hps hkw hpb
  by_cases herr : s'.err = 0
  ·have herr' : (s'.err == 0) = true := by simp [herr]
   obtain ⟨d0, d1, d2, d3, d4, d5, d6⟩ := cells7 HBX.o; have f6 := frozenP HBX.o; go_wp2_with fail; obtain ⟨hb7, hk7⟩ := set7 HBX.o (.int .i64 kindA) (.int .i64 numA) (.string ⟨nameA.toArray⟩) (.int .i64 atA) (.slice p1A n1A c1A) (.slice p2A n2A c2A) (.slice p3A n3A c3A); refine bodyPost_ret (results_node_tmp2 (ty := 29) rfl _ _ B _ _ _ _ rfl hb7 Tryz.underlying29 rfl node_size) rfl ?_; obtain ⟨hB, hq, hq2⟩ := HQ.o; exact ⟨n, s', HEX.o, (HKW.o.mono (G := [B]) (by simp)).trans hk7 (by simp) |>.mono (fun b hb hl => by simp at hb; omega), .inl ⟨herr, _, rfl, HND.o.up hk7 (by simp; omega) (by omega)⟩⟩
  ·have herr' : (s'.err == 0) = false := beq_eq_false_iff_ne.2 herr; obtain ⟨d0, d1, d2, d3, d4, d5, d6⟩ := cells7 HBX.o; have f6 := frozenP HBX.o; have hqB : q ≠ B := by have := HQ.o; omega
   go_wp2_with fail; refine wp_regionB [8, 9, 10] (fun w1' => w1'.heap[q]? = some (.cells #[.slice ta s'.toks.length tc, .int .i64 s'.en, .int .i64 s'.err, .int .i64 s'.at_] 79 (0, 0))) (by kernel_rfl) ?_; refine tkY 0 ?vA0 rfl ?runA0 ?_
   case runA0 => (intro w9 _; go_simp; try exact rfl)
   try simp only [Act.put, lA, lZ, lS]
   refine tkY 1 ?vA1 rfl ?runA1 ?_
   case runA1 => (intro w9 _; go_simp; try exact rfl)
   try simp only [Act.put, lA, lZ, lS]
   refine tkY 2 ?vA2 rfl ?runA2 ?_
   case runA2 => (intro w9 _; go_simp; try exact rfl)
   try simp only [Act.put, lA, lZ, lS]
   refine tkY 3 ?vA3 rfl ?runA3 ?_
   case runA3 => (intro w9 _; go_simp; try exact rfl)
   try simp only [Act.put, lA, lZ, lS]
   refine tkY 5 ?vA5 rfl ?runA5 ?_
   case runA5 => (intro w9 _; go_simp; try exact rfl)
   try simp only [Act.put, lA, lZ, lS]
   refine tkY 6 ?vA6 rfl ?runA6 ?_
   case runA6 => (intro w9 _; go_simp; try exact rfl)
   try simp only [Act.put, lA, lZ, lS]
   refine tkY 7 ?vA7 rfl ?runA7 ?_
   case runA7 => (intro w9 _; go_simp; try exact rfl)
   try simp only [Act.put, lA, lZ, lS]
   refine tkB [8, 9] 4 ?vA4 rfl ?runA4 ((blkK HPB.o (Keep.refl [] _).drew (by simp))) ?_
   case runA4 => (intro w9 hS9; obtain ⟨y0, y1, y2, y3⟩ := cells4p hS9; go_simp; try exact rfl)
   try simp only [Act.put, lA, lZ, lS]
   refine tkB [9, 10] 8 ?vA8 rfl ?runA8 ((blkK HPB.o (Keep.refl [] _).drew (by simp))) ?_
   case runA8 => (intro w9 hS9; obtain ⟨y0, y1, y2, y3⟩ := cells4p hS9; go_simp; try exact rfl)
   try simp only [Act.put, lA, lZ, lS]
   obtain ⟨hb7, hk7⟩ := set7 HBX.o (.int .i64 0) (.int .i64 0) (.string ⟨#[]⟩) (.int .i64 0) (.slice none 0 0) (.slice none 0 0) (.slice none 0 0); have hpb7 := blkK (blkK HPB.o hk7 (by simpa using hqB)) (Keep.refl [] _).drew (by simp); refine rdB 9 rfl (fun K hK => ?_); go_simp; refine hK.out _ _ (fun h => hpb7) ?_; clear hK K
   try simp only [Act.put, lA, lZ, lS]
   refine tkB [] 10 ?vA10 rfl ?runA10 (hpb7) ?_
   case runA10 => (intro w9 hS9; obtain ⟨y0, y1, y2, y3⟩ := cells4p hS9; go_simp; try exact rfl)
   try simp only [Act.put, lA, lZ, lS]
   refine tkY 11 ?vA11 rfl ?runA11 ?_
   case runA11 => (intro w9 _; go_simp; try exact rfl)
   try simp only [Act.put, lA, lZ, lS]
   refine wpAnyB_done (by kernel_rfl) ?_ _; clear d0 d1 d2 d3 d4 d5 d6 f6 s0 s1 s2 s3; go_wp2_with fail; have hb8 := blkK hb7 (Keep.refl [] _).drew (by simp); refine bodyPost_ret (results_node_tmp2 (ty := 29) rfl _ _ B _ _ _ _ rfl hb8 Tryz.underlying29 rfl node_size) rfl ?_; obtain ⟨hB, hq, hq2⟩ := HQ.o; exact ⟨n, s', HEX.o, ((HKW.o.mono (G := [B]) (by simp)).trans hk7 (by simp)).drew.mono (fun b hb hl => by simp at hb; omega), .inr ⟨herr, rfl⟩⟩
 have HCUT := hyd hcut; clear hcut a_out
 by_cases herr : (beginS bs).err = 0
 ·have herr' : ((beginS bs).err == 0) = true := by simp [herr]
  have hcall := (allC (q + 1) q (32 * (beginS bs).toks.length + 10)).expr (d := 0) HPS2.o (by have := HQ.o.2.2; omega) (by have := HBL.o; omega) (by omega); have HCALL := hyd hcall; clear hcall; go_wp2_with fail; refine HCALL.o.mono ?_; rintro e w3 ⟨cs, n, t3, rfl, hev3, hnd3, hps3, hle3, hk3⟩; obtain ⟨kindA, numA, atA, nameA, p1A, n1A, c1A, p2A, n2A, c2A, p3A, n3A, c3A, rfl, -⟩ := id hnd3.un7s; obtain ⟨hB, hq, hq2⟩ := HQ.o; have hb3 := blkK HB2.o hk3 (by simp; omega); obtain ⟨d0, d1, d2, d3, d4, d5, d6⟩ := cells7 hb3; have f3 := frozenP hb3; obtain ⟨hb4, hk4⟩ := set7 hb3 (.int .i64 kindA) (.int .i64 numA) (.string ⟨nameA.toArray⟩) (.int .i64 atA) (.slice p1A n1A c1A) (.slice p2A n2A c2A) (.slice p3A n3A c3A); have hps4 := hps3.keepZ hb3 (by omega) hk4; have hnd4 := hnd3.up (lo' := q + 1) hk4 (by simp; omega) (by omega); have hkw4 := (((HK2.o.mono (G := [q, B]) (by simp)).trans hk3 (by simp)).trans hk4 (by simp)).mono (G := []) (fun b hb hl => by simp at hb; omega); obtain ⟨pv, po, hpb4, ⟨-, ta4, tc4, rfl, -⟩, -⟩ := hps4.blk; clear s0 s1 s2 s3; obtain ⟨s0, s1, s2, s3⟩ := cells4p hpb4; have HPS4 := hyd hps4; have HB4 := hyd hb4; have HND4 := hyd hnd4; have HKW4 := hyd hkw4; have HEV3 := hyd hev3; clear hev3 hnd3 hps3 hle3 hk3 hB hq hq2 hb3 hb4 hk4 hps4 hnd4 hkw4 hpb4 HCALL HB2 HPS2 HK2; go_upto_region 4 with fail; generalize (((((((w3.setCell ⟨B, 0, none⟩ (.int .i64 kindA)).setCell ⟨B, 1, none⟩ (.int .i64 numA)).setCell ⟨B, 2, none⟩ (.string ⟨nameA.toArray⟩)).setCell ⟨B, 3, none⟩ (.int .i64 atA)).setCell ⟨B, 4, none⟩ (.slice p1A n1A c1A)).setCell ⟨B, 5, none⟩ (.slice p2A n2A c2A)).setCell ⟨B, 6, none⟩ (.slice p3A n3A c3A)) = w4 at *; clear d0 d1 d2 d3 d4 d5 d6 f3
  by_cases ht : t3.toks = []
  ·have ht' : ¬ (0 : Int) < (t3.toks.length : Int) := by simp [ht]
   go_wp2_with fail; refine HCUT.o _ _ (CutF.mk rfl ⟨rfl, rfl, rfl, rfl, n, t3, _, .inl ⟨herr, t3, HEV3.o, by rw [if_pos ht]⟩, HB4.o, HND4.o, HPS4.o, HKW4.o⟩)
  ·have ht' : (0 : Int) < (t3.toks.length : Int) := by have := List.length_pos_iff.2 ht; omega
   have HF := hyd (p_fails HPS4.o 110); go_wp2_with fail; refine HF.o.mono ?_; rintro e w5 ⟨rfl, hps5, hk5⟩; obtain ⟨hB, hq, hq2⟩ := HQ.o; have hb5 := blkK HB4.o hk5 (by simp; omega); have hnd5 := HND4.o.up hk5 (by simp) (Nat.le_refl _); have hkw5 := ((HKW4.o.mono (G := [q]) (by simp)).trans hk5 (by simp)).mono (G := []) (fun b hb hl => by simp at hb; omega); have HFIN := hyd (And.intro hb5 (And.intro hnd5 (And.intro hps5 hkw5))); clear hb5 hnd5 hkw5 hps5 hk5 hB hq hq2 s0 s1 s2 s3; go_wp2_with fail; exact HCUT.o _ _ (CutF.mk rfl ⟨rfl, rfl, rfl, rfl, n, _, _, .inl ⟨herr, t3, HEV3.o, by rw [if_neg ht]⟩, HFIN.o.1, HFIN.o.2.1, HFIN.o.2.2.1, HFIN.o.2.2.2⟩)
 ·have herr' : ((beginS bs).err == 0) = false := beq_eq_false_iff_ne.2 herr; go_wp2_with fail; exact HCUT.o _ _ (CutF.mk rfl ⟨rfl, rfl, rfl, rfl, nd0, beginS bs, _, .inr ⟨herr, rfl⟩, HB2.o, NdR.mk7 (kind := 0) (num := 0) (name := []) (NsR.nil _ _ false) (NsR.nil _ _ true) (NsR.nil _ _ false), HPS2.o, HK2.o⟩)
theorem NsR.atk {S : Nat → Prop} {w : World} {k : Bool} {a : Option Addr} {n c : Nat} {l : List Nd} (h : NsR S w k (.slice a n c) l) {i : Nat} (hi : i < l.length) :
  ∃ b off cs, a = some ⟨b, off, none⟩ ∧ S b ∧ NdR S w k cs l[i] ∧ ∀ j, j < wid k → w.cell? ⟨b, off + i * wid k + j, none⟩ = cs[j]? := by
 obtain ⟨es, o, ⟨-, a', c', e, h1, h2, h3⟩, hs, hl, ht⟩ := h
 cases e
 rcases h3 with ⟨h3, _⟩ | ⟨b, off, rfl, ho, h3⟩
 ·rw [h3] at hi; simp at hi
 ·have h7 : ∀ e ∈ es, e.length = wid k := fun e he => by
   obtain ⟨j, hj, rfl⟩ := List.mem_iff_getElem.1 he; exact (ht j hj (by omega)).len
  refine ⟨b, off, es[i], rfl, hs b ho, ht i (by omega) hi, fun j hj => ?_⟩; rw [Nat.add_assoc]; have := flat_at es (wid k) h7 i (by omega) j hj; rw [← this]; refine h3 _ ?_; have h9 : (i + 1) * wid k ≤ l.length * wid k := Nat.mul_le_mul_right _ hi; rw [Nat.succ_mul] at h9
  omega
def YesP (w : World) (e : Ending) (w' : World) : Prop := e = .returned (.bool true) ∧ Keep [] w w'
theorem FsR.at1 {S : Nat → Prop} {w : World} {a : Option Addr} {n c : Nat} {l : List (List Nd)} (h : FsR S w (.slice a n c) l) {i : Nat} (hi : i < l.length) :
  ∃ b off v, a = some ⟨b, off, none⟩ ∧ S b ∧ NsR S w true v l[i] ∧ w.cell? ⟨b, off + i, none⟩ = some v := by
 obtain ⟨es, o, ⟨-, a', c', e, h1, h2, h3⟩, hs, hl, ht⟩ := h
 cases e
 rcases h3 with ⟨h3, _⟩ | ⟨b, off, rfl, ho, h3⟩
 ·rw [h3] at hi; simp at hi
 ·exact ⟨b, off, es[i], rfl, hs b ho, ht i (by omega) hi, by rw [h3 i (by omega)]; simp [hl, hi]⟩
open Go.Emb
theorem scan_one {c : UInt8} {r : List UInt8} {a : Nat} {t : Tk} {ts : List (Tk × Nat)} (hb : blankB c = false) (h : c.toNat ≠ 37) (ht : tokL (c :: r) = .ok t) (hs : scanL ((c :: r).drop t.en) (a + t.en) = .ok ts) : scanL (c :: r) a = .ok ((t, a) :: ts) := by
 rw [scanL_tok r a hb h, ht]; simp only; rw [hs]
theorem begin_ok {l : List UInt8} {ts : List (Tk × Nat)} (h : scanL l 0 = .ok ts) : beginS l = ⟨ts, l.length, 0, 0⟩ := by unfold beginS; rw [h]
theorem ExR.go {l : List UInt8} {n : Nd} {s' : St} {ts : List (Tk × Nat)} (h : ExR l n s') (hts : scanL l 0 = .ok ts) : ∃ s1, Ev (fun k => expr k 0) ⟨ts, l.length, 0, 0⟩ n s1 ∧ s' = if s1.toks = [] then s1 else failS 110 s1 := by
 rw [ExR, begin_ok hts] at h; rcases h with ⟨-, s1, hev, hs⟩ | ⟨h0, -⟩
 ·exact ⟨s1, hev, hs⟩
 ·exact absurd rfl h0
end Go.Proofs.YtdmmhfbafinkpaaGreatDoor
