/- ParsePrints: a part of the proof (Sd2, PbP, PbU, Qa, Sd3, Qb, Qc, Qd), squeezed by squeeze.py. -/
import Derived.Test.YtdmmhfbafinkpaaGreatDoorY07
import Derived.Test.YtdmmhfbafinkpaaGreatDoorY00
import Derived.Test.YtdmmhfbafinkpaaGreatDoorY05
import Derived.Test.YtdmmhfbafinkpaaGreatDoorY06
import Derived.Test.YtdmmhfbafinkpaaGreatDoorY01
import Derived.Deep.QuietTactic
import Derived.RegionTactic
import Derived.BigQuiet
set_option maxRecDepth 100000
set_option maxHeartbeats 8000000
namespace Go.Proofs.YtdmmhfbafinkpaaGreatDoor
open Go.RowKit Go.Emb
theorem results_tmp4 {fn : Func} {t u v x : Tmp} (h : fn.results = #[.tmp t, .tmp u, .tmp v, .tmp x]) (tmps : Array Value) (P : Program) (w : World) :
  (results fn tmps).run P w = .ok (.tuple #[tmps.getD t undef, tmps.getD u undef, tmps.getD v undef, tmps.getD x undef]) w := by
 simp [results, h]
def QuoD (s : ByteArray) (at_ : Nat) (w : World) (e : Ending) (w' : World) : Prop :=
 ((∃ er a : Int, e = .returned (.tuple #[.string ⟨#[]⟩, .int .i64 0, .int .i64 er, .int .i64 a]) ∧ er ≠ 0) ∨
   ∃ (nm : List UInt8) (en : Nat), e = .returned (.tuple #[.string ⟨nm.toArray⟩, .int .i64 en, .int .i64 0, .int .i64 0]) ∧ 1 ≤ nm.length ∧ nm.length ≤ 255 ∧ at_ < en ∧ en ≤ s.size) ∧ Keep [] w w'
theorem sd_quoted (s : ByteArray) (hs : s.size ≤ 100000) (at_ : Nat) (ha : at_ < s.size) (w : World) : Calls Tryz.prog 75 #[.string s, .int .i64 at_] w (QuoD s at_ w) := by
 obtain ⟨i0, hi, hz0, hz1, hz2⟩ := info_parts byte_info; have HI := hyd hi; clear hi; have a0 : (at_ : Int) < (s.size : Int) := by omega
 have hR0 : RowB w.heap.size w (.slice none 0 0) [] := ⟨none, Row.nil _ _ _, by simp⟩; have HR0 := hyd hR0; clear hR0; go_enter Tryz.func75, Tryz.ntmps75; go_wp2_with fail
 go_loopw [8, 9] (fun b i wr => ∃ (k : Nat) (bs : List UInt8), at_ < k ∧ k ≤ s.size ∧ bs.length ≤ k ∧ i = .int .i64 k ∧ RowB w.heap.size wr b bs ∧ Keep [] w wr) (fun _ i _ => s.size - (RowKit.intOf i).toNat)
 case atStart => exact ⟨at_ + 1, [], by omega, by omega, by simp, by go_num, HR0.o, Keep.refl _ _⟩
 case round =>
  obtain ⟨k, bs, hka, hk, hbk, rfl, hrow, hkw⟩ := hrel; have HR := hyd hrow; have HKW := hyd hkw; clear hkw HR0; have k0 : (0 : Int) ≤ (k : Int) := by omega
  obtain ⟨va, vc, hform⟩ : ∃ a c, u8 = .slice a bs.length c := by
   obtain ⟨o, ⟨-, ⟨-, h, hn⟩ | ⟨_, _, _, _, -, h, -⟩⟩, -⟩ := hrow
   ·exact ⟨none, 0, by rw [h, hn]⟩
   ·exact ⟨_, _, h⟩
  subst hform
  by_cases hlt : k < s.size
  ·have q1 : ¬ (s.size : Int) ≤ (k : Int) := by omega
   have q2 : (k : Int) < (s.size : Int) := by omega
   obtain ⟨o, hro, ho⟩ := hrow; have HRO := hyd hro; have HO := hyd ho; clear hro ho; go_upto_region 8 with fail; generalize s[k] = c at *; have c0 : (0 : Int) ≤ (c.toNat : Int) := by omega
   have c1 : (c.toNat : Int) ≤ 255 := by have := c.toNat_lt; omega
   by_cases h39 : c.toNat = 39
   ·have g1 : ((c.toNat : Int) == 39) = true := by rw [h39]; rfl
    clear h39
    by_cases hb0 : bs.length < 1
    ·have g2 : (bs.length : Int) < 1 := by omega
     go_wp2_with fail
     (try simp only [Exit.inBlock, Exit.then])
     refine bodyPost_ret (results_tmp4 rfl _ _ _) rfl ?_; exact ⟨.inl ⟨_, _, rfl, by decide⟩, HKW.o⟩
    ·have g2 : ¬ (bs.length : Int) < 1 := by omega
     by_cases hb1 : 255 < bs.length
     ·have g3 : (255 : Int) < (bs.length : Int) := by omega
      go_wp2_with fail
      (try simp only [Exit.inBlock, Exit.then])
      refine bodyPost_ret (results_tmp4 rfl _ _ _) rfl ?_; exact ⟨.inl ⟨_, _, rfl, by decide⟩, HKW.o⟩
     ·have g3 : ¬ (255 : Int) < (bs.length : Int) := by omega
      have hcv := HR.o.text (by omega) Tryz.underlying58 Tryz.underlying5 9 Tryz.underlying9; go_wp2_with fail
      (try simp only [Exit.inBlock, Exit.then])
      refine bodyPost_ret (results_tmp4 rfl _ _ _) rfl ?_; exact ⟨.inr ⟨bs, k + 1, rfl, by omega, by omega, by omega, by omega⟩, HKW.o⟩
   ·have g1 : ((c.toNat : Int) == 39) = false := by simp; omega
    by_cases h92 : c.toNat = 92
    ·have g2 : ((c.toNat : Int) == 92) = true := by rw [h92]; rfl
     clear h39 h92
     by_cases hk1 : k + 1 < s.size
     ·have q3 : ¬ (s.size : Int) ≤ (k : Int) + 1 := by omega
      have q4 : (k : Int) + 1 < (s.size : Int) := by omega
      go_upto_region 17 with fail; generalize s[k + 1] = d at *; have d0 : (0 : Int) ≤ (d.toNat : Int) := by omega
      have d1 : (d.toNat : Int) ≤ 255 := by have := d.toNat_lt; omega
      by_cases hd39 : d.toNat = 39
      ·have g3 : ((d.toNat : Int) == 39) = true := by rw [hd39]; rfl
       clear hd39; have T1 := hyd (src_blk (P := Tryz.prog) (k := 1) Tryz.underlying58 (heap_alloc_new wr (.cells #[.int .u8 d.toNat] 5)) rfl (by intro u hu; simp at hu; subst hu; rfl)); have T2 := hyd (Row.keep HRO.o ((Keep.refl [] wr).alloc (.cells #[.int .u8 d.toNat] 5)) (by simp))
       go_wp2_with (at_builtin; refine wpList_append_row _ rfl _ _ 58 58 rfl 5 i0 (.int .u8 0) 1 1 Tryz.underlying58 HI.o hz0 hz1 hz2 rfl _ bs.length _ o rfl T2.o _ rfl 1 _ T1.o (by omega) (by unfold maxLen; omega) (by omega) ?_)
       intro g off cap w2 hr2 hk2 hg2; obtain ⟨n1, n2⟩ := RowB.next (news := [d]) rfl rfl HO.o (HKW.o.alloc _) (by first | exact HKW.o.size | (have := HKW.o.size; first | omega | (simp; omega))) (Nat.le_refl _) hr2 hk2 (by first | exact hg2 | (rcases hg2 with h | h; (· exact .inl h); exact .inr (by simpa using h))); have HN1 := hyd n1; have HN2 := hyd n2; clear n1 n2 hr2 hk2 hg2 T1 T2; go_wp2_with fail; go_roundw
       case rel => exact ⟨k + 2, bs ++ [d], by omega, by omega, by simp; omega, by go_num, HN1.o, HN2.o⟩
       case measure => simp [intOf]; omega
      ·have g3 : ((d.toNat : Int) == 39) = false := by simp; omega
       by_cases hd92 : d.toNat = 92
       ·have g4 : ((d.toNat : Int) == 92) = true := by rw [hd92]; rfl
        clear hd39 hd92; have T1 := hyd (src_blk (P := Tryz.prog) (k := 1) Tryz.underlying58 (heap_alloc_new wr (.cells #[.int .u8 d.toNat] 5)) rfl (by intro u hu; simp at hu; subst hu; rfl)); have T2 := hyd (Row.keep HRO.o ((Keep.refl [] wr).alloc (.cells #[.int .u8 d.toNat] 5)) (by simp))
        go_wp2_with (at_builtin; refine wpList_append_row _ rfl _ _ 58 58 rfl 5 i0 (.int .u8 0) 1 1 Tryz.underlying58 HI.o hz0 hz1 hz2 rfl _ bs.length _ o rfl T2.o _ rfl 1 _ T1.o (by omega) (by unfold maxLen; omega) (by omega) ?_)
        intro g off cap w2 hr2 hk2 hg2; obtain ⟨n1, n2⟩ := RowB.next (news := [d]) rfl rfl HO.o (HKW.o.alloc _) (by first | exact HKW.o.size | (have := HKW.o.size; first | omega | (simp; omega))) (Nat.le_refl _) hr2 hk2 (by first | exact hg2 | (rcases hg2 with h | h; (· exact .inl h); exact .inr (by simpa using h))); have HN1 := hyd n1; have HN2 := hyd n2; clear n1 n2 hr2 hk2 hg2 T1 T2; go_wp2_with fail; go_roundw
        case rel => exact ⟨k + 2, bs ++ [d], by omega, by omega, by simp; omega, by go_num, HN1.o, HN2.o⟩
        case measure => simp [intOf]; omega
       ·have g4 : ((d.toNat : Int) == 92) = false := by simp; omega
        by_cases hd120 : d.toNat = 120
        ·have g5 : ((d.toNat : Int) == 120) = true := by rw [hd120]; rfl
         clear hd39 hd92 hd120
         by_cases hk3 : k + 3 < s.size
         ·have q5 : (k : Int) + 3 < (s.size : Int) := by omega
          have q6 : (k : Int) + 2 < (s.size : Int) := by omega
          have HX1 := hyd (fun w => sd_hex (s[k + 2]'(by omega)) w); have HX2 := hyd (fun w => sd_hex (s[k + 3]'hk3) w); go_wp2_with fail; refine (HX1.o wr).mono ?_; rintro e wx ⟨⟨g1, rfl, hg1a, hg1b⟩, rfl⟩
          by_cases hg1 : 0 ≤ g1
          ·go_wp2_with fail; refine (HX2.o _).mono ?_; rintro e wx ⟨⟨g2, rfl, hg2a, hg2b⟩, rfl⟩
           by_cases hg2 : 0 ≤ g2
           ·go_wp2_with fail; have hw2 : IntKind.i64.wrap ((k : Int) + 2) = (k : Int) + 2 := IntWalk.i64_in _ (by omega); have hw3 : IntKind.i64.wrap ((k : Int) + 3) = (k : Int) + 3 := IntWalk.i64_in _ (by omega); refine wp_region_held_drew (S := fun w' => Keep o.toList wr w') (by kernel_rfl) ((Keep.refl o.toList wr).drew) (fun hHeld => ?_); refine tkL 0 ?vR0 rfl ?runR0 hHeld ?_
            case runR0 => (intro w9 hS9; go_simp; try exact rfl)
            try simp only [Act.put, lA, lZ, lS]
            refine tkL 1 ?vR1 rfl ?runR1 hHeld ?_
            case runR1 => (intro w9 hS9; go_simp; try exact rfl)
            try simp only [Act.put, lA, lZ, lS]
            refine tkL 2 ?vR2 rfl ?runR2 hHeld ?_
            case runR2 => (intro w9 hS9; go_simp; try exact rfl)
            try simp only [Act.put, lA, lZ, lS]
            refine tkL 3 ?vR3 rfl ?runR3 hHeld ?_
            case runR3 => (intro w9 hS9; go_simp; try exact rfl)
            try simp only [Act.put, lA, lZ, lS]
            refine tkL 4 ?vR4 rfl ?runR4 hHeld ?_
            case runR4 => (intro w9 hS9; go_simp; try exact rfl)
            try simp only [Act.put, lA, lZ, lS]
            refine tkL 7 ?vR7 rfl ?runR7 hHeld ?_
            case runR7 => (intro w9 hS9; go_simp; try exact rfl)
            try simp only [Act.put, lA, lZ, lS]
            refine tkL 8 ?vR8 rfl ?runR8 hHeld ?_
            case runR8 => (intro w9 hS9; go_simp; try exact rfl)
            try simp only [Act.put, lA, lZ, lS]
            refine tkL 9 ?vR9 rfl ?runR9 hHeld ?_
            case runR9 => (intro w9 hS9; go_simp; try exact rfl)
            try simp only [Act.put, lA, lZ, lS]
            refine tkL 10 ?vR10 rfl ?runR10 hHeld ?_
            case runR10 => (intro w9 hS9; go_simp; try exact rfl)
            try simp only [Act.put, lA, lZ, lS]
            refine rdH 5 rfl (fun K hK => ?_); go_simp; refine (HX1.o _).mono ?_; rintro e wx ⟨⟨f1, rfl, hf1a, hf1b⟩, rfl⟩; go_wp2_with fail; refine hK.out _ _ ((Keep.refl o.toList wr).drew) (fun hHeld => ?_); clear hK K
            try simp only [Act.put, lA, lZ, lS]
            have hw6 : IntKind.i64.wrap (16 * f1) = 16 * f1 := IntWalk.i64_in _ (by omega); refine tkL 6 (.int .i64 (16 * f1)) rfl ?runR6 hHeld ?_
            case runR6 => (intro w9 hS9; go_simp; first | done | exact rfl | (simp; omega))
            try simp only [Act.put, lA, lZ, lS]
            refine rdH 11 rfl (fun K hK => ?_); go_simp; refine (HX2.o _).mono ?_; rintro e wx ⟨⟨f2, rfl, hf2a, hf2b⟩, rfl⟩; go_wp2_with fail; refine hK.out _ _ ((Keep.refl o.toList wr).drew) (fun hHeld => ?_); clear hK K
            try simp only [Act.put, lA, lZ, lS]
            have hw12 : IntKind.i64.wrap (16 * f1 + f2) = 16 * f1 + f2 := IntWalk.i64_in _ (by omega); refine tkL 12 (.int .i64 (16 * f1 + f2)) rfl ?runR12 hHeld ?_
            case runR12 => (intro w9 hS9; go_simp; first | done | exact rfl | (simp; omega))
            try simp only [Act.put, lA, lZ, lS]
            obtain ⟨y, hy⟩ : ∃ y : UInt8, (y.toNat : Int) = (16 * f1 + f2) % 256 := ⟨UInt8.ofNat ((16 * f1 + f2) % 256).toNat, by simp; omega⟩; have HYY := hyd hy; clear hy; refine tkL 13 (.int .u8 y.toNat) rfl ?runR13 hHeld ?_
            case runR13 => (intro w9 hS9; go_simp; first | done | exact rfl | exact HYY.o.symm | (rw [HYY.o]; done) | (simp [HYY.o]; done) | (trace_state; sorry))
            try simp only [Act.put, lA, lZ, lS]
            refine rdH 14 rfl (fun K hK => ?_); go_simp; have hA0 : Keep [] wr ((wr.alloc (.cells #[.int .u8 y.toNat] 5)).drew) := ((Keep.refl [] wr).alloc _).drew; have hSB : (wr.alloc (.cells #[.int .u8 y.toNat] 5)).drew.heap[wr.heap.size]? = some (.cells #[.int .u8 y.toNat] 5) := heap_alloc_new wr _; refine hK.out _ _ (((Keep.refl o.toList wr).alloc _).drew) (fun hHeld => ?_); clear hK K
            try simp only [Act.put, lA, lZ, lS]
            generalize (wr.alloc (.cells #[.int .u8 y.toNat] 5)).drew = wq at *; refine rdH 15 rfl (fun K hK => ?_); refine step_append_any (w := wq) (by rfl) _ _ 58 58 (by rfl) 5 5 i0 _ 1 1 Tryz.underlying58 Tryz.underlying58 HI.o hz0 hz1 hz2 rfl (.slice va bs.length vc) bs.length (Lib.byteCells bs) o (by rfl) (HRO.o.keep hA0 (by simp)) (.slice (some ⟨wr.heap.size, 0, none⟩) 1 1) (by rfl) 1 [.int .u8 y.toNat] (some wr.heap.size) (Rd.ofBlock hSB rfl (by simp [maxLen])) (by intro u hu; simp at hu; subst hu; rfl) (by unfold maxLen; omega) (by omega) ?_; intro v2 o2 w2 hr2 hk2 hg2'; refine hK.out _ _ (hHeld.trans hk2 (fun x hx => .inl hx)) (fun hHeld => ?_); clear hK K
            try simp only [Act.put, lA, lZ, lS]
            refine tkL 16 ?vR16 rfl ?runR16 hHeld ?_
            case runR16 => (intro w9 hS9; go_simp; try exact rfl)
            try simp only [Act.put, lA, lZ, lS]
            refine wpAnyH_done (by kernel_rfl) ?_ _
            have hrow2 : RowB w.heap.size w2 v2 (bs ++ [y]) := ⟨o2, by rw [List.length_append]; rw [← byteCells_snoc]; exact hr2, fun b hb => by
              rcases hg2' b hb with h | h
              · exact HO.o b h
              · exact Nat.le_trans (Nat.le_trans HKW.o.size hA0.size) h⟩
            have hkk : Keep [] w w2 := (HKW.o.trans hA0 (by simp)).trans hk2 (fun x hx => .inr (HO.o x (by cases o with | none => simp at hx | some z => simp at hx; rw [hx]))); go_wp2_with fail; go_roundw
            case rel => exact ⟨k + 4, bs ++ [y], by omega, by omega, by simp; omega, by go_num, hrow2, hkk⟩
            case measure => simp [intOf]; omega
           ·go_wp2_with fail
            (try simp only [Exit.inBlock, Exit.then])
            refine bodyPost_ret (results_tmp4 rfl _ _ _) rfl ?_; exact ⟨.inl ⟨_, _, rfl, by decide⟩, HKW.o⟩
          ·go_wp2_with fail
           (try simp only [Exit.inBlock, Exit.then])
           refine bodyPost_ret (results_tmp4 rfl _ _ _) rfl ?_; exact ⟨.inl ⟨_, _, rfl, by decide⟩, HKW.o⟩
         ·have q5 : ¬ (k : Int) + 3 < (s.size : Int) := by omega
          go_wp2_with fail
          (try simp only [Exit.inBlock, Exit.then])
          refine bodyPost_ret (results_tmp4 rfl _ _ _) rfl ?_; exact ⟨.inl ⟨_, _, rfl, by decide⟩, HKW.o⟩
        ·have g5 : ((d.toNat : Int) == 120) = false := by simp; omega
         clear hd39 hd92 hd120; go_wp2_with fail
         (try simp only [Exit.inBlock, Exit.then])
         refine bodyPost_ret (results_tmp4 rfl _ _ _) rfl ?_; exact ⟨.inl ⟨_, _, rfl, by decide⟩, HKW.o⟩
     ·have q3 : (s.size : Int) ≤ (k : Int) + 1 := by omega
      go_wp2_with fail
      (try simp only [Exit.inBlock, Exit.then])
      refine bodyPost_ret (results_tmp4 rfl _ _ _) rfl ?_; exact ⟨.inl ⟨_, _, rfl, by decide⟩, HKW.o⟩
    ·have g2 : ((c.toNat : Int) == 92) = false := by simp; omega
     clear h39 h92
     by_cases h32 : c.toNat < 32
     ·have q3 : (c.toNat : Int) < 32 := by omega
      go_wp2_with fail
      (try simp only [Exit.inBlock, Exit.then])
      refine bodyPost_ret (results_tmp4 rfl _ _ _) rfl ?_; exact ⟨.inl ⟨_, _, rfl, by decide⟩, HKW.o⟩
     ·have q3 : ¬ (c.toNat : Int) < 32 := by omega
      by_cases h126 : 126 < c.toNat
      ·have q4 : (126 : Int) < (c.toNat : Int) := by omega
       go_wp2_with fail
       (try simp only [Exit.inBlock, Exit.then])
       refine bodyPost_ret (results_tmp4 rfl _ _ _) rfl ?_; exact ⟨.inl ⟨_, _, rfl, by decide⟩, HKW.o⟩
      ·have q4 : ¬ (126 : Int) < (c.toNat : Int) := by omega
       have T1 := hyd (src_blk (P := Tryz.prog) (k := 1) Tryz.underlying58 (heap_alloc_new wr (.cells #[.int .u8 c.toNat] 5)) rfl (by intro u hu; simp at hu; subst hu; rfl)); have T2 := hyd (Row.keep HRO.o ((Keep.refl [] wr).alloc (.cells #[.int .u8 c.toNat] 5)) (by simp))
       go_wp2_with (at_builtin; refine wpList_append_row _ rfl _ _ 58 58 rfl 5 i0 (.int .u8 0) 1 1 Tryz.underlying58 HI.o hz0 hz1 hz2 rfl _ bs.length _ o rfl T2.o _ rfl 1 _ T1.o (by omega) (by unfold maxLen; omega) (by omega) ?_)
       intro g off cap w2 hr2 hk2 hg2; obtain ⟨n1, n2⟩ := RowB.next (news := [c]) rfl rfl HO.o (HKW.o.alloc _) (by first | exact HKW.o.size | (have := HKW.o.size; first | omega | (simp; omega))) (Nat.le_refl _) hr2 hk2 (by first | exact hg2 | (rcases hg2 with h | h; (· exact .inl h); exact .inr (by simpa using h))); have HN1 := hyd n1; have HN2 := hyd n2; clear n1 n2 hr2 hk2 hg2 T1 T2; go_wp2_with fail; go_roundw
       case rel => exact ⟨k + 1, bs ++ [c], by omega, by omega, by simp; omega, by go_num, HN1.o, HN2.o⟩
       case measure => simp [intOf]; omega
  ·obtain rfl : k = s.size := by omega
   have q1 : (s.size : Int) ≤ (s.size : Int) := by omega
   clear hrow; go_wp2_with fail
   (try simp only [Exit.inBlock, Exit.then])
   refine bodyPost_ret (results_tmp4 rfl _ _ _) rfl ?_; exact ⟨.inl ⟨_, _, rfl, by decide⟩, HKW.o⟩
open Go.Emb
inductive It where
 | t (k n : Int) (x : List UInt8)
 | b (c : UInt8)
def It.text : It → List UInt8
 | .t k n x => if k = 1 then Lib.itoa n else if k = 2 then nameL x else x
 | .b c => [c]
def flat (l : List It) : List UInt8 := l.flatMap It.text
theorem flat_app (a b : List It) : flat (a ++ b) = flat a ++ flat b := by simp [flat]
theorem flat_cons (a : It) (b : List It) : flat (a :: b) = a.text ++ flat b := by simp [flat]
theorem flat_nil : flat [] = [] := rfl
abbrev sg (c : UInt8) : It := .t 5 0 [c]
abbrev wd (x : List UInt8) : It := .t 4 0 x
abbrev sp : It := .b 32
def sepI (s : List It) : List (List It) → List It
 | [] => []
 | [x] => x
 | x :: y :: r => x ++ s ++ sepI s (y :: r)
def Nd.kind : Nd → Int | .mk k _ _ _ _ _ => k
def opK (n : Nd) : Prop := n.kind = 9 ∨ n.kind = 10 ∨ n.kind = 11 ∨ n.kind = 12
instance (n : Nd) : Decidable (opK n) := by unfold opK; infer_instance
def callK (n : Nd) : Prop := n.kind = 3 ∨ n.kind = 7 ∨ n.kind = 8
instance (n : Nd) : Decidable (callK n) := by unfold callK; infer_instance
def inBr (x : List It) : List It := sg 40 :: x ++ [sg 41]
def operI (n : Nd) (x : List It) : List It := if opK n then inBr x else x
def callI (n : Nd) (x : List It) : List It := if callK n then x else inBr x
abbrev comma : List It := [sg 44]
abbrev commaB : List It := [sg 44, sp]
abbrev semiB : List It := [sg 59, sp]
def tailI (gs bs : List (List It)) : List It := (if gs = [] then [] else sp :: wd sWhen :: sp :: sepI commaB gs) ++ (sp :: .t 5 0 sTo :: sp :: sepI commaB bs)
inductive Pr : Nat → Nd → List It → Prop
 | leaf {k n : Int} {x : List UInt8} (h : TokOk ⟨k, n, x, 0⟩) (h3 : k ≤ 3) : Pr 0 (.mk k n x [] [] []) [.t k n x]
 | tuple {l : List Nd} {ls : List (List It)} (hl : ls.length = l.length) (h : ∀ i (h : i < l.length) (h' : i < ls.length), Pr 0 l[i] ls[i]) : Pr 0 (.mk 4 0 [] l [] []) (sg 123 :: sepI comma ls ++ [sg 125])
 | nil : Pr 0 (.mk 5 0 [] [] [] []) [sg 91, sg 93]
 | cons {a t : Nd} {x r : List It} (ha : Pr 0 a x) (ht : Pr 4 t r) : Pr 0 (.mk 6 0 [] [a, t] [] []) (sg 91 :: x ++ r)
 | rest_nil : Pr 4 (.mk 5 0 [] [] [] []) [sg 93]
 | rest_cons {a t : Nd} {x r : List It} (ha : Pr 0 a x) (ht : Pr 4 t r) : Pr 4 (.mk 6 0 [] [a, t] [] []) (sg 44 :: x ++ r)
 | rest_bar {t : Nd} {x : List It} (ht : Pr 0 t x) (h5 : t.kind ≠ 5) (h6 : t.kind ≠ 6) : Pr 4 t (sg 124 :: x ++ [sg 93])
 | call {nm : List UInt8} {l : List Nd} {ls : List (List It)} (hn : TokOk ⟨2, 0, nm, 0⟩) (hl : ls.length = l.length) (h : ∀ i (h : i < l.length) (h' : i < ls.length), Pr 0 l[i] ls[i]) :
  Pr 0 (.mk 7 0 nm l [] []) (.t 2 0 nm :: sg 40 :: sepI comma ls ++ [sg 41])
 | apply {f : Nd} {x : List It} {l : List Nd} {ls : List (List It)} (hf : Pr 0 f x) (hl : ls.length = l.length) (h : ∀ i (h : i < l.length) (h' : i < ls.length), Pr 0 l[i] ls[i]) :
  Pr 0 (.mk 8 0 [] (f :: l) [] []) (callI f x ++ sg 40 :: sepI comma ls ++ [sg 41])
 | op {k v : Int} {u : Nat} {t : List UInt8} {a b : Nd} {x y : List It} (hu : u < 5) (ht : t ∈ levelsL u) (hk : TokOk ⟨k, v, t, 0⟩) (h4 : 4 ≤ k) (ha : Pr 0 a x) (hb : Pr 0 b y) :
  Pr 0 (.mk 9 0 t [a, b] [] []) (operI a x ++ sp :: .t k v t :: sp :: operI b y)
 | un {k v : Int} {t : List UInt8} {a : Nd} {x : List It} (ht : t ∈ [sMinus, sNot]) (hk : TokOk ⟨k, v, t, 0⟩) (h4 : 4 ≤ k) (ha : Pr 0 a x) : Pr 0 (.mk 10 0 t [a] [] []) (.t k v t :: sp :: operI a x)
 | mat {a b : Nd} {x y : List It} (ha : Pr 0 a x) (hb : Pr 0 b y) : Pr 0 (.mk 11 0 [] [a, b] [] []) (operI a x ++ sp :: sg 61 :: sp :: operI b y)
 | send {a b : Nd} {x y : List It} (ha : Pr 0 a x) (hb : Pr 0 b y) : Pr 0 (.mk 12 0 [] [a, b] [] []) (operI a x ++ sp :: sg 33 :: sp :: operI b y)
 | fn {l : List Nd} {ls : List (List It)} (h0 : l ≠ []) (hl : ls.length = l.length) (h : ∀ i (h : i < l.length) (h' : i < ls.length), Pr 2 l[i] ls[i]) : Pr 0 (.mk 13 0 [] [] l []) (wd sFun :: sepI semiB ls ++ [sp, wd sEnd])
 | case {a : Nd} {x : List It} {l : List Nd} {ls : List (List It)} (ha : Pr 0 a x) (h0 : l ≠ []) (hl : ls.length = l.length) (h : ∀ i (h : i < l.length) (h' : i < ls.length), Pr 1 l[i] ls[i]) :
  Pr 0 (.mk 14 0 [] [a] l []) (wd sCase :: sp :: x ++ sp :: wd sOf :: sp :: sepI semiB ls ++ [sp, wd sEnd])
 | tr {b l : List Nd} {bs ls : List (List It)} (hb0 : b ≠ []) (hbl : bs.length = b.length) (hb : ∀ i (h : i < b.length) (h' : i < bs.length), Pr 0 b[i] bs[i]) (h0 : l ≠ []) (hl : ls.length = l.length) (h : ∀ i (h : i < l.length) (h' : i < ls.length), Pr 1 l[i] ls[i]) :
  Pr 0 (.mk 16 0 [] [] l b) (wd sTry :: sp :: sepI commaB bs ++ sp :: wd sCatch :: sp :: sepI semiB ls ++ [sp, wd sEnd])
 | recv {l : List Nd} {ls : List (List It)} (h0 : l ≠ []) (hl : ls.length = l.length) (h : ∀ i (h : i < l.length) (h' : i < ls.length), Pr 1 l[i] ls[i]) :
  Pr 0 (.mk 15 0 [] [] l []) (wd sReceive :: sp :: sepI semiB ls ++ [sp, wd sEnd])
 | recvA {l b : List Nd} {ls bs : List (List It)} {a : Nd} {x : List It} (hl : ls.length = l.length) (h : ∀ i (h : i < l.length) (h' : i < ls.length), Pr 1 l[i] ls[i]) (ha : Pr 0 a x)
  (hb0 : b ≠ []) (hbl : bs.length = b.length) (hb : ∀ i (h : i < b.length) (h' : i < bs.length), Pr 0 b[i] bs[i]) :
  Pr 0 (.mk 15 0 [] [a] l b) (wd sReceive :: (if ls = [] then [] else sp :: sepI semiB ls) ++ (sp :: wd sAfter :: sp :: x ++ sp :: .t 5 0 sTo :: sp :: sepI commaB bs) ++ [sp, wd sEnd])
 | arm {p : Nd} {x : List It} {g b : List Nd} {gs bs : List (List It)} (hp : Pr 0 p x) (hgl : gs.length = g.length) (hg : ∀ i (h : i < g.length) (h' : i < gs.length), Pr 0 g[i] gs[i])
  (hb0 : b ≠ []) (hbl : bs.length = b.length) (hb : ∀ i (h : i < b.length) (h' : i < bs.length), Pr 0 b[i] bs[i]) : Pr 1 (.mk 0 0 [] [p] g b) (x ++ tailI gs bs)
 | head {p g b : List Nd} {ps gs bs : List (List It)} (hpl : ps.length = p.length) (hp : ∀ i (h : i < p.length) (h' : i < ps.length), Pr 0 p[i] ps[i]) (hgl : gs.length = g.length) (hg : ∀ i (h : i < g.length) (h' : i < gs.length), Pr 0 g[i] gs[i])
  (hb0 : b ≠ []) (hbl : bs.length = b.length) (hb : ∀ i (h : i < b.length) (h' : i < bs.length), Pr 0 b[i] bs[i]) : Pr 2 (.mk 0 0 [] p g b) (sg 40 :: sepI comma ps ++ sg 41 :: tailI gs bs)
 | fhead {nm : List UInt8} {p g b : List Nd} {ps gs bs : List (List It)} (hn : TokOk ⟨2, 0, nm, 0⟩) (hpl : ps.length = p.length) (hp : ∀ i (h : i < p.length) (h' : i < ps.length), Pr 0 p[i] ps[i]) (hgl : gs.length = g.length) (hg : ∀ i (h : i < g.length) (h' : i < gs.length), Pr 0 g[i] gs[i])
  (hb0 : b ≠ []) (hbl : bs.length = b.length) (hb : ∀ i (h : i < b.length) (h' : i < bs.length), Pr 0 b[i] bs[i]) : Pr 3 (.mk 0 0 nm p g b) (.t 2 0 nm :: sg 40 :: sepI comma ps ++ sg 41 :: tailI gs bs)
def tot (ls : List (List It)) : Nat := (ls.map fun x => x.length + 2).sum
theorem tot_cons (x : List It) (ls : List (List It)) : tot (x :: ls) = x.length + 2 + tot ls := by simp [tot]
theorem sep_len (s : List It) (hs : s.length ≤ 2) : ∀ ls : List (List It), (sepI s ls).length ≤ tot ls
 | [] => Nat.zero_le _
 | [x] => by rw [tot_cons]; show x.length ≤ _; omega
 | x :: y :: r => by
  have := sep_len s hs (y :: r); show (x ++ s ++ sepI s (y :: r)).length ≤ _; rw [List.length_append, List.length_append, tot_cons]
  omega
def PL (j : Nat) (l : List Nd) (ls : List (List It)) : Prop := ls.length = l.length ∧ ∀ i (h : i < l.length) (h' : i < ls.length), Pr j l[i] ls[i]
theorem PL.nil (j : Nat) : PL j [] [] := ⟨rfl, fun i h => by simp at h⟩
theorem PL.cons {j : Nat} {a : Nd} {l : List Nd} {x : List It} {ls : List (List It)} (h1 : Pr j a x) (h2 : PL j l ls) : PL j (a :: l) (x :: ls) := by
 refine ⟨by simp [h2.1], fun i h h' => ?_⟩
 cases i with
 | zero => exact h1
 | succ i => exact h2.2 i (by simp at h; omega) (by simp at h'; omega)
theorem oper_len (a : Nd) (x : List It) : (operI a x).length ≤ x.length + 2 := by
 unfold operI inBr; split <;> simp
theorem callI_len (a : Nd) (x : List It) : (callI a x).length ≤ x.length + 2 := by
 unfold callI inBr; split <;> simp
theorem tail_len (gs bs : List (List It)) : (tailI gs bs).length ≤ (if gs = [] then 0 else 3) + 3 + tot gs + tot bs := by
 unfold tailI; have h1 := sep_len commaB (by simp) gs; have h2 := sep_len commaB (by simp) bs
 split <;> simp <;> omega
theorem Pr.rest {e : Nd} {y : List It} (h : Pr 0 e y) : ∃ r, Pr 4 e r ∧ r.length ≤ y.length + 2 := by
 by_cases h5 : e.kind = 5
 ·cases h with
  | nil => exact ⟨_, Pr.rest_nil, by simp⟩
  | leaf h h3 => simp only [Nd.kind] at h5; omega
  | _ => simp [Nd.kind] at h5
 ·by_cases h6 : e.kind = 6
  ·cases h with
   | cons ha ht => exact ⟨_, Pr.rest_cons ha ht, by simp⟩
   | leaf h h3 => simp only [Nd.kind] at h6; omega
   | _ => simp [Nd.kind] at h6
  ·exact ⟨_, Pr.rest_bar h h5 h6, by simp⟩
open Go.RowKit Go.Emb
structure TkD where
 k : Int
 n : Int
 x : List UInt8
 at_ : Int
 en : Int
def encD (t : TkD) : List Value := [.int .i64 t.k, .int .i64 t.n, .string ⟨t.x.toArray⟩, .int .i64 t.at_, .int .i64 t.en]
def TokD (t : TkD) : Prop := (t.k ≤ 3 → TokOk ⟨t.k, t.n, t.x, 0⟩) ∧ (4 ≤ t.k → TokOk ⟨t.k, 0, t.x, 0⟩)
structure DP (lo : Nat) (w : World) (pb : Nat) (l : List TkD) (r : Nat) (e : Int) : Prop where
 blk : ∃ v o en at_, w.heap[pb]? = some (.cells #[v, .int .i64 r, .int .i64 en, .int .i64 e, .int .i64 at_] 48 (0, 0)) ∧ Rd w 5 v l.length (l.flatMap encD) o ∧ ∀ b, o = some b → b < lo ∧ b ≠ pb
 plo : pb < lo
 rl : r ≤ l.length
theorem DP.lt {lo : Nat} {w : World} {pb : Nat} {l : List TkD} {r : Nat} {e : Int} (h : DP lo w pb l r e) : pb < w.heap.size := by
 obtain ⟨v, o, _, _, h, -⟩ := h.blk; exact (Array.getElem?_eq_some_iff.1 h).1
theorem DP.keep {lo : Nat} {w w' : World} {pb : Nat} {l : List TkD} {r : Nat} {e : Int} {F : List Nat} (h : DP lo w pb l r e) (hk : Keep F w w') (hF : ∀ b ∈ F, lo ≤ b) : DP lo w' pb l r e := by
 obtain ⟨v, o, en, at_, h1, h2, h3⟩ := h.blk; have hp := h.plo; exact ⟨⟨v, o, en, at_, blkK h1 hk (fun hm => by have := hF _ hm; omega), h2.keep hk (fun b hb hm => by have := hF _ hm; have := (h3 b hb).1; omega), h3⟩, hp, h.rl⟩
theorem DP.keep0 {lo : Nat} {w w' : World} {pb : Nat} {l : List TkD} {r : Nat} {e : Int} (h : DP lo w pb l r e) (hk : Keep [] w w') : DP lo w' pb l r e := h.keep hk (by simp)
theorem cells5d {w : World} {q : Nat} {a b c d e : Value} {t : TypeId} (h : w.heap[q]? = some (.cells #[a, b, c, d, e] t (0, 0))) : w.cell? ⟨q, 0, none⟩ = some a ∧ w.cell? ⟨q, 1, none⟩ = some b ∧ w.cell? ⟨q, 2, none⟩ = some c ∧ w.cell? ⟨q, 3, none⟩ = some d ∧ w.cell? ⟨q, 4, none⟩ = some e := by
 refine ⟨?_, ?_, ?_, ?_, ?_⟩ <;> simp [World.cell?, h]
theorem tokd_at {w : World} {v : Value} {l : List TkD} {o : Option Nat} (h : Rd w 5 v l.length (l.flatMap encD) o) {r : Nat} (hr : r < l.length) :
  ∃ b off c, v = .slice (some ⟨b, off, none⟩) l.length c ∧ o = some b ∧ w.cell? ⟨b, off + r * 5, none⟩ = some (.int .i64 l[r].k) ∧ w.cell? ⟨b, off + r * 5 + 1, none⟩ = some (.int .i64 l[r].n) ∧ w.cell? ⟨b, off + r * 5 + 2, none⟩ = some (.string ⟨l[r].x.toArray⟩) ∧ w.cell? ⟨b, off + r * 5 + 3, none⟩ = some (.int .i64 l[r].at_) ∧ w.cell? ⟨b, off + r * 5 + 4, none⟩ = some (.int .i64 l[r].en) := by
 obtain ⟨hl, a, c, rfl, h1, h2, h3⟩ := h; rcases h3 with ⟨h3, _⟩ | ⟨b, off, rfl, rfl, h3⟩
 ·omega
 have key : ∀ j, j < 5 → w.cell? ⟨b, off + r * 5 + j, none⟩ = (encD l[r])[j]? := fun j hj => by
  rw [Nat.add_assoc, h3 (r * 5 + j) (by omega)]
  have hf : ∀ (l : List TkD) (r : Nat) (hr : r < l.length), (l.flatMap encD)[r * 5 + j]? = (encD l[r])[j]? := by
   intro l
   induction l with
   | nil => intro r hr; simp at hr
   | cons a l ih =>
    intro r hr; rw [List.flatMap_cons]
    cases r with
    | zero => rw [List.getElem?_append_left (by show 0 * 5 + j < 5; omega)]; simp
    | succ r =>
     rw [List.getElem?_append_right (by show 5 ≤ (r + 1) * 5 + j; omega)]; have e1 : (r + 1) * 5 + j - (encD a).length = r * 5 + j := by show (r + 1) * 5 + j - 5 = _; omega
     rw [e1, ih r (by simpa using hr)]; simp
  exact hf l r hr
 exact ⟨b, off, c, rfl, rfl, by simpa [encD] using key 0 (by decide), by simpa [encD] using key 1 (by decide), by simpa [encD] using key 2 (by decide), by simpa [encD] using key 3 (by decide), by simpa [encD] using key 4 (by decide)⟩
theorem rdd_form {w : World} {v : Value} {n : Nat} {xs : List Value} {o : Option Nat} (h : Rd w 5 v n xs o) : ∃ a c, v = .slice a n c := by obtain ⟨-, a, c, h, -⟩ := h; exact ⟨a, c, h⟩
theorem rdd_len {w : World} {v : Value} {n : Nat} {xs : List Value} {o : Option Nat} (h : Rd w 5 v n xs o) : n ≤ 9223372036854775807 := by obtain ⟨-, a, c, h, h1, h2, -⟩ := h; unfold maxLen at h2; omega
def FrB (lo : Nat) (X : List Nat) (w : World) (b : Nat) : Prop := lo ≤ b ∧ b < w.heap.size ∧ b ∉ X
section
variable {lo : Nat} {X : List Nat} {w w' : World} {k : Bool}
theorem NdR.box {a : Nat} {cs : List Value} {n : Nd} (h : NdR (Frs a w) w k cs n) (ha : lo ≤ a) (hX : ∀ x ∈ X, x < a) : NdR (FrB lo X w) w k cs n :=
 h.mono fun b h => ⟨Nat.le_trans ha h.1, h.2, fun hm => by have := hX b hm; have := h.1; omega⟩
theorem NsR.box {a : Nat} {v : Value} {l : List Nd} (h : NsR (Frs a w) w k v l) (ha : lo ≤ a) (hX : ∀ x ∈ X, x < a) : NsR (FrB lo X w) w k v l :=
 h.mono fun b h => ⟨Nat.le_trans ha h.1, h.2, fun hm => by have := hX b hm; have := h.1; omega⟩
theorem NdR.keepQ {cs : List Value} {n : Nd} {F : List Nat} (h : NdR (FrB lo X w) w k cs n) (hk : Keep F w w') (hF : ∀ b ∈ F, b < lo ∨ b ∈ X) : NdR (FrB lo X w') w' k cs n :=
 (h.keep hk fun b hb hc => by
   rcases hF b hb with h1 | h1
   · have := hc.1; omega
   · exact hc.2.2 h1).mono fun b h => ⟨h.1, Nat.lt_of_lt_of_le h.2.1 hk.size, h.2.2⟩
theorem NsR.keepQ {v : Value} {l : List Nd} {F : List Nat} (h : NsR (FrB lo X w) w k v l) (hk : Keep F w w') (hF : ∀ b ∈ F, b < lo ∨ b ∈ X) : NsR (FrB lo X w') w' k v l :=
 (h.keep hk fun b hb hc => by
   rcases hF b hb with h1 | h1
   · have := hc.1; omega
   · exact hc.2.2 h1).mono fun b h => ⟨h.1, Nat.lt_of_lt_of_le h.2.1 hk.size, h.2.2⟩
theorem NdR.more {cs : List Value} {n : Nd} {x : Nat} (h : NdR (FrB lo X w) w k cs n) (hx : w.heap.size ≤ x) : NdR (FrB lo (x :: X) w) w k cs n :=
 h.mono fun b h => ⟨h.1, h.2.1, fun hm => by
   rcases List.mem_cons.1 hm with h1 | h1
   · have := h.2.1; omega
   · exact h.2.2 h1⟩
theorem NsR.more {v : Value} {l : List Nd} {x : Nat} (h : NsR (FrB lo X w) w k v l) (hx : w.heap.size ≤ x) : NsR (FrB lo (x :: X) w) w k v l :=
 h.mono fun b h => ⟨h.1, h.2.1, fun hm => by
   rcases List.mem_cons.1 hm with h1 | h1
   · have := h.2.1; omega
   · exact h.2.2 h1⟩
theorem NdR.less {Y : List Nat} {cs : List Value} {n : Nd} (h : NdR (FrB lo X w) w k cs n) (hY : ∀ y ∈ Y, y ∈ X) : NdR (FrB lo Y w) w k cs n :=
 h.mono fun b h => ⟨h.1, h.2.1, fun hm => h.2.2 (hY b hm)⟩
theorem NdR.frs {cs : List Value} {n : Nd} (h : NdR (FrB lo X w) w k cs n) : NdR (Frs lo w) w k cs n := h.mono fun b h => ⟨h.1, h.2.1⟩
theorem NsR.frs {v : Value} {l : List Nd} (h : NsR (FrB lo X w) w k v l) : NsR (Frs lo w) w k v l := h.mono fun b h => ⟨h.1, h.2.1⟩
theorem NsR.litQ {es : List (List Value)} {ns : List Nd} {n : Nat} {cs : Array Value} (t : TypeId) (hlo : lo ≤ w.heap.size) (hX : ∀ x ∈ X, x < w.heap.size) (hlen : es.length = ns.length) (hn : n = ns.length) (hm : n ≤ maxLen) (hcs : cs = es.flatten.toArray)
  (h : ∀ i (h : i < es.length) (h' : i < ns.length), NdR (FrB lo X w) w k es[i] ns[i]) :
  NsR (FrB lo X (w.alloc (.cells cs t))) (w.alloc (.cells cs t)) k (.slice (some ⟨w.heap.size, 0, none⟩) n n) ns := by
 subst hn hcs; have hk := (Keep.refl [] w).alloc (.cells es.flatten.toArray t); have hsz : (w.alloc (.cells es.flatten.toArray t)).heap.size = w.heap.size + 1 := by simp
 have hfl : es.flatten.length = es.length * wid k := flat_get _ _ (fun e he => by
   obtain ⟨i, hi, rfl⟩ := List.mem_iff_getElem.1 he
   exact (h i hi (by omega)).len)
 refine ⟨es, some w.heap.size, ⟨by rw [hfl, hlen], _, _, rfl, Nat.le_refl _, hm, .inr ⟨_, 0, rfl, rfl, fun i hi => ?_⟩⟩, fun x hx => ?_, hlen, fun i h1 h2 => (h i h1 h2).keepQ hk (by simp)⟩
 ·have h := heap_alloc_new w (.cells es.flatten.toArray t); rw [World.cell?, h]; simp
 ·cases hx
  exact ⟨hlo, by omega, fun hm => by have := hX _ hm; omega⟩
theorem NsR.lit1Q {e : List Value} {n : Nd} {cs : Array Value} (t : TypeId) (hlo : lo ≤ w.heap.size) (hX : ∀ x ∈ X, x < w.heap.size) (hcs : cs = e.toArray) (h : NdR (FrB lo X w) w k e n) :
  NsR (FrB lo X (w.alloc (.cells cs t))) (w.alloc (.cells cs t)) k (.slice (some ⟨w.heap.size, 0, none⟩) 1 1) [n] :=
 NsR.litQ t hlo hX (es := [e]) rfl rfl (by simp [maxLen]) (by simpa using hcs) (fun i h1 h2 => by
   have : i = 0 := by simp at h1; omega
   subst this
   exact h)
theorem NsR.lit2Q {e e' : List Value} {n n' : Nd} {cs : Array Value} (t : TypeId) (hlo : lo ≤ w.heap.size) (hX : ∀ x ∈ X, x < w.heap.size) (hcs : cs = (e ++ e').toArray) (h : NdR (FrB lo X w) w k e n) (h' : NdR (FrB lo X w) w k e' n') :
  NsR (FrB lo X (w.alloc (.cells cs t))) (w.alloc (.cells cs t)) k (.slice (some ⟨w.heap.size, 0, none⟩) 2 2) [n, n'] :=
 NsR.litQ t hlo hX (es := [e, e']) rfl rfl (by simp [maxLen]) (by simpa using hcs) (fun i h1 h2 => by
   have : i = 0 ∨ i = 1 := by simp at h1; omega
   rcases this with rfl | rfl
   · exact h
   · exact h')
end
def RowQ (lo : Nat) (X : List Nat) (w : World) (k : Bool) (v : Value) (l : List Nd) (o : Option Nat) : Prop :=
 ∃ (es : List (List Value)), Row w (if k then 52 else 29) (wid k) v l.length es.flatten o ∧ es.length = l.length ∧ (∀ i (h : i < es.length) (h' : i < l.length), NdR (FrB lo (o.toList ++ X) w) w k es[i] l[i]) ∧ ∀ b, o = some b → lo ≤ b ∧ b ∉ X
theorem RowQ.nil (lo : Nat) (X : List Nat) (w : World) (k : Bool) : RowQ lo X w k (.slice none 0 0) [] none := ⟨[], Row.nil _ _ _, rfl, fun i h => by simp at h, by simp⟩
theorem RowQ.lt {lo : Nat} {X : List Nat} {w : World} {k : Bool} {v : Value} {l : List Nd} {o : Option Nat} (h : RowQ lo X w k v l o) : ∀ b, o = some b → b < w.heap.size := by
 obtain ⟨es, h1, -⟩ := h; exact Row.lt h1
theorem RowQ.form {lo : Nat} {X : List Nat} {w : World} {k : Bool} {v : Value} {l : List Nd} {o : Option Nat} (h : RowQ lo X w k v l o) : ∃ a c, v = .slice a l.length c := by
 obtain ⟨es, h1, -⟩ := h; obtain ⟨o', ⟨-, a, c, hv, -⟩, -⟩ := Row.rd h1; exact ⟨a, c, hv⟩
theorem RowQ.keep {lo : Nat} {X : List Nat} {w w' : World} {k : Bool} {v : Value} {l : List Nd} {o : Option Nat} {F : List Nat} (h : RowQ lo X w k v l o) (hk : Keep F w w') (hF : ∀ b ∈ F, b < lo ∨ b ∈ X) : RowQ lo X w' k v l o := by
 obtain ⟨es, h1, h2, h3, h4⟩ := h; refine ⟨es, h1.keep hk (fun b hb hf => ?_), h2, fun i h h' => (h3 i h h').keepQ hk (fun b hb => ?_), h4⟩
 ·rcases hF b hf with h5 | h5
  ·have := (h4 b hb).1; omega
  ·exact (h4 b hb).2 h5
 ·rcases hF b hb with h5 | h5
  ·exact .inl h5
  ·exact .inr (by simp [h5])
theorem RowQ.more {lo : Nat} {X : List Nat} {w : World} {k : Bool} {v : Value} {l : List Nd} {o : Option Nat} {x : Nat} (h : RowQ lo X w k v l o) (hx : w.heap.size ≤ x) : RowQ lo (x :: X) w k v l o := by
 have hlt := h.lt; obtain ⟨es, h1, h2, h3, h4⟩ := h; refine ⟨es, h1, h2, fun i h h' => ((h3 i h h').more hx).mono (fun b hb => ⟨hb.1, hb.2.1, fun hm => hb.2.2 (by simp at hm ⊢; rcases hm with h | h | h <;> simp [h])⟩), fun b hb => ⟨(h4 b hb).1, fun hm => ?_⟩⟩; rcases List.mem_cons.1 hm with h5 | h5
 ·have := hlt b hb; omega
 ·exact (h4 b hb).2 h5
theorem RowQ.less {lo : Nat} {X Y : List Nat} {w : World} {k : Bool} {v : Value} {l : List Nd} {o : Option Nat} (h : RowQ lo X w k v l o) (hY : ∀ y ∈ Y, y ∈ X) : RowQ lo Y w k v l o := by
 obtain ⟨es, h1, h2, h3, h4⟩ := h; exact ⟨es, h1, h2, fun i h h' => (h3 i h h').less (by simp only [List.mem_append]; rintro y (hy | hy); exact .inl hy; exact .inr (hY y hy)), fun b hb => ⟨(h4 b hb).1, fun hm => (h4 b hb).2 (hY b hm)⟩⟩
theorem RowQ.ns {lo : Nat} {X : List Nat} {w : World} {k : Bool} {v : Value} {l : List Nd} {o : Option Nat} (h : RowQ lo X w k v l o) : NsR (FrB lo X w) w k v l := by
 have hlt := h.lt; obtain ⟨es, h1, h2, h3, h4⟩ := h; obtain ⟨o', h5, h6⟩ := Row.rd h1; refine ⟨es, o', h5, fun x hx => ?_, h2, fun i h h' => (h3 i h h').less (fun y hy => by simp [hy])⟩; rcases h6 with h6 | h6
 ·rw [h6] at hx; cases hx
 ·rw [h6] at hx; exact ⟨(h4 x hx).1, hlt x hx, (h4 x hx).2⟩
theorem RowQ.lit1 {lo : Nat} {X : List Nat} {w : World} {k : Bool} {e : List Value} {n : Nd} {cs : Array Value} (hlo : lo ≤ w.heap.size) (hX : ∀ x ∈ X, x < w.heap.size) (hcs : cs = e.toArray) (h : NdR (FrB lo X w) w k e n) :
  RowQ lo X (w.alloc (.cells cs (if k then 52 else 29))) k (.slice (some ⟨w.heap.size, 0, none⟩) 1 1) [n] (some w.heap.size) := by
 subst hcs; have hk := (Keep.refl [] w).alloc (.cells e.toArray (if k then 52 else 29)); have hb := heap_alloc_new w (.cells e.toArray (if k then 52 else 29)); have hlen := h.len; refine ⟨[e], ?_, rfl, fun i h1 h2 => ?_, fun b hb => ?_⟩
 ·exact ⟨by simp [hlen], .inr ⟨w.heap.size, 0, 1, e.toArray, rfl, rfl, hb, Nat.le_refl _, by simp [maxLen], by simp [hlen], fun i hi => by simp⟩⟩
 ·have : i = 0 := by simp at h1; omega
  subst this; exact ((h.keepQ hk (by simp)).mono (fun b hb => ⟨hb.1, hb.2.1, hb.2.2⟩) : NdR (FrB lo X _) _ k e n).mono (fun b hb => hb) |> fun h0 => (h.more (Nat.le_refl w.heap.size)).keepQ hk (by simp)
 ·cases hb
  exact ⟨hlo, fun hm => by have := hX _ hm; omega⟩
theorem RowQ.push {lo : Nat} {X : List Nat} {w w' : World} {k : Bool} {v v' : Value} {l : List Nd} {o : Option Nat} {g : Nat} {cs : List Value} {n : Nd} (h : RowQ lo X w k v l o) (hx : NdR (FrB lo (o.toList ++ X) w) w k cs n) (hlo : lo ≤ w.heap.size) (hX : ∀ x ∈ X, x < w.heap.size)
  (hk : Keep o.toList w w') (hg : o = some g ∨ w.heap.size ≤ g) (es : List (List Value)) (hes : Row w (if k then 52 else 29) (wid k) v l.length es.flatten o ∧ es.length = l.length ∧ ∀ i (h : i < es.length) (h' : i < l.length), NdR (FrB lo (o.toList ++ X) w) w k es[i] l[i])
  (hr : Row w' (if k then 52 else 29) (wid k) v' (l.length + 1) (es.flatten ++ cs) (some g)) : RowQ lo X w' k v' (l ++ [n]) (some g) := by
 obtain ⟨_, -, -, -, h4⟩ := h; obtain ⟨-, he, h3⟩ := hes
 have up : ∀ {e : List Value} {m : Nd}, NdR (FrB lo (o.toList ++ X) w) w k e m → NdR (FrB lo ((some g).toList ++ X) w') w' k e m := fun h0 =>
  (h0.keep hk (fun b hb hc => hc.2.2 (by simp [List.mem_append]; exact .inl (by simpa using hb)))).mono (fun b hb => ⟨hb.1, Nat.lt_of_lt_of_le hb.2.1 hk.size, fun hm => by
    simp only [Option.toList_some, List.cons_append, List.nil_append, List.mem_cons] at hm; rcases hm with rfl | hm
    · rcases hg with rfl | hg
      · exact hb.2.2 (by simp)
      · have := hb.2.1; omega
    · exact hb.2.2 (by simp [hm])⟩)
 refine ⟨es ++ [cs], by simpa using hr, by simp [he], fun i hi hi' => ?_, fun b hb => ?_⟩
 ·by_cases hlt : i < es.length
  ·rw [List.getElem_append_left hlt, List.getElem_append_left (by omega)]; exact up (h3 i hlt (by omega))
  ·obtain rfl : i = es.length := by simp at hi; omega
   have e1 : (es ++ [cs])[es.length]'hi = cs := by simp
   have e2 : (l ++ [n])[es.length]'hi' = n := by rw [List.getElem_append_right (by omega)]; simp [he]
   rw [e1, e2]; exact up hx
 ·cases hb
  rcases hg with rfl | hg
  ·exact h4 g rfl
  ·exact ⟨Nat.le_trans hlo hg, fun hm => by have := hX _ hm; omega⟩
open Go.RowKit Go.Emb
def ScanD (s : ByteArray) (w : World) (e : Ending) (w' : World) : Prop :=
 ((∃ er a : Int, e = .returned (.tuple #[.slice none 0 0, .int .i64 er, .int .i64 a]) ∧ er ≠ 0) ∨
   ∃ (v : Value) (l : List TkD) (o : Option Nat), e = .returned (.tuple #[v, .int .i64 0, .int .i64 0]) ∧ Rd w' 5 v l.length (l.flatMap encD) o ∧ (∀ b, o = some b → w.heap.size ≤ b) ∧ l.length ≤ s.size ∧ ∀ t ∈ l, TokD t) ∧ Keep [] w w'
theorem extL (s : ByteArray) (k j : Nat) : (s.extract k j).data.toList = (s.data.toList.drop k).take (j - k) := by
 simp [ByteArray.data_extract, List.take_drop]
theorem ext_snoc {s : ByteArray} {k j : Nat} (h : k ≤ j) (hj : j < s.size) : (s.extract k (j + 1)).data.toList = (s.extract k j).data.toList ++ [s[j]] := by
 rw [extL, extL, show j + 1 - k = (j - k) + 1 from by omega, List.take_succ_eq_append_getElem (by simp; omega)]; simp; have e : k + (j - k) = j := by omega
 simp only [e]; rfl
theorem ext_get {s : ByteArray} {k i : Nat} (h : i < (s.extract k s.size).size) (h' : k + i < s.size) : (s.extract k s.size)[i]'h = s[k + i]'h' := by
 show (s.extract k s.size).data[i]'h = s.data[k + i]'h'; simp [ByteArray.data_extract]
theorem ext_one {s : ByteArray} {k : Nat} (h : k < s.size) : (s.extract k (k + 1)).data.toList = [s[k]] := by
 rw [ext_snoc (Nat.le_refl k) h]; simp
theorem ext_two {s : ByteArray} {k : Nat} (h : k + 1 < s.size) : (s.extract k (k + 2)).data.toList = [s[k], s[k + 1]] := by
 rw [ext_snoc (j := k + 1) (by omega) h, ext_one (by omega)]; rfl
theorem ext_head {s : ByteArray} {k j : Nat} (h : k < j) (hj : j ≤ s.size) : ∃ r, (s.extract k j).data.toList = s[k] :: r := by
 rw [extL, List.drop_eq_getElem_cons (by simp; omega), show j - k = (j - k - 1) + 1 from by omega, List.take_succ_cons]; exact ⟨_, rfl⟩
def moreD (c : UInt8) : Bool := smallB c || digitB c || greatB c || decide (c.toNat = 64)
theorem moreD_more (c : UInt8) : moreD c = moreB c := by
 unfold moreD moreB
 cases smallB c <;> cases digitB c <;> cases greatB c <;> rfl
theorem sd_scan (s : ByteArray) (hs : s.size ≤ 16384) (w : World) : Calls Tryz.prog 45 #[.string s] w (ScanD s w) := by
 obtain ⟨i0, hi, hz0, hz1, hz2⟩ := info_parts tok_info; have HI := hyd hi; clear hi; have hsz : ¬ (16384 : Int) < (s.size : Int) := by omega
 go_enter Tryz.func45, Tryz.ntmps45; go_wp2_with fail
 go_loopw [5, 6] (fun v i wr => ∃ (k : Nat) (l : List TkD) (o : Option Nat), k ≤ s.size ∧ l.length ≤ k ∧ i = .int .i64 k ∧ Row wr 88 5 v l.length (l.flatMap encD) o ∧ (∀ b, o = some b → w.heap.size ≤ b) ∧ (∀ t ∈ l, TokD t) ∧ Keep [] w wr) (fun _ i _ => s.size - (RowKit.intOf i).toNat)
 case atStart => exact ⟨0, [], none, Nat.zero_le _, Nat.le_refl _, rfl, Row.nil _ _ _, by simp, by simp, Keep.refl _ _⟩
 case round =>
  obtain ⟨k, l, o, hk, hlk, rfl, hrow, ho, htk, hkw⟩ := hrel; have k0 : (0 : Int) ≤ (k : Int) := by omega
  obtain ⟨va, vc, hform⟩ : ∃ a c, u5 = .slice a l.length c := by
   obtain ⟨-, ⟨-, h, hn⟩ | ⟨_, _, _, _, -, h, -⟩⟩ := hrow
   ·exact ⟨none, 0, by rw [h, hn]⟩
   ·exact ⟨_, _, h⟩
  subst hform; have HROW := hyd hrow; have HO := hyd ho; have HTK := hyd htk; have HKW := hyd hkw; clear hrow ho htk hkw
  by_cases hlt : k < s.size
  ·have q1 : (k : Int) < (s.size : Int) := by omega
   go_upto_region 7 with fail; obtain ⟨c, hc⟩ : ∃ c, c = s[k] := ⟨_, rfl⟩; rw [← hc]; have HC := hyd hc; clear hc
   by_cases hb : c.toNat = 32 ∨ c.toNat = 9 ∨ c.toNat = 10 ∨ c.toNat = 13
   ·rcases (show (c.toNat = 32) ∨ (c.toNat ≠ 32 ∧ c.toNat = 9) ∨ (c.toNat ≠ 32 ∧ c.toNat ≠ 9 ∧ c.toNat = 10) ∨ (c.toNat ≠ 32 ∧ c.toNat ≠ 9 ∧ c.toNat ≠ 10 ∧ c.toNat = 13) by omega) with h | ⟨h1, h⟩ | ⟨h1, h2, h⟩ | ⟨h1, h2, h3, h⟩
    ·have z1 : ((c.toNat : Int) == 32) = true := by simp; omega
     clear h hb; go_wp2_with fail; go_roundw
     case rel => exact ⟨k + 1, l, o, by omega, by omega, by go_num, HROW.o, HO.o, HTK.o, HKW.o⟩
     case measure => simp [intOf]; omega
    ·have z1 : ((c.toNat : Int) == 32) = false := by simp; omega
     have z2 : ((c.toNat : Int) == 9) = true := by simp; omega
     clear h h1 hb; go_wp2_with fail; go_roundw
     case rel => exact ⟨k + 1, l, o, by omega, by omega, by go_num, HROW.o, HO.o, HTK.o, HKW.o⟩
     case measure => simp [intOf]; omega
    ·have z1 : ((c.toNat : Int) == 32) = false := by simp; omega
     have z2 : ((c.toNat : Int) == 9) = false := by simp; omega
     have z3 : ((c.toNat : Int) == 10) = true := by simp; omega
     clear h h1 h2 hb; go_wp2_with fail; go_roundw
     case rel => exact ⟨k + 1, l, o, by omega, by omega, by go_num, HROW.o, HO.o, HTK.o, HKW.o⟩
     case measure => simp [intOf]; omega
    ·have z1 : ((c.toNat : Int) == 32) = false := by simp; omega
     have z2 : ((c.toNat : Int) == 9) = false := by simp; omega
     have z3 : ((c.toNat : Int) == 10) = false := by simp; omega
     have z4 : ((c.toNat : Int) == 13) = true := by simp; omega
     clear h h1 h2 h3 hb; go_wp2_with fail; go_roundw
     case rel => exact ⟨k + 1, l, o, by omega, by omega, by go_num, HROW.o, HO.o, HTK.o, HKW.o⟩
     case measure => simp [intOf]; omega
   ·have z1 : ((c.toNat : Int) == 32) = false := by simp; omega
    have z2 : ((c.toNat : Int) == 9) = false := by simp; omega
    have z3 : ((c.toNat : Int) == 10) = false := by simp; omega
    have z4 : ((c.toNat : Int) == 13) = false := by simp; omega
    by_cases h37 : c.toNat = 37
    ·have z5 : ((c.toNat : Int) == 37) = true := by rw [h37]; rfl
     clear hb; go_wp2_with fail; clear z1 z2 z3 z4 z5
     go_loop [6] (fun i => ∃ j : Nat, k ≤ j ∧ j ≤ s.size ∧ i = .int .i64 j) (fun i => s.size - (RowKit.intOf i).toNat)
     case atStart => exact ⟨k, Nat.le_refl _, by omega, rfl⟩
     case round =>
      obtain ⟨j, hj1, hj2, rfl⟩ := hrel
      by_cases hj : j < s.size
      ·have p1 : (j : Int) < (s.size : Int) := by omega
       have p0 : (0 : Int) ≤ (j : Int) := by omega
       by_cases h10 : (s[j]).toNat = 10
       ·have z6 : (((s[j]).toNat : Int) == 10) = true := by rw [h10]; rfl
        have hkj : k < j := by
         rcases Nat.lt_or_ge k j with h | h
         ·exact h
         ·obtain rfl : j = k := by omega
          have := HC.o; rw [← this] at h10
          omega
        clear h10 hj1; go_wp2_with fail; go_roundw
        case rel => exact ⟨j, l, o, by omega, by omega, rfl, HROW.o, HO.o, HTK.o, HKW.o⟩
        case measure => simp [intOf]; omega
       ·have z6 : (((s[j]).toNat : Int) == 10) = false := by simp; omega
        clear h10; go_wp2_with fail; go_round
        case rel => exact ⟨j + 1, by omega, by omega, by go_num⟩
        case measure => simp [intOf]; omega
      ·obtain rfl : j = s.size := by omega
       have p1 : ¬ (s.size : Int) < (s.size : Int) := by omega
       go_wp2_with fail; go_roundw
       case rel => exact ⟨s.size, l, o, by omega, by omega, rfl, HROW.o, HO.o, HTK.o, HKW.o⟩
       case measure => simp [intOf]; omega
    ·have z5 : ((c.toNat : Int) == 37) = false := by simp; omega
     clear hb h37; go_upto_region 20 with fail; clear z1 z2 z3 z4 z5; rename_i K_out a_out K_in a_in
     have hcut : ∀ a' w', CutF 171 (fun f wx => f 0 = .string s ∧ f 5 = .slice va l.length vc ∧ f 6 = .int .i64 k ∧ f 8 = .pointer (some ⟨wr.heap.size, 0, none⟩) ∧ f 1 = undef ∧ f 17 = .string s ∧ f 18 = .int .i64 s.size ∧ f 19 = .bool false ∧ f 170 = undef ∧ ∃ (tk : TkD) (J : Nat), f 9 = .int .i64 (J : Nat) ∧ k < J ∧ J ≤ s.size ∧ tk.at_ = k ∧ tk.en = J ∧ TokD tk ∧ wx.heap[wr.heap.size]? = some (.cells #[.int .i64 tk.k, .int .i64 tk.n, .string ⟨tk.x.toArray⟩, .int .i64 (k : Nat), .int .i64 0] 88 (0, 0)) ∧ Keep [] wr wx) a' w' → K_out a' w' := by
      intro a' W hc; refine a_out _ _ ?_; clear a_out a_in K_in; obtain ⟨f, rfl, h0, h5, h6, h8, h1, h17, h18, h19, h170, tk, J, h9, hkJ, hJ, hat, hen, htok, h1b, h1k⟩ := hc.lit; rw [show ((List.range 171).map f).toArray = #[f 0, f 1, f 2, f 3, f 4, f 5, f 6, f 7, f 8, f 9, f 10, f 11, f 12, f 13, f 14, f 15, f 16, f 17, f 18, f 19, f 20, f 21, f 22, f 23, f 24, f 25, f 26, f 27, f 28, f 29, f 30, f 31, f 32, f 33, f 34, f 35, f 36, f 37, f 38, f 39, f 40, f 41, f 42, f 43, f 44, f 45, f 46, f 47, f 48, f 49, f 50, f 51, f 52, f 53, f 54, f 55, f 56, f 57, f 58, f 59, f 60, f 61, f 62, f 63, f 64, f 65, f 66, f 67, f 68, f 69, f 70, f 71, f 72, f 73, f 74, f 75, f 76, f 77, f 78, f 79, f 80, f 81, f 82, f 83, f 84, f 85, f 86, f 87, f 88, f 89, f 90, f 91, f 92, f 93, f 94, f 95, f 96, f 97, f 98, f 99, f 100, f 101, f 102, f 103, f 104, f 105, f 106, f 107, f 108, f 109, f 110, f 111, f 112, f 113, f 114, f 115, f 116, f 117, f 118, f 119, f 120, f 121, f 122, f 123, f 124, f 125, f 126, f 127, f 128, f 129, f 130, f 131, f 132, f 133, f 134, f 135, f 136, f 137, f 138, f 139, f 140, f 141, f 142, f 143, f 144, f 145, f 146, f 147, f 148, f 149, f 150, f 151, f 152, f 153, f 154, f 155, f 156, f 157, f 158, f 159, f 160, f 161, f 162, f 163, f 164, f 165, f 166, f 167, f 168, f 169, f 170] from rfl]; rw [h0, h5, h6, h8, h9, h1, h17, h18, h19, h170]; have HTOK := hyd (And.intro htok (And.intro hat hen)); clear hc h0 h5 h6 h8 h9 h1 h17 h18 h19 h170 htok hat hen; obtain ⟨c0, c1, c2, c3, c4⟩ := cells5d h1b; have f1 := frozenP h1b; obtain ⟨h2b, h2k⟩ := set7a (i := 4) h1b (.int .i64 J); simp only [List.setIfInBounds_toArray, List.set_cons_zero, List.set_cons_succ] at h2b; have H2B := hyd h2b; have H2K := hyd (h1k.trans h2k (fun x hx => .inr (by simp at hx; omega))); clear h1b h1k h2b h2k; go_upto_region 47 with fail; generalize W.setCell ⟨wr.heap.size, 4, none⟩ (.int .i64 J) = W2 at *; clear c0 c1 c2 c3 c4 f1; obtain ⟨c0, c1, c2, c3, c4⟩ := cells5d H2B.o; have T1 := hyd (src_blk (P := Tryz.prog) (k := 5) Tryz.underlying46 (heap_alloc_new W2 (.cells #[.int .i64 tk.k, .int .i64 tk.n, .string ⟨tk.x.toArray⟩, .int .i64 (k : Nat), .int .i64 J] 88)) rfl (by intro u hu; simp at hu; rcases hu with rfl | rfl | rfl | rfl | rfl <;> rfl)); have T2 : Hid (Row (W2.alloc (.cells #[.int .i64 tk.k, .int .i64 tk.n, .string ⟨tk.x.toArray⟩, .int .i64 (k : Nat), .int .i64 J] 88)) 88 5 (.slice va l.length vc) l.length (l.flatMap encD) o) := hyd (Row.keep HROW.o (H2K.o.trans ((Keep.refl [] W2).alloc _) (by simp)) (by simp))
      go_wp2_with (at_builtin; refine wpList_append_row _ rfl _ _ 46 46 rfl 88 i0 (.agg #[.int .i64 0, .int .i64 0, .string ⟨#[]⟩, .int .i64 0, .int .i64 0]) 5 48 Tryz.underlying46 HI.o hz0 hz1 hz2 rfl _ l.length _ o rfl T2.o _ rfl 1 _ T1.o (by omega) (by first | (unfold maxLen; omega) | (simp [maxLen] <;> omega)) (by omega) ?_)
      intro g off cap w9 hr9 hk9 hg9
      have hr9' : Row w9 88 5 (.slice (some ⟨g, off, none⟩) (l.length + 1) cap) (l ++ [tk]).length ((l ++ [tk]).flatMap encD) (some g) := by
       rw [List.flatMap_append, List.length_append]; have e : [tk].flatMap encD = [.int .i64 tk.k, .int .i64 tk.n, .string ⟨tk.x.toArray⟩, .int .i64 (k : Nat), .int .i64 (J : Nat)] := by rw [← HTOK.o.2.1, ← HTOK.o.2.2]; rfl
       rw [e]; exact hr9
      have hkk : Keep [] w w9 := ((HKW.o.trans H2K.o (by simp)).trans ((Keep.refl [] W2).alloc _) (by simp)).trans hk9 (fun x hx => .inr (HO.o x (by cases o with | none => simp at hx | some z => simp at hx; rw [hx])))
      have hgo : w.heap.size ≤ g := by
       rcases hg9 with h | h
       ·exact HO.o g h
       ·have h3 := (HKW.o.trans H2K.o (by simp)).size; have h4 := ((Keep.refl [] W2).alloc (.cells #[.int .i64 tk.k, .int .i64 tk.n, .string ⟨tk.x.toArray⟩, .int .i64 (k : Nat), .int .i64 J] 88)).size
        omega
      have HR9 := hyd hr9'; have HK9 := hyd hkk; have HG9 := hyd hgo; clear hr9 hr9' hk9 hg9 hkk hgo c0 c1 c2 c3 c4 T1 T2; go_wp2_with fail; go_roundw
      case rel => exact ⟨J, l ++ [tk], some g, by omega, by rw [List.length_append]; simp only [List.length_singleton]; omega, rfl, HR9.o, fun b hb => by cases hb; exact HG9.o, fun t ht => by (rcases List.mem_append.1 ht with h | h; (· exact HTK.o t h); rw [List.mem_singleton.1 h]; exact HTOK.o.1), HK9.o⟩
      case measure => simp [intOf]; omega
     have HCUT := hyd hcut; clear hcut a_out; have HD := hyd (sd_digit c)
     cases hd : digitB c with
     | true =>
      rw [hd] at HD; have HDD := hyd hd; clear hd; go_wp2_with fail; refine (HD.o _).mono ?_; rintro e w' ⟨rfl, rfl⟩; go_wp2_with fail
      go_loop [9] (fun i => ∃ j : Nat, k ≤ j ∧ j ≤ s.size ∧ i = .int .i64 j) (fun i => s.size - (RowKit.intOf i).toNat)
      case atStart => exact ⟨k, Nat.le_refl _, by omega, rfl⟩
      case round =>
       obtain ⟨j, hj1, hj2, rfl⟩ := hrel; have p0 : (0 : Int) ≤ (j : Int) := by omega
       by_cases hj : j < s.size
       ·have p1 : (j : Int) < (s.size : Int) := by omega
        have HDJ := hyd (sd_digit (s[j]'hj))
        cases hdj : digitB (s[j]'hj) with
        | true =>
         rw [hdj] at HDJ; clear hdj; go_wp2_with fail; refine (HDJ.o _).mono ?_; rintro e w' ⟨rfl, rfl⟩; go_wp2_with fail; go_round
         case rel => exact ⟨j + 1, by omega, by omega, by go_num⟩
         case measure => simp [intOf]; omega
        | false =>
         have hkj : k < j := by
          rcases Nat.lt_or_ge k j with h | h
          ·exact h
          ·obtain rfl : j = k := by omega
           have h1 := HC.o; have h2 := HDD.o; rw [h1] at h2; rw [h2] at hdj; exact absurd hdj (by decide)
         rw [hdj] at HDJ; clear hdj; go_wp2_with fail; refine (HDJ.o _).mono ?_; rintro e w' ⟨rfl, rfl⟩; have jk0 : (k : Int) ≤ (j : Nat) := by omega
         have jk1 : ((j : Nat) : Int) ≤ (s.size : Int) := by omega
         have HN := hyd (fun W => sd_number (s.extract k j) (by simp; omega) W); go_wp2_with fail; refine (HN.o _).mono ?_; rintro e w' ⟨hn, rfl⟩; rcases hn with rfl | ⟨n, rfl, hn⟩
         ·go_wp2_with fail; go_ret3; exact ⟨.inl ⟨_, _, rfl, by decide⟩, HKW.o.alloc _⟩
         ·go_wp2_with fail; refine HCUT.o _ _ (CutF.mk rfl ⟨rfl, rfl, rfl, rfl, rfl, rfl, rfl, rfl, rfl, ⟨1, n, [], (k : Int), (j : Nat)⟩, (j : Nat), rfl, by omega, by omega, rfl, rfl, ⟨fun _ => .inl ⟨rfl, rfl, n, rfl, hn⟩, fun h => (by simp at h)⟩, heap_alloc_new wr _, (Keep.refl [] wr).alloc _⟩)
       ·obtain rfl : j = s.size := by omega
        have hkj : k < s.size := hlt; have p1 : ¬ (s.size : Int) < (s.size : Int) := by omega
        have jk0 : (k : Int) ≤ (s.size : Nat) := by omega
        have jk1 : ((s.size : Nat) : Int) ≤ (s.size : Int) := by omega
        have HN := hyd (fun W => sd_number (s.extract k s.size) (by simp; omega) W); go_wp2_with fail; refine (HN.o _).mono ?_; rintro e w' ⟨hn, rfl⟩; rcases hn with rfl | ⟨n, rfl, hn⟩
        ·go_wp2_with fail; go_ret3; exact ⟨.inl ⟨_, _, rfl, by decide⟩, HKW.o.alloc _⟩
        ·go_wp2_with fail; refine HCUT.o _ _ (CutF.mk rfl ⟨rfl, rfl, rfl, rfl, rfl, rfl, rfl, rfl, rfl, ⟨1, n, [], (k : Int), (s.size : Nat)⟩, (s.size : Nat), rfl, by omega, by omega, rfl, rfl, ⟨fun _ => .inl ⟨rfl, rfl, n, rfl, hn⟩, fun h => (by simp at h)⟩, heap_alloc_new wr _, (Keep.refl [] wr).alloc _⟩)
     | false =>
      rw [hd] at HD; have hdd := hd; clear hd; have HS := hyd (sd_small c); have HG := hyd (sd_great c)
      by_cases hl : (smallB c || greatB c) = true
      ·have HL := hyd hl; have HLL := hyd hl; clear hl; go_wp2_with fail; refine (HD.o _).mono ?_; rintro e w' ⟨rfl, rfl⟩; go_wp2_with fail; refine (HS.o _).mono ?_; rintro e w' ⟨rfl, rfl⟩; obtain ⟨b1, hb1⟩ : ∃ b, b = smallB c := ⟨_, rfl⟩; rw [← hb1]
       cases b1 with
       | true =>
        have HB1 := hyd hb1; clear hb1; go_wp2_with fail
        go_loop [9] (fun i => ∃ j : Nat, k ≤ j ∧ j ≤ s.size ∧ i = .int .i64 j ∧ ∀ x ∈ (s.extract k j).data.toList, moreB x = true) (fun i => s.size - (RowKit.intOf i).toNat)
        case atStart => exact ⟨k, Nat.le_refl _, by omega, rfl, by simp⟩
        case round =>
         obtain ⟨j, hj1, hj2, rfl, hmore⟩ := hrel; have p0 : (0 : Int) ≤ (j : Int) := by omega
         by_cases hj : j < s.size
         ·have p1 : (j : Int) < (s.size : Int) := by omega
          have HDJ := hyd (sd_more (s[j]'hj)); have hmd := moreD_more (s[j]'hj); unfold moreD at hmd
          cases hdj : moreB (s[j]'hj) with
          | true =>
           rw [hdj] at hmd; rw [hmd] at HDJ; have HMJ := hyd (And.intro hdj hmore); clear hdj hmd hmore; go_wp2_with fail; refine (HDJ.o _).mono ?_; rintro e w' ⟨rfl, rfl⟩; go_wp2_with fail; go_round
           case rel => exact ⟨j + 1, by omega, by omega, by go_num, fun x hx => by (rw [ext_snoc hj1 hj] at hx; rcases List.mem_append.1 hx with h | h; (· exact HMJ.o.2 x h); rw [List.mem_singleton.1 h]; exact HMJ.o.1)⟩
           case measure => simp [intOf]; omega
          | false =>
           have hkj : k < j := by
            rcases Nat.lt_or_ge k j with h | h
            ·exact h
            ·obtain rfl : j = k := by omega
             have h1 := HC.o; have h2 := HLL.o; rw [h1] at h2; unfold moreB at hdj; rw [h2] at hdj; simp at hdj
           rw [hdj] at hmd; rw [hmd] at HDJ; clear hdj hmd; go_wp2_with fail; refine (HDJ.o _).mono ?_; rintro e w' ⟨rfl, rfl⟩; have HXC := hyd (ext_head (s := s) hkj (by omega : j ≤ s.size)); have hxs : (s.extract k j).size = j - k := by first | (simp; done) | (simp; omega)
           have HXM := hyd hmore; have jk0 : (k : Int) ≤ (j : Nat) := by omega
           have jk1 : ((j : Nat) : Int) ≤ (s.size : Int) := by omega
           clear hmore; go_upto_region 32 with fail; generalize s.extract k j = X at *; have hxl : X.data.toList.length = j - k := by rw [← hxs]; simp
           by_cases h255 : 255 < X.size
           ·have z6 : (255 : Int) < (X.size : Int) := by omega
            clear hxl; go_wp2_with fail; go_ret3; exact ⟨.inl ⟨_, _, rfl, by decide⟩, HKW.o.alloc _⟩
           ·have z6 : ¬ (255 : Int) < (X.size : Int) := by omega
            have HLX := hyd (show 1 ≤ X.data.toList.length ∧ X.data.toList.length ≤ 255 by omega); clear hxl; obtain ⟨bg, hbg⟩ : ∃ b, b = greatB c := ⟨_, rfl⟩; rw [← hbg] at HG
            cases bg with
            | true =>
             have HBG := hyd hbg; clear hbg; go_wp2_with fail; refine (HG.o _).mono ?_; rintro e w' ⟨rfl, rfl⟩; go_wp2_with fail; refine HCUT.o _ _ (CutF.mk rfl ⟨rfl, rfl, rfl, rfl, rfl, rfl, rfl, rfl, rfl, ⟨3, 0, X.data.toList, (k : Int), (j : Nat)⟩, (j : Nat), rfl, by omega, by omega, rfl, rfl, ⟨fun _ => .inr ⟨rfl, .inr (.inl ⟨rfl, HLX.o.2, HXM.o, c, by have h := HXC.o; rw [← HC.o] at h; obtain ⟨r, h⟩ := h; exact ⟨r, h, HBG.o.symm⟩⟩)⟩, fun h => (by simp at h)⟩, heap_alloc_new wr _, (Keep.refl [] wr).alloc _⟩)
            | false =>
             clear hbg; go_wp2_with fail; refine (HG.o _).mono ?_; rintro e w' ⟨rfl, rfl⟩; go_wp2_with fail; have h0k := (Keep.refl [] wr).alloc (.cells #[.int .i64 0, .int .i64 0, .string X, .int .i64 k, .int .i64 0] 88); have h0b := heap_alloc_new wr (.cells #[.int .i64 0, .int .i64 0, .string X, .int .i64 k, .int .i64 0] 88); refine (r_word X _ (by omega)).mono ?_; rintro e w7 ⟨rfl, hk7⟩; have h7k := h0k.trans hk7 (by simp); have h7b := blkK h0b hk7 (by simp); clear h0k h0b hk7; obtain ⟨c0, c1, c2, c3, c4⟩ := cells5d h7b; have f7 := frozenP h7b
             cases hwd : wordsL.contains X.data.toList with
             | true =>
              have HWD := hyd hwd; clear hwd; obtain ⟨h8b, h8k⟩ := set7a (i := 0) h7b (.int .i64 4); simp only [List.setIfInBounds_toArray, List.set_cons_zero, List.set_cons_succ] at h8b; have H8 := hyd (And.intro h8b (h7k.trans h8k (fun x hx => .inr (by simp at hx; omega)))); clear h8b h8k h7b h7k; go_wp2_with fail; clear c0 c1 c2 c3 c4 f7; refine HCUT.o _ _ (CutF.mk rfl ⟨rfl, rfl, rfl, rfl, rfl, rfl, rfl, rfl, rfl, ⟨4, 0, X.data.toList, (k : Int), (j : Nat)⟩, (j : Nat), rfl, by omega, by omega, rfl, rfl, ⟨fun h => (by simp at h), fun _ => .inr ⟨rfl, .inr (.inr (.inl ⟨rfl, HWD.o⟩))⟩⟩, H8.o.1, H8.o.2⟩)
             | false =>
              clear hwd; obtain ⟨h8b, h8k⟩ := set7a (i := 0) h7b (.int .i64 2); simp only [List.setIfInBounds_toArray, List.set_cons_zero, List.set_cons_succ] at h8b; have H8 := hyd (And.intro h8b (h7k.trans h8k (fun x hx => .inr (by simp at hx; omega)))); clear h8b h8k h7b h7k; go_wp2_with fail; clear c0 c1 c2 c3 c4 f7; refine HCUT.o _ _ (CutF.mk rfl ⟨rfl, rfl, rfl, rfl, rfl, rfl, rfl, rfl, rfl, ⟨2, 0, X.data.toList, (k : Int), (j : Nat)⟩, (j : Nat), rfl, by omega, by omega, rfl, rfl, ⟨fun _ => .inr ⟨rfl, .inl ⟨rfl, HLX.o.1, HLX.o.2⟩⟩, fun h => (by simp at h)⟩, H8.o.1, H8.o.2⟩)
         ·obtain rfl : j = s.size := by omega
          have hkj : k < s.size := hlt; have p1 : ¬ (s.size : Int) < (s.size : Int) := by omega
          have HXC := hyd (ext_head (s := s) hkj (by omega : s.size ≤ s.size)); have hxs : (s.extract k s.size).size = s.size - k := by first | (simp; done) | (simp; omega)
          have HXM := hyd hmore; have jk0 : (k : Int) ≤ (s.size : Nat) := by omega
          have jk1 : ((s.size : Nat) : Int) ≤ (s.size : Int) := by omega
          clear hmore; go_upto_region 32 with fail; generalize s.extract k s.size = X at *; have hxl : X.data.toList.length = s.size - k := by rw [← hxs]; simp
          by_cases h255 : 255 < X.size
          ·have z6 : (255 : Int) < (X.size : Int) := by omega
           clear hxl; go_wp2_with fail; go_ret3; exact ⟨.inl ⟨_, _, rfl, by decide⟩, HKW.o.alloc _⟩
          ·have z6 : ¬ (255 : Int) < (X.size : Int) := by omega
           have HLX := hyd (show 1 ≤ X.data.toList.length ∧ X.data.toList.length ≤ 255 by omega); clear hxl; obtain ⟨bg, hbg⟩ : ∃ b, b = greatB c := ⟨_, rfl⟩; rw [← hbg] at HG
           cases bg with
           | true =>
            have HBG := hyd hbg; clear hbg; go_wp2_with fail; refine (HG.o _).mono ?_; rintro e w' ⟨rfl, rfl⟩; go_wp2_with fail; refine HCUT.o _ _ (CutF.mk rfl ⟨rfl, rfl, rfl, rfl, rfl, rfl, rfl, rfl, rfl, ⟨3, 0, X.data.toList, (k : Int), (s.size : Nat)⟩, (s.size : Nat), rfl, by omega, by omega, rfl, rfl, ⟨fun _ => .inr ⟨rfl, .inr (.inl ⟨rfl, HLX.o.2, HXM.o, c, by have h := HXC.o; rw [← HC.o] at h; obtain ⟨r, h⟩ := h; exact ⟨r, h, HBG.o.symm⟩⟩)⟩, fun h => (by simp at h)⟩, heap_alloc_new wr _, (Keep.refl [] wr).alloc _⟩)
           | false =>
            clear hbg; go_wp2_with fail; refine (HG.o _).mono ?_; rintro e w' ⟨rfl, rfl⟩; go_wp2_with fail; have h0k := (Keep.refl [] wr).alloc (.cells #[.int .i64 0, .int .i64 0, .string X, .int .i64 k, .int .i64 0] 88); have h0b := heap_alloc_new wr (.cells #[.int .i64 0, .int .i64 0, .string X, .int .i64 k, .int .i64 0] 88); refine (r_word X _ (by omega)).mono ?_; rintro e w7 ⟨rfl, hk7⟩; have h7k := h0k.trans hk7 (by simp); have h7b := blkK h0b hk7 (by simp); clear h0k h0b hk7; obtain ⟨c0, c1, c2, c3, c4⟩ := cells5d h7b; have f7 := frozenP h7b
            cases hwd : wordsL.contains X.data.toList with
            | true =>
             have HWD := hyd hwd; clear hwd; obtain ⟨h8b, h8k⟩ := set7a (i := 0) h7b (.int .i64 4); simp only [List.setIfInBounds_toArray, List.set_cons_zero, List.set_cons_succ] at h8b; have H8 := hyd (And.intro h8b (h7k.trans h8k (fun x hx => .inr (by simp at hx; omega)))); clear h8b h8k h7b h7k; go_wp2_with fail; clear c0 c1 c2 c3 c4 f7; refine HCUT.o _ _ (CutF.mk rfl ⟨rfl, rfl, rfl, rfl, rfl, rfl, rfl, rfl, rfl, ⟨4, 0, X.data.toList, (k : Int), (s.size : Nat)⟩, (s.size : Nat), rfl, by omega, by omega, rfl, rfl, ⟨fun h => (by simp at h), fun _ => .inr ⟨rfl, .inr (.inr (.inl ⟨rfl, HWD.o⟩))⟩⟩, H8.o.1, H8.o.2⟩)
            | false =>
             clear hwd; obtain ⟨h8b, h8k⟩ := set7a (i := 0) h7b (.int .i64 2); simp only [List.setIfInBounds_toArray, List.set_cons_zero, List.set_cons_succ] at h8b; have H8 := hyd (And.intro h8b (h7k.trans h8k (fun x hx => .inr (by simp at hx; omega)))); clear h8b h8k h7b h7k; go_wp2_with fail; clear c0 c1 c2 c3 c4 f7; refine HCUT.o _ _ (CutF.mk rfl ⟨rfl, rfl, rfl, rfl, rfl, rfl, rfl, rfl, rfl, ⟨2, 0, X.data.toList, (k : Int), (s.size : Nat)⟩, (s.size : Nat), rfl, by omega, by omega, rfl, rfl, ⟨fun _ => .inr ⟨rfl, .inl ⟨rfl, HLX.o.1, HLX.o.2⟩⟩, fun h => (by simp at h)⟩, H8.o.1, H8.o.2⟩)
       | false =>
        rw [← hb1, Bool.false_or] at HL; have HB1 := hyd hb1; clear hb1; go_wp2_with fail; refine (HG.o _).mono ?_; rintro e w' ⟨rfl, rfl⟩; rw [HL.o]; go_wp2_with fail
        go_loop [9] (fun i => ∃ j : Nat, k ≤ j ∧ j ≤ s.size ∧ i = .int .i64 j ∧ ∀ x ∈ (s.extract k j).data.toList, moreB x = true) (fun i => s.size - (RowKit.intOf i).toNat)
        case atStart => exact ⟨k, Nat.le_refl _, by omega, rfl, by simp⟩
        case round =>
         obtain ⟨j, hj1, hj2, rfl, hmore⟩ := hrel; have p0 : (0 : Int) ≤ (j : Int) := by omega
         by_cases hj : j < s.size
         ·have p1 : (j : Int) < (s.size : Int) := by omega
          have HDJ := hyd (sd_more (s[j]'hj)); have hmd := moreD_more (s[j]'hj); unfold moreD at hmd
          cases hdj : moreB (s[j]'hj) with
          | true =>
           rw [hdj] at hmd; rw [hmd] at HDJ; have HMJ := hyd (And.intro hdj hmore); clear hdj hmd hmore; go_wp2_with fail; refine (HDJ.o _).mono ?_; rintro e w' ⟨rfl, rfl⟩; go_wp2_with fail; go_round
           case rel => exact ⟨j + 1, by omega, by omega, by go_num, fun x hx => by (rw [ext_snoc hj1 hj] at hx; rcases List.mem_append.1 hx with h | h; (· exact HMJ.o.2 x h); rw [List.mem_singleton.1 h]; exact HMJ.o.1)⟩
           case measure => simp [intOf]; omega
          | false =>
           have hkj : k < j := by
            rcases Nat.lt_or_ge k j with h | h
            ·exact h
            ·obtain rfl : j = k := by omega
             have h1 := HC.o; have h2 := HLL.o; rw [h1] at h2; unfold moreB at hdj; rw [h2] at hdj; simp at hdj
           rw [hdj] at hmd; rw [hmd] at HDJ; clear hdj hmd; go_wp2_with fail; refine (HDJ.o _).mono ?_; rintro e w' ⟨rfl, rfl⟩; have HXC := hyd (ext_head (s := s) hkj (by omega : j ≤ s.size)); have hxs : (s.extract k j).size = j - k := by first | (simp; done) | (simp; omega)
           have HXM := hyd hmore; have jk0 : (k : Int) ≤ (j : Nat) := by omega
           have jk1 : ((j : Nat) : Int) ≤ (s.size : Int) := by omega
           clear hmore; go_upto_region 32 with fail; generalize s.extract k j = X at *; have hxl : X.data.toList.length = j - k := by rw [← hxs]; simp
           by_cases h255 : 255 < X.size
           ·have z6 : (255 : Int) < (X.size : Int) := by omega
            clear hxl; go_wp2_with fail; go_ret3; exact ⟨.inl ⟨_, _, rfl, by decide⟩, HKW.o.alloc _⟩
           ·have z6 : ¬ (255 : Int) < (X.size : Int) := by omega
            have HLX := hyd (show 1 ≤ X.data.toList.length ∧ X.data.toList.length ≤ 255 by omega); clear hxl; obtain ⟨bg, hbg⟩ : ∃ b, b = greatB c := ⟨_, rfl⟩; rw [← hbg] at HG
            cases bg with
            | true =>
             have HBG := hyd hbg; clear hbg; go_wp2_with fail; refine (HG.o _).mono ?_; rintro e w' ⟨rfl, rfl⟩; go_wp2_with fail; refine HCUT.o _ _ (CutF.mk rfl ⟨rfl, rfl, rfl, rfl, rfl, rfl, rfl, rfl, rfl, ⟨3, 0, X.data.toList, (k : Int), (j : Nat)⟩, (j : Nat), rfl, by omega, by omega, rfl, rfl, ⟨fun _ => .inr ⟨rfl, .inr (.inl ⟨rfl, HLX.o.2, HXM.o, c, by have h := HXC.o; rw [← HC.o] at h; obtain ⟨r, h⟩ := h; exact ⟨r, h, HBG.o.symm⟩⟩)⟩, fun h => (by simp at h)⟩, heap_alloc_new wr _, (Keep.refl [] wr).alloc _⟩)
            | false =>
             clear hbg; go_wp2_with fail; refine (HG.o _).mono ?_; rintro e w' ⟨rfl, rfl⟩; go_wp2_with fail; have h0k := (Keep.refl [] wr).alloc (.cells #[.int .i64 0, .int .i64 0, .string X, .int .i64 k, .int .i64 0] 88); have h0b := heap_alloc_new wr (.cells #[.int .i64 0, .int .i64 0, .string X, .int .i64 k, .int .i64 0] 88); refine (r_word X _ (by omega)).mono ?_; rintro e w7 ⟨rfl, hk7⟩; have h7k := h0k.trans hk7 (by simp); have h7b := blkK h0b hk7 (by simp); clear h0k h0b hk7; obtain ⟨c0, c1, c2, c3, c4⟩ := cells5d h7b; have f7 := frozenP h7b
             cases hwd : wordsL.contains X.data.toList with
             | true =>
              have HWD := hyd hwd; clear hwd; obtain ⟨h8b, h8k⟩ := set7a (i := 0) h7b (.int .i64 4); simp only [List.setIfInBounds_toArray, List.set_cons_zero, List.set_cons_succ] at h8b; have H8 := hyd (And.intro h8b (h7k.trans h8k (fun x hx => .inr (by simp at hx; omega)))); clear h8b h8k h7b h7k; go_wp2_with fail; clear c0 c1 c2 c3 c4 f7; refine HCUT.o _ _ (CutF.mk rfl ⟨rfl, rfl, rfl, rfl, rfl, rfl, rfl, rfl, rfl, ⟨4, 0, X.data.toList, (k : Int), (j : Nat)⟩, (j : Nat), rfl, by omega, by omega, rfl, rfl, ⟨fun h => (by simp at h), fun _ => .inr ⟨rfl, .inr (.inr (.inl ⟨rfl, HWD.o⟩))⟩⟩, H8.o.1, H8.o.2⟩)
             | false =>
              clear hwd; obtain ⟨h8b, h8k⟩ := set7a (i := 0) h7b (.int .i64 2); simp only [List.setIfInBounds_toArray, List.set_cons_zero, List.set_cons_succ] at h8b; have H8 := hyd (And.intro h8b (h7k.trans h8k (fun x hx => .inr (by simp at hx; omega)))); clear h8b h8k h7b h7k; go_wp2_with fail; clear c0 c1 c2 c3 c4 f7; refine HCUT.o _ _ (CutF.mk rfl ⟨rfl, rfl, rfl, rfl, rfl, rfl, rfl, rfl, rfl, ⟨2, 0, X.data.toList, (k : Int), (j : Nat)⟩, (j : Nat), rfl, by omega, by omega, rfl, rfl, ⟨fun _ => .inr ⟨rfl, .inl ⟨rfl, HLX.o.1, HLX.o.2⟩⟩, fun h => (by simp at h)⟩, H8.o.1, H8.o.2⟩)
         ·obtain rfl : j = s.size := by omega
          have hkj : k < s.size := hlt; have p1 : ¬ (s.size : Int) < (s.size : Int) := by omega
          have HXC := hyd (ext_head (s := s) hkj (by omega : s.size ≤ s.size)); have hxs : (s.extract k s.size).size = s.size - k := by first | (simp; done) | (simp; omega)
          have HXM := hyd hmore; have jk0 : (k : Int) ≤ (s.size : Nat) := by omega
          have jk1 : ((s.size : Nat) : Int) ≤ (s.size : Int) := by omega
          clear hmore; go_upto_region 32 with fail; generalize s.extract k s.size = X at *; have hxl : X.data.toList.length = s.size - k := by rw [← hxs]; simp
          by_cases h255 : 255 < X.size
          ·have z6 : (255 : Int) < (X.size : Int) := by omega
           clear hxl; go_wp2_with fail; go_ret3; exact ⟨.inl ⟨_, _, rfl, by decide⟩, HKW.o.alloc _⟩
          ·have z6 : ¬ (255 : Int) < (X.size : Int) := by omega
           have HLX := hyd (show 1 ≤ X.data.toList.length ∧ X.data.toList.length ≤ 255 by omega); clear hxl; obtain ⟨bg, hbg⟩ : ∃ b, b = greatB c := ⟨_, rfl⟩; rw [← hbg] at HG
           cases bg with
           | true =>
            have HBG := hyd hbg; clear hbg; go_wp2_with fail; refine (HG.o _).mono ?_; rintro e w' ⟨rfl, rfl⟩; go_wp2_with fail; refine HCUT.o _ _ (CutF.mk rfl ⟨rfl, rfl, rfl, rfl, rfl, rfl, rfl, rfl, rfl, ⟨3, 0, X.data.toList, (k : Int), (s.size : Nat)⟩, (s.size : Nat), rfl, by omega, by omega, rfl, rfl, ⟨fun _ => .inr ⟨rfl, .inr (.inl ⟨rfl, HLX.o.2, HXM.o, c, by have h := HXC.o; rw [← HC.o] at h; obtain ⟨r, h⟩ := h; exact ⟨r, h, HBG.o.symm⟩⟩)⟩, fun h => (by simp at h)⟩, heap_alloc_new wr _, (Keep.refl [] wr).alloc _⟩)
           | false =>
            clear hbg; go_wp2_with fail; refine (HG.o _).mono ?_; rintro e w' ⟨rfl, rfl⟩; go_wp2_with fail; have h0k := (Keep.refl [] wr).alloc (.cells #[.int .i64 0, .int .i64 0, .string X, .int .i64 k, .int .i64 0] 88); have h0b := heap_alloc_new wr (.cells #[.int .i64 0, .int .i64 0, .string X, .int .i64 k, .int .i64 0] 88); refine (r_word X _ (by omega)).mono ?_; rintro e w7 ⟨rfl, hk7⟩; have h7k := h0k.trans hk7 (by simp); have h7b := blkK h0b hk7 (by simp); clear h0k h0b hk7; obtain ⟨c0, c1, c2, c3, c4⟩ := cells5d h7b; have f7 := frozenP h7b
            cases hwd : wordsL.contains X.data.toList with
            | true =>
             have HWD := hyd hwd; clear hwd; obtain ⟨h8b, h8k⟩ := set7a (i := 0) h7b (.int .i64 4); simp only [List.setIfInBounds_toArray, List.set_cons_zero, List.set_cons_succ] at h8b; have H8 := hyd (And.intro h8b (h7k.trans h8k (fun x hx => .inr (by simp at hx; omega)))); clear h8b h8k h7b h7k; go_wp2_with fail; clear c0 c1 c2 c3 c4 f7; refine HCUT.o _ _ (CutF.mk rfl ⟨rfl, rfl, rfl, rfl, rfl, rfl, rfl, rfl, rfl, ⟨4, 0, X.data.toList, (k : Int), (s.size : Nat)⟩, (s.size : Nat), rfl, by omega, by omega, rfl, rfl, ⟨fun h => (by simp at h), fun _ => .inr ⟨rfl, .inr (.inr (.inl ⟨rfl, HWD.o⟩))⟩⟩, H8.o.1, H8.o.2⟩)
            | false =>
             clear hwd; obtain ⟨h8b, h8k⟩ := set7a (i := 0) h7b (.int .i64 2); simp only [List.setIfInBounds_toArray, List.set_cons_zero, List.set_cons_succ] at h8b; have H8 := hyd (And.intro h8b (h7k.trans h8k (fun x hx => .inr (by simp at hx; omega)))); clear h8b h8k h7b h7k; go_wp2_with fail; clear c0 c1 c2 c3 c4 f7; refine HCUT.o _ _ (CutF.mk rfl ⟨rfl, rfl, rfl, rfl, rfl, rfl, rfl, rfl, rfl, ⟨2, 0, X.data.toList, (k : Int), (s.size : Nat)⟩, (s.size : Nat), rfl, by omega, by omega, rfl, rfl, ⟨fun _ => .inr ⟨rfl, .inl ⟨rfl, HLX.o.1, HLX.o.2⟩⟩, fun h => (by simp at h)⟩, H8.o.1, H8.o.2⟩)
      ·have hs0 : smallB c = false := by cases h : smallB c <;> simp_all
       have hg0 : greatB c = false := by cases h : greatB c <;> simp_all
       rw [hs0] at HS; rw [hg0] at HG; clear hl hs0 hg0; go_wp2_with fail; refine (HD.o _).mono ?_; rintro e w' ⟨rfl, rfl⟩; go_wp2_with fail; refine (HS.o _).mono ?_; rintro e w' ⟨rfl, rfl⟩; go_wp2_with fail; refine (HG.o _).mono ?_; rintro e w' ⟨rfl, rfl⟩; go_upto_region 39 with fail; have h0k := (Keep.refl [] wr).alloc (.cells #[.int .i64 0, .int .i64 0, .string ⟨#[]⟩, .int .i64 k, .int .i64 0] 88); have h0b := heap_alloc_new wr (.cells #[.int .i64 0, .int .i64 0, .string ⟨#[]⟩, .int .i64 k, .int .i64 0] 88)
       by_cases h39 : c.toNat = 39
       ·have z6 : ((c.toNat : Int) == 39) = true := by rw [h39]; rfl
        clear h39; go_wp2_with fail; refine (sd_quoted s (by omega) k hlt _).mono ?_; rintro e w7 ⟨hq, hk7⟩; rcases hq with ⟨er, a, rfl, her⟩ | ⟨nm, en, rfl, hn1, hn2, he1, he2⟩
        ·have z7 : (er != 0) = true := by simpa using her
         have HE := hyd (And.intro her (HKW.o.trans (h0k.trans hk7 (by simp)) (by simp))); clear her h0k h0b hk7; go_wp2_with fail; go_ret3; exact ⟨.inl ⟨_, _, rfl, HE.o.1⟩, HE.o.2⟩
        ·have HNM := hyd (And.intro hn1 hn2); clear hn1 hn2; have h7k := h0k.trans hk7 (by simp); have h7b := blkK h0b hk7 (by simp); clear h0k h0b hk7; obtain ⟨c0, c1, c2, c3, c4⟩ := cells5d h7b; have f7 := frozenP h7b; obtain ⟨h8b, h8k⟩ := set7a (i := 0) h7b (.int .i64 2); simp only [List.setIfInBounds_toArray, List.set_cons_zero, List.set_cons_succ] at h8b; obtain ⟨h9b, h9k⟩ := set7a (i := 2) h8b (.string ⟨nm.toArray⟩); simp only [List.setIfInBounds_toArray, List.set_cons_zero, List.set_cons_succ] at h9b; have H9 := hyd (And.intro h9b ((h7k.trans h8k (fun x hx => .inr (by simp at hx; omega))).trans h9k (fun x hx => .inr (by simp at hx; omega)))); clear h8b h8k h7b h7k h9b h9k; go_wp2_with fail; clear c0 c1 c2 c3 c4 f7; refine HCUT.o _ _ (CutF.mk rfl ⟨rfl, rfl, rfl, rfl, rfl, rfl, rfl, rfl, rfl, ⟨2, 0, nm, (k : Int), (en : Nat)⟩, en, rfl, he1, he2, rfl, rfl, ⟨fun _ => .inr ⟨rfl, .inl ⟨rfl, HNM.o.1, HNM.o.2⟩⟩, fun h => (by simp at h)⟩, H9.o.1, H9.o.2⟩)
       ·have z6 : ((c.toNat : Int) == 39) = false := by simp; omega
        clear h39; have hxs : (s.extract k s.size).size = s.size - k := by first | (simp; done) | (simp; omega)
        have HS := hyd (fun W => sd_sign (s.extract k s.size) (by omega) (by omega) W); go_wp2_with fail; refine (HS.o _).mono ?_; rintro e w7 ⟨hq, hk7⟩; rcases hq with rfl | ⟨rfl, h1⟩ | ⟨h, rfl, h2⟩
        ·have HE := hyd (HKW.o.trans (h0k.trans hk7 (by simp)) (by simp)); clear h0k h0b hk7; go_wp2_with fail; go_ret3; exact ⟨.inl ⟨_, _, rfl, by decide⟩, HE.o⟩
        ·rw [ext_get (by omega) (by omega)] at h1; have hx1 := ext_one hlt; have e1 : (k : Int) + 1 ≤ (s.size : Int) := by omega
         have HX1 := hyd (And.intro h1 hx1); clear h1 hx1 hxs HS; have h7k := h0k.trans hk7 (by simp); have h7b := blkK h0b hk7 (by simp); clear h0k h0b hk7; obtain ⟨c0, c1, c2, c3, c4⟩ := cells5d h7b; have f7 := frozenP h7b; obtain ⟨h8b, h8k⟩ := set7a (i := 0) h7b (.int .i64 5); simp only [List.setIfInBounds_toArray, List.set_cons_zero, List.set_cons_succ] at h8b; obtain ⟨h9b, h9k⟩ := set7a (i := 2) h8b (.string (s.extract k (k + 1))); simp only [List.setIfInBounds_toArray, List.set_cons_zero, List.set_cons_succ] at h9b; have H9 := hyd (And.intro h9b ((h7k.trans h8k (fun x hx => .inr (by simp at hx; omega))).trans h9k (fun x hx => .inr (by simp at hx; omega)))); clear h8b h8k h7b h7k h9b h9k; go_wp2_with fail; clear c0 c1 c2 c3 c4 f7; refine HCUT.o _ _ (CutF.mk rfl ⟨rfl, rfl, rfl, rfl, rfl, rfl, rfl, rfl, rfl, ⟨5, 0, (s.extract k (k + 1)).data.toList, (k : Int), (k + 1 : Nat)⟩, k + 1, by go_num, by omega, by omega, rfl, rfl, ⟨fun h => (by simp at h), fun _ => .inr ⟨rfl, .inr (.inr (.inr ⟨rfl, .inl ⟨_, HX1.o.2, HX1.o.1⟩⟩))⟩⟩, H9.o.1, H9.o.2⟩)
        ·have hk1 : k + 1 < s.size := by omega
         rw [ext_get (by omega) (by omega), ext_get (by omega) hk1] at h2; have hx1 := ext_two hk1; have e1 : (k : Int) + 2 ≤ (s.size : Int) := by omega
         have HX1 := hyd (And.intro h2 hx1); clear h2 hx1 hxs h HS; have h7k := h0k.trans hk7 (by simp); have h7b := blkK h0b hk7 (by simp); clear h0k h0b hk7; obtain ⟨c0, c1, c2, c3, c4⟩ := cells5d h7b; have f7 := frozenP h7b; obtain ⟨h8b, h8k⟩ := set7a (i := 0) h7b (.int .i64 5); simp only [List.setIfInBounds_toArray, List.set_cons_zero, List.set_cons_succ] at h8b; obtain ⟨h9b, h9k⟩ := set7a (i := 2) h8b (.string (s.extract k (k + 2))); simp only [List.setIfInBounds_toArray, List.set_cons_zero, List.set_cons_succ] at h9b; have H9 := hyd (And.intro h9b ((h7k.trans h8k (fun x hx => .inr (by simp at hx; omega))).trans h9k (fun x hx => .inr (by simp at hx; omega)))); clear h8b h8k h7b h7k h9b h9k; go_wp2_with fail; clear c0 c1 c2 c3 c4 f7; refine HCUT.o _ _ (CutF.mk rfl ⟨rfl, rfl, rfl, rfl, rfl, rfl, rfl, rfl, rfl, ⟨5, 0, (s.extract k (k + 2)).data.toList, (k : Int), (k + 2 : Nat)⟩, k + 2, by go_num, by omega, by omega, rfl, rfl, ⟨fun h => (by simp at h), fun _ => .inr ⟨rfl, .inr (.inr (.inr ⟨rfl, .inr ⟨_, _, HX1.o.2, HX1.o.1⟩⟩))⟩⟩, H9.o.1, H9.o.2⟩)
  ·obtain rfl : k = s.size := by omega
   have q1 : ¬ (s.size : Int) < (s.size : Int) := by omega
   go_wp2_with fail; go_ret3; obtain ⟨o', hrd, ho'⟩ := HROW.o.rd; refine ⟨.inr ⟨_, l, o', rfl, hrd, fun b hb => ?_, hlk, HTK.o⟩, HKW.o⟩; rcases ho' with rfl | rfl
   ·cases hb
   ·exact HO.o b hb
def isD (l : List TkD) (r : Nat) (e : Int) (s : List UInt8) : Bool := decide (e = 0) && match l[r]? with
 | some t => (decide (t.k = 5) || decide (t.k = 4)) && decide (t.x = s)
 | none => false
def kindD (l : List TkD) (r : Nat) (e : Int) (k : Int) : Bool := decide (e = 0) && match l[r]? with
 | some t => decide (t.k = k)
 | none => false
theorem d_place {lo : Nat} {w : World} {pb : Nat} {l : List TkD} {r : Nat} {e : Int} (h : DP lo w pb l r e) : Calls Tryz.prog 46 #[.pointer (some ⟨pb, 0, none⟩)] w fun e w' => (∃ z : Int, e = .returned (.int .i64 z)) ∧ Keep [] w w' := by
 obtain ⟨v, o, en, at_, h1, h2, -⟩ := h.blk; obtain ⟨s0, s1, s2, s3, s4⟩ := cells5d h1; have hr := h.rl; have hlm := rdd_len h2
 by_cases hlt : r < l.length
 ·obtain ⟨b, off, c, rfl, -, c0, c1, c2, c3, c4⟩ := tokd_at h2 hlt; have q1 : (r : Int) < (l.length : Int) := by omega
  have q0 : (0 : Int) ≤ (r : Int) := by omega
  clear h1 h2 h; go_enter Tryz.func46, Tryz.ntmps46; go_wp2_with fail; go_quiet (fail); go_wp2_with fail; go_quiet (fail); go_wp2_with fail; go_ret; exact ⟨⟨_, rfl⟩, (by first | exact Keep.refl _ _ | exact (Keep.refl [] w).drewN _ | exact ((Keep.refl [] w).drewN _).drewN _)⟩
 ·obtain ⟨a, c, rfl⟩ := rdd_form h2; have q1 : ¬ (r : Int) < (l.length : Int) := by omega
  clear h1 h2 h; go_enter Tryz.func46, Tryz.ntmps46; go_wp2_with fail; go_quiet (fail); go_wp2_with fail; go_ret; exact ⟨⟨_, rfl⟩, (by first | exact Keep.refl _ _ | exact (Keep.refl [] w).drewN _ | exact ((Keep.refl [] w).drewN _).drewN _)⟩
theorem DP.set {lo : Nat} {w : World} {pb : Nat} {l : List TkD} {r : Nat} {e : Int} (h : DP lo w pb l r e) : ∀ x : Int, DP lo (w.setCell ⟨pb, 3, none⟩ (.int .i64 x)) pb l r x := fun x => by
 obtain ⟨v, o, en, at_, h1, h2, h3⟩ := h.blk; exact ⟨⟨v, o, en, at_, by simpa using heap_setCell_at (i := 3) h1 (.int .i64 x), h2.keep (Keep.set1 w ⟨pb, 3, none⟩ _) (fun b hb => by simpa using (h3 b hb).2), h3⟩, h.plo, h.rl⟩
theorem DP.setAt {lo : Nat} {w : World} {pb : Nat} {l : List TkD} {r : Nat} {e : Int} (h : DP lo w pb l r e) : ∀ x : Int, DP lo (w.setCell ⟨pb, 4, none⟩ (.int .i64 x)) pb l r e := fun x => by
 obtain ⟨v, o, en, at_, h1, h2, h3⟩ := h.blk; exact ⟨⟨v, o, en, x, by simpa using heap_setCell_at (i := 4) h1 (.int .i64 x), h2.keep (Keep.set1 w ⟨pb, 4, none⟩ _) (fun b hb => by simpa using (h3 b hb).2), h3⟩, h.plo, h.rl⟩
theorem DP.step {lo : Nat} {w : World} {pb : Nat} {l : List TkD} {r : Nat} {e : Int} (h : DP lo w pb l r e) (hr : r < l.length) : DP lo (w.setCell ⟨pb, 1, none⟩ (.int .i64 ((r : Int) + 1))) pb l (r + 1) e := by
 obtain ⟨v, o, en, at_, h1, h2, h3⟩ := h.blk; exact ⟨⟨v, o, en, at_, by simpa using heap_setCell_at (i := 1) h1 (.int .i64 ((r : Int) + 1)), h2.keep (Keep.set1 w ⟨pb, 1, none⟩ _) (fun b hb => by simpa using (h3 b hb).2), h3⟩, h.plo, hr⟩
theorem DP.frz {lo : Nat} {w : World} {pb : Nat} {l : List TkD} {r : Nat} {e : Int} (h : DP lo w pb l r e) : ∀ i, w.frozen? ⟨pb, i, none⟩ = false := by
 obtain ⟨v, o, en, at_, h1, -⟩ := h.blk; exact frozenP h1
theorem d_fail {lo : Nat} {w : World} {pb : Nat} {l : List TkD} {r : Nat} {e : Int} (h : DP lo w pb l r e) {x : Int} (hx : x ≠ 0) : Calls Tryz.prog 21 #[.pointer (some ⟨pb, 0, none⟩), .int .i64 x] w fun e1 w' => e1 = .returned (.tuple #[]) ∧ (∃ e', e' ≠ 0 ∧ DP lo w' pb l r e') ∧ Keep [pb] w w' := by
 have H := hyd h; have HX := hyd hx; have f0 := h.frz; obtain ⟨v, o, en, at_, h1, h2, -⟩ := h.blk; obtain ⟨s0, s1, s2, s3, s4⟩ := cells5d h1; have hw := h.set x; have HPL := hyd (d_place hw); have HW := hyd hw; clear h h1 h2 hw hx
 by_cases he : e = 0
 ·subst he; go_enter Tryz.func21, Tryz.ntmps21; go_wp2_with fail; refine HPL.o.mono ?_; rintro e1 w1 ⟨⟨z, rfl⟩, hk⟩; have f1 := (HW.o.keep0 hk).frz; obtain ⟨v', o', en', at', hb1, -⟩ := (HW.o.keep0 hk).blk; obtain ⟨t0, t1, t2, t3, t4⟩ := cells5d hb1; have hd := (HW.o.keep0 hk).setAt z; have hkk := (((Keep.refl [pb] w).setCell (p := ⟨pb, 3, none⟩) (.inl (by simp)) (.int .i64 x)).trans (hk.mono (G := [pb]) (by simp)) (by simp)).setCell (p := ⟨pb, 4, none⟩) (.inl (by simp)) (.int .i64 z); have HD := hyd (And.intro hd hkk); clear hk hd hkk hb1; go_wp2_with fail
  go_end0
  exact ⟨rfl, ⟨x, HX.o, HD.o.1⟩, HD.o.2⟩
 ·have he' : (e == 0) = false := beq_eq_false_iff_ne.2 he; go_enter Tryz.func21, Tryz.ntmps21; go_wp2_with fail
  go_end0
  exact ⟨rfl, ⟨e, he, H.o⟩, Keep.refl _ _⟩
theorem d_is {lo : Nat} {w : World} {pb : Nat} {l : List TkD} {r : Nat} {e : Int} (h : DP lo w pb l r e) (s : List UInt8) : Calls Tryz.prog 49 #[.pointer (some ⟨pb, 0, none⟩), .string ⟨s.toArray⟩] w fun e1 w' => e1 = .returned (.bool (isD l r e s)) ∧ Keep [] w w' := by
 obtain ⟨v, o, en, at_, h1, h2, -⟩ := h.blk; obtain ⟨s0, s1, s2, s3, s4⟩ := cells5d h1; have hr := h.rl; have hlm := rdd_len h2
 by_cases he : e = 0
 ·subst he
  by_cases hlt : r < l.length
  ·obtain ⟨b, off, c, rfl, -, c0, c1, c2, c3, c4⟩ := tokd_at h2 hlt; have q1 : ¬ (l.length : Int) ≤ (r : Int) := by omega
   have q2 : (r : Int) < (l.length : Int) := by omega
   have q0 : (0 : Int) ≤ (r : Int) := by omega
   have hv : isD l r 0 s = ((decide (l[r].k = 5) || decide (l[r].k = 4)) && decide (l[r].x = s)) := by unfold isD; rw [List.getElem?_eq_getElem hlt]; simp
   rw [hv]; obtain ⟨tk, htk⟩ : ∃ t, t = l[r] := ⟨_, rfl⟩; rw [← htk] at c0 c1 c2 c3 c4 ⊢; obtain ⟨k, n, x, at2, en2⟩ := tk; simp only at c0 c1 c2 c3 c4 ⊢; clear h1 h2 h hv htk; go_enter Tryz.func49, Tryz.ntmps49; go_wp2_with fail; go_quiet (fail); go_wp2_with fail; have hkq := (Keep.refl [] w).drewN nq; replace s0 := hkq.cellOf s0; replace s1 := hkq.cellOf s1; replace c0 := hkq.cellOf c0; replace c1 := hkq.cellOf c1; replace c2 := hkq.cellOf c2; replace c3 := hkq.cellOf c3; replace c4 := hkq.cellOf c4; have HKQ := hyd hkq; clear hkq s2 s3 s4; generalize w.drewN nq = wq at *; refine wp_region_held_drew (S := fun w' => Keep [] wq w') (by kernel_rfl) ((Keep.refl [] wq).drew) (fun hHeld => ?_); refine tkL 0 ?vA0 rfl ?runA0 hHeld ?_
   case runA0 => (intro w9 hS9; obtain ⟨x0, x1, y0, y1, y2, y3, y4⟩ := ck7 hS9 ⟨s0, s1, c0, c1, c2, c3, c4⟩; go_simp; try exact rfl)
   try simp only [Act.put, lA, lZ, lS]
   refine tkL 1 ?vA1 rfl ?runA1 hHeld ?_
   case runA1 => (intro w9 hS9; obtain ⟨x0, x1, y0, y1, y2, y3, y4⟩ := ck7 hS9 ⟨s0, s1, c0, c1, c2, c3, c4⟩; go_simp; try exact rfl)
   try simp only [Act.put, lA, lZ, lS]
   refine tkL 2 ?vA2 rfl ?runA2 hHeld ?_
   case runA2 => (intro w9 hS9; obtain ⟨x0, x1, y0, y1, y2, y3, y4⟩ := ck7 hS9 ⟨s0, s1, c0, c1, c2, c3, c4⟩; go_simp; try exact rfl)
   try simp only [Act.put, lA, lZ, lS]
   refine tkL 3 ?vA3 rfl ?runA3 hHeld ?_
   case runA3 => (intro w9 hS9; obtain ⟨x0, x1, y0, y1, y2, y3, y4⟩ := ck7 hS9 ⟨s0, s1, c0, c1, c2, c3, c4⟩; go_simp; try exact rfl)
   try simp only [Act.put, lA, lZ, lS]
   refine tkL 4 ?vA4 rfl ?runA4 hHeld ?_
   case runA4 => (intro w9 hS9; obtain ⟨x0, x1, y0, y1, y2, y3, y4⟩ := ck7 hS9 ⟨s0, s1, c0, c1, c2, c3, c4⟩; go_simp; try exact rfl)
   try simp only [Act.put, lA, lZ, lS]
   refine tkL 5 ?vA5 rfl ?runA5 hHeld ?_
   case runA5 => (intro w9 hS9; obtain ⟨x0, x1, y0, y1, y2, y3, y4⟩ := ck7 hS9 ⟨s0, s1, c0, c1, c2, c3, c4⟩; go_simp; try exact rfl)
   try simp only [Act.put, lA, lZ, lS]
   refine tkL 6 ?vA6 rfl ?runA6 hHeld ?_
   case runA6 => (intro w9 hS9; obtain ⟨x0, x1, y0, y1, y2, y3, y4⟩ := ck7 hS9 ⟨s0, s1, c0, c1, c2, c3, c4⟩; go_simp; try exact rfl)
   try simp only [Act.put, lA, lZ, lS]
   refine tkL 7 ?vA7 rfl ?runA7 hHeld ?_
   case runA7 => (intro w9 hS9; obtain ⟨x0, x1, y0, y1, y2, y3, y4⟩ := ck7 hS9 ⟨s0, s1, c0, c1, c2, c3, c4⟩; go_simp; try exact rfl)
   try simp only [Act.put, lA, lZ, lS]
   refine tkL 8 ?vA8 rfl ?runA8 hHeld ?_
   case runA8 => (intro w9 hS9; obtain ⟨x0, x1, y0, y1, y2, y3, y4⟩ := ck7 hS9 ⟨s0, s1, c0, c1, c2, c3, c4⟩; go_simp; try exact rfl)
   try simp only [Act.put, lA, lZ, lS]
   refine tkL 9 ?vA9 rfl ?runA9 hHeld ?_
   case runA9 => (intro w9 hS9; obtain ⟨x0, x1, y0, y1, y2, y3, y4⟩ := ck7 hS9 ⟨s0, s1, c0, c1, c2, c3, c4⟩; go_simp; try exact rfl)
   try simp only [Act.put, lA, lZ, lS]
   refine rdH 10 rfl (fun K hK => ?_); go_simp; refine hK.out _ _ ((Keep.refl [] wq).drew.alloc _) (fun hHeld2 => ?_); clear hK K hHeld; have hHeld := hHeld2; clear hHeld2
   try simp only [Act.put, lA, lZ, lS]
   refine rdH 11 rfl (fun K hK => ?_); go_simp; refine hK.out _ _ (by first | exact ((Keep.refl [] wq).alloc _) | exact ((Keep.refl [] wq).alloc _).drew | exact (((Keep.refl [] wq).drew).alloc _)) (fun hHeld2 => ?_); clear hK K hHeld; have hHeld := hHeld2; clear hHeld2
   try simp only [Act.put, lA, lZ, lS]
   refine wpAnyH_done (by kernel_rfl) ?_ _; have hbx := heap_alloc_new wq (.cells #[.int .i64 k, .int .i64 n, .string ⟨x.toArray⟩, .int .i64 at2, .int .i64 en2] 88); obtain ⟨d0, d1, d2, d3, d4⟩ := cells5d hbx; clear s0 s1 c0 c1 c2 c3 c4 hbx
   by_cases k5 : k = 5
   ·by_cases hs : x = s
    ·go_wp2_with fail; go_ret; exact ⟨by simp [*], by first | exact HKQ.o.alloc _ | exact (HKQ.o.alloc _).drew | exact HKQ.o.drew.alloc _⟩
    ·go_wp2_with fail; go_ret; exact ⟨by simp [*], by first | exact HKQ.o.alloc _ | exact (HKQ.o.alloc _).drew | exact HKQ.o.drew.alloc _⟩
   ·by_cases k4 : k = 4
    ·by_cases hs : x = s
     ·go_wp2_with fail; go_ret; exact ⟨by simp [*], by first | exact HKQ.o.alloc _ | exact (HKQ.o.alloc _).drew | exact HKQ.o.drew.alloc _⟩
     ·go_wp2_with fail; go_ret; exact ⟨by simp [*], by first | exact HKQ.o.alloc _ | exact (HKQ.o.alloc _).drew | exact HKQ.o.drew.alloc _⟩
    ·go_wp2_with fail; go_ret; exact ⟨by simp [*], by first | exact HKQ.o.alloc _ | exact (HKQ.o.alloc _).drew | exact HKQ.o.drew.alloc _⟩
  ·obtain ⟨a, c, rfl⟩ := rdd_form h2; have q1 : (l.length : Int) ≤ (r : Int) := by omega
   have hv : isD l r 0 s = false := by unfold isD; rw [List.getElem?_eq_none (by omega)]; rfl
   rw [hv]; clear h1 h2 h hv; go_enter Tryz.func49, Tryz.ntmps49; go_wp2_with fail; go_quiet (fail); go_wp2_with fail; go_ret; exact ⟨rfl, by first | exact Keep.refl _ _ | exact (Keep.refl [] w).drewN _⟩
 ·have he' : (e != 0) = true := by simpa using he
  have hv : isD l r e s = false := by unfold isD; simp [he]
  rw [hv]; obtain ⟨a, c, rfl⟩ := rdd_form h2; clear h1 h2 h hv; go_enter Tryz.func49, Tryz.ntmps49; go_wp2_with fail; go_quiet (fail); go_wp2_with fail; go_ret; exact ⟨rfl, by first | exact Keep.refl _ _ | exact (Keep.refl [] w).drewN _⟩
theorem isD_iff {l : List TkD} {r : Nat} {e : Int} {s : List UInt8} (h : isD l r e s = true) : e = 0 ∧ ∃ hr : r < l.length, (l[r].k = 5 ∨ l[r].k = 4) ∧ l[r].x = s := by
 unfold isD at h; simp only [Bool.and_eq_true, decide_eq_true_eq] at h; obtain ⟨h1, h2⟩ := h; refine ⟨h1, ?_⟩
 by_cases hr : r < l.length
 ·rw [List.getElem?_eq_getElem hr] at h2; simp at h2; exact ⟨hr, h2⟩
 ·rw [List.getElem?_eq_none (by omega)] at h2; cases h2
def rD (l : List TkD) (r : Nat) (e : Int) (s : List UInt8) : Nat := if isD l r e s = true then r + 1 else r
theorem d_take {lo : Nat} {w : World} {pb : Nat} {l : List TkD} {r : Nat} {e : Int} (h : DP lo w pb l r e) (s : List UInt8) : Calls Tryz.prog 18 #[.pointer (some ⟨pb, 0, none⟩), .string ⟨s.toArray⟩] w fun e1 w' => e1 = .returned (.bool (isD l r e s)) ∧ DP lo w' pb l (rD l r e s) e ∧ Keep [pb] w w' := by
 have HI := hyd (d_is h s); have H := hyd h; have hlm : l.length ≤ 9223372036854775807 := by obtain ⟨v, o, en, at_, h1, h2, -⟩ := h.blk; exact rdd_len h2
 clear h; unfold rD
 by_cases hs : isD l r e s = true
 ·obtain ⟨rfl, hr, -⟩ := isD_iff hs; rw [if_pos hs]; rw [hs] at HI ⊢; have hw : IntKind.i64.wrap ((r : Int) + 1) = (r : Int) + 1 := IntWalk.i64_in _ (by omega); clear hs; go_enter Tryz.func18, Tryz.ntmps18; go_wp2_with fail; refine HI.o.mono ?_; rintro e1 w1 ⟨rfl, hk⟩; have h1 := H.o.keep0 hk; have f1 := h1.frz; obtain ⟨v', o', en', at', hb1, -⟩ := h1.blk; obtain ⟨t0, t1, t2, t3, t4⟩ := cells5d hb1; have HD := hyd (And.intro (h1.step hr) ((hk.mono (G := [pb]) (by simp)).setCell (p := ⟨pb, 1, none⟩) (.inl (by simp)) (.int .i64 ((r : Int) + 1)))); clear h1 hb1 hk; go_wp2_with fail; go_ret; exact ⟨rfl, HD.o.1, HD.o.2⟩
 ·rw [if_neg hs]; simp only [Bool.not_eq_true] at hs; rw [hs] at HI ⊢; clear hs; go_enter Tryz.func18, Tryz.ntmps18; go_wp2_with fail; refine HI.o.mono ?_; rintro e1 w1 ⟨rfl, hk⟩; have HK := hyd hk; clear hk; go_wp2_with fail; go_ret; exact ⟨rfl, H.o.keep0 HK.o, HK.o.mono (by simp)⟩
def MustD (lo : Nat) (w : World) (pb : Nat) (l : List TkD) (r : Nat) (e : Int) (s : List UInt8) (e1 : Ending) (w' : World) : Prop :=
 e1 = .returned (.tuple #[]) ∧ (∃ r' e', DP lo w' pb l r' e' ∧ (isD l r e s = true ∧ r' = r + 1 ∧ e' = e ∨ isD l r e s = false ∧ r' = r ∧ e' ≠ 0)) ∧ Keep [pb] w w'
theorem d_must {lo : Nat} {w : World} {pb : Nat} {l : List TkD} {r : Nat} {e : Int} (h : DP lo w pb l r e) (s : List UInt8) : Calls Tryz.prog 19 #[.pointer (some ⟨pb, 0, none⟩), .string ⟨s.toArray⟩] w (MustD lo w pb l r e s) := by
 have HT := hyd (d_take h s); clear h; unfold rD at HT
 by_cases hs : isD l r e s = true
 ·rw [if_pos hs, hs] at HT; have HS := hyd hs; clear hs; go_enter Tryz.func19, Tryz.ntmps19; go_wp2_with fail; refine HT.o.mono ?_; rintro e1 w1 ⟨rfl, h1, hk⟩; have HD := hyd (And.intro h1 hk); clear h1 hk; go_wp2_with fail
  go_end0
  exact ⟨rfl, ⟨_, _, HD.o.1, .inl ⟨HS.o, rfl, rfl⟩⟩, HD.o.2⟩
 ·rw [if_neg hs] at HT; simp only [Bool.not_eq_true] at hs; rw [hs] at HT; have HS := hyd hs; clear hs; go_enter Tryz.func19, Tryz.ntmps19; go_wp2_with fail; refine HT.o.mono ?_; rintro e1 w1 ⟨rfl, h1, hk⟩; have HD := hyd (And.intro h1 hk); clear h1 hk; go_wp2_with fail; refine (d_fail HD.o.1 (x := 110) (by decide)).mono ?_; rintro e1 w2 ⟨rfl, ⟨e', he', h2⟩, hk2⟩; have HD2 := hyd (And.intro h2 (And.intro he' (HD.o.2.trans hk2 (by simp)))); clear h2 he' hk2; go_wp2_with fail
  go_end0
  exact ⟨rfl, ⟨_, _, HD2.o.1, .inr ⟨HS.o, rfl, HD2.o.2.1⟩⟩, HD2.o.2.2⟩
theorem d_kind {lo : Nat} {w : World} {pb : Nat} {l : List TkD} {r : Nat} {e : Int} (h : DP lo w pb l r e) (k : Int) : Calls Tryz.prog 47 #[.pointer (some ⟨pb, 0, none⟩), .int .i64 k] w fun e1 w' => e1 = .returned (.bool (kindD l r e k)) ∧ Keep [] w w' := by
 obtain ⟨v, o, en, at_, h1, h2, -⟩ := h.blk; obtain ⟨s0, s1, s2, s3, s4⟩ := cells5d h1; have hr := h.rl; have hlm := rdd_len h2
 by_cases he : e = 0
 ·subst he
  by_cases hlt : r < l.length
  ·obtain ⟨b, off, c, rfl, -, c0, c1, c2, c3, c4⟩ := tokd_at h2 hlt; have q2 : (r : Int) < (l.length : Int) := by omega
   have q0 : (0 : Int) ≤ (r : Int) := by omega
   have hv : kindD l r 0 k = decide (l[r].k = k) := by unfold kindD; rw [List.getElem?_eq_getElem hlt]; simp
   rw [hv]; obtain ⟨tk, htk⟩ : ∃ t, t = l[r] := ⟨_, rfl⟩; rw [← htk] at c0 c1 c2 c3 c4 ⊢; obtain ⟨k', n, x, at2, en2⟩ := tk; simp only at c0 c1 c2 c3 c4 ⊢; clear h1 h2 h hv htk; go_enter Tryz.func47, Tryz.ntmps47; go_wp2_with fail; go_quiet (fail); go_wp2_with fail; go_ret; exact ⟨by simp; rfl, by first | exact Keep.refl _ _ | exact (Keep.refl [] w).drewN _⟩
  ·obtain ⟨a, c, rfl⟩ := rdd_form h2; have q1 : ¬ (r : Int) < (l.length : Int) := by omega
   have hv : kindD l r 0 k = false := by unfold kindD; rw [List.getElem?_eq_none (by omega)]; rfl
   rw [hv]; clear h1 h2 h hv; go_enter Tryz.func47, Tryz.ntmps47; go_wp2_with fail; go_quiet (fail); go_wp2_with fail; go_ret; exact ⟨rfl, by first | exact Keep.refl _ _ | exact (Keep.refl [] w).drewN _⟩
 ·have he' : (e == 0) = false := beq_eq_false_iff_ne.2 he; have hv : kindD l r e k = false := by unfold kindD; simp [he]
  rw [hv]; clear h1 h2 h hv; go_enter Tryz.func47, Tryz.ntmps47; go_wp2_with fail; go_quiet (fail); go_wp2_with fail; go_ret; exact ⟨rfl, by first | exact Keep.refl _ _ | exact (Keep.refl [] w).drewN _⟩
def OpD (lo : Nat) (w : World) (pb : Nat) (l : List TkD) (r : Nat) (e : Int) (ls : List (List UInt8)) (e1 : Ending) (w' : World) : Prop :=
 ∃ t r', e1 = .returned (.string ⟨t.toArray⟩) ∧ DP lo w' pb l r' e ∧ Keep [pb] w w' ∧ (t = [] ∧ r' = r ∨ t ∈ ls ∧ t ≠ [] ∧ isD l r e t = true ∧ r' = r + 1)
theorem d_op {lo : Nat} {w : World} {pb : Nat} {l : List TkD} {r : Nat} {e : Int} (h : DP lo w pb l r e) {v : Value} {ls : List (List UInt8)} {o : Option Nat} (hv : Rd w 1 v ls.length (ls.map strV) o) (ho : ∀ b, o = some b → b ≠ pb) (hne : ∀ x ∈ ls, x ≠ []) :
  Calls Tryz.prog 119 #[.pointer (some ⟨pb, 0, none⟩), v] w (OpD lo w pb l r e ls) := by
 have H := hyd h; obtain ⟨hvl, va, vc, rfl, hv1, hv2, hv3⟩ := id hv; have hlm : ls.length ≤ 9223372036854775807 := by unfold maxLen at hv2; omega
 have HV := hyd (And.intro hv ho); have HNE := hyd hne; clear h hv ho hvl hv1 hv2 hv3 hne; go_enter Tryz.func119, Tryz.ntmps119; go_wp2_with fail
 go_loopw [5] (fun v wr => ∃ k : Nat, k ≤ ls.length ∧ v = .int .i64 k ∧ DP lo wr pb l r e ∧ Keep [pb] w wr) (fun v _ => ls.length - (RowKit.intOf v).toNat)
 case atStart => exact ⟨0, Nat.zero_le _, rfl, H.o, Keep.refl _ _⟩
 case round =>
  obtain ⟨i, hk, rfl, hdp, hkw⟩ := hrel; have HDP := hyd hdp; have HKW := hyd hkw; clear hdp hkw
  by_cases hi : i < ls.length
  ·have hlt : (i : Int) < (ls.length : Int) := by omega
   have hge : (0 : Int) ≤ (i : Int) := by omega
   have hw2 : IntKind.i64.wrap ((i : Int) + 1) = (i : Int) + 1 := IntWalk.i64_in _ (by omega); obtain ⟨-, a', c', e', -, -, h3⟩ := HV.o.1.keep HKW.o (fun b hb hm => by simp at hm; exact HV.o.2 b hb hm)
   cases e'
   rcases h3 with ⟨h3, _⟩ | ⟨b, off, rfl, hob, h3⟩
   ·omega
   have hc := h3 i (by omega); rw [List.getElem?_map, List.getElem?_eq_getElem hi] at hc; obtain ⟨t, ht⟩ : ∃ t, t = ls[i] := ⟨_, rfl⟩; rw [← ht] at hc; simp only [Option.map_some, strV] at hc; have hbl := World.block_lt_of_cell? _ _ hc; have htm : t ∈ ls := by rw [ht]; exact List.getElem_mem _
   have HTM := hyd htm; have HT := hyd (d_take HDP.o t); have HOB := hyd (HV.o.2 b hob); unfold rD at HT; clear ht htm h3 hob
   by_cases hs : isD l r e t = true
   ·rw [if_pos hs, hs] at HT; have HS := hyd hs; clear hs; go_wp2_with fail; refine HT.o.mono ?_; rintro e1 w1 ⟨rfl, h1, hk1⟩; have hc1 := hk1.cellOf hc (by simpa using HOB.o); have HD := hyd (And.intro h1 (HKW.o.trans hk1 (by simp))); clear h1 hk1 hc; go_wp2_with fail; go_ret; exact ⟨t, _, rfl, HD.o.1, HD.o.2, .inr ⟨HTM.o, HNE.o t HTM.o, HS.o, rfl⟩⟩
   ·rw [if_neg hs] at HT; simp only [Bool.not_eq_true] at hs; rw [hs] at HT; clear hs; go_wp2_with fail; refine HT.o.mono ?_; rintro e1 w1 ⟨rfl, h1, hk1⟩; have HD := hyd (And.intro h1 (HKW.o.trans hk1 (by simp))); clear h1 hk1 hc; go_wp2_with fail; go_roundw
    case rel => exact ⟨i + 1, by omega, by go_num, HD.o.1, HD.o.2⟩
    case measure => simp [intOf]; omega
  ·obtain rfl : i = ls.length := by omega
   have q1 : ¬ (ls.length : Int) < (ls.length : Int) := by omega
   go_wp2_with fail; go_ret; exact ⟨[], r, rfl, HDP.o, HKW.o, .inl ⟨rfl, rfl⟩⟩
end Go.Proofs.YtdmmhfbafinkpaaGreatDoor
