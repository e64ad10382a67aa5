/- A part of the proof (Su16), joined by squeeze2.py. -/
import Derived.Test.YtimpadpeibgmoaaGreatYd21
import Derived.Test.YtimpadpeibgmoaaGreatYd08
set_option maxHeartbeats 8000000
set_option maxRecDepth 100000
namespace Go.Proofs.YtimpadpeibgmoaaGreat
open Go.RowKit Go.Emb Go.Emb.Ext
theorem RowE.nil (w : World) : RowE w (.slice none 0 0) [] none := Row.nil _ _ _
theorem RowE.rde {w : World} {v : Value} {l : List E} {o : Option Nat} (h : RowE w v l o) : ∃ o', RdE w v l o' ∧ (o' = none ∨ o' = o) := Row.rd h
theorem RowE.form {w : World} {v : Value} {l : List E} {o : Option Nat} (h : RowE w v l o) : ∃ a c, v = .slice a l.length c := by
 obtain ⟨o', ⟨-, a, c, h, -⟩, -⟩ := RowE.rde h; exact ⟨a, c, h⟩
theorem extE_info : (Tryz.prog.info? 34).map (fun i => (i.zero, i.size, i.bytes)) = some (some (.agg #[.int .i64 0, .int .i64 0]), 2, 16) := by kernel_rfl
theorem encE_oneS (x : E) : ∀ u ∈ encE x, u.oneCell' = true := by intro u hu; simp [encE] at hu; rcases hu with rfl | rfl <;> rfl
theorem oNum_num {n : Nat} (r : List UInt8) (h : n < 18446744073709551616) : oNum false (some (numL n 0 ++ r)) = (n, false, some r) := by
 have := pNum_num false false n r h (by simp)
 exact oNum_some (by simpa using this)
theorem p_small {w : World} {rb eb q n most : Nat} {bs rest : List UInt8} {v : Value} {bo : Option Nat} {st : Option (List UInt8)} {is : Bool} (hc : w.cell? ⟨rb, 0, none⟩ = some (.pointer (some ⟨q, 0, none⟩))) (h : TSt 187 w q bs v bo st) (hn : oNum false st = (n, is, some rest)) (hm : n ≤ most) (hm2 : most ≤ 100000000) :
  Calls Tryz.prog 110 #[.int .u64 most, .pointer (some ⟨rb, 0, none⟩), .pointer (some ⟨eb, 0, none⟩)] w fun e w' => e = .returned (.int .i64 n) ∧ TSt 187 w' q bs v bo (some rest) ∧ Keep [q] w w' := by
 have hct := p_tnum h
 simp only [hn] at hct
 have HCT := hyd hct
 have hle : ¬ (most : Int) < (n : Int) := by omega
 have hw : IntKind.i64.wrap (n : Int) = (n : Int) := IntWalk.i64_in _ (by omega)
 clear h hn hct
 go_enter Tryz.func110, Tryz.ntmps110
 go_wp2_with fail
 refine HCT.o.mono ?_
 rintro e w2 ⟨rfl, hst, hk⟩
 have HST := hyd hst
 have HK := hyd hk
 clear hst hk
 go_wp2_with fail
 refine bodyPost_ret (results_tmp rfl _ _ _) rfl ?_
 exact ⟨rfl, HST.o, HK.o⟩
structure RI (w0 : World) (S q rb eb : Nat) (L : List UInt8) (v : Value) (bo : Option Nat) (gen : Nat) (len ep : Int) (sv : Value) (so : Option Nat) (l : List E) (st : List UInt8) (w : World) : Prop where
 tape : TSt 187 w q L v bo (some st)
 hs : w.heap[S]? = some (.cells #[.int .u64 gen, sv, .int .i64 len, .int .i64 ep] 56)
 row : RowE w sv l so
 hrb : w.heap[rb]? = some (.cells #[.pointer (some ⟨q, 0, none⟩)] 159)
 heb : w.heap[eb]? = some (.cells #[.int .i64 0] 26)
 ne : S ≠ q ∧ S ≠ rb ∧ S ≠ eb ∧ rb ≠ q ∧ eb ≠ q ∧ bo ≠ some q ∧ bo ≠ some S
 son : ∀ b, so = some b → w0.heap.size ≤ b ∧ b ≠ S ∧ b ≠ q ∧ b ≠ rb ∧ b ≠ eb ∧ bo ≠ some b
 lo : w0.heap.size ≤ S ∧ w0.heap.size ≤ q
 blt : ∀ b, bo = some b → b < w.heap.size
 keep : Keep [] w0 w
theorem TSt.lt {w : World} {q : Nat} {L : List UInt8} {v : Value} {bo : Option Nat} {st : Option (List UInt8)} (h : TSt 187 w q L v bo st) : q < w.heap.size := by
 obtain ⟨_, _, _, h, -⟩ := h
 exact (Array.getElem?_eq_some_iff.1 h.blk).1
theorem RI.turn {w0 w w' : World} {S q rb eb : Nat} {L : List UInt8} {v : Value} {bo : Option Nat} {gen : Nat} {len ep : Int} {sv : Value} {so : Option Nat} {l : List E} {st st' : List UInt8} (h : RI w0 S q rb eb L v bo gen len ep sv so l st w) (hk : Keep [q] w w') (ht : TSt 187 w' q L v bo (some st')) : RI w0 S q rb eb L v bo gen len ep sv so l st' w' :=
 ⟨ht, blkk h.hs hk (by simpa using h.ne.1), Row.keep h.row hk (fun b hb => by simpa using (h.son b hb).2.2.1), blkk h.hrb hk (by simpa using h.ne.2.2.2.1), blkk h.heb hk (by simpa using h.ne.2.2.2.2.1), h.ne, h.son, h.lo, fun b hb => Nat.lt_of_lt_of_le (h.blt b hb) hk.size, h.keep.trans hk (fun b hb => by simp at hb; subst hb; exact .inr h.lo.2)⟩
theorem RI.keep0 {w0 w w' : World} {S q rb eb : Nat} {L : List UInt8} {v : Value} {bo : Option Nat} {gen : Nat} {len ep : Int} {sv : Value} {so : Option Nat} {l : List E} {st : List UInt8} (h : RI w0 S q rb eb L v bo gen len ep sv so l st w) (hk : Keep [] w w') : RI w0 S q rb eb L v bo gen len ep sv so l st w' :=
 ⟨h.tape.keep0 hk, blkk h.hs hk (by simp), Row.keep h.row hk (by simp), blkk h.hrb hk (by simp), blkk h.heb hk (by simp), h.ne, h.son, h.lo, fun b hb => Nat.lt_of_lt_of_le (h.blt b hb) hk.size, h.keep.trans hk (by simp)⟩
theorem RI.field {w0 w w' : World} {S q rb eb : Nat} {L : List UInt8} {v : Value} {bo : Option Nat} {gen gen' : Nat} {len ep len' ep' : Int} {sv sv' : Value} {so so' : Option Nat} {l l' : List E} {st : List UInt8} (h : RI w0 S q rb eb L v bo gen len ep sv so l st w) (hk : Keep [S] w w') (hs : w'.heap[S]? = some (.cells #[.int .u64 gen', sv', .int .i64 len', .int .i64 ep'] 56)) (hrow : RowE w sv' l' so')
  (hson : ∀ b, so' = some b → w0.heap.size ≤ b ∧ b ≠ S ∧ b ≠ q ∧ b ≠ rb ∧ b ≠ eb ∧ bo ≠ some b) : RI w0 S q rb eb L v bo gen' len' ep' sv' so' l' st w' :=
 ⟨h.tape.keep hk (by simpa using fun e => h.ne.1 e.symm) (fun b hb hm => by simp at hm; subst hm; exact h.ne.2.2.2.2.2.2 hb), hs, Row.keep hrow hk (fun b hb => by simpa using (hson b hb).2.1), blkk h.hrb hk (by simpa using fun e => h.ne.2.1 e.symm), blkk h.heb hk (by simpa using fun e => h.ne.2.2.1 e.symm), h.ne, hson, h.lo, fun b hb => Nat.lt_of_lt_of_le (h.blt b hb) hk.size, h.keep.trans hk (fun b hb => by simp at hb; subst hb; exact .inr h.lo.1)⟩
theorem RI.grown {w0 w w' : World} {S q rb eb g : Nat} {L : List UInt8} {v : Value} {bo : Option Nat} {gen : Nat} {len ep : Int} {sv : Value} {so : Option Nat} {l : List E} {st : List UInt8} (h : RI w0 S q rb eb L v bo gen len ep sv so l st w) (hk : Keep so.toList w w') (hg : so = some g ∨ w.heap.size ≤ g) :
  TSt 187 w' q L v bo (some st) ∧ w'.heap[S]? = some (.cells #[.int .u64 gen, sv, .int .i64 len, .int .i64 ep] 56) ∧ w'.heap[rb]? = some (.cells #[.pointer (some ⟨q, 0, none⟩)] 159) ∧ w'.heap[eb]? = some (.cells #[.int .i64 0] 26) ∧ (w0.heap.size ≤ g ∧ g ≠ S ∧ g ≠ q ∧ g ≠ rb ∧ g ≠ eb ∧ bo ≠ some g) ∧ Keep [] w0 w' ∧ ∀ b, bo = some b → b < w'.heap.size := by
 have hn : ∀ b, b ∈ so.toList → so = some b := fun b hb => by simpa using hb
 refine ⟨h.tape.keep hk (fun hm => (h.son _ (hn _ hm)).2.2.1 rfl) (fun b hb hm => (h.son _ (hn _ hm)).2.2.2.2.2 hb), blkk h.hs hk (fun hm => (h.son _ (hn _ hm)).2.1 rfl), blkk h.hrb hk (fun hm => (h.son _ (hn _ hm)).2.2.2.1 rfl), blkk h.heb hk (fun hm => (h.son _ (hn _ hm)).2.2.2.2.1 rfl), ?_, h.keep.trans hk (fun b hb => .inr (h.son _ (hn _ hb)).1), fun b hb => Nat.lt_of_lt_of_le (h.blt b hb) hk.size⟩
 rcases hg with hg | hg
 ·exact h.son g hg
 ·have h1 := (Array.getElem?_eq_some_iff.1 h.hs).1
  have h2 := h.tape.lt
  have h3 := (Array.getElem?_eq_some_iff.1 h.hrb).1
  have h4 := (Array.getElem?_eq_some_iff.1 h.heb).1
  exact ⟨Nat.le_trans h.keep.size hg, by omega, by omega, by omega, by omega, fun e => by have := h.blt g e; omega⟩
theorem RI.pushed {w0 w w' : World} {S q rb eb g : Nat} {L : List UInt8} {v : Value} {bo : Option Nat} {gen : Nat} {len ep : Int} {sv sv' : Value} {so : Option Nat} {l l' : List E} {st : List UInt8} (h : RI w0 S q rb eb L v bo gen len ep sv so l st w) (hk : Keep so.toList w w') (hg : so = some g ∨ w.heap.size ≤ g) (hrow : RowE w' sv' l' (some g)) :
  w'.heap[S]? = some (.cells #[.int .u64 gen, sv, .int .i64 len, .int .i64 ep] 56) ∧ RI w0 S q rb eb L v bo gen len ep sv' (some g) l' st (w'.setCell ⟨S, 1, none⟩ sv') := by
 obtain ⟨g1, g2, g3, g4, g5, g6, g7⟩ := h.grown hk hg
 have hb := heap_setCell_at (i := 1) g2 sv'
 have hks : Keep [S] w' (w'.setCell ⟨S, 1, none⟩ sv') := Keep.set1 w' ⟨S, 1, none⟩ sv'
 exact ⟨g2, ⟨g1.keep hks (by simpa using fun e => h.ne.1 e.symm) (fun b hb' hm => by simp at hm; subst hm; exact h.ne.2.2.2.2.2.2 hb'), by simpa using hb, Row.keep hrow hks (fun b hb' => by cases hb'; simpa using g5.2.1), blkk g3 hks (by simpa using fun e => h.ne.2.1 e.symm), blkk g4 hks (by simpa using fun e => h.ne.2.2.1 e.symm), h.ne, fun b hb' => by cases hb'; exact g5, h.lo, fun b hb' => Nat.lt_of_lt_of_le (g7 b hb') hks.size, g6.trans hks (fun b hb' => by simp at hb'; subst hb'; exact .inr h.lo.1)⟩⟩
theorem RI.small {w0 w : World} {S q rb eb : Nat} {L : List UInt8} {v : Value} {bo : Option Nat} {gen : Nat} {len ep : Int} {sv : Value} {so : Option Nat} {l : List E} {st r : List UInt8} {n most : Nat} (h : RI w0 S q rb eb L v bo gen len ep sv so l st w) (hst : st = numL n 0 ++ r) (hn : n ≤ most) (hm : most ≤ 100000000) :
  Calls Tryz.prog 110 #[.int .u64 most, .pointer (some ⟨rb, 0, none⟩), .pointer (some ⟨eb, 0, none⟩)] w fun e w' => e = .returned (.int .i64 n) ∧ RI w0 S q rb eb L v bo gen len ep sv so l r w' ∧ Keep [q] w w' := by
 refine (p_small (w := w) (rb := rb) (eb := eb) (n := n) (by simp [World.cell?, h.hrb]) h.tape (by rw [hst]; exact oNum_num r (by omega)) hn hm).mono ?_
 rintro e w' ⟨rfl, ht, hk⟩
 exact ⟨rfl, h.turn hk ht, hk⟩
def zS : Value := .agg #[.int .u64 0, .slice none 0 0, .int .i64 0, .int .i64 0]
theorem super_size : (Tryz.prog.info? 56).map (·.size) = some 4 := by kernel_rfl
theorem frozen4 {w : World} {q : Nat} {cs : Array Value} {t : TypeId} (h : w.heap[q]? = some (.cells cs t (0, 0))) : ∀ i, w.frozen? ⟨q, i, none⟩ = false := fun i => by simp [World.frozen?, h]
theorem set4 {w : World} {q : Nat} {a b c d : Value} {t : TypeId} (h : w.heap[q]? = some (.cells #[a, b, c, d] t (0, 0))) (x y z u : Value) : ((((w.setCell ⟨q, 0, none⟩ x).setCell ⟨q, 1, none⟩ y).setCell ⟨q, 2, none⟩ z).setCell ⟨q, 3, none⟩ u).heap[q]? = some (.cells #[x, y, z, u] t (0, 0)) ∧ Keep [q] w ((((w.setCell ⟨q, 0, none⟩ x).setCell ⟨q, 1, none⟩ y).setCell ⟨q, 2, none⟩ z).setCell ⟨q, 3, none⟩ u) :=
 ⟨by simpa using heap_setCell_at (i := 3) (heap_setCell_at (i := 2) (heap_setCell_at (i := 1) (heap_setCell_at (i := 0) h x) y) z) u, ((((Keep.refl _ w).setCell (.inl (by simp)) _).setCell (.inl (by simp)) _).setCell (.inl (by simp)) _).setCell (.inl (by simp)) _⟩
theorem s_read_none {w : World} {n : Nat} {v : Value} {b : List UInt8} {o : Option Nat} (hr : Rd w 1 v b.length (Lib.byteCells b) o) (hlo : ∀ c, o = some c → c < w.heap.size) (hsz : b.length ≤ 1000000000) (hb : openS b = none) :
  Calls Tryz.prog 71 #[.int .i64 n, v] w fun e w' => e = .returned (.tuple #[zS, .bool false]) ∧ Keep [] w w' := by
 unfold zS
 have hk1 : Keep [] w (w.alloc (.cells #[.int .u64 0, .slice none 0 0, .int .i64 0, .int .i64 0] 56)) := (Keep.refl [] w).alloc _
 have hb1 := heap_alloc_new w (.cells #[.int .u64 0, .slice none 0 0, .int .i64 0, .int .i64 0] 56)
 have hget := sl_get (hr.keep0 hk1) (fun c hc => Nat.lt_of_lt_of_le (hlo c hc) hk1.size) hsz
 have HGET := hyd hget
 have HK1 := hyd hk1
 have HB1 := hyd hb1
 have HB := hyd hb
 clear hr hlo hget hk1 hb1 hb
 go_enter Tryz.func71, Tryz.ntmps71
 go_wp2_with fail
 refine HGET.o.mono ?_
 rintro e w2 ⟨(⟨-, rfl⟩ | ⟨x, lv, lo, hx, -⟩), hk2⟩
 ·have hb2 := blkk (blkk (blkk HB1.o hk2 (by simp)) ((Keep.refl [] _).alloc (.cells #[.int .u8 0, .int .u64 0, .slice none 0 0] 131)) (by simp)) ((Keep.refl [] _).alloc (.cells #[.int .i64 30] 26)) (by simp)
  have hk3 := ((HK1.o.trans hk2 (by simp)).alloc (.cells #[.int .u8 0, .int .u64 0, .slice none 0 0] 131)).alloc (.cells #[.int .i64 30] 26)
  obtain ⟨c0, c1, c2, c3⟩ := cells4s hb2
  have f := frozen4 hb2
  obtain ⟨hb3, hk4⟩ := set4 hb2 (.int .u64 0) (.slice none 0 0) (.int .i64 0) (.int .i64 0)
  have HB3 := hyd hb3
  have HK4 := hyd (hk3.trans hk4 (by simp))
  clear hb2 hk2 hk3 hk4 hb3
  go_wp2_with fail
  refine bodyPost_ret (results_cell_tmp rfl _ _ w.heap.size _ _ _ _ rfl HB3.o Tryz.underlying56 rfl super_size) rfl ?_
  exact ⟨rfl, HK4.o⟩
 ·rw [HB.o] at hx
  cases hx
theorem s_read_some {w : World} {n : Nat} {v : Value} {b : List UInt8} {o : Option Nat} {x : Sup} (hr : Rd w 1 v b.length (Lib.byteCells b) o) (hlo : ∀ c, o = some c → c < w.heap.size) (hsz : b.length ≤ 1000000000) (hb : openS b = some ⟨83, x.gen, loadL x⟩) (hok : okS n x) (hn : n ≤ 16384) (hg : x.gen < 18446744073709551616) :
  Calls Tryz.prog 71 #[.int .i64 n, v] w fun e w' => ∃ pv po, e = .returned (.tuple #[aggS x pv, .bool true]) ∧ RowE w' pv x.ps po ∧ (∀ c, po = some c → w.heap.size ≤ c) ∧ Keep [] w w' := by
 have hX := hyd (show ∃ y, y = x from ⟨_, rfl⟩)
 obtain ⟨gen, ps, len, ep⟩ := x
 unfold aggS
 simp only at *
 have hps := hok.1.2.2.2.2.2
 have hlen := hok.1.2.2.2.1
 have hlen2 := hok.1.2.2.2.2.1
 have hep := hok.1.2.1
 have hep2 := hok.1.2.2.1
 simp only at hps hlen hlen2 hep hep2
 obtain ⟨ln, rfl⟩ : ∃ n : Nat, len = n := ⟨len.toNat, by omega⟩
 obtain ⟨en, rfl⟩ : ∃ n : Nat, ep = n := ⟨ep.toNat, by omega⟩
 have HOKS := hyd hok
 clear hok
 have hk1 : Keep [] w (w.alloc (.cells #[.int .u64 0, .slice none 0 0, .int .i64 0, .int .i64 0] 56)) := (Keep.refl [] w).alloc _
 have hb1 := heap_alloc_new w (.cells #[.int .u64 0, .slice none 0 0, .int .i64 0, .int .i64 0] 56)
 have hget := sl_get (hr.keep0 hk1) (fun c hc => Nat.lt_of_lt_of_le (hlo c hc) hk1.size) hsz
 have HGET := hyd hget
 have HK1 := hyd hk1
 have HB1 := hyd hb1
 have HB := hyd hb
 have hll := loadL_len (x := ⟨gen, ps, ln, en⟩) hps
 obtain ⟨L, hL⟩ : ∃ z, z = loadL ⟨gen, ps, ln, en⟩ := ⟨_, rfl⟩
 rw [← hL] at HB hll
 have HL := hyd hL
 clear hr hlo hget hk1 hb1 hb hL
 go_enter Tryz.func71, Tryz.ntmps71
 go_wp2_with fail
 refine HGET.o.mono ?_
 rintro e w2 ⟨(⟨hx, -⟩ | ⟨x, lv, lo, hx, rfl, hrb, hfr⟩), hk2⟩
 ·rw [HB.o] at hx
  cases hx
 rw [HB.o] at hx
 obtain rfl := Option.some.inj hx
 obtain ⟨la, lc, rfl, -⟩ := hrb.form
 simp only at hrb
 have HSX := hyd (show w.heap.size < w2.heap.size by have := hk2.size; rw [size_alloc] at this; omega)
 have h83 : (((83 : UInt8).toNat : Nat) : Int) = 83 := rfl
 simp only [h83]
 have hb2 := blkk (blkk (blkk HB1.o hk2 (by simp)) ((Keep.refl [] _).alloc (.cells #[.int .u8 83, .int .u64 gen, .slice la L.length lc] 131)) (by simp)) ((Keep.refl [] _).alloc (.cells #[.int .i64 0] 26)) (by simp)
 have hk3 := ((HK1.o.trans hk2 (by simp)).alloc (.cells #[.int .u8 83, .int .u64 gen, .slice la L.length lc] 131)).alloc (.cells #[.int .i64 0] 26)
 have hrb3 := (hrb.keep (((Keep.refl [] w2).alloc (.cells #[.int .u8 83, .int .u64 gen, .slice la L.length lc] 131)).alloc (.cells #[.int .i64 0] 26)) (by simp))
 obtain ⟨lo3, hrd3, hlo3⟩ := Row.rd hrb3
 have hopen := p_open hrd3 (by omega)
 have HOPEN := hyd hopen
 have HB2 := hyd hb2
 have HK3 := hyd hk3
 clear hrb hfr hk2 hk3 hrb3 hrd3 hlo3 hopen hb2 hx h83
 go_wp2_with fail
 refine HOPEN.o.mono ?_
 rintro e w3 ⟨q, tv, bo, rfl, ht, hq, hbq, hblt, hk3⟩
 simp only [size_alloc] at hq hbq
 have eg : ∀ args w, (callFunc 110 args).run Tryz.prog w = .ok (.enter 110 args) w := enters_of Tryz.func110 (by kernel_rfl) rfl
 have hbs3 := blkk HB2.o hk3 (by simp)
 have hbx3 : w3.heap[w2.heap.size]? = some (.cells #[.int .u8 83, .int .u64 gen, .slice la L.length lc] 131) := blkk (lit_alloc (heap_new w2 (.cells #[.int .u8 83, .int .u64 gen, .slice la L.length lc] 131)) (.cells #[.int .i64 0] 26)) hk3 (by simp)
 have hbe3 : w3.heap[w2.heap.size + 1]? = some (.cells #[.int .i64 0] 26) := blkk (by have := heap_new (w2.alloc (.cells #[.int .u8 83, .int .u64 gen, .slice la L.length lc] 131)) (.cells #[.int .i64 0] 26); rw [size_alloc] at this; exact this) hk3 (by simp)
 have hka : Keep [] w3 (w3.alloc (.cells #[.pointer (some ⟨q, 0, none⟩)] 159)) := (Keep.refl [] w3).alloc _
 have hk3' := HK3.o.trans hk3 (by simp)
 have hri : RI w w.heap.size q w3.heap.size (w2.heap.size + 1) L tv bo 0 0 0 (.slice none 0 0) none [] L (w3.alloc (.cells #[.pointer (some ⟨q, 0, none⟩)] 159)) := by
  have h1 := HSX.o
  have h2 := ht.lt
  have h3 : bo ≠ some q := by obtain ⟨_, _, _, h, -⟩ := ht; exact fun e => h.ne q e rfl
  exact ⟨ht.keep0 hka, lit_alloc hbs3 _, RowE.nil _, heap_new w3 _, lit_alloc hbe3 _, ⟨by omega, by omega, by omega, by omega, by omega, h3, fun e => by have := hbq _ e; omega⟩, fun b hb => (by cases hb), ⟨Nat.le_refl _, by omega⟩, fun b hb => Nat.lt_of_lt_of_le (hblt b hb) hka.size, hk3'.trans hka (by simp)⟩
 have hb6 := heap_setCell_at (i := 0) (lit_alloc hbs3 (.cells #[.pointer (some ⟨q, 0, none⟩)] 159)) (.int .u64 gen)
 have hri2 := hri.field (gen' := gen) (len' := 0) (ep' := 0) (sv' := .slice none 0 0) (so' := none) (l' := []) (Keep.set1 (w3.alloc (.cells #[.pointer (some ⟨q, 0, none⟩)] 159)) ⟨w.heap.size, 0, none⟩ (.int .u64 gen)) (by simpa using hb6) (RowE.nil _) (fun b hb => by cases hb)
 obtain ⟨TT, hTT⟩ : ∃ z, z = numL ln 0 ++ numL en 0 := ⟨_, rfl⟩
 have hLS : L = numL ps.length 0 ++ (ps.flatMap extU ++ TT) := by rw [HL.o, hTT]; simp [loadL]
 have hsm := hri2.small (n := ps.length) (most := 8) hLS hps (by omega)
 have HRI2 := hyd hri2
 have H110 := hyd hsm
 have HTT := hyd hTT
 have c3x := hTT
 obtain ⟨e0, e1, e2⟩ := cells3b (lit_alloc hbx3 (.cells #[.pointer (some ⟨q, 0, none⟩)] 159))
 have f3 := frozen4 (lit_alloc hbs3 (.cells #[.pointer (some ⟨q, 0, none⟩)] 159))
 obtain ⟨d0, d1, d2, d3⟩ := cells4s (lit_alloc hbs3 (.cells #[.pointer (some ⟨q, 0, none⟩)] 159))
 clear ht hq hbq hblt hk3 hbs3 hbx3 hbe3 hka hk3' hri hb6 hri2 hTT hLS hsm HB2 HOPEN
 go_wp2_with fail
 refine H110.o.mono ?_
 rintro e w4 ⟨rfl, hri, hk4⟩
 have HRI := hyd hri
 have HC3 := hyd c3x
 clear hri hk4 e0 e1 e2 f3 d0 d1 d2 d3 H110 HRI2 c3x
 go_wp2_with fail
 generalize w3.heap.size = rb at *
 generalize hebx : w2.heap.size + 1 = eb at *
 clear hebx
 go_loopw [32] (fun i wr => ∃ (k : Nat) (sv : Value) (so : Option Nat), k ≤ ps.length ∧ i = .int .i64 k ∧ RI w w.heap.size q rb eb L tv bo gen 0 0 sv so (ps.take k) ((ps.drop k).flatMap extU ++ TT) wr) (fun i _ => ps.length - (RowKit.intOf i).toNat)
 case atStart => exact ⟨0, .slice none 0 0, none, Nat.zero_le _, rfl, by simpa using HRI.o⟩
 case round =>
  obtain ⟨k, sv, so, hk, rfl, hri⟩ := hrel
  by_cases hlt : k < ps.length
  ·obtain ⟨l, hl⟩ : ∃ z, z = ps.take k := ⟨_, rfl⟩
   have hll : l.length = k := by rw [hl, List.length_take]; omega
   rw [← hl, List.drop_eq_getElem_cons hlt] at hri
   obtain ⟨sa, sc, rfl⟩ := RowE.form hri.row
   have hl2 : ps.take (k + 1) = l ++ [ps[k]] := by rw [List.take_succ_eq_append_getElem hlt, hl]
   have hoke := (HOKS.o.2.1) _ (List.getElem_mem hlt)
   have q0 : (k : Int) < (ps.length : Int) := by omega
   generalize ps[k] = x at *
   obtain ⟨f, m'⟩ := x
   unfold okE at hoke
   simp only at hoke
   obtain ⟨fn, rfl⟩ : ∃ n : Nat, f = n := ⟨f.toNat, by omega⟩
   obtain ⟨mn, rfl⟩ : ∃ n : Nat, m' = n := ⟨m'.toNat, by omega⟩
   obtain ⟨RR, hRR⟩ : ∃ z, z = (ps.drop (k + 1)).flatMap extU ++ TT := ⟨_, rfl⟩
   have hst : (((fn : Int), (mn : Int)) :: ps.drop (k + 1)).flatMap extU ++ TT = numL fn 0 ++ (numL mn 0 ++ RR) := by rw [hRR]; simp [extU]
   rw [hst] at hri
   have hfn : fn ≤ 16384 := by omega
   have hmn : mn ≤ 16384 := by omega
   obtain ⟨i0, hi, hz0, hz1, hz2⟩ := info_parts extE_info
   have hri0 := hri.keep0 ((Keep.refl [] wr).drew)
   have hc1 := hri0.small (n := fn) (most := 16384) rfl hfn (by omega)
   have HI := hyd hi
   have HR0 := hyd hri0
   have HC1 := hyd hc1
   have HL2 := hyd hl2
   have HLL := hyd hll
   have HRR := hyd hRR
   clear hi hri hri0 hc1 hl2 hl hRR hst hoke
   simp only [hll] at HR0 HC1 ⊢
   clear hll
   go_upto_region 9 with fail
   refine wp_regionB [3, 5, 6, 7] (fun w' => w'.heap[w.heap.size]? = some (.cells #[.int .u64 gen, .slice sa k sc, .int .i64 0, .int .i64 0] 56)) (by kernel_rfl) ?_
   refine tkY 0 ?vA0 rfl ?runA0 ?_
   case runA0 => (intro w9 _; go_simp; try exact rfl)
   try simp only [Act.put, lA, lZ, lS]
   refine tkY 2 ?vA2 rfl ?runA2 ?_
   case runA2 => (intro w9 _; go_simp; try exact rfl)
   try simp only [Act.put, lA, lZ, lS]
   refine tkY 4 ?vA4 rfl ?runA4 ?_
   case runA4 => (intro w9 _; go_simp; try exact rfl)
   try simp only [Act.put, lA, lZ, lS]
   refine tkB [3, 5, 6, 7] 1 ?vA1 rfl ?runA1 (HR0.o.hs) ?_
   case runA1 => (intro w9 hS9; obtain ⟨c0, c1, c2, c3⟩ := cells4s hS9; go_simp; try exact rfl)
   try simp only [Act.put, lA, lZ, lS]
   refine rdB 3 rfl (fun K hK => ?_)
   go_simp
   refine HC1.o.mono ?_
   rintro e w5 ⟨rfl, hri5, hk5⟩
   have HR5 := hyd hri5
   have hc2 := hri5.small (n := mn) (most := 16384) rfl hmn (by omega)
   have HC2 := hyd hc2
   clear hri5 hk5 hc2 HC1
   go_wp2_with fail
   refine hK.out _ _ (fun h => HR5.o.hs) ?_
   clear hK K
   try simp only [Act.put, lA, lZ, lS]
   refine rdB 5 rfl (fun K hK => ?_)
   go_simp
   refine HC2.o.mono ?_
   rintro e w6 ⟨rfl, hri6, hk6⟩
   have HR6 := hyd hri6
   clear hri6 hk6 HC2
   go_wp2_with fail
   refine hK.out _ _ (fun h => HR6.o.hs) ?_
   clear hK K
   try simp only [Act.put, lA, lZ, lS]
   refine tkB [] 6 ?vA6 rfl ?runA6 (HR6.o.hs) ?_
   case runA6 => (intro w9 hS9; obtain ⟨c0, c1, c2, c3⟩ := cells4s hS9; go_simp; try exact rfl)
   try simp only [Act.put, lA, lZ, lS]
   refine rdB 7 rfl (fun K hK => ?_)
   go_simp
   have HR7 := hyd (HR6.o.keep0 ((Keep.refl [] w6).alloc (.cells #[.int .i64 fn, .int .i64 mn] 34)))
   have HB7 := hyd (heap_new w6 (.cells #[.int .i64 fn, .int .i64 mn] 34))
   generalize w6.alloc (.cells #[.int .i64 fn, .int .i64 mn] 34) = w7 at *
   refine hK.out _ _ (fun h => HR7.o.hs) ?_
   clear hK K
   try simp only [Act.put, lA, lZ, lS]
   refine rdB 8 rfl (fun K hK => ?_)
   refine step_append_row _ (by kernel_rfl) _ _ 46 46 rfl 34 i0 (.agg #[.int .i64 0, .int .i64 0]) 2 16 Tryz.underlying46 HI.o hz0 hz1 hz2 rfl (.slice sa k sc) k (l.flatMap encE) so rfl (by have := HR7.o.row; unfold RowE at this; rw [HLL.o] at this; exact this) _ rfl 1 [.int .i64 fn, .int .i64 mn] (src_blk (k := 2) Tryz.underlying46 HB7.o rfl (encE_oneS ((fn : Int), (mn : Int)))) (by omega) (by unfold maxLen; omega) (by omega) ?_
   intro g off cap w8 hr8 hk8 hg8
   have hr9 : RowE w8 (.slice (some ⟨g, off, none⟩) (k + 1) cap) (l ++ [((fn : Int), (mn : Int))]) (some g) := by unfold RowE; rw [List.flatMap_append, List.length_append, HLL.o]; exact hr8
   obtain ⟨hs8, hri9⟩ := HR7.o.pushed hk8 hg8 hr9
   have HB8 := hyd hs8
   have HFIN := hyd hri9
   clear hr8 hk8 hg8 hr9 hs8 hri9
   refine hK.out _ _ (fun h => (nomatch h)) ?_
   clear hK K
   try simp only [Act.put, lA, lZ, lS]
   refine tkY 9 ?vA9 rfl ?runA9 ?_
   case runA9 => (intro w9 _; go_simp; try exact rfl)
   try simp only [Act.put, lA, lZ, lS]
   refine rdB 10 rfl (fun K hK => ?_)
   obtain ⟨c0, c1, c2, c3⟩ := cells4s HB8.o
   have f0 := frozen4 HB8.o
   go_simp
   refine hK.out _ _ (fun h => (nomatch h)) ?_
   clear hK K
   try simp only [Act.put, lA, lZ, lS]
   refine wpAnyB_done (by kernel_rfl) ?_ _
   go_wp2_with fail
   go_roundw
   case rel => exact ⟨k + 1, .slice (some ⟨g, off, none⟩) (k + 1) cap, some g, by omega, by go_num, by rw [HL2.o, ← HRR.o]; exact HFIN.o⟩
   case measure => first | (simp [RowKit.intOf]; omega) | omega
  ·obtain rfl : k = ps.length := by omega
   rw [List.take_of_length_le (Nat.le_refl _), List.drop_of_length_le (Nat.le_refl _), List.flatMap_nil, List.nil_append] at hri
   have q0 : ¬ (ps.length : Int) < (ps.length : Int) := by omega
   obtain ⟨sa, sc, rfl⟩ := RowE.form hri.row
   have hm1 := hri.small (n := ln) (most := 1048576) HTT.o (by omega) (by omega)
   have HM1 := hyd hm1
   clear hm1 hri
   go_wp2_with fail
   refine HM1.o.mono ?_
   rintro e w5 ⟨rfl, hri5, hk5⟩
   have hb5 := heap_setCell_at (i := 2) hri5.hs (.int .i64 ln)
   have hri6 := hri5.field (gen' := gen) (len' := ln) (ep' := 0) (Keep.set1 w5 ⟨w.heap.size, 2, none⟩ (.int .i64 ln)) (by simpa using hb5) hri5.row hri5.son
   have hm2 := hri6.small (n := en) (most := 16777215) (r := []) (by simp) (by omega) (by omega)
   have HM2 := hyd hm2
   obtain ⟨d0, d1, d2, d3⟩ := cells4s hri5.hs
   have f5 := frozen4 hri5.hs
   clear hri5 hk5 hb5 hri6 hm2 HM1
   go_wp2_with fail
   refine HM2.o.mono ?_
   rintro e w7 ⟨rfl, hri7, hk7⟩
   have hb7 := heap_setCell_at (i := 3) hri7.hs (.int .i64 en)
   have hri8 := hri7.field (gen' := gen) (len' := ln) (ep' := en) (Keep.set1 w7 ⟨w.heap.size, 3, none⟩ (.int .i64 en)) (by simpa using hb7) hri7.row hri7.son
   have HR8 := hyd hri8
   clear d0 d1 d2 d3 f5
   obtain ⟨d0, d1, d2, d3⟩ := cells4s hri7.hs
   have f7 := frozen4 hri7.hs
   clear hri7 hk7 hb7 hri8 HM2
   have hend : ∀ W, (fun w' => RI w w.heap.size q rb eb L tv bo gen ln en (.slice sa ps.length sc) so ps [] w') W → Calls Tryz.prog 104 #[.pointer (some ⟨q, 0, none⟩)] W fun e w' => e = .returned (.int .i64 0) ∧ Keep [] W w' := fun W hW => (p_end hW.tape).mono (by
     rintro e w' ⟨E, rfl, hE, -, -, hk⟩
     obtain rfl : E = 0 := hE.2 rfl
     exact ⟨rfl, hk⟩)
   have hchk : ∀ W, (fun w' => RI w w.heap.size q rb eb L tv bo gen ln en (.slice sa ps.length sc) so ps [] w') W → Calls Tryz.prog 94 #[.int .i64 n, .agg #[.int .u64 gen, .slice sa ps.length sc, .int .i64 ln, .int .i64 en]] W fun e w' => e = .returned (.int .i64 0) ∧ Keep [] W w' := fun W hW => by
    obtain ⟨o', hrd, ho'⟩ := RowE.rde hW.row
    refine (su_check (x := ⟨gen, ps, ln, en⟩) hrd (fun b hb => ?_) hn (by simp only; omega)).mono ?_
    ·rcases ho' with h | h
     ·rw [h] at hb; cases hb
     ·exact Row.lt hW.row b (h ▸ hb)
    ·rintro e w' ⟨c, rfl, ⟨rfl, -⟩ | ⟨-, h⟩, hk⟩
     ·exact ⟨rfl, hk⟩
     ·exact absurd HOKS.o h
   have HEND := hyd hend
   have HCHK := hyd hchk
   clear hend hchk
   go_upto_region 13 with fail
   have HR9 := hyd (HR8.o.keep0 ((Keep.refl [] _).drew))
   clear HR8 d0 d1 d2 d3 f7
   refine wp_regionB [1, 2, 3, 4, 5, 6, 7, 8, 9, 10, 11, 12, 13, 14] (fun w' => RI w w.heap.size q rb eb L tv bo gen ln en (.slice sa ps.length sc) so ps [] w') (by kernel_rfl) ?_
   generalize World.drew _ = w9 at *
   refine tkB [1, 2, 3, 4, 5, 6, 7, 8, 9, 10, 11, 12, 13] 0 ?vB0 rfl ?runB0 (HR9.o) ?_
   case runB0 => (intro w9 hS9; obtain ⟨c0, c1, c2, c3⟩ := cells4s hS9.hs; go_simp; try exact rfl)
   try simp only [Act.put, lA, lZ, lS]
   refine tkB [] 1 ?vB1 rfl ?runB1 (HR9.o) ?_
   case runB1 => (intro w9 hS9; obtain c0 := (show w9.cell? ⟨eb, 0, none⟩ = some (.int .i64 0) from by simp [World.cell?, hS9.heb]); go_simp; try exact rfl)
   try simp only [Act.put, lA, lZ, lS]
   refine tkB [] 2 ?vB2 rfl ?runB2 (HR9.o) ?_
   case runB2 => (intro w9 hS9; go_simp; try exact rfl)
   try simp only [Act.put, lA, lZ, lS]
   refine tkB [] 3 ?vB3 rfl ?runB3 (HR9.o) ?_
   case runB3 => (intro w9 hS9; go_simp; try exact rfl)
   try simp only [Act.put, lA, lZ, lS]
   refine tkB [] 4 ?vB4 rfl ?runB4 (HR9.o) ?_
   case runB4 => (intro w9 hS9; obtain c0 := (show w9.cell? ⟨rb, 0, none⟩ = some (.pointer (some ⟨q, 0, none⟩)) from by simp [World.cell?, hS9.hrb]); go_simp; try exact rfl)
   try simp only [Act.put, lA, lZ, lS]
   refine rdB 5 rfl (fun K hK => ?_)
   go_simp
   refine (HEND.o _ HR9.o).mono ?_
   rintro e w10 ⟨rfl, hk10⟩
   have HR10 := hyd (HR9.o.keep0 hk10)
   clear hk10
   go_wp2_with fail
   refine hK.out _ _ (fun h => HR10.o) ?_
   clear hK K
   try simp only [Act.put, lA, lZ, lS]
   refine tkB [] 6 ?vB6 rfl ?runB6 (HR10.o) ?_
   case runB6 => (intro w9 hS9; go_simp; try exact rfl)
   try simp only [Act.put, lA, lZ, lS]
   refine tkB [] 7 ?vB7 rfl ?runB7 (HR10.o) ?_
   case runB7 => (intro w9 hS9; go_simp; try exact rfl)
   try simp only [Act.put, lA, lZ, lS]
   refine tkB [] 8 ?vB8 rfl ?runB8 (HR10.o) ?_
   case runB8 => (intro w9 hS9; go_simp; try exact rfl)
   try simp only [Act.put, lA, lZ, lS]
   refine tkB [10] 9 ?vB9 rfl ?runB9 (HR10.o) ?_
   case runB9 => (intro w9 hS9; go_simp; try exact rfl)
   try simp only [Act.put, lA, lZ, lS]
   refine tkB [] 10 ?vB10 rfl ?runB10 (HR10.o) ?_
   case runB10 => (intro w9 hS9; obtain ⟨c0, c1, c2, c3⟩ := cells4s hS9.hs; go_simp; try exact rfl)
   try simp only [Act.put, lA, lZ, lS]
   refine rdB 11 rfl (fun K hK => ?_)
   go_simp
   refine (HCHK.o _ HR10.o).mono ?_
   rintro e w11 ⟨rfl, hk11⟩
   have HW11 := hyd (HR10.o.keep0 hk11)
   clear hk11
   go_wp2_with fail
   refine hK.out _ _ (fun h => HW11.o) ?_
   clear hK K
   try simp only [Act.put, lA, lZ, lS]
   refine tkB [14] 12 ?vB12 rfl ?runB12 (HW11.o) ?_
   case runB12 => (intro w9 hS9; go_simp; try exact rfl)
   try simp only [Act.put, lA, lZ, lS]
   refine tkB [14] 13 ?vB13 rfl ?runB13 (HW11.o) ?_
   case runB13 => (intro w9 hS9; go_simp; try exact rfl)
   try simp only [Act.put, lA, lZ, lS]
   refine rdB 14 rfl (fun K hK => ?_)
   obtain ⟨d0, d1, d2, d3⟩ := cells4s HW11.o.hs
   have f7 := frozen4 HW11.o.hs
   obtain ⟨hb12, hk12⟩ := set4 HW11.o.hs (.int .u64 gen) (.slice sa ps.length sc) (.int .i64 ln) (.int .i64 en)
   go_simp
   have HB12 := hyd hb12
   have HW12 := hyd (HW11.o.row.keep hk12 (fun b hb => by simpa using (HW11.o.son b hb).2.1))
   have HK12 := hyd (HW11.o.keep.trans hk12 (fun b hb => by simp at hb; subst hb; exact .inr (Nat.le_refl _)))
   have HJ12 := hyd (HW11.o.field hk12 hb12 HW11.o.row HW11.o.son)
   clear d0 d1 d2 d3 f7 hb12 hk12
   refine hK.out _ _ (fun h => HJ12.o) ?_
   clear hK K
   try simp only [Act.put, lA, lZ, lS]
   refine tkY 15 ?vB15 rfl ?runB15 ?_
   case runB15 => (intro w9 _; go_simp; try exact rfl)
   try simp only [Act.put, lA, lZ, lS]
   refine wpAnyB_done (by kernel_rfl) ?_ _
   go_wp2_with fail
   refine bodyPost_ret (results_cell_tmp rfl _ _ w.heap.size _ _ _ _ rfl HB12.o Tryz.underlying56 rfl super_size) rfl ?_
   exact ⟨_, so, rfl, HW12.o, fun c hc => HW11.o.son c hc |>.1, HK12.o⟩
end Go.Proofs.YtimpadpeibgmoaaGreat
