/- A part of the proof (St9), joined by squeeze2.py. -/
import Derived.Test.YtimpadpeibgmoaaGreatYd28
import Derived.Test.YtimpadpeibgmoaaGreatYd29
import Derived.Test.YtimpadpeibgmoaaGreatYd32
set_option maxHeartbeats 8000000
set_option maxRecDepth 100000
namespace Go.Proofs.YtimpadpeibgmoaaGreat
open Go.RowKit Go.Emb Go.Lib Go.Emb.Ext Go.Shelf
attribute [local go_sem] Oper.semAt_some
theorem DK.typed {w : World} {q : Nat} {m : List Int} {D : List Nat} {d : DS} (h : DK w q m D d) : ∀ b ∈ D, ∀ (cs : Array Value) (t : TypeId), w.heap[b]? = some (.cells cs t (0, 0)) → t = 78 ∨ t = 5 ∨ t = 3 := by
 obtain ⟨gb, c, logv, logs, lo, s, r, rfl, h1, h2, h3, h4, -⟩ := h
 intro b hb cs t ht
 simp only [List.mem_cons, Option.mem_toList] at hb
 rcases hb with rfl | rfl | rfl | hb
 ·rw [h1] at ht; injection ht with ht; injection ht with _ ht; exact .inl ht.symm
 ·rw [show w.heap[b]? = _ from h2] at ht; injection ht with ht; injection ht with _ ht; exact .inr (.inl ht.symm)
 ·rw [h3] at ht; cases ht
 ·have hb : lo = some b := hb
  obtain ⟨cs', hcs⟩ := row_blk (show Row w _ _ _ _ _ (some b) from hb ▸ h4)
  rw [hcs] at ht; injection ht with ht; injection ht with _ ht; exact .inr (.inr ht.symm)
theorem DK.later {w : World} {q : Nat} {m : List Int} {D : List Nat} {d : DS} (h : DK w q m D d) : ∀ b ∈ D, b ∈ D.take 3 ∨ ∃ o : Obj, w.heap[b]? = some o ∧ o.isCells = true := by
 obtain ⟨gb, c, logv, logs, lo, s, r, rfl, h1, h2, h3, h4, -⟩ := h
 intro b hb
 simp only [List.mem_cons, Option.mem_toList] at hb
 rcases hb with rfl | rfl | rfl | hb
 ·exact .inl (by simp)
 ·exact .inl (by simp)
 ·exact .inl (by simp)
 ·have hb : lo = some b := hb
  obtain ⟨cs', hcs⟩ := row_blk (show Row w _ _ _ _ _ (some b) from hb ▸ h4)
  exact .inr ⟨_, hcs, rfl⟩
theorem DK.grown {w w' : World} {q : Nat} {m : List Int} {D : List Nat} {d : DS} {row : Option Nat} (h : DK w q m D d) (hg : w.grownBy w' row) (hr : ∀ r, row = some r → r ∉ D) : DK w' q m D d := by
 cases row with
 | none => exact h.keep0 ((Keep.refl [] w).grown hg (fun k e => by cases e))
 | some r => exact h.keep ((Keep.refl [r] w).grown hg (fun k e => .inl (by cases e; simp))) (fun b hb hm => hr r rfl (by simp at hm; rw [← hm]; exact hb))
theorem DK.nodef {w : World} {q : Nat} {m : List Int} {D : List Nat} {d : DS} (h : DK w q m D d) : ∀ b ∈ D, ∀ x, w.heap[b]? ≠ some (.deferred x) := by
 obtain ⟨gb, c, logv, logs, lo, s, r, rfl, h1, h2, h3, h4, -⟩ := h
 intro b hb x hx
 simp only [List.mem_cons, Option.mem_toList] at hb
 rcases hb with rfl | rfl | rfl | hb
 ·rw [h1] at hx; cases hx
 ·rw [show w.heap[b]? = _ from h2] at hx; cases hx
 ·rw [h3] at hx; cases hx
 ·have hb : lo = some b := hb
  obtain ⟨cs', hcs⟩ := row_blk (show Row w _ _ _ _ _ (some b) from hb ▸ h4)
  rw [hcs] at hx; cases hx
theorem box_stop {W : World} {g4 D0 : Nat} {x4 : Value} {t4 : TypeId} (h4 : W.heap[g4]? = some (.cells #[x4] t4 (0, 0))) (hD : W.heap[D0]? = some (.deferred (some []))) :
  (W.putObj D0 (.deferred none)).cell? ⟨g4, 0, none⟩ = some x4 ∧ Keep [D0] W (W.putObj D0 (.deferred none)) := by
 have n4 : g4 ≠ D0 := fun e => by rw [e, hD] at h4; cases h4
 have kp : Keep [D0] W (W.putObj D0 (.deferred none)) := (Keep.refl [D0] _).grown (grownBy_putObj' _ D0 _) (fun k e => .inl (by cases e; simp))
 exact ⟨cell1 (blkk h4 kp (by simpa using n4)), kp⟩
theorem STD.sD {w : World} {s q : Nat} {m : List Int} {D : List Nat} {d : DS} {x : SV} (h : STD w s q m D d x) : s ∉ D := fun hs => by
 rcases h.dk.typed s hs _ _ h.blk with h1 | h1 | h1 <;> exact absurd h1 (by decide)
theorem STD.turn {w w' : World} {s q : Nat} {m m' : List Int} {D D' : List Nat} {d d' : DS} {x : SV} (h : STD w s q m D d x) (hd : DK w' q m' D' d') (hk : Keep D w w') (hD : ∀ b ∈ D', b ∈ D ∨ w.heap.size ≤ b) : STD w' s q m' D' d' x := by
 have hn : ∀ b, b < w.heap.size → b ∉ s :: D → b ∉ s :: D' := fun b hlt hb hm => by
  rcases List.mem_cons.1 hm with rfl | hm
  ·exact hb (by simp)
  ·rcases hD b hm with h1 | h1
   ·exact hb (by simp [h1])
   ·omega
 exact ⟨hd, blkk h.blk hk h.sD, ((h.rd.mono (T := fun b => b ∉ s :: D ∧ b ∉ s :: D') (fun b hlt hb => ⟨hb, hn b hlt hb⟩)).keep hk (fun b hb _ hS => hS.1 (List.mem_cons_of_mem _ hb))).mono (fun b _ h => h.2)⟩
theorem zip_snoc {α β : Type} (a : List α) (x : α) (S : List β) (s : β) (h : S[a.length]? = some s) : (a ++ [x]).zip S = a.zip S ++ [(x, s)] := by
 induction a generalizing S with
 | nil =>
  cases S with
  | nil => cases h
  | cons y S => simp at h; subst h; simp
 | cons y a ih =>
  cases S with
  | nil => simp at h
  | cons z S => simp at h; simp [ih S h]
theorem zip_app {α β : Type} (a r : List α) (S : List β) : (a ++ r).zip S = a.zip S ++ r.zip (S.drop a.length) := by
 induction a generalizing S with
 | nil => simp
 | cons y a ih =>
  cases S with
  | nil => simp
  | cons z S => simp [ih S]
theorem runW_prefix {d : DS} {a r : List Nat} {S : List (List UInt8)} (h : (runW d (a.zip S)).1 ≠ 0) : runW d ((a ++ r).zip S) = runW d (a.zip S) := by
 rw [zip_app, runW_append, if_neg h]
theorem runW_len : ∀ (l : List (Nat × List UInt8)) (d : DS), (runW d l).2.2.length ≤ l.length
 | [], _ => Nat.le_refl _
 | x :: l, d => by
  by_cases h : (writeD d x.1 x.2).1 = 0
  ·rw [runW_cons_ok h]
   have := runW_len l (writeD d x.1 x.2).2
   simp only [List.length_cons]
   omega
  ·rw [runW_cons_no h]
   simp
theorem blk_lt {n : Nat} {l : List E} (h : ∀ e ∈ l, 0 ≤ e.1 ∧ 1 ≤ e.2 ∧ e.1 + e.2 ≤ n) : ∀ k ∈ blkL l, k < n := by
 intro k hk
 obtain ⟨e, he, hk⟩ := List.mem_flatMap.1 hk
 obtain ⟨j, hj, rfl⟩ := List.mem_map.1 hk
 have h1 := h e he
 have := List.mem_range.1 hj
 omega
theorem zip_fit {d : DS} (hd : d.ok) {a : List Nat} {kind : UInt8} {num : Nat} {bs : List UInt8} (hk : kind ≠ 0) (hn : num < 18446744073709551616) (ha : ∀ k ∈ a, k < d.n) : ∀ x ∈ a.zip (secs d.sz kind num bs), FitW d x := layW_fit hd hk hn ha
def LyI (Wb : World) (q : Nat) (lm : List Int) (D : List Nat) (d : DS) (B10 B11 pb : Nat) (S : List (List UInt8)) (vs : List Value) (pl : List E) (pre : List {k : Nat // k ∈ blkL pl}) (W : World) : Prop :=
 (runW d ((pre.map (·.1)).zip S)).1 = 0 ∧ (∃ D', DK W q (lm ++ (runW d ((pre.map (·.1)).zip S)).2.2) D' (runW d ((pre.map (·.1)).zip S)).2.1 ∧ D'.take 3 = D.take 3 ∧ ∀ b ∈ D', b ∈ D ∨ Wb.heap.size ≤ b) ∧
 W.heap[B10]? = some (.cells #[.int .i64 0] 26 (0, 0)) ∧ (∃ pv po, W.heap[B11]? = some (.cells #[pv] 104 (0, 0)) ∧ Rd Wb 1 pv (vs.length - pre.length) (vs.drop pre.length) po ∧ ∀ b, po = some b → b = pb) ∧ Keep (B10 :: B11 :: D) Wb W
def LyX (Wb : World) (q : Nat) (lm : List Int) (D : List Nat) (d : DS) (B10 B11 : Nat) (S : List (List UInt8)) (pl : List E) (c : Code) (pre : List {k : Nat // k ∈ blkL pl}) (W : World) : Prop :=
 c = .ret ∧ (runW d ((pre.map (·.1)).zip S)).1 ≠ 0 ∧ (∃ D', DK W q (lm ++ (runW d ((pre.map (·.1)).zip S)).2.2) D' (runW d ((pre.map (·.1)).zip S)).2.1 ∧ D'.take 3 = D.take 3 ∧ ∀ b ∈ D', b ∈ D ∨ Wb.heap.size ≤ b) ∧
 W.heap[B10]? = some (.cells #[.int .i64 (runW d ((pre.map (·.1)).zip S)).1] 26 (0, 0)) ∧ Keep (B10 :: B11 :: D) Wb W
theorem ly_row {Wb W W' : World} {q : Nat} {lm : List Int} {D D' : List Nat} {d : DS} {row : Option Nat} (hD : ∀ b ∈ D, b < Wb.heap.size) (h : DK W q lm D' d) (h3 : D'.take 3 = D.take 3) (hg : W.grownBy W' row) (hr : ∀ r, row = some r → Wb.heap.size ≤ r ∧ ∃ o : Obj, W.heap[r]? = some o ∧ o.isCells = false) : DK W' q lm D' d :=
 h.grown hg (fun r e hm => by
   obtain ⟨h1, o, h2, h4⟩ := hr r e
   rcases h.later r hm with h5 | ⟨o', h5, h6⟩
   · rw [h3] at h5
     have := hD r (List.mem_of_mem_take h5)
     omega
   · rw [h2] at h5
     cases h5
     rw [h4] at h6
     cases h6)
theorem lyI_own {Wb : World} {q : Nat} {lm : List Int} {D : List Nat} {d : DS} {B10 B11 pb : Nat} {S : List (List UInt8)} {vs : List Value} {pl : List E} (hD : ∀ b ∈ D, b < Wb.heap.size) (h10 : B10 < Wb.heap.size) (h11 : B11 < Wb.heap.size) : OwnFrom Wb.heap.size (LyI Wb q lm D d B10 B11 pb S vs pl) := by
 rintro s W W' row ⟨h1, ⟨D', h2, h3, h4⟩, h5, ⟨pv, po, h6, h7, h8⟩, h9⟩ hg hr
 exact ⟨h1, ⟨D', ly_row hD h2 h3 hg hr, h3, h4⟩, (hg.block B10 (Array.getElem?_eq_some_iff.1 h5).1 (fun e => by have := (hr B10 e.symm).1; omega)).trans h5, ⟨pv, po, (hg.block B11 (Array.getElem?_eq_some_iff.1 h6).1 (fun e => by have := (hr B11 e.symm).1; omega)).trans h6, h7, h8⟩, h9.grown hg (fun k e => .inr (hr k e).1)⟩
theorem lyX_own {Wb : World} {q : Nat} {lm : List Int} {D : List Nat} {d : DS} {B10 B11 : Nat} {S : List (List UInt8)} {pl : List E} (hD : ∀ b ∈ D, b < Wb.heap.size) (h10 : B10 < Wb.heap.size) (c : Code) : OwnFrom Wb.heap.size (LyX Wb q lm D d B10 B11 S pl c) := by
 rintro s W W' row ⟨h0, h1, ⟨D', h2, h3, h4⟩, h5, h9⟩ hg hr
 exact ⟨h0, h1, ⟨D', ly_row hD h2 h3 hg hr, h3, h4⟩, (hg.block B10 (Array.getElem?_eq_some_iff.1 h5).1 (fun e => by have := (hr B10 e.symm).1; omega)).trans h5, h9.grown hg (fun k e => .inr (hr k e).1)⟩
def LayP (w : World) (s q : Nat) (lm : List Int) (D : List Nat) (d : DS) (x : SV) (ws : List (Nat × List UInt8)) (e : Ending) (w' : World) : Prop :=
 ∃ D', e = .returned (.int .i64 (runW d ws).1) ∧ STD w' s q (lm ++ (runW d ws).2.2) D' (runW d ws).2.1 x ∧ (∀ b ∈ D', b ∈ D ∨ w.heap.size ≤ b) ∧ Keep D w w'
theorem rd_tail {P : Program} {w : World} {T E : TypeId} (ht : P.underlying T = some (.slice E)) (hk : ∀ w, (sizeOf E).run P w = .ok 1 w) {b off n c : Nat} {xs : List Value} {o : Option Nat} (h : Rd w 1 (.slice (some ⟨b, off, none⟩) n c) n xs o) (hn : 1 ≤ n) :
  ∃ v o', (∀ W, (Instr.slice T (.slice (some ⟨b, off, none⟩) n c) (some (.int .i64 1)) none none).run P W = .ok v W) ∧ Rd w 1 v (n - 1) (xs.drop 1) o' ∧ (∀ b', o' = some b' → b' = b) := by
 obtain ⟨hl, a, c', e, h1, h2, h3⟩ := h
 cases e
 have hrun : ∀ W, (Instr.slice T (.slice (some ⟨b, off, none⟩) n c) (some (.int .i64 1)) none none).run P W = .ok (.slice (if c = 1 then some ⟨b, off, none⟩ else some ((⟨b, off, none⟩ : Addr).add (1 * 1))) (n - 1) (c - 1)) W := fun W => by
  have hb2 := run_sliceBound (P := P) W .i64 1 n .sliceB (by omega) (by omega)
  unfold Instr.slice Instr.sliceBounds
  simp [run_underlying ht, hb2, hk, Result.andThen]
 have hl1 : (xs.drop 1).length = (n - 1) * 1 := by rw [List.length_drop]; omega
 by_cases hn1 : n = 1
 ·exact ⟨_, none, hrun, ⟨hl1, _, _, rfl, by omega, by omega, .inl ⟨by omega, rfl⟩⟩, by simp⟩
 ·rcases h3 with ⟨h3, -⟩ | ⟨b', off', e1, e2, h3⟩
  ·omega
  ·cases e1
   refine ⟨_, some b, hrun, ⟨hl1, _, _, rfl, by omega, by omega, .inr ⟨b, off + 1, ?_, rfl, fun i hi => ?_⟩⟩, by rintro b' ⟨⟩; rfl⟩
   ·rw [if_neg (by omega)]; simp [Addr.add]
   ·rw [Nat.add_assoc, h3 (1 + i) (by omega), List.getElem?_drop]
theorem st_lay {w : World} {s q : Nat} {lm : List Int} {D : List Nat} {d : DS} {x : SV} {v : Value} {pl : List E} {kind : UInt8} {num : Nat} {bv : Value} {bs : List UInt8} (h : STD w s q lm D d x) (hx : XRd (fun b => b ∉ s :: D) w v pl) (hin : ∀ e ∈ pl, 0 ≤ e.1 ∧ 1 ≤ e.2 ∧ e.1 + e.2 ≤ d.n)
  (hb : BRd (fun b => b ∉ s :: D) w bv bs) (hne : bs ≠ []) (hcnt : (blkL pl).length = cnt (roomN d.sz) bs) (hkd : kind ≠ 0) (hnum : num < 18446744073709551616) (hlm : lm.length + (blkL pl).length ≤ 1000000) :
  Calls Tryz.prog 64 #[.pointer (some ⟨s, 0, none⟩), v, .int .u8 kind.toNat, .int .u64 (num : Nat), bv] w (LayP w s q lm D d x (layW d.sz (blkL pl) kind num bs)) := by
 obtain ⟨pa, pc, rfl, -, -⟩ := hx.form
 obtain ⟨po, hpr, hpo⟩ := hx.rde
 obtain ⟨⟨bo, hbr, hbo⟩, hbl⟩ := hb
 have hpos : 0 < bs.length := List.length_pos_iff.2 hne
 obtain ⟨bb, boff, bc, rfl⟩ : ∃ b off c, bv = .slice (some ⟨b, off, none⟩) bs.length c := by
  obtain ⟨-, a, c, e, -, -, h3⟩ := hbr
  rcases h3 with ⟨h3, -⟩ | ⟨b, off, h3, -⟩
  ·omega
  ·exact ⟨b, off, c, by rw [e, h3]⟩
 have hok := h.dk.isok
 have hsz := hok.2.2.1
 have hsz2 := hok.2.2.2.1
 have hn16 := hok.2.1
 have c0 := (cell_of h.blk 0).trans (show _ = some (.pointer (some ⟨q, 0, none⟩)) from rfl)
 have hsB : s < w.heap.size := (Array.getElem?_eq_some_iff.1 h.blk).1
 have hk1 : Keep [] w ((((w.alloc (.cells #[.pointer (some ⟨s, 0, none⟩)] 29)).alloc (.cells #[.int .u8 kind.toNat] 5)).alloc (.cells #[.int .u64 (num : Nat)] 54)).alloc (.cells #[.int .i64 0] 26)) := ((((Keep.refl [] w).alloc _).alloc _).alloc _).alloc _
 have hb5 := lit_alloc (lit_alloc (lit_alloc (heap_new w (.cells #[.pointer (some ⟨s, 0, none⟩)] 29)) (.cells #[.int .u8 kind.toNat] 5)) (.cells #[.int .u64 (num : Nat)] 54)) (.cells #[.int .i64 0] 26)
 have hb7 := lit_alloc (lit_alloc (heap_new (w.alloc (.cells #[.pointer (some ⟨s, 0, none⟩)] 29)) (.cells #[.int .u8 kind.toNat] 5)) (.cells #[.int .u64 (num : Nat)] 54)) (.cells #[.int .i64 0] 26)
 have hb8 := lit_alloc (heap_new ((w.alloc (.cells #[.pointer (some ⟨s, 0, none⟩)] 29)).alloc (.cells #[.int .u8 kind.toNat] 5)) (.cells #[.int .u64 (num : Nat)] 54)) (.cells #[.int .i64 0] 26)
 have hb10 := heap_new (((w.alloc (.cells #[.pointer (some ⟨s, 0, none⟩)] 29)).alloc (.cells #[.int .u8 kind.toNat] 5)).alloc (.cells #[.int .u64 (num : Nat)] 54)) (.cells #[.int .i64 0] 26)
 have hsz1 : ((((w.alloc (.cells #[.pointer (some ⟨s, 0, none⟩)] 29)).alloc (.cells #[.int .u8 kind.toNat] 5)).alloc (.cells #[.int .u64 (num : Nat)] 54)).alloc (.cells #[.int .i64 0] 26)).heap.size = w.heap.size + 4 := by simp
 simp only [size_alloc] at hb7 hb8 hb10
 have H := hyd h
 have HK1 := hyd hk1
 have HB5 := hyd hb5
 have HB7 := hyd hb7
 have HB8 := hyd hb8
 have HB10 := hyd hb10
 have HSZ1 := hyd hsz1
 have HPR := hyd hpr
 have HPO := hyd hpo
 have HBR := hyd hbr
 have HBO := hyd hbo
 have HIN := hyd hin
 have HSZ := hyd (fun (W : World) (hk : Keep [] w W) => by
   obtain ⟨gb, c, logv, logs, lo, s', r, -, h1, -, -, -, -, ok⟩ := h.dk.keep0 hk
   exact p_size h1)
 have hxl := hx.2.2
 clear h hk1 hb5 hb7 hb8 hb10 hsz1 hpr hpo hbr hbo hin hx
 refine (callsIn_wide (n := 6)).1 ?_
 have hro : Fence.wide.round = none := rfl
 refine callsIn_of_wp_marks Tryz.func64 rfl trivial ?_ hro
 simp only [Tryz.ntmps64, List.size_toArray, List.length_cons, List.length_nil, Nat.reduceAdd, Nat.reduceSub, Array.replicate_succ, Array.replicate_zero, List.push_toArray, List.append_toArray, List.nil_append, List.cons_append]
 refine wpIn_wide.2 (wp_mono (Q := postN Fence.wide 6 Tryz.prog Tryz.f64 (LayP w s q lm D d x (layW d.sz (blkL pl) kind num bs))) ?_ postN_post)
 go_upto_region 1 with fail
 generalize (((w.alloc (.cells #[.pointer (some ⟨s, 0, none⟩)] 29)).alloc (.cells #[.int .u8 kind.toNat] 5)).alloc (.cells #[.int .u64 (num : Nat)] 54)).alloc (.cells #[.int .i64 0] 26) = w1 at *
 have c0' := HK1.o.cellOf c0 (by simp)
 have d5 := cell1 HB5.o
 clear c0
 go_wp2_with fail
 refine (HSZ.o _ HK1.o).mono ?_
 rintro e w1' ⟨rfl, hk2⟩
 have HK2 := hyd (HK1.o.trans hk2 (by simp))
 have HK12 := hyd hk2
 clear hk2 c0' d5
 go_wp2_with fail
 refine (p_parts ⟨hsz, hsz2⟩ (HBR.o.keep HK2.o (by simp)) (fun b hb => Nat.lt_of_lt_of_le (HBO.o b hb).1 HK2.o.size) hne hbl).mono ?_
 rintro e w2 ⟨pv, pob, ys, rfl, hyb, hrow, hys, hpob, hk3⟩
 obtain ⟨ya, yc, N1, hN1, rfl⟩ : ∃ a c m, m = ys.length ∧ pv = .slice a m c := by
  obtain ⟨o2, ⟨-, a, c, h, -⟩, -⟩ := hrow.rd
  exact ⟨a, c, _, rfl, h⟩
 have HYB := hyd hyb
 have HROW := hyd hrow
 have HYS := hyd hys
 have HPOB := hyd hpob
 have HK3 := hyd (HK12.o.trans hk3 (by simp))
 have HN1 := hyd hN1
 clear hyb hrow hys hpob hk3 hN1
 go_upto_region 2 with fail
 go_wp2_with (go_at_call 68; refine p_blocksF.mono ?_; rintro e w5 ⟨rfl, rfl⟩)
 refine (wpIn_wide (n := 6)).1 ?_
 have hkb : Keep [] w2 ((w2.alloc (.cells #[.slice ya N1 yc] 104)).alloc (.cells #[.slice pa pl.length pc] 46)) := ((Keep.refl [] w2).alloc _).alloc _
 have hb11 := lit_alloc (heap_new w2 (.cells #[.slice ya N1 yc] 104)) (.cells #[.slice pa pl.length pc] 46)
 have hbs := heap_new (w2.alloc (.cells #[.slice ya N1 yc] 104)) (.cells #[.slice pa pl.length pc] 46)
 rw [size_alloc] at hbs
 have hszb : ((w2.alloc (.cells #[.slice ya N1 yc] 104)).alloc (.cells #[.slice pa pl.length pc] 46)).heap.size = w2.heap.size + 2 := by simp
 have HB11 := hyd hb11
 have HBS := hyd hbs
 have HSZB := hyd hszb
 have HK3b := hyd (HK3.o.trans hkb (by simp))
 have HKB := hyd (HK1.o.trans HK3b.o (by simp))
 have hle2 : w.heap.size + 4 ≤ w2.heap.size := by have h1 := HK3.o.size; have h2 := HSZ1.o; omega
 have HLE2 := hyd hle2
 have HROWb := hyd (HROW.o.keep hkb (by simp))
 have HYSb := hyd (show ∀ y ∈ ys, ∃ o, RB ((w2.alloc (.cells #[.slice ya N1 yc] 104)).alloc (.cells #[.slice pa pl.length pc] 46)) y.v y.b o ∧ ∀ b, o = some b → w1'.heap.size ≤ b ∧ b < w2.heap.size from fun y hy => by
   obtain ⟨o, h1, h2⟩ := HYS.o y hy
   exact ⟨o, RB.keep h1 hkb (by simp), fun b hb => ⟨h2 b hb, RB.lt h1 b hb⟩⟩)
 have hpl2 : ∀ b, pob = some b → b < w2.heap.size := fun b hb => HROW.o.lt b hb
 have HPL2 := hyd hpl2
 have hw1' : w.heap.size + 4 ≤ w1'.heap.size := by have h1 := HK12.o.size; have h2 := HSZ1.o; omega
 have HW1 := hyd hw1'
 clear hkb hb11 hbs hszb hle2 HROW HYS hpl2 hw1' HK3 HK2 HSZ
 generalize (w2.alloc (.cells #[.slice ya N1 yc] 104)).alloc (.cells #[.slice pa pl.length pc] 46) = Wb at *
 generalize w2.heap.size = B11 at *
 have hDb : ∀ b ∈ D, b < w.heap.size := H.o.dk.lt
 have HDB := hyd hDb
 have hDW : ∀ b ∈ D, b < Wb.heap.size := fun b hb => Nat.lt_of_lt_of_le (hDb b hb) HKB.o.size
 have HDW := hyd hDW
 have hb10 : w.heap.size + 1 + 1 + 1 < Wb.heap.size := by have := HSZB.o; have := HLE2.o; omega
 have hb11 : B11 < Wb.heap.size := by have := HSZB.o; omega
 obtain ⟨S, hS⟩ : ∃ S, S = secs d.sz kind num bs := ⟨_, rfl⟩
 have HSE := hyd hS
 have HLW := hyd (show layW d.sz (blkL pl) kind num bs = (blkL pl).zip S by rw [hS]; rfl)
 have hSl : S.length = (blkL pl).length := by rw [hS, secs_len, hcnt]
 have hyl : ys.length = (blkL pl).length := by
  have h1 := congrArg List.length HYB.o
  rw [List.length_map, chunks_len] at h1
  rw [h1, hcnt]
 have HYL := hyd hyl
 have HSL := hyd hSl
 obtain ⟨prd, hprd, hprn⟩ : ∃ o, Rd Wb 1 (.slice ya N1 yc) ys.length (ys.map BsV.v) o ∧ (∀ b, o = some b → pob = some b) := by
  obtain ⟨o, h1, h2⟩ := Row.rd HROWb.o
  refine ⟨o, h1, fun b hb => ?_⟩
  rcases h2 with h2 | h2
  ·rw [h2] at hb; cases hb
  ·rw [← h2]; exact hb
 have HST := hyd (show Rd Wb 1 (.slice ya N1 yc) ((ys.map BsV.v).length - 0) ((ys.map BsV.v).drop 0) prd from by simpa using hprd)
 have HPRN := hyd (show ∀ b, prd = some b → b = pob.getD 0 from fun b hb => by rw [hprn b hb]; rfl)
 clear hDb hDW hS hSl hyl hprd hprn
 refine wpIn_rangeFunc_ownH hro (by omega) (gf := 107) (lb := #[.pointer (some ⟨B11 + 1, 0, none⟩)]) rfl trivial (enters_of Tryz.func107 (by kernel_rfl) rfl)
  (blkT_stops (fun b => b ∉ (w.heap.size + 1 + 1 + 1) :: B11 :: D ∧ b < Wb.heap.size) (6 - 1) (by omega) (B11 + 1) (.slice pa pl.length pc) pl po hxl (fun e he => by have := HIN.o e he; omega) Wb HBS.o
    ⟨fun hm => by
      have := HLE2.o
      simp only [List.mem_cons] at hm
      rcases hm with hm | hm | hm
      · omega
      · omega
      · have := HDB.o _ hm; omega, by have := HSZB.o; omega⟩ (RdE.keep HPR.o HKB.o (by simp)) (fun b hb => by
      have h1 := HPO.o b hb
      have h2 := HLE2.o
      refine ⟨fun hm => ?_, Nat.lt_of_lt_of_le h1.1 HKB.o.size⟩
      simp only [List.mem_cons] at hm
      rcases hm with hm | hm | hm
      · omega
      · omega
      · exact h1.2 (List.mem_cons_of_mem _ hm))) KpT.trans (fun W l o o' _ hl ho _ => KpT.putObj _ W l o o' hl ho) (Below.refl _ _) (fun _ => rfl)
  (LyI Wb q lm D d (w.heap.size + 1 + 1 + 1) B11 (pob.getD 0) S (ys.map BsV.v) pl) (LyX Wb q lm D d (w.heap.size + 1 + 1 + 1) B11 S pl) (lyI_own HDW.o hb10 hb11) (lyX_own HDW.o hb10)
  ⟨by simp [runW], ⟨D, by simpa [runW] using H.o.dk.keep0 HKB.o, rfl, fun b hb => .inl hb⟩, blkk HB10.o HK3b.o (by simp), ⟨_, prd, HB11.o, HST.o, HPRN.o⟩, Keep.refl _ _⟩
  (fun x a' _ => a' = { tmps := #[.pointer (some ⟨s, 0, none⟩), .slice pa pl.length pc, .int .u8 kind.toNat, .int .u64 (num : Nat), .slice (some ⟨bb, boff, none⟩) bs.length bc, .pointer (some ⟨w.heap.size, 0, none⟩), undef, .pointer (some ⟨w.heap.size + 1, 0, none⟩), .pointer (some ⟨w.heap.size + 1 + 1, 0, none⟩), undef, .pointer (some ⟨w.heap.size + 1 + 1 + 1, 0, none⟩), .pointer (some ⟨B11, 0, none⟩), .int .i64 (x.1 : Nat), undef, undef, undef, .pointer (some ⟨s, 0, none⟩), .pointer (some ⟨s, 0, none⟩), .pointer (some ⟨s, 0, none⟩), .pointer (some ⟨q, 0, none⟩), .int .i64 (d.sz : Nat), .slice (some ⟨bb, boff, none⟩) bs.length bc, .slice ya N1 yc, .slice pa pl.length pc, .func (.func 107) #[] #[.pointer (some ⟨B11 + 1, 0, none⟩)], .int .i64 (x.1 : Nat), undef, undef, undef, undef, undef, undef, undef, undef, undef, undef, undef, undef, undef, undef, undef, undef, undef, undef, undef, undef, undef, undef, undef, undef, undef, undef, undef, undef, undef, undef, undef], defers := [] }) (fun _ _ _ _ _ _ h _ _ => h)
  ?assign ?body ?done ?stop
 case assign =>
  rintro l pre x W K hI hK
  have hI2 := hI
  obtain ⟨-, -, -, -, hkw⟩ := hI2
  clear hkw
  gi_wp2
  exact hK _ _ ((KeepsOthers.refl _).from _) (KpT.refl _ _) hI rfl
 case body =>
  rintro l pre x a' W hl hloop ⟨hrun, ⟨D', hdk, hD3, hDn⟩, hb10W, ⟨pv, pvo, hb11W, hprd, hpvo⟩, hkw⟩ rfl hlt
  obtain ⟨k, hk⟩ := x
  simp only
  have hkn : k < d.n := blk_lt HIN.o k hk
  have hprel : pre.length < ys.length := by rw [HYL.o]; exact hlt
  have hdn1 := runW_ok ((pre.map (·.1)).zip S) hok (by rw [HSE.o]; exact zip_fit hok hkd hnum (fun j hj => by obtain ⟨z, -, rfl⟩ := List.mem_map.1 hj; exact blk_lt HIN.o _ z.2))
  have hlen1 := runW_len ((pre.map (·.1)).zip S) d
  have hlen2 : ((pre.map (·.1)).zip S).length ≤ pre.length := by rw [List.length_zip, List.length_map]; omega
  obtain ⟨y, hy⟩ : ∃ y, ys[pre.length]? = some y := ⟨_, List.getElem?_eq_getElem hprel⟩
  have hym := List.mem_of_getElem? hy
  obtain ⟨yo, hyr, hyo⟩ := HYSb.o y hym
  obtain ⟨ca, cc, hyv, -⟩ := hyr.form
  have hcl : pre.length < cnt (roomN d.sz) bs := by rw [← hcnt]; exact hlt
  have hyb : y.b = chunk (roomN d.sz) bs pre.length := by
   have h1 := congrArg (fun l => l[pre.length]?) HYB.o
   simp only [List.getElem?_map, hy, chunks_at hcl] at h1
   exact Option.some.inj h1
  have hsec : S[pre.length]? = some (sealL d.sz ⟨kind, num, y.b⟩) := by
   rw [HSE.o]
   unfold secs
   rw [List.getElem?_map, chunks_at hcl, hyb]
   rfl
  have hyl := chunk_le (roomN d.sz) bs pre.length
  rw [← hyb] at hyl
  have hsok : SealOk d.sz ⟨kind, num, y.b⟩ := seal_ok hok hkd hnum hyl
  have hh : (((ys.map BsV.v).drop pre.length)[0]?) = some y.v := by
   rw [List.getElem?_drop, Nat.add_zero, List.getElem?_map, hy]; rfl
  have hnl : (ys.map BsV.v).length - pre.length = (ys.length - pre.length - 1) + 1 := by rw [List.length_map]; omega
  obtain ⟨b0, off0, c0', rfl, hcell0⟩ : ∃ b off c, pv = .slice (some ⟨b, off, none⟩) ((ys.map BsV.v).length - pre.length) c ∧ Wb.cell? ⟨b, off, none⟩ = some y.v := by
   obtain ⟨-, a, c, e, -, -, h3⟩ := id hprd
   rcases h3 with ⟨h3, -⟩ | ⟨b, off, h3, -, h4⟩
   ·omega
   ·refine ⟨b, off, c, by rw [e, h3], ?_⟩
    have := h4 0 (by omega)
    rw [Nat.add_zero, hh] at this
    exact this
  obtain ⟨tv, tvo, htrun, htrd, htvo⟩ := rd_tail (P := Tryz.prog) (T := 104) (E := 35) Tryz.underlying104 Tryz.sizeOf35 hprd (by omega)
  obtain ⟨ta, tn, tcc, htn, rfl⟩ : ∃ a n c, n = (ys.map BsV.v).length - pre.length - 1 ∧ tv = .slice a n c := by
   obtain ⟨-, a, c, e, -⟩ := id htrd
   exact ⟨a, _, c, rfl, e⟩
  rw [← htn] at htrd
  have HTN := hyd htn
  clear htn
  have hb0 : b0 = pob.getD 0 := by
   obtain ⟨-, a, c, e, -, -, h3⟩ := hprd
   injection e with e1 e2 e3
   subst e1
   rcases h3 with ⟨h3, -⟩ | ⟨b, off, h3, h4, -⟩
   ·omega
   ·cases h3; exact hpvo _ h4
  have HLE := HLE2.o
  have hltD : ∀ b ∈ D, b < w.heap.size := HDB.o
  have hob : ∀ b, w1'.heap.size ≤ b → b < B11 → b ∉ (w.heap.size + 1 + 1 + 1) :: B11 :: D := fun b h1 h2 hm => by
   have h3 := HW1.o
   simp only [List.mem_cons] at hm
   rcases hm with hm | hm | hm
   ·omega
   ·omega
   ·have := hltD b hm; omega
  have hcell0W : W.cell? ⟨b0, off0, none⟩ = some (.slice ca y.b.length cc) := by
   rw [← hyv]
   have hpb : pob = some b0 := by
    rcases hpo' : pob with _ | z
    ·exfalso
     rw [hpo'] at hb0
     obtain ⟨cs, hcs⟩ : ∃ cs : Array Value, False ∨ True := ⟨#[], .inr trivial⟩
     have h1 := HROWb.o
     rw [hpo'] at h1
     obtain ⟨-, ⟨-, h2, h3⟩ | ⟨_, _, _, _, h2, -⟩⟩ := h1
     ·omega
     ·cases h2
    ·rw [hpo'] at hb0
     simp at hb0
     rw [hb0]
   exact hkw.cellOf hcell0 (hob b0 (HPOB.o b0 hpb) (HPL2.o b0 hpb))
  have hyrW : Rd W 1 (.slice ca y.b.length cc) y.b.length (Lib.byteCells y.b) yo ∨ True := .inr trivial
  obtain ⟨yo', hyrd, hyo'⟩ := Row.rd hyr
  rw [hyv] at hyrd
  have hyrdW : ∀ W', Keep [] W W' → Rd W' 1 (.slice ca y.b.length cc) y.b.length (Lib.byteCells y.b) yo' := fun W' hk' => (hyrd.keep hkw (fun b hb => by
    rcases hyo' with h | h
    · rw [h] at hb; cases hb
    · rw [h] at hb
      exact hob b (hyo b hb).1 (hyo b hb).2)).keep hk' (by simp)
  have hno : ∀ b, w.heap.size ≤ b → b < w.heap.size + 1 + 1 + 1 → b ∉ (w.heap.size + 1 + 1 + 1) :: B11 :: D := fun b h1 h2 hm => by
   simp only [List.mem_cons] at hm
   rcases hm with hm | hm | hm
   ·omega
   ·omega
   ·have := hltD b hm; omega
  have hrm : roomN d.sz ≤ 4096 := by unfold roomN; split <;> omega
  have hpos8 : 0 < ys.length - pre.length := by omega
  have hb5W := blkk (blkk HB5.o HK3b.o (by simp)) hkw (hno _ (by omega) (by omega))
  have hb7W := blkk (blkk HB7.o HK3b.o (by simp)) hkw (hno _ (by omega) (by omega))
  have hb8W := blkk (blkk HB8.o HK3b.o (by simp)) hkw (hno _ (by omega) (by omega))
  have hsW := blkk (blkk H.o.blk HKB.o (by simp)) hkw (by simp; refine ⟨by omega, by omega, fun hm => H.o.sD hm⟩)
  have HCS := hyd (fun (W9 : World) (hk9 : Keep [] W W9) => And.intro (cell1 (blkk hb5W hk9 (by simp))) (And.intro (cell1 (blkk hb7W hk9 (by simp))) (And.intro (cell1 (blkk hb8W hk9 (by simp))) (And.intro ((cell_of (blkk hsW hk9 (by simp)) 0).trans (show _ = some (.pointer (some ⟨q, 0, none⟩)) from rfl)) (And.intro (cell1 (blkk hb11W hk9 (by simp))) (hk9.cellOf hcell0W (by simp)))))))
  have HSZW := hyd (fun (W9 : World) (hk9 : Keep [] W W9) => by
    obtain ⟨gb, c, logv, logs, lo, s', r, -, h1, -, -, -, -, ok⟩ := hdk.keep0 hk9
    exact p_size h1)
  rw [hdn1.2.2.1] at HSZW
  have HPUT := hyd (fun (W9 : World) (hk9 : Keep [] W W9) => sl_put (w := W9) (size := d.sz) (num := num) (kind := kind) (hyrdW W9 hk9) (by omega) hnum (by omega))
  have HDK := hyd hdk
  have HD3 := hyd hD3
  have HDN := hyd hDn
  have HB10W := hyd hb10W
  have HB11W := hyd hb11W
  have HKW := hyd hkw
  have HRUN := hyd hrun
  have HSEC := hyd hsec
  have HSOK := hyd hsok
  have HTRUN := hyd htrun
  have HTRD := hyd htrd
  have HTVO := hyd htvo
  have HB0 := hyd hb0
  have HLN := hyd (Nat.le_trans hlen1 hlen2)
  have HDN1 := hyd hdn1
  have HKN := hyd hkn
  have HYLE := hyd hyl
  have HLTD := hyd hltD
  clear hdk hD3 hDn hb10W hb11W hkw hrun hsec hsok htrun htrd htvo hb0 hlen1 hlen2 hdn1 hkn hyl hyrW hyrdW hyrd hyo' hyr hyo hym hy hyb hcl hh hnl hprd hpvo hcell0 hcell0W hb5W hb7W hb8W hsW hob hloop hltD hno
  gi_wp2_with fail
  refine region_round (S := fun w' => Keep [] W w') (by kernel_rfl) (by kernel_rfl) (fun _ _ h => h) (Keep.refl [] W).drew (fun hHeld => ?_)
  have HC0 := hyd hHeld
  refine tkL 0 ?vR0 rfl ?runR0 hHeld ?_
  case runR0 => (intro w9 hS9; obtain ⟨d5, d7, d8, d0, d11, dp⟩ := HCS.o w9 hS9; go_simp; try exact rfl)
  try simp only [Act.put, lA, lZ, lS]
  refine tkL 1 ?vR1 rfl ?runR1 hHeld ?_
  case runR1 => (intro w9 hS9; obtain ⟨d5, d7, d8, d0, d11, dp⟩ := HCS.o w9 hS9; go_simp; try exact rfl)
  try simp only [Act.put, lA, lZ, lS]
  refine tkL 2 ?vR2 rfl ?runR2 hHeld ?_
  case runR2 => (intro w9 hS9; obtain ⟨d5, d7, d8, d0, d11, dp⟩ := HCS.o w9 hS9; go_simp; try exact rfl)
  try simp only [Act.put, lA, lZ, lS]
  refine tkL 3 ?vR3 rfl ?runR3 hHeld ?_
  case runR3 => (intro w9 hS9; obtain ⟨d5, d7, d8, d0, d11, dp⟩ := HCS.o w9 hS9; go_simp; try exact rfl)
  try simp only [Act.put, lA, lZ, lS]
  refine tkL 5 ?vR5 rfl ?runR5 hHeld ?_
  case runR5 => (intro w9 hS9; obtain ⟨d5, d7, d8, d0, d11, dp⟩ := HCS.o w9 hS9; go_simp; try exact rfl)
  try simp only [Act.put, lA, lZ, lS]
  refine tkL 6 ?vR6 rfl ?runR6 hHeld ?_
  case runR6 => (intro w9 hS9; obtain ⟨d5, d7, d8, d0, d11, dp⟩ := HCS.o w9 hS9; go_simp; try exact rfl)
  try simp only [Act.put, lA, lZ, lS]
  refine tkL 7 ?vR7 rfl ?runR7 hHeld ?_
  case runR7 => (intro w9 hS9; obtain ⟨d5, d7, d8, d0, d11, dp⟩ := HCS.o w9 hS9; go_simp; try exact rfl)
  try simp only [Act.put, lA, lZ, lS]
  refine tkL 8 ?vR8 rfl ?runR8 hHeld ?_
  case runR8 => (intro w9 hS9; obtain ⟨d5, d7, d8, d0, d11, dp⟩ := HCS.o w9 hS9; go_simp; try exact rfl)
  try simp only [Act.put, lA, lZ, lS]
  refine tkL 9 ?vR9 rfl ?runR9 hHeld ?_
  case runR9 => (intro w9 hS9; obtain ⟨d5, d7, d8, d0, d11, dp⟩ := HCS.o w9 hS9; go_simp; try exact rfl)
  try simp only [Act.put, lA, lZ, lS]
  refine tkL 10 ?vR10 rfl ?runR10 hHeld ?_
  case runR10 => (intro w9 hS9; obtain ⟨d5, d7, d8, d0, d11, dp⟩ := HCS.o w9 hS9; go_simp; try exact rfl)
  try simp only [Act.put, lA, lZ, lS]
  refine rdH 4 rfl (fun K hK => ?_)
  go_simp
  refine (HSZW.o _ HC0.o).mono ?_
  rintro e wc1 ⟨rfl, hc1⟩
  have HC1 := hyd (HC0.o.trans hc1 (by simp))
  clear hc1
  go_wp2_with fail
  refine hK.out _ _ HC1.o (fun hHeld2 => ?_)
  clear hK K hHeld; have hHeld := hHeld2; clear hHeld2
  try simp only [Act.put, lA, lZ, lS]
  refine wpAnyH_ready (rs := [11]) (by kernel_rfl) (by simp) ?_
  refine AllReadyH.consL rfl (fun K hK => ?_) (AllReadyH.nil)
  go_simp
  refine (HPUT.o _ HC1.o).mono ?_
  rintro e w7 ⟨hpp, hk7⟩
  obtain ⟨g7, rfl, hbb7, hg7⟩ : ∃ g, e = .returned (.tuple #[.slice (some ⟨g, 0, none⟩) d.sz d.sz, .int .i64 0]) ∧ BB w7 g (sealL d.sz ⟨kind, num, y.b⟩) ∧ wc1.heap.size ≤ g := by
   rcases hpp with ⟨h1 | h1, -⟩ | ⟨-, h1, -⟩ | ⟨-, -, h1⟩
   ·exact absurd h1 HSOK.o.1
   ·exact absurd h1 hkd
   ·have := HYLE.o; simp only at h1; omega
   ·exact h1
  have HK7 := hyd (HC1.o.trans hk7 (by simp))
  have HBB7 := hyd hbb7
  have HG7 := hyd (Nat.le_trans HC1.o.size hg7)
  clear hpp hk7 hbb7 hg7
  go_wp2_with fail
  refine hK.out _ _ HK7.o (fun hHeld2 => ?_)
  clear hK K hHeld; have hHeld := hHeld2; clear hHeld2
  try simp only [Act.put, lA, lZ, lS]
  refine tkL 12 ?vZ12 rfl ?runZ12 hHeld ?_
  case runZ12 => (intro w9 hS9; go_simp; try exact rfl)
  try simp only [Act.put, lA, lZ, lS]
  refine tkL 13 ?vZ13 rfl ?runZ13 hHeld ?_
  case runZ13 => (intro w9 hS9; go_simp; try exact rfl)
  try simp only [Act.put, lA, lZ, lS]
  refine tkL 14 ?vZ14 rfl ?runZ14 hHeld ?_
  case runZ14 => (intro w9 hS9; go_simp; try exact rfl)
  try simp only [Act.put, lA, lZ, lS]
  refine tkL 15 ?vZ15 rfl ?runZ15 hHeld ?_
  case runZ15 => (intro w9 hS9; go_simp; try exact rfl)
  try simp only [Act.put, lA, lZ, lS]
  refine tkL 16 ?vZ16 rfl ?runZ16 hHeld ?_
  case runZ16 => (intro w9 hS9; go_simp; try exact rfl)
  try simp only [Act.put, lA, lZ, lS]
  refine wpAnyH_done (by kernel_rfl) ?_ _
  clear hHeld HPUT HSZW HC0 HC1
  have hkk7 := HK7.o
  have hsW7 := blkk (blkk (blkk H.o.blk HKB.o (by simp)) HKW.o (by simp; refine ⟨by omega, by omega, fun hm => H.o.sD hm⟩)) hkk7 (by simp)
  have d0 := (cell_of hsW7 0).trans (show _ = some (.pointer (some ⟨q, 0, none⟩)) from rfl)
  have d5 := cell1 (blkk (blkk (blkk HB5.o HK3b.o (by simp)) HKW.o (fun hm => by
    simp only [List.mem_cons] at hm
    rcases hm with hm | hm | hm
    · omega
    · omega
    · have := HLTD.o _ hm; omega)) hkk7 (by simp))
  obtain ⟨o7, hrd7, -⟩ : ∃ o, Rd w7 1 (.slice (some ⟨g7, 0, none⟩) d.sz d.sz) (sealL d.sz ⟨kind, num, y.b⟩).length (Lib.byteCells (sealL d.sz ⟨kind, num, y.b⟩)) o ∧ True := by
   have hl := sealL_len HSOK.o
   have h1 := HBB7.o.rd (off := 0) (n := d.sz) (c := d.sz) (by omega) (Nat.le_refl _) (by unfold maxLen; omega)
   rw [List.drop_zero, List.take_of_length_le (by omega)] at h1
   exact ⟨_, h1, trivial⟩
  have hka7 : Keep [] w7 (w7.alloc (.cells #[.slice (some ⟨g7, 0, none⟩) d.sz d.sz] 35)) := (Keep.refl [] w7).alloc _
  have hln := HLN.o
  have hdw := d_write (lc := 1) (HDK.o.keep0 (hkk7.trans hka7 (by simp))) (by rw [List.length_append]; omega) (cell_new w7 (.slice (some ⟨g7, 0, none⟩) d.sz d.sz) 35) (hrd7.keep hka7 (by simp)) (by rw [sealL_len HSOK.o]; omega) (k : Int)
  have HDW7 := hyd hdw
  have HKA7 := hyd (hkk7.trans hka7 (by simp))
  have HLN2 := hyd hln
  clear hdw hka7 hrd7 hsW7 hln hkk7
  gi_wp2_with fail
  refine ⟨trivial, (CallsIn.inRound l (callsIn_wide.2 HDW7.o)).mono ?_⟩
  rintro e w8 ⟨D8, rfl, hdk8, hD8, hk8, h38⟩
  have hzs : ((pre ++ [(⟨k, hk⟩ : {k : Nat // k ∈ blkL pl})]).map (·.1)).zip S = (pre.map (·.1)).zip S ++ [(k, sealL d.sz ⟨kind, num, y.b⟩)] := by
   rw [List.map_append]
   exact zip_snoc _ _ _ _ (by rw [List.length_map]; exact HSEC.o)
  have hrs := runW_snoc (x := (k, sealL d.sz ⟨kind, num, y.b⟩)) HRUN.o
  have HZS := hyd hzs
  have HRS := hyd hrs
  obtain ⟨d1, hd1⟩ : ∃ d1, d1 = (runW d ((pre.map (·.1)).zip S)).2.1 := ⟨_, rfl⟩
  have HDKT := hyd (fun b (hb : b ∈ D') => HDN.o b hb)
  have hDall : ∀ b ∈ D8, b ∈ D ∨ Wb.heap.size ≤ b := fun b hb => by
   rcases hD8 b hb with h | h
   ·exact HDN.o b h
   ·have h1 := HKW.o.size
    have h2 := HKA7.o.size
    exact .inr (by omega)
  have hkWall : Keep D' W w8 := (HKA7.o.mono (by simp)).trans hk8 (fun b hb => .inl hb)
  have hn10 : (w.heap.size + 1 + 1 + 1) ∉ D' := fun hm => by
   rcases HDN.o _ hm with h | h
   ·have := HLTD.o _ h; omega
   ·omega
  have hn11 : B11 ∉ D' := fun hm => by
   rcases HDN.o _ hm with h | h
   ·have := HLTD.o _ h; omega
   ·omega
  have hb10' := blkk HB10W.o hkWall hn10
  have hb11' := blkk HB11W.o hkWall hn11
  have d10 := cell1 hb10'
  have f10 := frozen4 hb10'
  have d11 := cell1 hb11'
  have f11 := frozen4 hb11'
  have HDK8 := hyd hdk8
  have HDA8 := hyd hDall
  have HKWA := hyd hkWall
  have H38 := hyd (h38.trans HD3.o)
  have HB10' := hyd hb10'
  have HB11' := hyd hb11'
  clear hdk8 hD8 hk8 h38 hzs hrs hDall hkWall hn10 hn11 hb10' hb11' d0 d5 HDW7
  rw [← hd1] at HDK8 HRS ⊢
  clear hd1
  obtain ⟨cw, hcw⟩ : ∃ c, c = (writeD d1 (k : Int) (sealL d.sz ⟨kind, num, y.b⟩)).1 := ⟨_, rfl⟩
  have hR : runW d (((pre ++ [(⟨k, hk⟩ : {k : Nat // k ∈ blkL pl})]).map (·.1)).zip S) = (cw, (writeD d1 (k : Int) (sealL d.sz ⟨kind, num, y.b⟩)).2, if cw = 0 then (runW d ((pre.map (·.1)).zip S)).2.2 ++ [(k : Int)] else (runW d ((pre.map (·.1)).zip S)).2.2) := by rw [HZS.o, HRS.o, hcw]
  have HR := hyd hR
  rw [← hcw] at HDK8 ⊢
  have hkf : ∀ (W9 : World) (B9 : Nat) (cs9 : Array Value) (t9 : TypeId), B9 ∈ [(w.heap.size + 1 + 1 + 1), B11] → W.heap[B9]? = some (.cells cs9 t9 (0, 0)) → t9 ≠ 34 → Keep [B9] w8 W9 → KeepsFrom Wb.heap.size W W9 ∧ KpT (fun b => b ∉ (w.heap.size + 1 + 1 + 1) :: B11 :: D ∧ b < Wb.heap.size) W W9 ∧ Keep ((w.heap.size + 1 + 1 + 1) :: B11 :: D) Wb W9 := fun W9 B9 cs9 t9 hB9 hc9 ht9 hk9 => by
   have hka : Keep (B9 :: D') W W9 := (HKWA.o.mono (G := B9 :: D') (fun b hb _ => List.mem_cons_of_mem _ hb)).trans (hk9.mono (G := B9 :: D') (by simp)) (fun b hb => .inl hb)
   have hB9l : B9 < Wb.heap.size := by simp at hB9; rcases hB9 with rfl | rfl <;> omega
   refine ⟨⟨hka.size, fun b o hb hbo hoc => blkk hbo hka (fun hm => ?_)⟩, KpT.of_keep hka (fun b hb => ?_), HKW.o.trans (hka.mono (G := B9 :: D') (fun b hb _ => hb)) (fun b hb => ?_)⟩
   ·rcases List.mem_cons.1 hm with rfl | hm
    ·omega
    ·rcases HDK.o.later b hm with h | ⟨o', h1, h2⟩
     ·rw [HD3.o] at h
      have := HDW.o b (List.mem_of_mem_take h)
      omega
     ·rw [hbo] at h1
      cases h1
      rw [hoc] at h2
      cases h2
   ·rcases List.mem_cons.1 hb with rfl | hb
    ·refine ⟨fun h => h.1 (by simp at hB9; simp; rcases hB9 with h | h <;> simp [h]), fun cs h => ?_⟩
     rw [hc9] at h
     injection h with h
     injection h with _ h
     exact ht9 h
    ·refine ⟨fun h => ?_, fun cs h => ?_⟩
     ·rcases HDN.o b hb with h1 | h1
      ·exact h.1 (by simp [h1])
      ·omega
     ·rcases HDK.o.typed b hb _ _ h with h1 | h1 | h1 <;> exact absurd h1 (by decide)
   ·rcases List.mem_cons.1 hb with rfl | hb
    ·exact .inl (by simp at hB9; simp; rcases hB9 with h | h <;> simp [h])
    ·rcases HDN.o b hb with h1 | h1
     ·exact .inl (by simp [h1])
     ·exact .inr h1
  have HKF := hyd hkf
  clear hcw hR hkf HRS HZS
  by_cases hc : cw = 0
  ·subst hc
   have htr := HTRUN.o
   simp only [List.length_map] at htr
   gi_wp2_with fail
   have hks : Keep [B11] w8 (w8.setCell ⟨B11, 0, none⟩ (.slice ta tn tcc)) := Keep.set1 w8 ⟨B11, 0, none⟩ _
   obtain ⟨q1, q2, q3⟩ := HKF.o _ B11 _ _ (by simp) HB11W.o (by decide) hks
   refine ⟨q1, q2, by rw [HR.o], ⟨D8, by rw [HR.o]; simp only [if_true]; have h := HDK8.o; unfold logW at h; rw [if_pos rfl, List.append_assoc] at h; exact h.keep hks (fun b hb hm => by
     simp at hm
     rcases HDA8.o b hb with h1 | h1
     · have := HLTD.o b h1; omega
     · omega), H38.o, HDA8.o⟩, blkk HB10'.o hks (by simp; omega), ⟨.slice ta tn tcc, tvo, by simpa using heap_setCell_at (i := 0) HB11'.o (.slice ta tn tcc), ?_, fun b hb => (HTVO.o b hb).trans HB0.o⟩, q3⟩
   have h := HTRD.o
   rw [List.drop_drop, HTN.o] at h
   rw [List.length_append, List.length_singleton]
   rw [HTN.o]
   exact h
  ·have hc' : (cw != 0) = true := by rw [bne_iff_ne]; exact hc
   have HCN := hyd hc
   clear hc
   gi_wp2_with fail
   have hks : Keep [w.heap.size + 1 + 1 + 1] w8 (w8.setCell ⟨w.heap.size + 1 + 1 + 1, 0, none⟩ (.int .i64 cw)) := Keep.set1 w8 ⟨w.heap.size + 1 + 1 + 1, 0, none⟩ _
   obtain ⟨q1, q2, q3⟩ := HKF.o _ (w.heap.size + 1 + 1 + 1) _ _ (by simp) HB10W.o (by decide) hks
   refine ⟨q1, rfl, by rw [HR.o]; exact HCN.o, ⟨D8, by rw [HR.o]; simp only [if_neg HCN.o]; have h := HDK8.o; unfold logW at h; rw [if_neg HCN.o] at h; exact h.keep hks (fun b hb hm => by
     simp at hm
     rcases HDA8.o b hb with h1 | h1
     · have := HLTD.o b h1; omega
     · omega), H38.o, HDA8.o⟩, by rw [HR.o]; simpa using heap_setCell_at (i := 0) HB10'.o (.int .i64 cw), q3⟩
 case done =>
  rintro D0 zs W hD hzs ⟨hrun, ⟨D', hdk, hD3, hDn⟩, hb10W, -, hkw⟩ hK
  rw [hzs, ← HLW.o] at hrun hdk
  have d10 := cell1 hb10W
  have f10 := frozen4 hb10W
  have HBD := hyd (box_done (v4 := .int .i64 0) hb10W hK)
  have HDK := hyd hdk
  have HDN := hyd hDn
  have HKW := hyd hkw
  have HRUN := hyd hrun
  have HDF := hyd hK
  have HLTD := HDB.o
  have HB10W := hyd hb10W
  clear hdk hDn hkw hrun hK hb10W hD3 hzs
  go_wp2_with fail
  obtain ⟨hD1, g4, hkf⟩ := HBD.o
  refine ⟨by simp, .inl ⟨_, _, rfl, run_takeDeferred hD1, ?_⟩⟩
  refine ⟨.int .i64 0, by simp [results, Tryz.results64, go_sem, g4], ?_⟩
  have hle := HLE2.o
  have hsw := HSZB.o
  have hkall : Keep D w ((W.setCell ⟨w.heap.size + 1 + 1 + 1, 0, none⟩ (.int .i64 0)).putObj D0 (.deferred none)) := ((HKB.o.mono (G := D) (by simp)).trans (HKW.o) (fun b hb => by
    simp only [List.mem_cons] at hb
    rcases hb with rfl | rfl | hb
    · exact .inr (by omega)
    · exact .inr (by omega)
    · exact .inl hb)).trans hkf (fun b hb => by
    simp at hb
    rcases hb with rfl | rfl
    · exact .inr (by omega)
    · exact .inr (by omega))
  have hDa : ∀ b ∈ D', b ∈ D ∨ w.heap.size ≤ b := fun b hb => by
   rcases HDN.o b hb with h | h
   ·exact .inl h
   ·exact .inr (by omega)
  refine ⟨D', by rw [HRUN.o], H.o.turn (HDK.o.keep hkf (fun b hb hm => ?_)) hkall hDa, hDa, hkall⟩
  simp at hm
  rcases hm with rfl | rfl
  ·rcases HDN.o _ hb with h | h
   ·have := HLTD _ h; omega
   ·omega
  ·exact HDK.o.nodef _ hb _ HDF.o
 case stop =>
  rintro D0 c pre W hD ⟨rest, hrest⟩ ⟨rfl, hrun, ⟨D', hdk, hD3, hDn⟩, hb10W, hkw⟩ hK
  have hpf : runW d (layW d.sz (blkL pl) kind num bs) = runW d ((pre.map (·.1)).zip S) := by
   rw [HLW.o]
   refine Eq.trans ?_ (runW_prefix (r := rest) hrun)
   rw [hrest]
  rw [← hpf] at hrun hdk hb10W
  have d10 := cell1 hb10W
  have HBD := hyd (box_stop hb10W hK)
  have HDK := hyd hdk
  have HDN := hyd hDn
  have HKW := hyd hkw
  have HDF := hyd hK
  have HLTD := HDB.o
  clear hdk hDn hkw hrun hb10W hD3 hrest hpf
  refine wpIn_wide.2 ?_
  go_wp2_with fail
  obtain ⟨g4, hkf⟩ := HBD.o
  refine ⟨by simp, .inl ⟨_, _, rfl, run_takeDeferred hK, ?_⟩⟩
  refine ⟨.int .i64 (runW d (layW d.sz (blkL pl) kind num bs)).1, by simp [results, Tryz.results64, go_sem, g4], ?_⟩
  have hle := HLE2.o
  have hsw := HSZB.o
  have hkall : Keep D w (W.putObj D0 (.deferred none)) := ((HKB.o.mono (G := D) (by simp)).trans (HKW.o) (fun b hb => by
    simp only [List.mem_cons] at hb
    rcases hb with rfl | rfl | hb
    · exact .inr (by omega)
    · exact .inr (by omega)
    · exact .inl hb)).trans hkf (fun b hb => by
    simp at hb
    subst hb
    exact .inr (by omega))
  have hDa : ∀ b ∈ D', b ∈ D ∨ w.heap.size ≤ b := fun b hb => by
   rcases HDN.o b hb with h | h
   ·exact .inl h
   ·exact .inr (by omega)
  refine ⟨D', rfl, H.o.turn (HDK.o.keep hkf (fun b hb hm => ?_)) hkall hDa, hDa, hkall⟩
  simp at hm
  subst hm
  exact HDK.o.nodef _ hb _ HDF.o
end Go.Proofs.YtimpadpeibgmoaaGreat
