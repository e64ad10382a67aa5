/- Super: Write. Printed by gen-su15.py. -/
import Derived.Test.YtdeghoigpcbmcaaSu14
import Derived.Test.YtdeghoigpcbmcaaBaseRow
namespace Go.Proofs.Ytdeghoigpcbmcaa
open Go.RowKit Go.Emb Go.Emb.Ext

def extU (e : E) : List UInt8 := numL e.1.toNat 0 ++ numL e.2.toNat 0
def loadL (x : Sup) : List UInt8 := numL x.ps.length 0 ++ x.ps.flatMap extU ++ (numL x.len.toNat 0 ++ numL x.ep.toNat 0)
open Classical in
/-- what a superblock's write answers, and what the disk is behind it -/
noncomputable def swrite (d : DS) (x : Sup) : Int × DS :=
  if ¬ okS d.n x then (2, d) else if roomN d.sz < (loadL x).length then (1, d) else writeD d ((x.gen % 2 : Nat) : Int) (sealL d.sz ⟨83, x.gen, loadL x⟩)
def SWP (w : World) (q m : Nat) (D : List Nat) (d : DS) (x : Sup) (e : Ending) (w' : World) : Prop :=
  ∃ D', e = .returned (.int .i64 (swrite d x).1) ∧ DK w' q (m + 1) D' (swrite d x).2 ∧ (∀ b ∈ D', b ∈ D ∨ w.heap.size ≤ b) ∧ Keep D w w'
theorem SWP.same {w w' : World} {q m : Nat} {D : List Nat} {d : DS} {x : Sup} {c : Int} (h : DK w q m D d) (hk : Keep [] w w') (he : swrite d x = (c, d)) : SWP w q m D d x (.returned (.int .i64 c)) w' :=
  ⟨D, by rw [he], by rw [he]; exact (h.keep0 hk).more (by omega), fun b hb => .inl hb, hk.mono (by simp)⟩
theorem flat_le (l : List E) : (l.flatMap extU).length ≤ l.length * 18 := by
  induction l with
  | nil => simp
  | cons x l ih =>
    rw [List.flatMap_cons, List.length_append, List.length_cons, Nat.succ_mul]
    have h1 := (numL_length x.1.toNat 0).1
    have h2 := (numL_length x.2.toNat 0).1
    have : (extU x).length ≤ 18 := by unfold extU; rw [List.length_append]; omega
    omega
theorem loadL_len {x : Sup} (h : x.ps.length ≤ 8) : (loadL x).length ≤ 171 := by
  have h1 := flat_le x.ps
  have h2 := (numL_length x.ps.length 0).1
  have h3 := (numL_length x.len.toNat 0).1
  have h4 := (numL_length x.ep.toNat 0).1
  unfold loadL
  simp only [List.length_append]
  omega
theorem rd_block {w : World} {b E n k : Nat} {xs : List Value} (hb : w.heap[b]? = some (.cells xs.toArray E)) (hl : xs.length = n * k) (hn : n ≤ maxLen) : Rd w k (.slice (some ⟨b, 0, none⟩) n n) n xs (some b) :=
  ⟨hl, _, _, rfl, Nat.le_refl _, hn, .inr ⟨b, 0, rfl, rfl, fun i hi => by simp [World.cell?, hb]⟩⟩
/-- Num of a literal of numbers that was built just ahead -/
theorem num_lit {w w0 : World} {v : Value} {bs : List UInt8} {o : Option Nat} {ns : List Nat} (h : RB w v bs o) (hk : Keep [] w0 w) (ho : ∀ b, o = some b → w0.heap.size ≤ b) (hok : ∀ x ∈ ns, x < 18446744073709551616) (hns : ns.length ≤ 100) (hsz : (bs ++ ns.flatMap fun x => numL x 0).length ≤ 1000000000) :
    Calls Try.prog 27 #[v, .slice (some ⟨w.heap.size, 0, none⟩) ns.length ns.length] (w.alloc (.cells (ns.map fun x => Value.int .u64 ((x : Nat) : Int)).toArray 22))
      fun e w' => ∃ v' o', e = .returned v' ∧ RB w' v' (bs ++ ns.flatMap fun x => numL x 0) o' ∧ (∀ b, o' = some b → w0.heap.size ≤ b) ∧ Keep [] w0 w' := by
  have hka := (Keep.refl [] w).alloc (.cells (ns.map fun x => Value.int .u64 ((x : Nat) : Int)).toArray 22)
  have hb := heap_alloc_new w (.cells (ns.map fun x => Value.int .u64 ((x : Nat) : Int)).toArray 22)
  refine (p_num (ns := ns) (ol := some w.heap.size) (h.keep hka (by simp)) (rd_block (n := ns.length) (k := 1) hb (by simp) (by unfold maxLen; omega)) (fun b hb2 => by cases hb2; exact ⟨by simp, fun e => by have := h.lt _ e.symm; omega⟩) hok hsz).mono ?_
  rintro e w' ⟨v', o', rfl, hr, hk2, hf⟩
  refine ⟨v', o', rfl, hr, fun b hb3 => ?_, (hk.trans hka (by simp)).trans hk2 (fun x hx => .inr (ho x (by simpa using hx)))⟩
  rcases hf with rfl | hf
  · exact ho b hb3
  · exact Nat.le_trans (Nat.le_trans hk.size hka.size) (hf b hb3)
set_option maxRecDepth 100000 in
set_option maxHeartbeats 1000000 in
theorem s_write {w : World} {q m : Nat} {D : List Nat} {d : DS} {x : Sup} {pv : Value} {o : Option Nat} (h : DK w q m D d) (hm : m ≤ 1000000) (hr : RdE w pv x.ps o) (ho : ∀ b, o = some b → b < w.heap.size) (hsz : x.ps.length ≤ 1000000) (hg : x.gen < 18446744073709551616) :
    Calls Try.prog 11 #[.pointer (some ⟨q, 0, none⟩), aggS x pv] w (SWP w q m D d x) := by
  obtain ⟨pa, pc, rfl⟩ : ∃ a c, pv = .slice a x.ps.length c := by obtain ⟨-, a, c, h, -⟩ := hr; exact ⟨a, c, h⟩
  have hX := Lib.hid (show ∃ y, y = x from ⟨_, rfl⟩)
  obtain ⟨gen, ps, len, ep⟩ := x
  unfold aggS
  simp only at *
  have hk1 : Keep [] w (w.alloc (.cells #[.int .u64 gen, .slice pa ps.length pc, .int .i64 len, .int .i64 ep] 25)) := (Keep.refl [] w).alloc _
  have hb1 := heap_alloc_new w (.cells #[.int .u64 gen, .slice pa ps.length pc, .int .i64 len, .int .i64 ep] 25)
  have hck := fun (w2 : World) (hk2 : Keep [] w w2) => p_check (w := w2) (n := d.n) (x := ⟨gen, ps, len, ep⟩) (hr.keep hk2 (by simp)) (fun b hb => Nat.lt_of_lt_of_le (ho b hb) hk2.size) (by obtain ⟨gb, c, logv, logs, lo, s, r, -, -, -, -, -, -, ok⟩ := h; exact ok.2.1) hsz
  have H := Lib.hid h
  have HR := Lib.hid hr
  have HO := Lib.hid ho
  have HCK := Lib.hid hck
  unfold aggS at HCK
  have HBL := Lib.hid (fun (w2 : World) (hk2 : Keep [] w w2) => by
    obtain ⟨gb, c, logv, logs, lo, s, r, -, h1, -, -, -, -, ok⟩ := h.keep0 hk2
    exact p_blocks h1 rfl (by have := ok.2.2.1; omega) ok.2.1)
  have HSZ := Lib.hid (fun (w2 : World) (hk2 : Keep [] w w2) => by
    obtain ⟨gb, c, logv, logs, lo, s, r, -, h1, -, -, -, -, ok⟩ := h.keep0 hk2
    exact p_size h1)
  have HOK := Lib.hid (show d.ok by obtain ⟨gb, c, logv, logs, lo, s, r, -, -, -, -, -, -, ok⟩ := h; exact ok)
  have HK1 := Lib.hid hk1
  have HB1 := Lib.hid hb1
  clear h hr ho hck hk1 hb1
  go_enter Try.func11, Try.ntmps11
  go_upto_region 3 with fail
  generalize w.alloc (.cells #[.int .u64 gen, .slice pa ps.length pc, .int .i64 len, .int .i64 ep] 25) = w1 at *
  refine wp_region_held_drew (S := fun w' => Keep [] w1 w' ∧ w'.heap[w.heap.size]? = some (.cells #[.int .u64 gen, .slice pa ps.length pc, .int .i64 len, .int .i64 ep] 25)) (by kernel_rfl) ⟨(Keep.refl [] w1).drew, HB1.out⟩ (fun hHeld => ?_)
  have HS0 := Lib.hid hHeld
  clear hHeld
  have hHeld := HS0.out
  generalize w1.drew = w2 at *
  refine wpAnyH_takeL (i := 0) (v := ?vA0) rfl (by kernel_rfl) (by kernel_rfl) (by kernel_rfl) (fun _ _ _ h => h) (Or.inl ⟨by kernel_rfl, ?runA0⟩) hHeld ?_
  case runA0 => (intro w9 hS9; obtain ⟨c0, c1, c2, c3⟩ := cells4s hS9.2; go_simp; try exact rfl)
  try simp only [Act.put, List.setIfInBounds_toArray, List.set_cons_zero, List.set_cons_succ]
  refine wpAnyH_takeL (i := 2) (v := ?vA2) rfl (by kernel_rfl) (by kernel_rfl) (by kernel_rfl) (fun _ _ _ h => h) (Or.inl ⟨by kernel_rfl, ?runA2⟩) hHeld ?_
  case runA2 => (intro w9 hS9; obtain ⟨c0, c1, c2, c3⟩ := cells4s hS9.2; go_simp; try exact rfl)
  try simp only [Act.put, List.setIfInBounds_toArray, List.set_cons_zero, List.set_cons_succ]
  refine wpAnyH_ready (rs := [1]) (by kernel_rfl) (by simp) ?_
  refine AllReadyH.consL rfl (fun K hK => ?_) AllReadyH.nil
  go_simp
  refine (HBL.out _ (HK1.out.trans HS0.out.1 (by simp))).mono ?_
  rintro e w3 ⟨rfl, hk3⟩
  have HS1 := Lib.hid (And.intro (HS0.out.1.trans hk3 (by simp)) (blkk HS0.out.2 hk3 (by simp)))
  clear hk3 hHeld
  go_wp2_with fail
  refine hK.out _ _ HS1.out (fun hHeld => ?_)
  clear hK K
  try simp only [Act.put, List.setIfInBounds_toArray, List.set_cons_zero, List.set_cons_succ]
  refine wpAnyH_ready (rs := [3]) (by kernel_rfl) (by simp) ?_
  refine AllReadyH.consL rfl (fun K hK => ?_) AllReadyH.nil
  go_simp
  refine (HCK.out _ (HK1.out.trans HS1.out.1 (by simp))).mono ?_
  rintro e w4 ⟨cc, rfl, hcc, hk4⟩
  have HS2 := Lib.hid (And.intro (HS1.out.1.trans hk4 (by simp)) (blkk HS1.out.2 hk4 (by simp)))
  have HCC := Lib.hid hcc
  clear hk4 hHeld hcc
  go_wp2_with fail
  refine hK.out _ _ HS2.out (fun hHeld => ?_)
  clear hK K
  try simp only [Act.put, List.setIfInBounds_toArray, List.set_cons_zero, List.set_cons_succ]
  refine wpAnyH_takeL (i := 4) (v := ?vA4) rfl (by kernel_rfl) (by kernel_rfl) (by kernel_rfl) (fun _ _ _ h => h) (Or.inl ⟨by kernel_rfl, ?runA4⟩) hHeld ?_
  case runA4 => (intro w9 hS9; obtain ⟨c0, c1, c2, c3⟩ := cells4s hS9.2; go_simp; try exact rfl)
  try simp only [Act.put, List.setIfInBounds_toArray, List.set_cons_zero, List.set_cons_succ]
  refine wpAnyH_done (by kernel_rfl) ?_ _
  clear hHeld
  by_cases hcc : cc = 0
  · have hoks : okS d.n ⟨gen, ps, len, ep⟩ := by
      rcases HCC.out with ⟨-, h⟩ | ⟨h, -⟩
      · exact h
      · omega
    have HOKS := Lib.hid hoks
    subst hcc
    have hps := hoks.1.2.2.2.2.2
    have hlen := hoks.1.2.2.2.1
    have hlen2 := hoks.1.2.2.2.2.1
    have hep := hoks.1.2.1
    have hep2 := hoks.1.2.2.1
    simp only at hps hlen hlen2 hep hep2
    have hwl : IntKind.u64.wrap (ps.length : Int) = (ps.length : Int) := IntWalk.u64_in _ (by omega)
    obtain ⟨ln, rfl⟩ : ∃ n : Nat, len = n := ⟨len.toNat, by omega⟩
    obtain ⟨en, rfl⟩ : ∃ n : Nat, ep = n := ⟨ep.toNat, by omega⟩
    obtain ⟨c0, c1, c2, c3⟩ := cells4s HS2.out.2
    have hn1 := num_lit (w := w4) (w0 := w1) (ns := [ps.length]) (RB.nil w4) HS2.out.1 (by simp) (by simp; omega) (by simp) (by have := (numL_length ps.length 0).1; simp; omega)
    simp only [List.nil_append, List.flatMap_cons, List.flatMap_nil, List.append_nil, List.map_cons, List.map_nil, List.length_cons, List.length_nil, Nat.zero_add] at hn1
    have HN1 := Lib.hid hn1
    clear hn1 hoks
    go_wp2_with fail
    refine HN1.out.mono ?_
    rintro e w5 ⟨v5, o5, rfl, hrb, hfr, hk5⟩
    obtain ⟨va, vc, rfl, -⟩ := hrb.form
    obtain ⟨d0, d1, d2, d3⟩ := cells4s (blkk HB1.out hk5 (by simp))
    have HRB := Lib.hid hrb
    have HFR := Lib.hid hfr
    have HK5 := Lib.hid hk5
    clear hrb hfr hk5 c0 c1 c2 c3 HN1
    go_wp2_with fail
    clear d0 d1 d2 d3
    go_loopw [6, 29] (fun l i wr => ∃ (k : Nat) (o' : Option Nat), k ≤ ps.length ∧ i = .int .i64 k ∧ RB wr l (numL ps.length 0 ++ (ps.take k).flatMap extU) o' ∧ (∀ b, o' = some b → w1.heap.size ≤ b) ∧ Keep [] w1 wr) (fun _ i _ => ps.length - (RowKit.intOf i).toNat)
    case atStart => exact ⟨0, o5, Nat.zero_le _, rfl, by simpa using HRB.out, HFR.out, HK5.out⟩
    case round =>
      obtain ⟨k, o6, hk, rfl, hrb, hfr, hkw⟩ := hrel
      obtain ⟨bs, hbs⟩ : ∃ z, z = numL ps.length 0 ++ (ps.take k).flatMap extU := ⟨_, rfl⟩
      rw [← hbs] at hrb
      have HBS := Lib.hid hbs
      have hbl0 : bs.length ≤ 153 := by
        have h1 := flat_le (ps.take k)
        have h2 := (numL_length ps.length 0).1
        rw [List.length_take] at h1
        rw [hbs, List.length_append]
        omega
      clear hbs
      obtain ⟨va, vc, rfl, -⟩ := hrb.form
      have HRB6 := Lib.hid hrb
      have HFR6 := Lib.hid hfr
      have HKW := Lib.hid hkw
      clear hrb hfr hkw
      by_cases hlt : k < ps.length
      · have hts := List.take_succ_eq_append_getElem hlt
        have hoke := (HOKS.out.2.1) _ (List.getElem_mem hlt)
        obtain ⟨b, off, rfl, -, e0, e1⟩ := HR.out.at hlt
        have d0 := (HK1.out.trans HKW.out (by simp)).cellOf e0
        have d1 := (HK1.out.trans HKW.out (by simp)).cellOf e1
        have q0 : (0 : Int) ≤ (k : Int) := by omega
        have q1 : (k : Int) < (ps.length : Int) := by omega
        have HTS := Lib.hid hts
        clear e0 e1 hts
        have hdn := HOK.out.2.1
        generalize ps[k] = x at *
        obtain ⟨f, m'⟩ := x
        unfold okE at hoke
        simp only at d0 d1 hoke
        obtain ⟨fn, rfl⟩ : ∃ n : Nat, f = n := ⟨f.toNat, by omega⟩
        obtain ⟨mn, rfl⟩ : ∃ n : Nat, m' = n := ⟨m'.toNat, by omega⟩
        have hw1 : IntKind.u64.wrap (fn : Int) = (fn : Int) := IntWalk.u64_in _ (by omega)
        have hw2 : IntKind.u64.wrap (mn : Int) = (mn : Int) := IntWalk.u64_in _ (by omega)
        have hn2 := num_lit (w := wr.alloc (.cells #[.int .i64 fn, .int .i64 mn] 54)) (w0 := w1) (ns := [fn, mn]) (HRB6.out.keep ((Keep.refl [] wr).alloc _) (by simp)) (HKW.out.alloc _) HFR6.out (by simp; omega) (by simp) (by
          have h2 := (numL_length fn 0).1
          have h3 := (numL_length mn 0).1
          simp only [List.length_append, List.flatMap_cons, List.flatMap_nil, List.length_nil]
          omega)
        simp only [List.flatMap_cons, List.flatMap_nil, List.append_nil, List.map_cons, List.map_nil, List.length_cons, List.length_nil, Nat.zero_add, size_alloc] at hn2
        obtain ⟨bs2, hbs2⟩ : ∃ z, z = bs ++ (numL fn 0 ++ numL mn 0) := ⟨_, rfl⟩
        have hst : bs2 = numL ps.length 0 ++ (ps.take (k + 1)).flatMap extU := by
          rw [HTS.out, hbs2, HBS.out]
          simp [extU]
        rw [← hbs2] at hn2
        have HN2 := Lib.hid hn2
        have HST := Lib.hid hst
        clear hn2 hst hoke hdn hbs2
        go_wp2_with fail
        refine HN2.out.mono ?_
        rintro e w6 ⟨v7, o7, rfl, hrb7, hfr7, hk7⟩
        obtain ⟨vb, vd, rfl, -⟩ := hrb7.form
        have HRB7 := Lib.hid hrb7
        have HFR7 := Lib.hid hfr7
        have HK7 := Lib.hid hk7
        clear hrb7 hfr7 hk7
        go_wp2_with fail
        go_roundw
        case rel => exact ⟨k + 1, o7, by omega, by go_num, by rw [← HST.out]; exact HRB7.out, HFR7.out, HK7.out⟩
        case measure => first | (simp [RowKit.intOf]; omega) | omega
      · have hbs2 : bs = numL ps.length 0 ++ ps.flatMap extU := by rw [HBS.out, List.take_of_length_le (by omega)]
        have q1 : ¬ (k : Int) < (ps.length : Int) := by omega
        have hw1 : IntKind.u64.wrap (ln : Int) = (ln : Int) := IntWalk.u64_in _ (by omega)
        have hw2 : IntKind.u64.wrap (en : Int) = (en : Int) := IntWalk.u64_in _ (by omega)
        obtain ⟨d0, d1, d2, d3⟩ := cells4s (blkk HB1.out HKW.out (by simp))
        have hn2 := num_lit (w := wr) (w0 := w1) (ns := [ln, en]) HRB6.out HKW.out HFR6.out (by simp; omega) (by simp) (by
          have h2 := (numL_length ln 0).1
          have h3 := (numL_length en 0).1
          simp only [List.length_append, List.flatMap_cons, List.flatMap_nil, List.length_nil]
          omega)
        simp only [List.flatMap_cons, List.flatMap_nil, List.append_nil, List.map_cons, List.map_nil, List.length_cons, List.length_nil, Nat.zero_add] at hn2
        have hst : bs ++ (numL ln 0 ++ numL en 0) = loadL ⟨gen, ps, ln, en⟩ := by rw [hbs2]; simp [loadL]
        rw [hst] at hn2
        have HN2 := Lib.hid hn2
        have hll := loadL_len (x := ⟨gen, ps, ln, en⟩) hps
        obtain ⟨L, hL⟩ : ∃ z, z = loadL ⟨gen, ps, ln, en⟩ := ⟨_, rfl⟩
        rw [← hL] at HN2 hll
        have HL := Lib.hid hL
        clear hn2 hst hbs2 hL HRB6 HBS
        go_wp2_with fail
        refine HN2.out.mono ?_
        rintro e w7 ⟨v7, o7, rfl, hrb7, hfr7, hk7⟩
        obtain ⟨vb, vd, rfl, -⟩ := hrb7.form
        have HRBL := Lib.hid hrb7
        have HFRL := Lib.hid hfr7
        have HKL := Lib.hid hk7
        clear hrb7 hfr7 hk7 d0 d1 d2 d3 HN2
        go_upto_region 13 with fail
        refine wp_region_held_drew (S := fun w' => Keep [] w7 w' ∧ w'.heap[w.heap.size]? = some (.cells #[.int .u64 gen, .slice pa ps.length pc, .int .i64 ln, .int .i64 en] 25)) (by kernel_rfl) ⟨(Keep.refl [] w7).drew, blkk HB1.out HKL.out.drew (by simp)⟩ (fun hHeld => ?_)
        have HS0 := Lib.hid hHeld
        clear hHeld
        have hHeld := HS0.out
        generalize w7.drew = w8 at *
        refine wpAnyH_takeL (i := 0) (v := ?vB0) rfl (by kernel_rfl) (by kernel_rfl) (by kernel_rfl) (fun _ _ _ h => h) (Or.inl ⟨by kernel_rfl, ?runB0⟩) hHeld ?_
        case runB0 => (intro w9 hS9; obtain ⟨c0, c1, c2, c3⟩ := cells4s hS9.2; go_simp; try exact rfl)
        try simp only [Act.put, List.setIfInBounds_toArray, List.set_cons_zero, List.set_cons_succ]
        refine wpAnyH_takeL (i := 2) (v := ?vB2) rfl (by kernel_rfl) (by kernel_rfl) (by kernel_rfl) (fun _ _ _ h => h) (Or.inl ⟨by kernel_rfl, ?runB2⟩) hHeld ?_
        case runB2 => (intro w9 hS9; obtain ⟨c0, c1, c2, c3⟩ := cells4s hS9.2; go_simp; try exact rfl)
        try simp only [Act.put, List.setIfInBounds_toArray, List.set_cons_zero, List.set_cons_succ]
        refine wpAnyH_takeL (i := 3) (v := ?vB3) rfl (by kernel_rfl) (by kernel_rfl) (by kernel_rfl) (fun _ _ _ h => h) (Or.inl ⟨by kernel_rfl, ?runB3⟩) hHeld ?_
        case runB3 => (intro w9 hS9; obtain ⟨c0, c1, c2, c3⟩ := cells4s hS9.2; go_simp; try exact rfl)
        try simp only [Act.put, List.setIfInBounds_toArray, List.set_cons_zero, List.set_cons_succ]
        refine wpAnyH_takeL (i := 4) (v := ?vB4) rfl (by kernel_rfl) (by kernel_rfl) (by kernel_rfl) (fun _ _ _ h => h) (Or.inl ⟨by kernel_rfl, ?runB4⟩) hHeld ?_
        case runB4 => (intro w9 hS9; obtain ⟨c0, c1, c2, c3⟩ := cells4s hS9.2; go_simp; try exact rfl)
        try simp only [Act.put, List.setIfInBounds_toArray, List.set_cons_zero, List.set_cons_succ]
        refine wpAnyH_takeL (i := 5) (v := ?vB5) rfl (by kernel_rfl) (by kernel_rfl) (by kernel_rfl) (fun _ _ _ h => h) (Or.inl ⟨by kernel_rfl, ?runB5⟩) hHeld ?_
        case runB5 => (intro w9 hS9; obtain ⟨c0, c1, c2, c3⟩ := cells4s hS9.2; go_simp; try exact rfl)
        try simp only [Act.put, List.setIfInBounds_toArray, List.set_cons_zero, List.set_cons_succ]
        refine wpAnyH_ready (rs := [1]) (by kernel_rfl) (by simp) ?_
        refine AllReadyH.consL rfl (fun K hK => ?_) AllReadyH.nil
        go_simp
        refine (HSZ.out _ (HK1.out.trans (HKL.out.trans HS0.out.1 (by simp)) (by simp))).mono ?_
        rintro e w9 ⟨rfl, hk9⟩
        have HS3 := Lib.hid (And.intro (HS0.out.1.trans hk9 (by simp)) (blkk HS0.out.2 hk9 (by simp)))
        clear hk9 hHeld
        go_wp2_with fail
        refine hK.out _ _ HS3.out (fun hHeld => ?_)
        clear hK K
        try simp only [Act.put, List.setIfInBounds_toArray, List.set_cons_zero, List.set_cons_succ]
        obtain ⟨lo8, hrd8, -⟩ := Row.rd HRBL.out
        have hput := p_put (size := d.sz) (num := gen) (kind := 83) (hrd8.keep0 HS3.out.1) (by have := HOK.out.2.2.2.1; omega) hg (by omega)
        simp only [show (((83 : UInt8).toNat : Nat) : Int) = 83 from rfl] at hput
        have HPUT := Lib.hid hput
        clear hput hrd8
        refine wpAnyH_ready (rs := [6]) (by kernel_rfl) (by simp) ?_
        refine AllReadyH.consL rfl (fun K hK => ?_) AllReadyH.nil
        go_simp
        refine HPUT.out.mono ?_
        rintro e w10 ⟨hp, hk10⟩
        have HS4 := Lib.hid (And.intro (HS3.out.1.trans hk10 (by simp)) (blkk HS3.out.2 hk10 (by simp)))
        have HK10 := Lib.hid hk10
        clear hk10 hHeld
        have hp3 : ∃ (sv : Value) (c : Int), e = .returned (.tuple #[sv, .int .i64 c]) ∧ (roomN d.sz < L.length ∧ c = 1 ∨ L.length ≤ roomN d.sz ∧ c = 0 ∧ ∃ g, sv = .slice (some ⟨g, 0, none⟩) d.sz d.sz ∧ BB w10 g (sealL d.sz ⟨83, gen, L⟩) ∧ w9.heap.size ≤ g) := by
          have hok := HOK.out
          have hr0 : roomN d.sz ≠ 0 := by unfold roomN; rw [if_neg (by have := hok.2.2.1; have := hok.2.2.2.1; omega)]; have := hok.2.2.1; omega
          rcases hp with ⟨h, -⟩ | ⟨-, h1, h2⟩ | ⟨-, h1, g, h2, h3, h4⟩
          · exact absurd h (by rintro (h | h); exact hr0 h; exact absurd h (by show ¬ ((83 : UInt8) = 0); decide))
          · exact ⟨_, 1, h2, .inl ⟨h1, rfl⟩⟩
          · exact ⟨_, 0, h2, .inr ⟨h1, rfl, g, rfl, h3, h4⟩⟩
        clear hp
        obtain ⟨sv, c, rfl, hp⟩ := hp3
        have HP := Lib.hid hp
        clear hp
        go_wp2_with fail
        refine hK.out _ _ HS4.out (fun hHeld => ?_)
        clear hK K
        try simp only [Act.put, List.setIfInBounds_toArray, List.set_cons_zero, List.set_cons_succ]
        refine wpAnyH_takeL (i := 7) (v := ?vB7) rfl (by kernel_rfl) (by kernel_rfl) (by kernel_rfl) (fun _ _ _ h => h) (Or.inl ⟨by kernel_rfl, ?runB7⟩) hHeld ?_
        case runB7 => (intro w9 hS9; obtain ⟨c0, c1, c2, c3⟩ := cells4s hS9.2; go_simp; try exact rfl)
        try simp only [Act.put, List.setIfInBounds_toArray, List.set_cons_zero, List.set_cons_succ]
        refine wpAnyH_takeL (i := 8) (v := ?vB8) rfl (by kernel_rfl) (by kernel_rfl) (by kernel_rfl) (fun _ _ _ h => h) (Or.inl ⟨by kernel_rfl, ?runB8⟩) hHeld ?_
        case runB8 => (intro w9 hS9; obtain ⟨c0, c1, c2, c3⟩ := cells4s hS9.2; go_simp; try exact rfl)
        try simp only [Act.put, List.setIfInBounds_toArray, List.set_cons_zero, List.set_cons_succ]
        refine wpAnyH_takeL (i := 9) (v := ?vB9) rfl (by kernel_rfl) (by kernel_rfl) (by kernel_rfl) (fun _ _ _ h => h) (Or.inl ⟨by kernel_rfl, ?runB9⟩) hHeld ?_
        case runB9 => (intro w9 hS9; obtain ⟨c0, c1, c2, c3⟩ := cells4s hS9.2; go_simp; try exact rfl)
        try simp only [Act.put, List.setIfInBounds_toArray, List.set_cons_zero, List.set_cons_succ]
        refine wpAnyH_takeL (i := 10) (v := ?vB10) rfl (by kernel_rfl) (by kernel_rfl) (by kernel_rfl) (fun _ _ _ h => h) (Or.inl ⟨by kernel_rfl, ?runB10⟩) hHeld ?_
        case runB10 => (intro w9 hS9; obtain ⟨c0, c1, c2, c3⟩ := cells4s hS9.2; go_simp; try exact rfl)
        try simp only [Act.put, List.setIfInBounds_toArray, List.set_cons_zero, List.set_cons_succ]
        refine wpAnyH_takeL (i := 11) (v := ?vB11) rfl (by kernel_rfl) (by kernel_rfl) (by kernel_rfl) (fun _ _ _ h => h) (Or.inl ⟨by kernel_rfl, ?runB11⟩) hHeld ?_
        case runB11 => (intro w9 hS9; obtain ⟨c0, c1, c2, c3⟩ := cells4s hS9.2; go_simp; try exact rfl)
        try simp only [Act.put, List.setIfInBounds_toArray, List.set_cons_zero, List.set_cons_succ]
        refine wpAnyH_done (by kernel_rfl) ?_ _
        clear hHeld
        rcases HP.out with ⟨hbig, rfl⟩ | ⟨hfit, rfl, g, rfl, hbb, hgl⟩
        · have HBIG := Lib.hid hbig
          clear hbig
          go_wp2_with fail
          refine bodyPost_ret (results_tmp rfl _ _ _) rfl ?_
          exact SWP.same H.out ((HK1.out.trans HKL.out (by simp)).trans HS4.out.1 (by simp)) (by unfold swrite; rw [if_neg (not_not_intro HOKS.out), ← HL.out, if_pos HBIG.out])
        · have hlen : (sealL d.sz ⟨83, gen, L⟩).length = d.sz := sealL_len ⟨by have hok := HOK.out; unfold roomN; rw [if_neg (by have := hok.2.2.1; have := hok.2.2.2.1; omega)]; have := hok.2.2.1; omega, by show (83 : UInt8) ≠ 0; decide, hfit, hg⟩
          have hs1 := HOK.out.2.2.2.1
          obtain ⟨c0, c1, c2, c3⟩ := cells4s HS4.out.2
          have hkw := (HK1.out.trans HKL.out (by simp)).trans HS4.out.1 (by simp)
          have hka := hkw.alloc (.cells #[.slice (some ⟨g, 0, none⟩) d.sz d.sz] 38)
          have hrd := hbb.rd (off := 0) (n := d.sz) (c := d.sz) (by omega) (Nat.le_refl _) (by unfold maxLen; omega)
          rw [List.drop_zero, List.take_of_length_le (by omega)] at hrd
          have hdw := d_write (lc := 1) (H.out.keep0 hka) hm (cell_new w10 (.slice (some ⟨g, 0, none⟩) d.sz d.sz) 38) (hrd.keep0 ((Keep.refl [] w10).alloc _)) (by omega) (((gen % 2 : Nat) : Int))
          have hmod : (gen : Int).tmod 2 = ((gen % 2 : Nat) : Int) := by rw [Int.tmod_eq_emod_of_nonneg (by omega)]; omega
          have hmw : IntKind.u64.wrap ((gen : Int).tmod 2) = ((gen % 2 : Nat) : Int) := by rw [hmod]; exact IntWalk.u64_in _ (by omega)
          have hmw2 : IntKind.i64.wrap ((gen % 2 : Nat) : Int) = ((gen % 2 : Nat) : Int) := IntWalk.i64_in _ (by omega)
          have hfitN : ¬ roomN d.sz < L.length := by omega
          have hsw : swrite d ⟨gen, ps, ln, en⟩ = writeD d ((gen % 2 : Nat) : Int) (sealL d.sz ⟨83, gen, L⟩) := by unfold swrite; rw [if_neg (not_not_intro HOKS.out), ← HL.out, if_neg hfitN]
          have hke : ((gen % 2 : Nat) : Int) = (gen : Int) % 2 := by omega
          rw [hke] at hdw hsw
          have HDW := Lib.hid hdw
          have HKA := Lib.hid hka
          have HSW := Lib.hid hsw
          clear hdw hka hrd hbb hlen hfit hkw hsw hmod hfitN hke
          go_wp2_with fail
          refine HDW.out.mono ?_
          rintro e w11 ⟨D', rfl, hdk, hD, hk11⟩
          have HFIN := Lib.hid (show SWP w q m D d ⟨gen, ps, ln, en⟩ (.returned (.int .i64 (writeD d ((gen : Int) % 2) (sealL d.sz ⟨83, gen, L⟩)).1)) w11 from ⟨D', by rw [HSW.out], by rw [HSW.out]; exact hdk, fun b hb => (hD b hb).imp id (fun h => Nat.le_trans HKA.out.size h), (HKA.out.mono (by simp)).trans hk11 (fun x hx => .inl hx)⟩)
          clear hdk hD hk11
          go_wp2_with fail
          refine bodyPost_ret (results_tmp rfl _ _ _) rfl ?_
          exact HFIN.out
  · have hno : ¬ okS d.n ⟨gen, ps, len, ep⟩ := by
      rcases HCC.out with ⟨h, -⟩ | ⟨-, h⟩
      · exact absurd h hcc
      · exact h
    have hc2 : cc = 2 := by
      rcases HCC.out with ⟨h, -⟩ | ⟨h, -⟩
      · exact absurd h hcc
      · exact h
    subst hc2
    have HNO := Lib.hid hno
    clear hno
    go_wp2_with fail
    refine bodyPost_ret (results_tmp rfl _ _ _) rfl ?_
    exact SWP.same H.out (HK1.out.trans HS2.out.1 (by simp)) (by unfold swrite; rw [if_pos HNO.out])
end Go.Proofs.Ytdeghoigpcbmcaa
