import Derived.Test.YtdmmhfbafinkpaaGreatDoorPb2
import Derived.Test.YtdmmhfbafinkpaaGreatDoorPa22
/- ParseBack: parse/text.go: arms. Printed by gen-pb3.py. -/
namespace Go.Proofs.YtdmmhfbafinkpaaGreatDoor
open Go.RowKit Go.Emb

theorem step_append_rowB {P : Program} (w : World) {ops : Array Oper} {o : Oper} {a : Act} {K : Act → World → Prop} {Q : Exit → Act → World → Prop} {X : Prop} (hw : Region.wanted o (yielded ops a.tmps) = true) (s x : Operand) (T tx : TypeId) (ho : o.op = .call { callee := .builtin .append, args := #[s, x], argTypes := #[T, tx] })
    (E : TypeId) (i : TypeInfo) (z : Value) (k bytes : Nat) (ht : P.underlying T = some (.slice E)) (hi : P.info? E = some i) (hz : i.zero = some z) (hik : i.size = k) (hib : i.bytes = bytes) (hzs : z.cells.size = k)
    (v : Value) (n : Nat) (xs : List Value) (r : Option Nat) (hs : a.eval s = v) (hown : Row w E k v n xs r) (xv : Value) (hx : a.eval x = xv) (m : Nat) (news : List Value) (hsrc : Src P k tx xv m news w) (hpos : 0 < m) (h63 : n + m ≤ maxLen) (hbytes : (n + m) * bytes ≤ 140737488355328)
    (h : ∀ g off cap w', Row w' E k (.slice (some ⟨g, off, none⟩) (n + m) cap) (n + m) (xs ++ news) (some g) → Keep r.toList w w' → (r = some g ∨ w.heap.size ≤ g) → K (a.put o.dst (.slice (some ⟨g, off, none⟩) (n + m) cap)) w') :
    if Region.wanted o (yielded ops a.tmps) = true then Oper.wp P o a w K Q else X := by
  rw [if_pos hw]
  obtain ⟨g, off, cap, w', hr, h2, h3, h4⟩ := run_append_row (P := P) (w := w) (ty := o.type) ht hi hz hik hib hzs hown hsrc hpos h63 hbytes
  unfold Oper.wp execOp
  simp only [ho, resolve, invoke, builtin, Sem.run_bind, Sem.run_pure, Result.andThen_ok, List.map_toArray, List.map_cons, List.map_nil, hs, hx, hr]
  exact h g off cap w' h2 h3 h4
/-- a list of trees whose texts are known -/
def TL (B : Nat) (l : List Nd) (ls : List (List It)) : Prop := ls.length = l.length ∧ l.length ≤ 1000000 ∧ ∀ i (_ : i < l.length) (_ : i < ls.length), TxT B l[i] ls[i]
def ClT (B : Nat) (c : Nd) (nm : List UInt8) (ps gs bs : List (List It)) : Prop := ∃ p g b, c = .mk 0 0 nm p g b ∧ TL B p ps ∧ TL B g gs ∧ TL B b bs

set_option maxRecDepth 100000 in
set_option maxHeartbeats 4000000 in
theorem p_arms {w : World} {B : Nat} {S : Nat → Prop} {v : Value} {l : List Nd} {ls : List (List It)} (ht : TabOk B w) (h : NsR S w true v l) (hl : ls.length = l.length) (hx : ∀ i (h : i < l.length) (h' : i < ls.length), ∃ nm ps gs bs, ClT B l[i] nm ps gs bs ∧ ls[i] = sepI comma ps ++ tailI gs bs)
    (hsz : ∀ i (h : i < ls.length), (flat ls[i]).length ≤ 140737488355000) (hlen : (flat (sepI semiB ls)).length ≤ 140737488355328) (hN : l.length ≤ 1000000) : Calls Tryz.prog 35 #[v] w (StrE w (flat (sepI semiB ls))) := by
  rw [flat_sep] at hlen ⊢
  obtain ⟨va, vc, rfl⟩ := h.form
  obtain ⟨i0, hi, hz0, hz1, hz2⟩ := info_parts strs_info
  have HI := Lib.hid hi
  have HT := Lib.hid ht
  have HH := Lib.hid h
  have HX := Lib.hid (And.intro hl hx)
  have HSZ := Lib.hid hsz
  have HLEN := Lib.hid hlen
  clear h ht hi hx hlen hl hsz
  go_enter Tryz.func35, Tryz.ntmps35
  go_wp2_with fail
  go_loopw [3, 8] (fun v i wr => ∃ k : Nat, k ≤ l.length ∧ i = .int .i64 k ∧ SRow w ((ls.take k).map flat) v wr) (fun _ i _ => l.length - (RowKit.intOf i).toNat)
  case atStart => exact ⟨0, Nat.zero_le _, rfl, SRow.nil w⟩
  case round =>
    obtain ⟨k, hk, rfl, hrow⟩ := hrel
    have hkl : ((ls.take k).map flat).length = k := by rw [List.length_map, List.length_take, HX.out.1]; omega
    obtain ⟨ra, rc, hrv⟩ := hrow.form
    rw [hkl] at hrv
    subst hrv
    have HROW := Lib.hid hrow
    have HKL := Lib.hid hkl
    have hkw : Keep [] w wr := by obtain ⟨o, -, -, h⟩ := hrow; exact h
    have HKW := Lib.hid hkw
    clear hrow hkl hkw
    by_cases hlt : k < l.length
    · have q0 : (0 : Int) ≤ (k : Int) := by omega
      have q1 : (k : Int) < (l.length : Int) := by omega
      obtain ⟨ab, aoff, csa, rfl, -, hnd, hcell⟩ := (HH.out.keep HKW.out (by simp)).atk hlt
      obtain ⟨nm, ps, gs, bs, ⟨p, g, b, ec, hp, hg, hb⟩, hex⟩ := HX.out.2 k hlt (by rw [HX.out.1]; exact hlt)
      have hszk := HSZ.out k (by rw [HX.out.1]; exact hlt)
      rw [hex, flat_app, List.length_append] at hszk
      rw [ec] at hnd
      obtain ⟨at1, nm', a', g', b', va1, vb1, vc1, rfl, e, h1, h2, h3⟩ := id hnd.un5
      injection e with e1 e2 e3 e4 e5 e6
      subst e3 e4 e5 e6
      obtain ⟨p1, c1, rfl⟩ := h1.form
      obtain ⟨p2, c2, rfl⟩ := h2.form
      obtain ⟨p3, c3, rfl⟩ := h3.form
      have hA0 := hcell 0 (by decide)
      have hA1 := hcell 1 (by decide)
      have hA2 := hcell 2 (by decide)
      have hA3 := hcell 3 (by decide)
      have hA4 := hcell 4 (by decide)
      simp only [wid, if_true, Nat.add_zero, List.getElem?_cons_zero, List.getElem?_cons_succ] at hA0 hA1 hA2 hA3 hA4
      have hk5 := (Keep.refl [] wr).alloc (.cells #[.slice p1 p.length c1, .slice p2 g.length c2, .slice p3 b.length c3, .string ⟨nm.toArray⟩, .int .i64 at1] 52)
      have hb5 := heap_alloc_new wr (.cells #[.slice p1 p.length c1, .slice p2 g.length c2, .slice p3 b.length c3, .string ⟨nm.toArray⟩, .int .i64 at1] 52)
      have HB5 := Lib.hid hb5
      have hT := HT.out.keep0 (HKW.out.trans hk5 (by simp))
      have HCP := Lib.hid (fun W (k : Keep [] (wr.alloc (.cells #[.slice p1 p.length c1, .slice p2 g.length c2, .slice p3 b.length c3, .string ⟨nm.toArray⟩, .int .i64 at1] 52)) W) => p_texts (w := W) (s := comma) (sep := ⟨#[44]⟩) (hT.keep0 k) ((h1.keep hk5 (by simp)).keep k (by simp)) hp.1 hp.2.2 rfl (by omega) hp.2.1)
      have HCA := Lib.hid (fun W (k : Keep [] (wr.alloc (.cells #[.slice p1 p.length c1, .slice p2 g.length c2, .slice p3 b.length c3, .string ⟨nm.toArray⟩, .int .i64 at1] 52)) W) => p_arm (w := W) (hT.keep0 k) ((hnd.keep hk5 (by simp)).keep k (by simp)) hg.1 hg.2.2 hb.1 hb.2.2 (by omega) ⟨hg.2.1, hb.2.1⟩)
      have HR5 := Lib.hid (HROW.out.keep hk5)
      have HEX := Lib.hid hex
      have HSZ2 := Lib.hid hszk
      clear hcell hnd hb5 hk5 hT h1 h2 h3 hp hg hb hex hszk ec e1 e2
      go_wp2_with fail
      generalize wr.alloc _ = w5 at *
      clear hA0 hA1 hA2 hA3 hA4
      refine wp_regionB [2, 3] (fun w' => Keep [] w5 w') (by kernel_rfl) ?_
      refine wpAnyB_takeY (i := 0) (v := ?vA0) rfl (by kernel_rfl) (by kernel_rfl) (by kernel_rfl) (by kernel_rfl) (fun _ _ _ h => h) (Or.inl ⟨by kernel_rfl, ?runA0⟩) ?_
      case runA0 => (intro w9 _; go_simp; try exact rfl)
      try simp only [Act.put, List.setIfInBounds_toArray, List.set_cons_zero, List.set_cons_succ]
      refine wpAnyB_takeY (i := 1) (v := ?vA1) rfl (by kernel_rfl) (by kernel_rfl) (by kernel_rfl) (by kernel_rfl) (fun _ _ _ h => h) (Or.inl ⟨by kernel_rfl, ?runA1⟩) ?_
      case runA1 => (intro w9 _; go_simp; try exact rfl)
      try simp only [Act.put, List.setIfInBounds_toArray, List.set_cons_zero, List.set_cons_succ]
      refine wpAnyB_take [2, 3] (i := 4) (v := ?vA4) rfl (by kernel_rfl) (by kernel_rfl) (by kernel_rfl) (by kernel_rfl) (by kernel_rfl) (fun _ _ _ h => h) (Or.inl ⟨by kernel_rfl, ?runA4⟩) ((Keep.refl [] w5).drew) ?_
      case runA4 => (intro w9 hS9; obtain ⟨f0, f1, f2, f3, f4⟩ := cells5 (blkK HB5.out hS9 (by simp)); go_simp; try exact rfl)
      try simp only [Act.put, List.setIfInBounds_toArray, List.set_cons_zero, List.set_cons_succ]
      refine wpAnyB_take [] (i := 2) (v := ?vA2) rfl (by kernel_rfl) (by kernel_rfl) (by kernel_rfl) (by kernel_rfl) (by kernel_rfl) (fun _ _ _ h => h) (Or.inl ⟨by kernel_rfl, ?runA2⟩) ((Keep.refl [] w5).drew) ?_
      case runA2 => (intro w9 hS9; obtain ⟨f0, f1, f2, f3, f4⟩ := cells5 (blkK HB5.out hS9 (by simp)); go_simp; try exact rfl)
      try simp only [Act.put, List.setIfInBounds_toArray, List.set_cons_zero, List.set_cons_succ]
      refine wpAnyB_ready (rs := [3]) (by kernel_rfl) (by simp) ?_
      refine AllReadyB.cons rfl (fun K hK => ?_) AllReadyB.nil
      go_simp
      refine (HCP.out _ ((Keep.refl [] w5).drew)).mono ?_
      rintro e w6 ⟨⟨X, rfl, hX⟩, hk6⟩
      have HK6 := Lib.hid (And.intro hX (((Keep.refl [] w5).drew).trans hk6 (by simp)))
      have hxs : X.size + (flat (tailI gs bs)).length ≤ 140737488355000 := by rw [size_list, hX]; exact HSZ2.out
      clear hX hk6
      go_simp
      refine hK.out _ _ (fun h => HK6.out.2) ?_
      clear hK K
      try simp only [Act.put, List.setIfInBounds_toArray, List.set_cons_zero, List.set_cons_succ]
      refine wpAnyB_ready (rs := [5]) (by kernel_rfl) (by simp) ?_
      refine AllReadyB.cons rfl (fun K hK => ?_) AllReadyB.nil
      go_simp
      refine (HCA.out _ HK6.out.2).mono ?_
      rintro e w7 ⟨⟨Y, rfl, hY⟩, hk7⟩
      have HK7 := Lib.hid (And.intro hY (HK6.out.2.trans hk7 (by simp)))
      have hys : X.size + Y.size ≤ 140737488355000 := by rw [size_list Y, hY]; exact hxs
      clear hY hk7
      go_simp
      refine hK.out _ _ (fun h => (nomatch h)) ?_
      clear hK K
      try simp only [Act.put, List.setIfInBounds_toArray, List.set_cons_zero, List.set_cons_succ]
      refine wpAnyB_takeY (i := 6) (v := (.string (X ++ Y))) rfl (by kernel_rfl) (by kernel_rfl) (by kernel_rfl) (by kernel_rfl) (fun _ _ _ h => h) (Or.inl ⟨by kernel_rfl, ?runA6⟩) ?_
      case runA6 => (intro w9 _; go_simp; omega)
      try simp only [Act.put, List.setIfInBounds_toArray, List.set_cons_zero, List.set_cons_succ]
      have hr7 := HR5.out.keep HK7.out.2
      obtain ⟨o, hro, ho, hko⟩ := hr7
      have HO := Lib.hid ho
      have HKO := Lib.hid hko
      have HRO := Lib.hid hro
      clear ho hko hro
      refine wpAnyB_ready (rs := [7]) (by kernel_rfl) (by simp) ?_
      refine AllReadyB.cons rfl (fun K hK => ?_) AllReadyB.nil
      go_simp
      refine hK.out _ _ (fun h => (nomatch h)) ?_
      clear hK K
      try simp only [Act.put, List.setIfInBounds_toArray, List.set_cons_zero, List.set_cons_succ]
      have t1 := src_blk (P := Tryz.prog) (k := 1) Tryz.underlying90 (heap_alloc_new w7 (.cells #[.string (X ++ Y)] 9)) rfl (by intro u hu; simp at hu; subst hu; rfl)
      have t2 := Row.keep HRO.out ((Keep.refl [] w7).alloc (.cells #[.string (X ++ Y)] 9)) (by simp)
      rw [HKL.out] at t2
      have T1 := Lib.hid t1
      have T2 := Lib.hid t2
      clear t1 t2
      refine wpAnyB_ready (rs := [8]) (by kernel_rfl) (by simp) ?_
      refine AllReadyB.cons rfl (fun K hK => ?_) AllReadyB.nil
      refine step_append_rowB _ (by kernel_rfl) _ _ 90 90 rfl 9 i0 (.string ⟨#[]⟩) 1 16 Tryz.underlying90 HI.out hz0 hz1 hz2 rfl _ k _ o rfl T2.out _ rfl 1 _ T1.out (by omega) (by first | (unfold maxLen; omega) | (simp [maxLen] <;> omega)) (by omega) ?_
      intro g9 off9 cap9 w9 hr9 hk9 hg9
      have hpush := SRow.push (Ls := (ls.take k).map flat) (S := X ++ Y) (L := flat (ls[k]'(by rw [HX.out.1]; exact hlt))) HO.out HKO.out (by rw [HKL.out]; simpa using hr9) (((Keep.refl o.toList w7).alloc _).trans hk9 (fun b hb => .inl hb)) (by rcases hg9 with h | h; (· exact .inl h); exact .inr (by first | omega | (simp at h; omega))) (by rw [HEX.out, flat_app, ← HK6.out.1, ← HK7.out.1]; simp)
      rw [HKL.out] at hpush
      have HPUSH := Lib.hid hpush
      clear hr9 hk9 hg9 hpush T1 T2
      refine hK.out _ _ (fun h => (nomatch h)) ?_
      clear hK K
      try simp only [Act.put, List.setIfInBounds_toArray, List.set_cons_zero, List.set_cons_succ]
      refine wpAnyB_takeY (i := 9) (v := ?vA9) rfl (by kernel_rfl) (by kernel_rfl) (by kernel_rfl) (by kernel_rfl) (fun _ _ _ h => h) (Or.inl ⟨by kernel_rfl, ?runA9⟩) ?_
      case runA9 => (intro w9 _; go_simp; try exact rfl)
      try simp only [Act.put, List.setIfInBounds_toArray, List.set_cons_zero, List.set_cons_succ]
      refine wpAnyB_done (by kernel_rfl) ?_ _
      go_wp2_with fail
      go_roundw
      case rel => exact ⟨k + 1, by omega, by go_num, by have h := HPUSH.out; rwa [show (ls.take (k + 1)).map flat = (ls.take k).map flat ++ [flat (ls[k]'(by rw [HX.out.1]; exact hlt))] from by rw [List.take_succ_eq_append_getElem (by rw [HX.out.1]; exact hlt), List.map_append]; rfl]⟩
      case measure => simp [intOf]; omega
    · obtain rfl : k = l.length := by omega
      have q1 : ¬ (l.length : Int) < (l.length : Int) := by omega
      have hrow := HROW.out
      rw [List.take_of_length_le (by rw [HX.out.1]; exact Nat.le_refl _)] at hrow
      have hj := p_join hrow ⟨#[59, 32]⟩ HLEN.out (by rw [List.length_map, HX.out.1]; omega)
      have HJ := Lib.hid hj
      clear hrow hj
      go_wp2_with fail
      refine HJ.out.mono ?_
      rintro e w6 ⟨⟨X, rfl, hX⟩, hk6⟩
      have HK6 := Lib.hid (And.intro hX (HKW.out.trans hk6 (by simp)))
      clear hX hk6
      go_wp2_with fail
      go_ret
      exact ⟨⟨X, rfl, by rw [HK6.out.1]; rfl⟩, HK6.out.2⟩
end Go.Proofs.YtdmmhfbafinkpaaGreatDoor

/- ParseBack: parse/text.go: heads. Printed by gen-pb4.py. -/
namespace Go.Proofs.YtdmmhfbafinkpaaGreatDoor
open Go.RowKit Go.Emb

theorem nameL_ne (l : List UInt8) : nameL l ≠ [] := by
  unfold nameL
  by_cases h : bareL l = true
  · rw [if_pos h]
    rintro rfl
    simp [bareL] at h
  · rw [if_neg h]; simp [quoteL]
set_option maxRecDepth 100000 in
set_option maxHeartbeats 1000000 in
theorem p_printA {w : World} {B : Nat} (s : ByteArray) (ht : TabOk B w) (hs : s.size ≤ 100000) :
    Calls Tryz.prog 29 #[.agg #[.int .i64 2, .int .i64 0, .string s, .slice none 0 0]] w fun e w' => e = .returned (.string ⟨(nameL s.data.toList).toArray⟩) ∧ Keep [] w w' := by
  have hcall := fun ob => p_writeA (w := (w.alloc ob).alloc (.cells #[.pointer none, .slice none 0 0] 60)) (B := B) (b := w.heap.size + 1) (bs := []) (F := [w.heap.size + 1]) (by have := isB_new (w.alloc ob); simpa using this) s (ht.keep0 (((Keep.refl [] w).alloc ob).alloc _)) hs (by simp)
  have HC := Lib.hid hcall
  clear hcall
  go_enter Tryz.func29, Tryz.ntmps29
  go_wp2_with fail
  refine (HC.out _).mono ?_
  rintro e w2 ⟨rfl, F', hb2, hf2, hk2⟩
  have hcall2 := b_text hb2 (by simpa using nameL_ne s.data.toList)
  have HC2 := Lib.hid hcall2
  have hkk : Keep [] w w2 := (((Keep.refl [] w).alloc _).alloc _).trans hk2 (by simp)
  have HK := Lib.hid hkk
  have HF := Lib.hid hf2
  clear hcall2 hb2 hkk hk2 hf2
  go_wp2_with fail
  refine HC2.out.mono ?_
  rintro e w3 ⟨rfl, hk3⟩
  go_wp2_with fail
  go_ret
  refine ⟨rfl, HK.out.trans hk3 (fun x hx => ?_)⟩
  right
  rcases HF.out x hx with h | h
  · simp at h; omega
  · simp at h; omega

set_option maxRecDepth 100000 in
set_option maxHeartbeats 4000000 in
theorem p_heads {w : World} {B : Nat} {S : Nat → Prop} {v : Value} {l : List Nd} {ls : List (List It)} (ht : TabOk B w) (h : NsR S w true v l) (hl : ls.length = l.length) (hx : ∀ i (h : i < l.length) (h' : i < ls.length), ∃ nm ps gs bs, ClT B l[i] nm ps gs bs ∧ nm.length ≤ 255 ∧ ls[i] = (if nm = [] then [] else [.t 2 0 nm]) ++ sg 40 :: sepI comma ps ++ sg 41 :: tailI gs bs)
    (hsz : ∀ i (h : i < ls.length), (flat ls[i]).length ≤ 140737488354000) (hlen : (flat (sepI semiB ls)).length ≤ 140737488355328) (hN : l.length ≤ 1000000) : Calls Tryz.prog 23 #[v] w (StrE w (flat (sepI semiB ls))) := by
  rw [flat_sep] at hlen ⊢
  obtain ⟨va, vc, rfl⟩ := h.form
  obtain ⟨i0, hi, hz0, hz1, hz2⟩ := info_parts strs_info
  have HI := Lib.hid hi
  have HT := Lib.hid ht
  have HH := Lib.hid h
  have HX := Lib.hid (And.intro hl hx)
  have HSZ := Lib.hid hsz
  have HLEN := Lib.hid hlen
  clear h ht hi hx hlen hl hsz
  go_enter Tryz.func23, Tryz.ntmps23
  go_wp2_with fail
  go_loopw [3, 9] (fun v i wr => ∃ k : Nat, k ≤ l.length ∧ i = .int .i64 k ∧ SRow w ((ls.take k).map flat) v wr) (fun _ i _ => l.length - (RowKit.intOf i).toNat)
  case atStart => exact ⟨0, Nat.zero_le _, rfl, SRow.nil w⟩
  case round =>
    obtain ⟨k, hk, rfl, hrow⟩ := hrel
    have hkl : ((ls.take k).map flat).length = k := by rw [List.length_map, List.length_take, HX.out.1]; omega
    obtain ⟨ra, rc, hrv⟩ := hrow.form
    rw [hkl] at hrv
    subst hrv
    have HROW := Lib.hid hrow
    have HKL := Lib.hid hkl
    have hkw : Keep [] w wr := by obtain ⟨o, -, -, h⟩ := hrow; exact h
    have HKW := Lib.hid hkw
    clear hrow hkl hkw
    by_cases hlt : k < l.length
    · have q0 : (0 : Int) ≤ (k : Int) := by omega
      have q1 : (k : Int) < (l.length : Int) := by omega
      obtain ⟨ab, aoff, csa, rfl, -, hnd, hcell⟩ := (HH.out.keep HKW.out (by simp)).atk hlt
      obtain ⟨nm, ps, gs, bs, ⟨p, g, b, ec, hp, hg, hb⟩, hnm, hex⟩ := HX.out.2 k hlt (by rw [HX.out.1]; exact hlt)
      have hszk := HSZ.out k (by rw [HX.out.1]; exact hlt)
      have hfx : flat (ls[k]'(by rw [HX.out.1]; exact hlt)) = (if nm = [] then [] else nameL nm) ++ [40] ++ flat (sepI comma ps) ++ [41] ++ flat (tailI gs bs) := by rw [hex]; split <;> simp [flat_cons, flat_app, flat_nil, It.text]
      rw [hfx] at hszk
      simp only [List.length_append] at hszk
      rw [ec] at hnd
      obtain ⟨at1, nm', a', g', b', va1, vb1, vc1, rfl, e, h1, h2, h3⟩ := id hnd.un5
      injection e with e1 e2 e3 e4 e5 e6
      subst e3 e4 e5 e6
      obtain ⟨p1, c1, rfl⟩ := h1.form
      obtain ⟨p2, c2, rfl⟩ := h2.form
      obtain ⟨p3, c3, rfl⟩ := h3.form
      have hA0 := hcell 0 (by decide)
      have hA1 := hcell 1 (by decide)
      have hA2 := hcell 2 (by decide)
      have hA3 := hcell 3 (by decide)
      have hA4 := hcell 4 (by decide)
      simp only [wid, if_true, Nat.add_zero, List.getElem?_cons_zero, List.getElem?_cons_succ] at hA0 hA1 hA2 hA3 hA4
      have hk5 := (Keep.refl [] wr).alloc (.cells #[.slice p1 p.length c1, .slice p2 g.length c2, .slice p3 b.length c3, .string ⟨nm.toArray⟩, .int .i64 at1] 52)
      have hb5 := heap_alloc_new wr (.cells #[.slice p1 p.length c1, .slice p2 g.length c2, .slice p3 b.length c3, .string ⟨nm.toArray⟩, .int .i64 at1] 52)
      have HB5 := Lib.hid hb5
      have hT := HT.out.keep0 (HKW.out.trans hk5 (by simp))
      have HCP := Lib.hid (fun W (k : Keep [] (wr.alloc (.cells #[.slice p1 p.length c1, .slice p2 g.length c2, .slice p3 b.length c3, .string ⟨nm.toArray⟩, .int .i64 at1] 52)) W) => p_texts (w := W) (s := comma) (sep := ⟨#[44]⟩) (hT.keep0 k) ((h1.keep hk5 (by simp)).keep k (by simp)) hp.1 hp.2.2 rfl (by omega) hp.2.1)
      have HCA := Lib.hid (fun W (k : Keep [] (wr.alloc (.cells #[.slice p1 p.length c1, .slice p2 g.length c2, .slice p3 b.length c3, .string ⟨nm.toArray⟩, .int .i64 at1] 52)) W) => p_arm (w := W) (hT.keep0 k) ((hnd.keep hk5 (by simp)).keep k (by simp)) hg.1 hg.2.2 hb.1 hb.2.2 (by omega) ⟨hg.2.1, hb.2.1⟩)
      have HR5 := Lib.hid (HROW.out.keep hk5)
      have HEX := Lib.hid hfx
      clear hcell hnd hb5 hk5 h1 h2 h3 hp hg hb ec e1 e2
      by_cases hn0 : nm = []
      · subst hn0
        rw [if_pos rfl] at hfx
        have HEX := Lib.hid hfx
        have HSZ2 := Lib.hid (show (⟨#[]⟩ : ByteArray).size + (flat (sepI comma ps)).length + (flat (tailI gs bs)).length ≤ 140737488354000 by have : (⟨#[]⟩ : ByteArray).size = 0 := rfl; omega)
        clear hfx hszk hex
        go_wp2_with fail
        generalize wr.alloc _ = w5 at *
        clear hA0 hA1 hA2 hA3 hA4
        refine wp_regionB [4, 5, 6, 7, 9] (fun w' => Keep [] w5 w') (by kernel_rfl) ?_
        refine wpAnyB_takeY (i := 0) (v := ?vA0) rfl (by kernel_rfl) (by kernel_rfl) (by kernel_rfl) (by kernel_rfl) (fun _ _ _ h => h) (Or.inl ⟨by kernel_rfl, ?runA0⟩) ?_
        case runA0 => (intro w9 _; go_simp; try exact rfl)
        try simp only [Act.put, List.setIfInBounds_toArray, List.set_cons_zero, List.set_cons_succ]
        refine wpAnyB_takeY (i := 1) (v := ?vA1) rfl (by kernel_rfl) (by kernel_rfl) (by kernel_rfl) (by kernel_rfl) (fun _ _ _ h => h) (Or.inl ⟨by kernel_rfl, ?runA1⟩) ?_
        case runA1 => (intro w9 _; go_simp; try exact rfl)
        try simp only [Act.put, List.setIfInBounds_toArray, List.set_cons_zero, List.set_cons_succ]
        refine wpAnyB_takeY (i := 2) (v := (.string ((⟨#[]⟩ : ByteArray) ++ ⟨#[40]⟩))) rfl (by kernel_rfl) (by kernel_rfl) (by kernel_rfl) (by kernel_rfl) (fun _ _ _ h => h) (Or.inl ⟨by kernel_rfl, ?runA2⟩) ?_
        case runA2 => (intro w9 _; go_simp; first | done | omega | (simp; omega))
        try simp only [Act.put, List.setIfInBounds_toArray, List.set_cons_zero, List.set_cons_succ]
        refine wpAnyB_takeY (i := 3) (v := ?vA3) rfl (by kernel_rfl) (by kernel_rfl) (by kernel_rfl) (by kernel_rfl) (fun _ _ _ h => h) (Or.inl ⟨by kernel_rfl, ?runA3⟩) ?_
        case runA3 => (intro w9 _; go_simp; try exact rfl)
        try simp only [Act.put, List.setIfInBounds_toArray, List.set_cons_zero, List.set_cons_succ]
        refine wpAnyB_take [4, 5, 6, 7] (i := 8) (v := ?vA8) rfl (by kernel_rfl) (by kernel_rfl) (by kernel_rfl) (by kernel_rfl) (by kernel_rfl) (fun _ _ _ h => h) (Or.inl ⟨by kernel_rfl, ?runA8⟩) ((Keep.refl [] w5).drew) ?_
        case runA8 => (intro w9 hS9; obtain ⟨f0, f1, f2, f3, f4⟩ := cells5 (blkK HB5.out hS9 (by simp)); go_simp; try exact rfl)
        try simp only [Act.put, List.setIfInBounds_toArray, List.set_cons_zero, List.set_cons_succ]
        refine wpAnyB_take [] (i := 4) (v := ?vA4) rfl (by kernel_rfl) (by kernel_rfl) (by kernel_rfl) (by kernel_rfl) (by kernel_rfl) (fun _ _ _ h => h) (Or.inl ⟨by kernel_rfl, ?runA4⟩) ((Keep.refl [] w5).drew) ?_
        case runA4 => (intro w9 hS9; obtain ⟨f0, f1, f2, f3, f4⟩ := cells5 (blkK HB5.out hS9 (by simp)); go_simp; try exact rfl)
        try simp only [Act.put, List.setIfInBounds_toArray, List.set_cons_zero, List.set_cons_succ]
        refine wpAnyB_ready (rs := [5]) (by kernel_rfl) (by simp) ?_
        refine AllReadyB.cons rfl (fun K hK => ?_) AllReadyB.nil
        go_simp
        refine (HCP.out _ ((Keep.refl [] w5).drew)).mono ?_
        rintro e w6 ⟨⟨X, rfl, hX⟩, hk6⟩
        have HK6 := Lib.hid (And.intro hX (((Keep.refl [] w5).drew).trans hk6 (by simp)))
        have hxs : (⟨#[]⟩ : ByteArray).size + X.size + (flat (tailI gs bs)).length ≤ 140737488354000 := by rw [size_list X, hX]; exact HSZ2.out
        clear hX hk6
        go_simp
        refine hK.out _ _ (fun h => HK6.out.2) ?_
        clear hK K
        try simp only [Act.put, List.setIfInBounds_toArray, List.set_cons_zero, List.set_cons_succ]
        refine wpAnyB_take [9] (i := 6) (v := (.string ((⟨#[]⟩ : ByteArray) ++ ⟨#[40]⟩ ++ X))) rfl (by kernel_rfl) (by kernel_rfl) (by kernel_rfl) (by kernel_rfl) (by kernel_rfl) (fun _ _ _ h => h) (Or.inl ⟨by kernel_rfl, ?runA6⟩) (HK6.out.2) ?_
        case runA6 => (intro w9 hS9; go_simp; first | done | omega | (simp; omega))
        try simp only [Act.put, List.setIfInBounds_toArray, List.set_cons_zero, List.set_cons_succ]
        refine wpAnyB_take [9] (i := 7) (v := (.string ((⟨#[]⟩ : ByteArray) ++ ⟨#[40]⟩ ++ X ++ ⟨#[41]⟩))) rfl (by kernel_rfl) (by kernel_rfl) (by kernel_rfl) (by kernel_rfl) (by kernel_rfl) (fun _ _ _ h => h) (Or.inl ⟨by kernel_rfl, ?runA7⟩) (HK6.out.2) ?_
        case runA7 => (intro w9 hS9; go_simp; first | done | omega | (simp; omega))
        try simp only [Act.put, List.setIfInBounds_toArray, List.set_cons_zero, List.set_cons_succ]
        refine wpAnyB_ready (rs := [9]) (by kernel_rfl) (by simp) ?_
        refine AllReadyB.cons rfl (fun K hK => ?_) AllReadyB.nil
        go_simp
        refine (HCA.out _ HK6.out.2).mono ?_
        rintro e w7 ⟨⟨Y, rfl, hY⟩, hk7⟩
        have HK7 := Lib.hid (And.intro hY (HK6.out.2.trans hk7 (by simp)))
        have hys : (⟨#[]⟩ : ByteArray).size + X.size + Y.size ≤ 140737488354000 := by rw [size_list Y, hY]; exact hxs
        clear hY hk7
        go_simp
        refine hK.out _ _ (fun h => HK7.out.2) ?_
        clear hK K
        try simp only [Act.put, List.setIfInBounds_toArray, List.set_cons_zero, List.set_cons_succ]
        refine wpAnyB_takeY (i := 10) (v := (.string ((⟨#[]⟩ : ByteArray) ++ ⟨#[40]⟩ ++ X ++ ⟨#[41]⟩ ++ Y))) rfl (by kernel_rfl) (by kernel_rfl) (by kernel_rfl) (by kernel_rfl) (fun _ _ _ h => h) (Or.inl ⟨by kernel_rfl, ?runA10⟩) ?_
        case runA10 => (intro w9 _; go_simp; first | done | omega | (simp; omega))
        try simp only [Act.put, List.setIfInBounds_toArray, List.set_cons_zero, List.set_cons_succ]
        have hr7 := HR5.out.keep HK7.out.2
        obtain ⟨o, hro, ho, hko⟩ := hr7
        have HO := Lib.hid ho
        have HKO := Lib.hid hko
        have HRO := Lib.hid hro
        clear ho hko hro
        refine wpAnyB_ready (rs := [11]) (by kernel_rfl) (by simp) ?_
        refine AllReadyB.cons rfl (fun K hK => ?_) AllReadyB.nil
        go_simp
        refine hK.out _ _ (fun h => (nomatch h)) ?_
        clear hK K
        try simp only [Act.put, List.setIfInBounds_toArray, List.set_cons_zero, List.set_cons_succ]
        have t1 := src_blk (P := Tryz.prog) (k := 1) Tryz.underlying90 (heap_alloc_new w7 (.cells #[.string ((⟨#[]⟩ : ByteArray) ++ ⟨#[40]⟩ ++ X ++ ⟨#[41]⟩ ++ Y)] 9)) rfl (by intro u hu; simp at hu; subst hu; rfl)
        have t2 := Row.keep HRO.out ((Keep.refl [] w7).alloc (.cells #[.string ((⟨#[]⟩ : ByteArray) ++ ⟨#[40]⟩ ++ X ++ ⟨#[41]⟩ ++ Y)] 9)) (by simp)
        rw [HKL.out] at t2
        have T1 := Lib.hid t1
        have T2 := Lib.hid t2
        clear t1 t2
        refine wpAnyB_ready (rs := [12]) (by kernel_rfl) (by simp) ?_
        refine AllReadyB.cons rfl (fun K hK => ?_) AllReadyB.nil
        refine step_append_rowB _ (by kernel_rfl) _ _ 90 90 rfl 9 i0 (.string ⟨#[]⟩) 1 16 Tryz.underlying90 HI.out hz0 hz1 hz2 rfl _ k _ o rfl T2.out _ rfl 1 _ T1.out (by omega) (by first | (unfold maxLen; omega) | (simp [maxLen] <;> omega)) (by omega) ?_
        intro g9 off9 cap9 w9 hr9 hk9 hg9
        have hpush := SRow.push (Ls := (ls.take k).map flat) (S := (⟨#[]⟩ : ByteArray) ++ ⟨#[40]⟩ ++ X ++ ⟨#[41]⟩ ++ Y) (L := flat (ls[k]'(by rw [HX.out.1]; exact hlt))) HO.out HKO.out (by rw [HKL.out]; simpa using hr9) (((Keep.refl o.toList w7).alloc _).trans hk9 (fun b hb => .inl hb)) (by rcases hg9 with h | h; (· exact .inl h); exact .inr (by first | omega | (simp at h; omega))) (by rw [HEX.out, ← HK6.out.1, ← HK7.out.1]; simp)
        rw [HKL.out] at hpush
        have HPUSH := Lib.hid hpush
        clear hr9 hk9 hg9 hpush T1 T2
        refine hK.out _ _ (fun h => (nomatch h)) ?_
        clear hK K
        try simp only [Act.put, List.setIfInBounds_toArray, List.set_cons_zero, List.set_cons_succ]
        refine wpAnyB_takeY (i := 13) (v := ?vA13) rfl (by kernel_rfl) (by kernel_rfl) (by kernel_rfl) (by kernel_rfl) (fun _ _ _ h => h) (Or.inl ⟨by kernel_rfl, ?runA13⟩) ?_
        case runA13 => (intro w9 _; go_simp; try exact rfl)
        try simp only [Act.put, List.setIfInBounds_toArray, List.set_cons_zero, List.set_cons_succ]
        refine wpAnyB_done (by kernel_rfl) ?_ _
        go_wp2_with fail
        go_roundw
        case rel => exact ⟨k + 1, by omega, by go_num, by have h := HPUSH.out; rwa [show (ls.take (k + 1)).map flat = (ls.take k).map flat ++ [flat (ls[k]'(by rw [HX.out.1]; exact hlt))] from by rw [List.take_succ_eq_append_getElem (by rw [HX.out.1]; exact hlt), List.map_append]; rfl]⟩
        case measure => simp [intOf]; omega
      · rw [if_neg hn0] at hfx hszk
        have hne : nm.isEmpty = false := by obtain ⟨c, r, e⟩ := List.exists_cons_of_ne_nil hn0; rw [e]; rfl
        have HPA := Lib.hid (fun W (k : Keep [] (wr.alloc (.cells #[.slice p1 p.length c1, .slice p2 g.length c2, .slice p3 b.length c3, .string ⟨nm.toArray⟩, .int .i64 at1] 52)) W) => p_printA (w := W) ⟨nm.toArray⟩ (hT.keep0 k) (by show nm.toArray.size ≤ 100000; rw [List.size_toArray]; omega))
        have HEX := Lib.hid hfx
        have HSZ1 := Lib.hid hszk
        clear hfx hex hszk
        go_wp2_with fail
        generalize wr.alloc _ = w5 at *
        refine (p_atom _ _).mono ?_
        rintro e wa ⟨rfl, hka⟩
        have HKA := Lib.hid hka
        clear hka
        go_wp2_with fail
        refine (HPA.out _ HKA.out).mono ?_
        rintro e wz ⟨rfl, hkz⟩
        obtain ⟨Z, hZ⟩ : ∃ Z : ByteArray, Z = ⟨(nameL (⟨nm.toArray⟩ : ByteArray).data.toList).toArray⟩ := ⟨_, rfl⟩
        rw [← hZ]
        have hZl : Z.data.toList = nameL nm := by rw [hZ]
        have HZL := Lib.hid hZl
        have HBZ := Lib.hid (blkK HB5.out (HKA.out.trans hkz (by simp)) (by simp))
        have HCPZ := Lib.hid (fun W (k : Keep [] wz W) => HCP.out W ((HKA.out.trans hkz (by simp)).trans k (by simp)))
        have HCAZ := Lib.hid (fun W (k : Keep [] wz W) => HCA.out W ((HKA.out.trans hkz (by simp)).trans k (by simp)))
        have HRZ := Lib.hid (HR5.out.keep (HKA.out.trans hkz (by simp)))
        have HSZ2 := Lib.hid (show Z.size + (flat (sepI comma ps)).length + (flat (tailI gs bs)).length ≤ 140737488354000 by have := HSZ1.out; have hz := size_list Z; rw [hZl] at hz; simp only [List.length_cons, List.length_nil] at this; omega)
        have hzs : Z.size ≤ 140737488354000 := by have := HSZ2.out; omega
        clear hZ hZl hkz hA0 hA1 hA2 hA3 hA4
        go_wp2_with fail
        refine wp_regionB [4, 5, 6, 7, 9] (fun w' => Keep [] wz w') (by kernel_rfl) ?_
        refine wpAnyB_takeY (i := 0) (v := ?vB0) rfl (by kernel_rfl) (by kernel_rfl) (by kernel_rfl) (by kernel_rfl) (fun _ _ _ h => h) (Or.inl ⟨by kernel_rfl, ?runB0⟩) ?_
        case runB0 => (intro w9 _; go_simp; try exact rfl)
        try simp only [Act.put, List.setIfInBounds_toArray, List.set_cons_zero, List.set_cons_succ]
        refine wpAnyB_takeY (i := 1) (v := ?vB1) rfl (by kernel_rfl) (by kernel_rfl) (by kernel_rfl) (by kernel_rfl) (fun _ _ _ h => h) (Or.inl ⟨by kernel_rfl, ?runB1⟩) ?_
        case runB1 => (intro w9 _; go_simp; try exact rfl)
        try simp only [Act.put, List.setIfInBounds_toArray, List.set_cons_zero, List.set_cons_succ]
        refine wpAnyB_takeY (i := 2) (v := (.string (Z ++ ⟨#[40]⟩))) rfl (by kernel_rfl) (by kernel_rfl) (by kernel_rfl) (by kernel_rfl) (fun _ _ _ h => h) (Or.inl ⟨by kernel_rfl, ?runB2⟩) ?_
        case runB2 => (intro w9 _; go_simp; first | done | omega | (simp; omega))
        try simp only [Act.put, List.setIfInBounds_toArray, List.set_cons_zero, List.set_cons_succ]
        refine wpAnyB_takeY (i := 3) (v := ?vB3) rfl (by kernel_rfl) (by kernel_rfl) (by kernel_rfl) (by kernel_rfl) (fun _ _ _ h => h) (Or.inl ⟨by kernel_rfl, ?runB3⟩) ?_
        case runB3 => (intro w9 _; go_simp; try exact rfl)
        try simp only [Act.put, List.setIfInBounds_toArray, List.set_cons_zero, List.set_cons_succ]
        refine wpAnyB_take [4, 5, 6, 7] (i := 8) (v := ?vB8) rfl (by kernel_rfl) (by kernel_rfl) (by kernel_rfl) (by kernel_rfl) (by kernel_rfl) (fun _ _ _ h => h) (Or.inl ⟨by kernel_rfl, ?runB8⟩) ((Keep.refl [] wz).drew) ?_
        case runB8 => (intro w9 hS9; obtain ⟨f0, f1, f2, f3, f4⟩ := cells5 (blkK HBZ.out hS9 (by simp)); go_simp; try exact rfl)
        try simp only [Act.put, List.setIfInBounds_toArray, List.set_cons_zero, List.set_cons_succ]
        refine wpAnyB_take [] (i := 4) (v := ?vB4) rfl (by kernel_rfl) (by kernel_rfl) (by kernel_rfl) (by kernel_rfl) (by kernel_rfl) (fun _ _ _ h => h) (Or.inl ⟨by kernel_rfl, ?runB4⟩) ((Keep.refl [] wz).drew) ?_
        case runB4 => (intro w9 hS9; obtain ⟨f0, f1, f2, f3, f4⟩ := cells5 (blkK HBZ.out hS9 (by simp)); go_simp; try exact rfl)
        try simp only [Act.put, List.setIfInBounds_toArray, List.set_cons_zero, List.set_cons_succ]
        refine wpAnyB_ready (rs := [5]) (by kernel_rfl) (by simp) ?_
        refine AllReadyB.cons rfl (fun K hK => ?_) AllReadyB.nil
        go_simp
        refine (HCPZ.out _ ((Keep.refl [] wz).drew)).mono ?_
        rintro e w6 ⟨⟨X, rfl, hX⟩, hk6⟩
        have HK6 := Lib.hid (And.intro hX (((Keep.refl [] wz).drew).trans hk6 (by simp)))
        have hxs : Z.size + X.size + (flat (tailI gs bs)).length ≤ 140737488354000 := by rw [size_list X, hX]; exact HSZ2.out
        clear hX hk6
        go_simp
        refine hK.out _ _ (fun h => HK6.out.2) ?_
        clear hK K
        try simp only [Act.put, List.setIfInBounds_toArray, List.set_cons_zero, List.set_cons_succ]
        refine wpAnyB_take [9] (i := 6) (v := (.string (Z ++ ⟨#[40]⟩ ++ X))) rfl (by kernel_rfl) (by kernel_rfl) (by kernel_rfl) (by kernel_rfl) (by kernel_rfl) (fun _ _ _ h => h) (Or.inl ⟨by kernel_rfl, ?runB6⟩) (HK6.out.2) ?_
        case runB6 => (intro w9 hS9; go_simp; first | done | omega | (simp; omega))
        try simp only [Act.put, List.setIfInBounds_toArray, List.set_cons_zero, List.set_cons_succ]
        refine wpAnyB_take [9] (i := 7) (v := (.string (Z ++ ⟨#[40]⟩ ++ X ++ ⟨#[41]⟩))) rfl (by kernel_rfl) (by kernel_rfl) (by kernel_rfl) (by kernel_rfl) (by kernel_rfl) (fun _ _ _ h => h) (Or.inl ⟨by kernel_rfl, ?runB7⟩) (HK6.out.2) ?_
        case runB7 => (intro w9 hS9; go_simp; first | done | omega | (simp; omega))
        try simp only [Act.put, List.setIfInBounds_toArray, List.set_cons_zero, List.set_cons_succ]
        refine wpAnyB_ready (rs := [9]) (by kernel_rfl) (by simp) ?_
        refine AllReadyB.cons rfl (fun K hK => ?_) AllReadyB.nil
        go_simp
        refine (HCAZ.out _ HK6.out.2).mono ?_
        rintro e w7 ⟨⟨Y, rfl, hY⟩, hk7⟩
        have HK7 := Lib.hid (And.intro hY (HK6.out.2.trans hk7 (by simp)))
        have hys : Z.size + X.size + Y.size ≤ 140737488354000 := by rw [size_list Y, hY]; exact hxs
        clear hY hk7
        go_simp
        refine hK.out _ _ (fun h => HK7.out.2) ?_
        clear hK K
        try simp only [Act.put, List.setIfInBounds_toArray, List.set_cons_zero, List.set_cons_succ]
        refine wpAnyB_takeY (i := 10) (v := (.string (Z ++ ⟨#[40]⟩ ++ X ++ ⟨#[41]⟩ ++ Y))) rfl (by kernel_rfl) (by kernel_rfl) (by kernel_rfl) (by kernel_rfl) (fun _ _ _ h => h) (Or.inl ⟨by kernel_rfl, ?runB10⟩) ?_
        case runB10 => (intro w9 _; go_simp; first | done | omega | (simp; omega))
        try simp only [Act.put, List.setIfInBounds_toArray, List.set_cons_zero, List.set_cons_succ]
        have hr7 := HRZ.out.keep HK7.out.2
        obtain ⟨o, hro, ho, hko⟩ := hr7
        have HO := Lib.hid ho
        have HKO := Lib.hid hko
        have HRO := Lib.hid hro
        clear ho hko hro
        refine wpAnyB_ready (rs := [11]) (by kernel_rfl) (by simp) ?_
        refine AllReadyB.cons rfl (fun K hK => ?_) AllReadyB.nil
        go_simp
        refine hK.out _ _ (fun h => (nomatch h)) ?_
        clear hK K
        try simp only [Act.put, List.setIfInBounds_toArray, List.set_cons_zero, List.set_cons_succ]
        have t1 := src_blk (P := Tryz.prog) (k := 1) Tryz.underlying90 (heap_alloc_new w7 (.cells #[.string (Z ++ ⟨#[40]⟩ ++ X ++ ⟨#[41]⟩ ++ Y)] 9)) rfl (by intro u hu; simp at hu; subst hu; rfl)
        have t2 := Row.keep HRO.out ((Keep.refl [] w7).alloc (.cells #[.string (Z ++ ⟨#[40]⟩ ++ X ++ ⟨#[41]⟩ ++ Y)] 9)) (by simp)
        rw [HKL.out] at t2
        have T1 := Lib.hid t1
        have T2 := Lib.hid t2
        clear t1 t2
        refine wpAnyB_ready (rs := [12]) (by kernel_rfl) (by simp) ?_
        refine AllReadyB.cons rfl (fun K hK => ?_) AllReadyB.nil
        refine step_append_rowB _ (by kernel_rfl) _ _ 90 90 rfl 9 i0 (.string ⟨#[]⟩) 1 16 Tryz.underlying90 HI.out hz0 hz1 hz2 rfl _ k _ o rfl T2.out _ rfl 1 _ T1.out (by omega) (by first | (unfold maxLen; omega) | (simp [maxLen] <;> omega)) (by omega) ?_
        intro g9 off9 cap9 w9 hr9 hk9 hg9
        have hpush := SRow.push (Ls := (ls.take k).map flat) (S := Z ++ ⟨#[40]⟩ ++ X ++ ⟨#[41]⟩ ++ Y) (L := flat (ls[k]'(by rw [HX.out.1]; exact hlt))) HO.out HKO.out (by rw [HKL.out]; simpa using hr9) (((Keep.refl o.toList w7).alloc _).trans hk9 (fun b hb => .inl hb)) (by rcases hg9 with h | h; (· exact .inl h); exact .inr (by first | omega | (simp at h; omega))) (by rw [HEX.out, ← HK6.out.1, ← HK7.out.1]; rw [← HZL.out]; simp)
        rw [HKL.out] at hpush
        have HPUSH := Lib.hid hpush
        clear hr9 hk9 hg9 hpush T1 T2
        refine hK.out _ _ (fun h => (nomatch h)) ?_
        clear hK K
        try simp only [Act.put, List.setIfInBounds_toArray, List.set_cons_zero, List.set_cons_succ]
        refine wpAnyB_takeY (i := 13) (v := ?vB13) rfl (by kernel_rfl) (by kernel_rfl) (by kernel_rfl) (by kernel_rfl) (fun _ _ _ h => h) (Or.inl ⟨by kernel_rfl, ?runB13⟩) ?_
        case runB13 => (intro w9 _; go_simp; try exact rfl)
        try simp only [Act.put, List.setIfInBounds_toArray, List.set_cons_zero, List.set_cons_succ]
        refine wpAnyB_done (by kernel_rfl) ?_ _
        go_wp2_with fail
        go_roundw
        case rel => exact ⟨k + 1, by omega, by go_num, by have h := HPUSH.out; rwa [show (ls.take (k + 1)).map flat = (ls.take k).map flat ++ [flat (ls[k]'(by rw [HX.out.1]; exact hlt))] from by rw [List.take_succ_eq_append_getElem (by rw [HX.out.1]; exact hlt), List.map_append]; rfl]⟩
        case measure => simp [intOf]; omega
    · obtain rfl : k = l.length := by omega
      have q1 : ¬ (l.length : Int) < (l.length : Int) := by omega
      have hrow := HROW.out
      rw [List.take_of_length_le (by rw [HX.out.1]; exact Nat.le_refl _)] at hrow
      have hj := p_join hrow ⟨#[59, 32]⟩ HLEN.out (by rw [List.length_map, HX.out.1]; omega)
      have HJ := Lib.hid hj
      clear hrow hj
      go_wp2_with fail
      refine HJ.out.mono ?_
      rintro e w6 ⟨⟨X, rfl, hX⟩, hk6⟩
      have HK6 := Lib.hid (And.intro hX (HKW.out.trans hk6 (by simp)))
      clear hX hk6
      go_wp2_with fail
      go_ret
      exact ⟨⟨X, rfl, by rw [HK6.out.1]; rfl⟩, HK6.out.2⟩
end Go.Proofs.YtdmmhfbafinkpaaGreatDoor


/- ParseBack: parse/text.go: list (begun: what a tree reads lies below the heap's end). -/
namespace Go.Proofs.YtdmmhfbafinkpaaGreatDoor
open Go.RowKit Go.Emb

theorem rd_low {w : World} {k : Nat} {v : Value} {n : Nat} {xs : List Value} {o : Option Nat} (hk : 0 < k) (h : Rd w k v n xs o) : ∃ o', Rd w k v n xs o' ∧ ∀ b, o' = some b → b < w.heap.size := by
  obtain ⟨hl, a, c, rfl, h1, h2, h3⟩ := h
  by_cases hn : n = 0
  · exact ⟨none, ⟨hl, a, c, rfl, h1, h2, .inl ⟨hn, rfl⟩⟩, by simp⟩
  · rcases h3 with ⟨h3, -⟩ | ⟨b, off, rfl, rfl, h3⟩
    · exact absurd h3 hn
    · refine ⟨some b, ⟨hl, _, c, rfl, h1, h2, .inr ⟨b, off, rfl, rfl, h3⟩⟩, ?_⟩
      rintro b' e
      cases e
      have hp : 0 < n * k := Nat.mul_pos (by omega) hk
      have h5 := h3 0 hp
      rw [List.getElem?_eq_getElem (by omega)] at h5
      exact World.block_lt_of_cell? _ _ h5
theorem ndr_low {S : Nat → Prop} {w : World} {k : Bool} {cs : List Value} {n : Nd} (h : NdR S w k cs n) : NdR (fun b => b < w.heap.size) w k cs n := by
  induction h with
  | node ha hb hc sa sb sc la lb lc ra rb rc ia ib ic =>
    obtain ⟨_, ha', sa'⟩ := rd_low (by decide) ha
    obtain ⟨_, hb', sb'⟩ := rd_low (by decide) hb
    obtain ⟨_, hc', sc'⟩ := rd_low (by decide) hc
    exact .node ha' hb' hc' sa' sb' sc' la lb lc ia ib ic
  | clause ha hb hc sa sb sc la lb lc ra rb rc ia ib ic =>
    obtain ⟨_, ha', sa'⟩ := rd_low (by decide) ha
    obtain ⟨_, hb', sb'⟩ := rd_low (by decide) hb
    obtain ⟨_, hc', sc'⟩ := rd_low (by decide) hc
    exact .clause ha' hb' hc' sa' sb' sc' la lb lc ia ib ic
/-- a chain of conses and what ends it -/
theorem consL_cons (a : Nd) (l : List Nd) (t : Nd) : consL (a :: l) t = .mk 6 0 [] [a, consL l t] [] [] := rfl
/-- (the loop of list: the box holds what is left of the chain, the row the texts of what is behind) -/
def ChI (B : Nat) (w : World) (l : List Nd) (t : Nd) (ls : List (List It)) (k : Nat) (v : Value) (wr : World) : Prop :=
  ∃ (o : Option Nat) (cs : List Value), Row wr 9 1 v k (((ls.take k).map flat).map strV) o ∧ (∀ b, o = some b → w.heap.size < b) ∧ Keep [] w wr ∧
    wr.heap[w.heap.size]? = some (.cells cs.toArray 29) ∧ NdR (fun b => b < w.heap.size) wr false cs (consL (l.drop k) t)
end Go.Proofs.YtdmmhfbafinkpaaGreatDoor

/- ParseBack: parse/text.go: list (p_list). -/
namespace Go.Proofs.YtdmmhfbafinkpaaGreatDoor
open Go.RowKit Go.Emb

def lenV : Value → Nat
  | .slice _ n _ => n
  | _ => 0
set_option maxRecDepth 100000 in
set_option maxHeartbeats 4000000 in
theorem p_list {w : World} {B : Nat} {S : Nat → Prop} {cs : List Value} {l : List Nd} {ls : List (List It)} {t : Nd} {y : List It} {tl : List UInt8} (htl : tl = if t.kind = 5 then [] else 124 :: flat y) (ht : TabOk B w) (h : NdR S w false cs (consL l t)) (hl : TL B l ls) (h6 : t.kind ≠ 6) (hy : t.kind ≠ 5 → TxT B t y)
    (hlen : (Lib.join (ls.map flat) [44]).length + (flat y).length ≤ 140737488354000) : Calls Tryz.prog 32 #[.agg cs.toArray] w (StrE w (91 :: Lib.join (ls.map flat) [44] ++ tl ++ [93])) := by
  obtain ⟨i0, hi, hz0, hz1, hz2⟩ := info_parts strs_info
  obtain ⟨kd, nu, at1, nm, a0, b0, c0, va, vb, vc, rfl, hn, h1, h2, h3⟩ := id h.un7
  obtain ⟨p1, c1, rfl⟩ := h1.form
  obtain ⟨p2, c2, rfl⟩ := h2.form
  obtain ⟨p3, c3, rfl⟩ := h3.form
  have hk5 := (Keep.refl [] w).alloc (.cells #[.int .i64 kd, .int .i64 nu, .string ⟨nm.toArray⟩, .int .i64 at1, .slice p1 a0.length c1, .slice p2 b0.length c2, .slice p3 c0.length c3] 29)
  have hb5 := heap_alloc_new w (.cells #[.int .i64 kd, .int .i64 nu, .string ⟨nm.toArray⟩, .int .i64 at1, .slice p1 a0.length c1, .slice p2 b0.length c2, .slice p3 c0.length c3] 29)
  have hst : ChI B w l t ls 0 (.slice none 0 0) (w.alloc (.cells #[.int .i64 kd, .int .i64 nu, .string ⟨nm.toArray⟩, .int .i64 at1, .slice p1 a0.length c1, .slice p2 b0.length c2, .slice p3 c0.length c3] 29)) :=
    ⟨none, _, Row.nil _ _ _, by simp, hk5, hb5, (ndr_low h).keep hk5 (by simp)⟩
  have HST := Lib.hid hst
  have HTL := Lib.hid htl
  have HI := Lib.hid hi
  have HT := Lib.hid ht
  have HL := Lib.hid hl
  have HY := Lib.hid (And.intro h6 (And.intro hy hlen))
  clear hst htl hi ht hl h6 hy hlen h h1 h2 h3 hn hk5 hb5
  go_enter Tryz.func32, Tryz.ntmps32
  go_wp2_with fail
  go_loopw [3] (fun v wr => ∃ k : Nat, k ≤ l.length ∧ ChI B w l t ls k v wr) (fun v _ => l.length - lenV v)
  case atStart => exact ⟨0, Nat.zero_le _, HST.out⟩
  case round =>
    obtain ⟨k, hk, o, cs, hro, ho, hkw, hbx, hnd⟩ := hrel
    have HROW := Lib.hid hro
    have HO := Lib.hid ho
    have HKW := Lib.hid hkw
    obtain ⟨ra, rc, hrv⟩ : ∃ ra rc, u3 = .slice ra k rc := by
      obtain ⟨-, ⟨-, h, hn⟩ | ⟨_, _, _, _, -, h, -⟩⟩ := hro
      · exact ⟨none, 0, by rw [h, hn]⟩
      · exact ⟨_, _, h⟩
    subst hrv
    clear hro ho hkw
    by_cases hlt : k < l.length
    · have e : consL (l.drop k) t = .mk 6 0 [] [l[k], consL (l.drop (k + 1)) t] [] [] := by rw [List.drop_eq_getElem_cons hlt]; rfl
      rw [e] at hnd
      obtain ⟨kd', nu', at2, nm', a', b', c', va, vb, vc, rfl, en, g1, g2, g3⟩ := id hnd.un7
      injection en with e1 e2 e3 e4 e5 e6
      subst e1 e2 e3 e4 e5 e6
      obtain ⟨p4, c4, rfl⟩ := g1.form
      obtain ⟨p5, c5, rfl⟩ := g2.form
      obtain ⟨p6, c6, rfl⟩ := g3.form
      obtain ⟨ab, aoff, csa, rfl, hab, hna, hca⟩ := g1.at7 (i := 0) (by simp)
      obtain ⟨d0, d1, d2, d3, d4, d5, d6⟩ := cells7 hbx
      obtain ⟨r1, r2, r3, r4, s1, s2, s3, s4, s5, s6, s7, s8, s9, rfl, -⟩ := id hna.un7s
      have hA0 := hca 0 (by decide)
      have hA1 := hca 1 (by decide)
      have hA2 := hca 2 (by decide)
      have hA3 := hca 3 (by decide)
      have hA4 := hca 4 (by decide)
      have hA5 := hca 5 (by decide)
      have hA6 := hca 6 (by decide)
      simp only [Nat.zero_mul, Nat.add_zero, List.getElem?_cons_zero, List.getElem?_cons_succ] at hA0 hA1 hA2 hA3 hA4 hA5 hA6
      have hlk : k < ls.length := by rw [HL.out.1]; exact hlt
      have hcall := HL.out.2.2 k hlt hlk wr _ _ (HT.out.keep0 HKW.out) hna
      have HCALL := Lib.hid hcall
      have HBX := Lib.hid hbx
      have HG1 := Lib.hid g1
      have HN := Lib.hid hnd
      clear hcall hca hna hbx hnd g1 g2 g3 e
      go_wp2_with fail
      refine HCALL.out.mono ?_
      rintro e w6 ⟨⟨X, rfl, hX⟩, hk6⟩
      have HK6 := Lib.hid (And.intro hX hk6)
      clear hX hk6 d0 d1 d2 d3 d4 d5 d6 hA0 hA1 hA2 hA3 hA4 hA5 hA6
      have t1 := src_blk (P := Tryz.prog) (k := 1) Tryz.underlying90 (heap_alloc_new w6 (.cells #[.string X] 9)) rfl (by intro u hu; simp at hu; subst hu; rfl)
      have t2 := Row.keep HROW.out (HK6.out.2.trans ((Keep.refl [] w6).alloc (.cells #[.string X] 9)) (by simp)) (by simp)
      have T1 := Lib.hid t1
      have T2 := Lib.hid t2
      clear t1 t2
      have hlN := HL.out.2.1
      go_wp2_with (at_builtin; refine wpList_append_row _ rfl _ _ 90 90 rfl 9 i0 (.string ⟨#[]⟩) 1 16 Tryz.underlying90 HI.out hz0 hz1 hz2 rfl _ k _ o rfl T2.out _ rfl 1 _ T1.out (by omega) (by first | (unfold maxLen; omega) | (simp [maxLen] <;> omega)) (by omega) ?_)
      intro g off cap w9 hr9 hk9 hg9
      have hkr9 : Keep o.toList wr w9 := (HK6.out.2.mono (G := o.toList) (by simp)).trans (((Keep.refl o.toList w6).alloc _).trans hk9 (fun b hb => .inl hb)) (fun x hx => .inl hx)
      have hno : ∀ b ∈ o.toList, w.heap.size < b := fun b hb => HO.out b (by cases o with | none => simp at hb | some z => simp at hb; rw [hb])
      have hb9 := blkK HBX.out hkr9 (fun hm => absurd (hno _ hm) (by omega))
      obtain ⟨b2, off2, cs2, e2, -, hn2, hc2⟩ := (HG1.out.keep hkr9 (fun b hb hs => absurd (hno b hb) (by omega))).at7 (i := 1) (by simp)
      cases e2
      obtain ⟨r1', r2', r3', r4', s1', s2', s3', s4', s5', s6', s7', s8', s9', rfl, -⟩ := id hn2.un7s
      have hC0 := hc2 0 (by decide)
      have hC1 := hc2 1 (by decide)
      have hC2 := hc2 2 (by decide)
      have hC3 := hc2 3 (by decide)
      have hC4 := hc2 4 (by decide)
      have hC5 := hc2 5 (by decide)
      have hC6 := hc2 6 (by decide)
      simp only [Nat.one_mul, Nat.add_zero, List.getElem?_cons_zero, List.getElem?_cons_succ] at hC0 hC1 hC2 hC3 hC4 hC5 hC6
      obtain ⟨d0, d1, d2, d3, d4, d5, d6⟩ := cells7 hb9
      have f9 := frozenP hb9
      have HR9 := Lib.hid hr9
      have HG9 := Lib.hid hg9
      have HKR := Lib.hid hkr9
      have HB9 := Lib.hid hb9
      have HN2 := Lib.hid hn2
      clear hr9 hk9 hg9 hkr9 hb9 hn2 hc2 hno T1 T2
      obtain ⟨hb10, hk10⟩ := set7 HB9.out (.int .i64 r1') (.int .i64 r2') (.string ⟨r4'.toArray⟩) (.int .i64 r3') (.slice s1' s2' s3') (.slice s4' s5' s6') (.slice s7' s8' s9')
      have HB10 := Lib.hid hb10
      have HK10 := Lib.hid hk10
      clear hb10 hk10
      go_wp2_with fail
      go_roundw
      case rel =>
        have hsz : w.heap.size < w6.heap.size := Nat.lt_of_lt_of_le (Array.getElem?_eq_some_iff.1 HBX.out).1 HK6.out.2.size
        have hg : w.heap.size < g := by rcases HG9.out with h | h; (· exact HO.out g h); omega
        have hkk : Keep [] w w9 := HKW.out.trans HKR.out (fun x hx => .inr (by
          have := HO.out x (by cases o with | none => simp at hx | some z => simp at hx; rw [hx])
          omega))
        refine ⟨k + 1, by omega, some g, _, ?_, fun b hb => by cases hb; exact hg, hkk.trans HK10.out (fun x hx => .inr (by simp at hx; omega)), HB10.out, HN2.out.keep HK10.out (fun b hb h => by simp at hb; omega)⟩
        have hrow := Row.keep HR9.out HK10.out (fun b hb => by cases hb; simp; omega)
        have hlk : k < ls.length := by rw [HL.out.1]; exact hlt
        rw [List.take_succ_eq_append_getElem hlk, List.map_append, List.map_append, List.map_cons, List.map_nil, List.map_cons, List.map_nil, ← HK6.out.1]
        simpa [List.map_take, strV] using hrow
      case measure => simp [lenV]; omega
    · obtain rfl : k = l.length := by omega
      rw [List.drop_length] at hnd
      obtain ⟨kd', nu', at2, nm', a', b', c', va, vb, vc, rfl, ht', g1, g2, g3⟩ := id hnd.un7
      have ht2 : t = .mk kd' nu' nm' a' b' c' := ht'
      obtain ⟨p4, c4, rfl⟩ := g1.form
      obtain ⟨p5, c5, rfl⟩ := g2.form
      obtain ⟨p6, c6, rfl⟩ := g3.form
      have hne : (kd' == 6) = false := beq_eq_false_iff_ne.2 (by have := HY.out.1; rw [ht2] at this; exact this)
      have hrow := HROW.out
      rw [List.take_of_length_le (by rw [HL.out.1]; exact Nat.le_refl _)] at hrow
      have hls : (ls.map flat).length = l.length := by rw [List.length_map, HL.out.1]
      have hj := p_join (w := w) (Ls := ls.map flat) ⟨o, by rw [hls]; exact hrow, fun b hb => Nat.le_of_lt (HO.out b hb), HKW.out⟩ ⟨#[44]⟩ (by have := HY.out.2.2; show (Lib.join (ls.map flat) [44]).length ≤ _; omega) (by rw [hls]; have := HL.out.2.1; omega)
      have HJ := Lib.hid hj
      have HBX := Lib.hid hbx
      have HN := Lib.hid hnd
      have HT2 := Lib.hid ht2
      obtain ⟨d0, d1, d2, d3, d4, d5, d6⟩ := cells7 hbx
      clear hj hbx hnd ht2 ht' g1 g2 g3 hrow hls
      go_wp2_with fail
      refine HJ.out.mono ?_
      rintro e w6 ⟨⟨X, rfl, hX⟩, hk6⟩
      have hxs : X.size + (flat y).length ≤ 140737488354000 := by rw [size_list X, hX]; exact HY.out.2.2
      have HK6 := Lib.hid (And.intro hX hk6)
      have hb6 := blkK HBX.out hk6 (by simp)
      clear hX hk6 d0 d1 d2 d3 d4 d5 d6
      obtain ⟨d0, d1, d2, d3, d4, d5, d6⟩ := cells7 hb6
      clear hb6
      by_cases h5 : kd' = 5
      · have htn : tl = [] := by rw [HTL.out, HT2.out, if_pos (show (Nd.mk kd' nu' nm' a' b' c').kind = 5 from h5)]
        have HTN := Lib.hid htn
        clear htn
        subst h5
        go_wp2_with fail
        go_ret
        exact ⟨⟨_, rfl, by rw [HTN.out]; simp [HK6.out.1]⟩, HKW.out.trans HK6.out.2 (by simp)⟩
      · have htn : tl = 124 :: flat y := by rw [HTL.out, HT2.out, if_neg (show ¬ (Nd.mk kd' nu' nm' a' b' c').kind = 5 from h5)]
        have hne5 : (kd' != 5) = true := by simpa using h5
        have hc := HY.out.2.1 (by rw [HT2.out]; exact h5) w6 _ _ (HT.out.keep0 (HKW.out.trans HK6.out.2 (by simp))) (HN.out.keep HK6.out.2 (by simp))
        have HC := Lib.hid hc
        have HTN := Lib.hid htn
        clear hc htn
        go_wp2_with fail
        refine HC.out.mono ?_
        rintro e w7 ⟨⟨Y, rfl, hY⟩, hk7⟩
        have hys : X.size + Y.size ≤ 140737488354000 := by rw [size_list Y, hY]; exact hxs
        have HK7 := Lib.hid (And.intro hY ((HKW.out.trans HK6.out.2 (by simp)).trans hk7 (by simp)))
        clear hY hk7
        go_wp2_with fail
        go_ret
        exact ⟨⟨_, rfl, by rw [HTN.out]; simp [HK6.out.1, HK7.out.1]⟩, HK7.out.2⟩
end Go.Proofs.YtdmmhfbafinkpaaGreatDoor
