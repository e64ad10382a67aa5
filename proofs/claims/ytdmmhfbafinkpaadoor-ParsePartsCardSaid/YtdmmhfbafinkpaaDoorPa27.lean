import Derived.Test.YtdmmhfbafinkpaaDoorPa26
/- Parse: ParseParts. Printed by gen-pa27.py. -/
namespace Go.Proofs.YtdmmhfbafinkpaaDoor
open Go.RowKit Go.Emb Go.Shelf

/-- two slices of functions, one behind the other -/
theorem FsR.append {S1 S2 : Nat → Prop} {w w' : World} {v3 : Value} {l1 l2 : List (List Nd)} {es1 es2 : List Value} {o : Option Nat} (hk : Keep [] w w')
    (h1 : es1.length = l1.length ∧ ∀ i (h : i < es1.length) (h' : i < l1.length), NsR S1 w true es1[i] l1[i]) (h2 : es2.length = l2.length ∧ ∀ i (h : i < es2.length) (h' : i < l2.length), NsR S2 w true es2[i] l2[i])
    (hr : Rd w' 1 v3 (l1.length + l2.length) (es1 ++ es2) o) : FsR (fun _ => True) w' v3 (l1 ++ l2) := by
  refine ⟨es1 ++ es2, o, by rw [List.length_append]; exact hr, fun _ _ => trivial, by simp [h1.1, h2.1], fun i h h' => ?_⟩
  by_cases hi : i < es1.length
  · rw [List.getElem_append_left hi, List.getElem_append_left (by have := h1.1; omega)]
    exact ((h1.2 i hi (by have := h1.1; omega)).keep hk (by simp)).mono (fun _ _ => trivial)
  · rw [List.getElem_append_right (by omega), List.getElem_append_right (by have := h1.1; omega)]
    have e : i - es1.length = i - l1.length := by rw [h1.1]
    have h3 := (h2.2 (i - es1.length) (by simp at h; omega) (by simp at h'; have := h1.1; omega)).keep hk (by simp)
    simp only [e] at h3 ⊢
    exact h3.mono (fun _ _ => trivial)
theorem FsR.cellsOne {S : Nat → Prop} {w : World} {es : List Value} {l : List (List Nd)} (hl : es.length = l.length) (h : ∀ i (h : i < es.length) (h' : i < l.length), NsR S w true es[i] l[i]) : ∀ u ∈ es, u.oneCell' = true := by
  intro u hu
  obtain ⟨i, hi, rfl⟩ := List.mem_iff_getElem.1 hu
  obtain ⟨a, c, e⟩ := (h i hi (by omega)).form
  rw [e]
  rfl
theorem Rd.lt {w : World} {k : Nat} {v : Value} {n : Nat} {xs : List Value} {b : Nat} (h : Rd w k v n xs (some b)) (hn : 0 < n * k) : b < w.heap.size := by
  obtain ⟨hl, a, c, rfl, h1, h2, h3⟩ := h
  rcases h3 with ⟨-, h3⟩ | ⟨b', off, rfl, h4, h3⟩
  · exact absurd h3 (by simp)
  · obtain rfl := Option.some.inj h4
    have h5 := h3 0 hn
    rw [List.getElem?_eq_getElem (by omega)] at h5
    exact World.block_lt_of_cell? _ _ h5
theorem wpList_append_rdW {P : Program} (w : World) {ops : Array Oper} {rest : List Oper} {o : Oper} {a : Act} {Q : Exit → Act → World → Prop} (hwd : Region.wanted o (yielded ops a.tmps) = true) (s x : Operand) (T tx : TypeId) (ho : o.op = .call { callee := .builtin .append, args := #[s, x], argTypes := #[T, tx] })
    (E e' : TypeId) (i : TypeInfo) (z : Value) (k bytes : Nat) (ht : P.underlying T = some (.slice E)) (htx : P.underlying tx = some (.slice e')) (hi : P.info? E = some i) (hz : i.zero = some z) (hik : i.size = k) (hib : i.bytes = bytes) (hzs : z.cells.size = k)
    (b off n cap : Nat) (xs : List Value) (hs : a.eval s = .slice (some ⟨b, off, none⟩) n cap) (hown : Row w E k (.slice (some ⟨b, off, none⟩) n cap) n xs (some b)) (xv : Value) (hx : a.eval x = xv) (m : Nat) (news : List Value) (ox : Option Nat) (hrd : Rd w k xv m news ox) (h1 : ∀ u ∈ news, u.oneCell' = true) (h63 : n + m ≤ maxLen) (hbytes : (n + m) * bytes ≤ 140737488355328)
    (h : ∀ g off' cap' w', Row w' E k (.slice (some ⟨g, off', none⟩) (n + m) cap') (n + m) (xs ++ news) (some g) → Keep [b] w w' → (b = g ∨ w.heap.size ≤ g) → wpList P ops Q rest (a.put o.dst (.slice (some ⟨g, off', none⟩) (n + m) cap')) w') : wpList P ops Q (o :: rest) a w := by
  refine BigFrame.wpList_want hwd fun K' hK' => ?_
  obtain ⟨g, off', cap', w', hr, h2, h3, h4⟩ := run_append_rd (P := P) (w := w) (ty := o.type) ht htx hi hz hik hib hzs hown hrd h1 h63 hbytes
  unfold Oper.wp execOp
  simp only [ho, resolve, invoke, builtin, Sem.run_bind, Sem.run_pure, Result.andThen_ok, List.map_toArray, List.map_cons, List.map_nil, hs, hx, hr]
  exact hK' _ _ (h g off' cap' w' h2 h3 h4)
theorem funP_less {m : Nat} {s : St} (he : (funP m s).2.err = 0) : (funP m s).2.toks.length + 1 ≤ s.toks.length := by
  have h3 := ((allG m).clausesL 2 0 s).1
  have e : (funP m s).2 = mustS sDot (clausesL m 2 0 s).2 := rfl
  rw [e] at he ⊢
  obtain ⟨h4, h5, h6⟩ := must_ok he
  rw [h6]
  have := has_lt h5
  omega
theorem funs_len : ∀ (m : Nat) (b : Bool) (s : St), (funsL m b s).2.err = 0 → (funsL m b s).1.length ≤ s.toks.length
  | 0, b, s, he => by
    rw [funsL] at he
    exact absurd he (failS_ne 999 (by decide) s)
  | m + 1, b, s, he => by
    by_cases hc : s.err = 0 ∧ (b = true ∨ s.toks ≠ [])
    · rw [funs_go hc] at he ⊢
      have he1 : (funP m s).2.err = 0 := (Good.funs m false).ne he
      have h1 := funP_less he1
      have h2 := funs_len m false _ he
      simp only [List.length_cons]
      omega
    · rw [funs_stop hc]
      simp
theorem Ev.funs_le {l : List UInt8} {fs : List (List Nd)} {s' : St} (h : Ev (fun n => funsL n true) (beginS l) fs s') (he : s'.err = 0) : fs.length ≤ l.length := by
  obtain ⟨N, h⟩ := h
  have h1 := h N (Nat.le_refl _)
  simp only at h1
  have h2 := funs_len N true (beginS l) (by rw [h1]; exact he)
  rw [h1] at h2
  exact Nat.le_trans h2 (begin_len l)
set_option maxRecDepth 100000 in
set_option maxHeartbeats 4000000 in
theorem parts_walk {w : World} (hv : VarOk w) (s : ByteArray) (hs : s.size ≤ 140737488355328) (t : ByteArray) (ht : t.size ≤ 140737488355328) (x : ByteArray) (hx : x.size ≤ 140737488355328) : Calls Tryd.prog 4 #[.string s, .string t, .string x] w (YesP w) := by
  have HV := Lib.hid hv
  clear hv
  have hw1 : IntKind.i64.wrap ((s.size : Int) + (t.size : Int)) = (s.size : Int) + (t.size : Int) := IntWalk.i64_in _ (by omega)
  have hw2 : IntKind.i64.wrap ((s.size : Int) + (t.size : Int) + (x.size : Int)) = (s.size : Int) + (t.size : Int) + (x.size : Int) := IntWalk.i64_in _ (by omega)
  by_cases hbig : 4000 < s.size + t.size + x.size
  · have hb' : (4000 : Int) < (s.size : Int) + (t.size : Int) + (x.size : Int) := by omega
    go_enter Tryd.func4, Tryd.ntmps4
    go_wp2_with fail
    refine (p_live HV.out).mono ?_
    rintro e w1 ⟨rfl, hk⟩
    have HK := Lib.hid hk
    clear hk
    go_wp2_with fail
    go_ret
    exact ⟨rfl, HK.out⟩
  · have hb' : ¬ (4000 : Int) < (s.size : Int) + (t.size : Int) + (x.size : Int) := by omega
    go_enter Tryd.func4, Tryd.ntmps4
    go_wp2_with fail
    refine (p_program _ w HV.out.err (by omega) HV.out.lv).mono ?_
    intro e w1 hres
    obtain ⟨lA, sA, hevA, hk1, aA, nA, cA, atA, rfl, -, hyA⟩ := hres.form
    clear hres
    obtain ⟨erA, herA⟩ : ∃ er, er = sA.err := ⟨_, rfl⟩
    rw [← herA]
    have HEA := Lib.hid (And.intro herA (And.intro hevA hyA))
    have HK1 := Lib.hid hk1
    have HV1 := Lib.hid (HV.out.keep hk1)
    clear hevA hyA herA hk1
    go_wp2_with fail
    refine (p_program _ w1 HV1.out.err (by omega) HV1.out.lv).mono ?_
    intro e w2 hres
    obtain ⟨lB, sB, hevB, hk2, aB, nB, cB, atB, rfl, -, hyB⟩ := hres.form
    clear hres
    obtain ⟨erB, herB⟩ : ∃ er, er = sB.err := ⟨_, rfl⟩
    rw [← herB]
    have HEB := Lib.hid (And.intro herB (And.intro hevB hyB))
    have HK12 := Lib.hid hk2
    have HK2 := Lib.hid (HK1.out.trans hk2 (by simp))
    have HV2 := Lib.hid (HV1.out.keep hk2)
    clear hevB hyB herB hk2
    go_upto_region 5 with fail
    rename_i K_out a_out K_in a_in
    have hcut : ∀ a' w', CutF 135 (fun f wx => f 2 = .string x ∧ f 6 = .bool false ∧ Keep [] w wx) a' w' → K_out a' w' := by
      intro a' w' hc
      refine a_out _ _ ?_
      clear a_out a_in K_in HEA HEB
      obtain ⟨f, rfl, h2, h6, hkw⟩ := hc.lit
      rw [show ((List.range 135).map f).toArray = #[f 0, f 1, f 2, f 3, f 4, f 5, f 6, f 7, f 8, f 9, f 10, f 11, f 12, f 13, f 14, f 15, f 16, f 17, f 18, f 19, f 20, f 21, f 22, f 23, f 24, f 25, f 26, f 27, f 28, f 29, f 30, f 31, f 32, f 33, f 34, f 35, f 36, f 37, f 38, f 39, f 40, f 41, f 42, f 43, f 44, f 45, f 46, f 47, f 48, f 49, f 50, f 51, f 52, f 53, f 54, f 55, f 56, f 57, f 58, f 59, f 60, f 61, f 62, f 63, f 64, f 65, f 66, f 67, f 68, f 69, f 70, f 71, f 72, f 73, f 74, f 75, f 76, f 77, f 78, f 79, f 80, f 81, f 82, f 83, f 84, f 85, f 86, f 87, f 88, f 89, f 90, f 91, f 92, f 93, f 94, f 95, f 96, f 97, f 98, f 99, f 100, f 101, f 102, f 103, f 104, f 105, f 106, f 107, f 108, f 109, f 110, f 111, f 112, f 113, f 114, f 115, f 116, f 117, f 118, f 119, f 120, f 121, f 122, f 123, f 124, f 125, f 126, f 127, f 128, f 129, f 130, f 131, f 132, f 133, f 134] from rfl]
      rw [h2, h6]
      have HKW := Lib.hid hkw
      have HVW := Lib.hid (HV.out.keep hkw)
      clear hc h2 h6 hkw
      go_wp2_with fail
      refine (p_expression _ w' HVW.out.err (by omega) HVW.out.lv).mono ?_
      intro e w3 hres
      obtain ⟨n, s3, hex, hk3, kindA, numA, atA, nameA, p1A, n1A, c1A, p2A, n2A, c2A, p3A, n3A, c3A, pos, rfl, hnd⟩ := hres.form
      clear hres
      obtain ⟨er, her⟩ : ∃ er, er = s3.err := ⟨_, rfl⟩
      rw [← her]
      have hk4 := (Keep.refl [] w3).alloc (.cells #[.int .i64 kindA, .int .i64 numA, .string ⟨nameA.toArray⟩, .int .i64 atA, .slice p1A n1A c1A, .slice p2A n2A c2A, .slice p3A n3A c3A] 26)
      have hb4 := heap_alloc_new w3 (.cells #[.int .i64 kindA, .int .i64 numA, .string ⟨nameA.toArray⟩, .int .i64 atA, .slice p1A n1A c1A, .slice p2A n2A c2A, .slice p3A n3A c3A] 26)
      have HK4 := Lib.hid ((HKW.out.trans hk3 (by simp)).trans hk4 (by simp))
      have HV4 := Lib.hid (HVW.out.keep (hk3.trans hk4 (by simp)))
      have HB4 := Lib.hid hb4
      have HEX := Lib.hid (And.intro her (And.intro hex (fun h => (hnd h).keep hk4 (by simp))))
      clear hk4 hb4 her hex hnd hk3
      by_cases h0 : er = 0
      · have hok := HEX.out.2.1.ok (by rw [← HEX.out.1]; exact h0)
        have hndA := HEX.out.2.2 (by rw [← HEX.out.1]; exact h0)
        have HOK := Lib.hid hok
        subst h0
        go_wp2_with (go_at_call 8; refine (num_any _ _).mono ?_; rintro e w' ⟨rfl, rfl⟩)
        generalize w3.alloc (.cells #[.int .i64 kindA, .int .i64 numA, .string ⟨nameA.toArray⟩, .int .i64 atA, .slice p1A n1A c1A, .slice p2A n2A c2A, .slice p3A n3A c3A] 26) = w4 at HK4 HV4 HB4 HEX hndA
        refine (p_program _ w4 HV4.out.err (by rw [ByteArray.size_append, ByteArray.size_append]; show 7 + x.size + 2 ≤ 16384; omega) HV4.out.lv).mono ?_
        intro e w5 hres
        obtain ⟨lD, sD, hevD, hk5, aD, nD, cD, atD, rfl, -, hyD⟩ := hres.form
        clear hres
        rw [show ((⟨#[103, 40, 41, 32, 45, 62, 32]⟩ : ByteArray) ++ x ++ ⟨#[10, 46]⟩).data.toList = [103, 40, 41, 32, 45, 62, 32] ++ x.data.toList ++ [10, 46] from by simp] at hevD
        obtain ⟨hm1, rfl⟩ := law_body HOK.out hevD
        obtain ⟨rfl, hfs⟩ := hyD hm1
        rw [hm1]
        simp only [List.length_cons, List.length_nil] at hfs
        obtain ⟨fb, foff, va, rfl, -, hva, hcf⟩ := hfs.at1 (i := 0) (by simp)
        obtain ⟨q1, r1, rfl⟩ := hva.form
        obtain ⟨cb, coff, csC, rfl, -, hcl, hcc⟩ := hva.atk (i := 0) (by simp)
        obtain ⟨at1, nm1, la, lb, lc, v1, v2, v3, rfl, e, -, -, hbd⟩ := hcl.un5
        injection e with e1 e2 e3 e4 e5 e6
        subst e6
        obtain ⟨q2, r2, rfl⟩ := hbd.form
        obtain ⟨nb, noff, csN, rfl, -, hnn, hcn⟩ := hbd.at7 (i := 0) (by simp)
        obtain ⟨kindN, numN, atN, nameN, p1N, n1N, c1N, p2N, n2N, c2N, p3N, n3N, c3N, rfl, -⟩ := id hnn.un7s
        have hc2 := hcc 2 (by decide)
        simp only [wid, if_true, Nat.zero_mul, Nat.add_zero, List.getElem?_cons_zero, List.getElem?_cons_succ] at hc2 hcf
        have hN0 := hcn 0 (by decide)
        have hN1 := hcn 1 (by decide)
        have hN2 := hcn 2 (by decide)
        have hN3 := hcn 3 (by decide)
        have hN4 := hcn 4 (by decide)
        have hN5 := hcn 5 (by decide)
        have hN6 := hcn 6 (by decide)
        simp only [Nat.zero_mul, Nat.add_zero, List.getElem?_cons_zero, List.getElem?_cons_succ] at hN0 hN1 hN2 hN3 hN4 hN5 hN6
        have HNC := Lib.hid (And.intro (hN0) (And.intro (hN1) (And.intro (hN2) (And.intro (hN3) (And.intro (hN4) (And.intro (hN5) (hN6)))))))
        have HNL := Lib.hid (World.block_lt_of_cell? _ _ hN0)
        clear hN0 hN1 hN2 hN3 hN4 hN5 hN6 hcn
        have HFC := Lib.hid hcf
        have HCC := Lib.hid hc2
        have HFL := Lib.hid (World.block_lt_of_cell? _ _ hcf)
        have HCL := Lib.hid (World.block_lt_of_cell? _ _ hc2)
        have HB5 := Lib.hid (blkK HB4.out hk5 (by simp))
        have HSAME := Lib.hid (fun (W : World) (hk : Keep [] w5 W) => p_same (hnn.keep hk (by simp)) ((hndA.keep hk5 (by simp)).keep hk (by simp)))
        have HK5 := Lib.hid (HK4.out.trans hk5 (by simp))
        have HV5 := Lib.hid (HV4.out.keep hk5)
        clear hevD hyD hm1 hfs hva hcl hbd hnn hcf hcc hc2 hndA hk5 HEX HOK hok e1 e2 e3 e4 e5
        go_wp2_with fail
        refine wp_regionB [37] (fun w' => Keep [] w5 w') (by kernel_rfl) ?_
        refine wpAnyB_takeY (i := 0) (v := ?vA0) rfl (by kernel_rfl) (by kernel_rfl) (by kernel_rfl) (by kernel_rfl) (fun _ _ _ h => h) (Or.inl ⟨by kernel_rfl, ?runA0⟩) ?_
        case runA0 => (intro w9 _; go_simp; try exact rfl)
        try simp only [Act.put, List.setIfInBounds_toArray, List.set_cons_zero, List.set_cons_succ]
        refine wpAnyB_ready (rs := [1]) (by kernel_rfl) (by simp) ?_
        refine AllReadyB.cons rfl (fun K hK => ?_) AllReadyB.nil
        go_simp
        refine (num_any _ _).mono ?_
        rintro e w' ⟨rfl, rfl⟩
        go_simp
        refine hK.out _ _ (fun h => (nomatch h)) ?_
        clear hK K
        try simp only [Act.put, List.setIfInBounds_toArray, List.set_cons_zero, List.set_cons_succ]
        refine wpAnyB_takeY (i := 2) (v := ?vA2) rfl (by kernel_rfl) (by kernel_rfl) (by kernel_rfl) (by kernel_rfl) (fun _ _ _ h => h) (Or.inl ⟨by kernel_rfl, ?runA2⟩) ?_
        case runA2 => (intro w9 _; go_simp; try exact rfl)
        try simp only [Act.put, List.setIfInBounds_toArray, List.set_cons_zero, List.set_cons_succ]
        refine wpAnyB_takeY (i := 3) (v := ?vA3) rfl (by kernel_rfl) (by kernel_rfl) (by kernel_rfl) (by kernel_rfl) (fun _ _ _ h => h) (Or.inl ⟨by kernel_rfl, ?runA3⟩) ?_
        case runA3 => (intro w9 _; go_simp; try exact rfl)
        try simp only [Act.put, List.setIfInBounds_toArray, List.set_cons_zero, List.set_cons_succ]
        refine wpAnyB_takeY (i := 4) (v := ?vA4) rfl (by kernel_rfl) (by kernel_rfl) (by kernel_rfl) (by kernel_rfl) (fun _ _ _ h => h) (Or.inl ⟨by kernel_rfl, ?runA4⟩) ?_
        case runA4 => (intro w9 _; go_simp; try exact rfl)
        try simp only [Act.put, List.setIfInBounds_toArray, List.set_cons_zero, List.set_cons_succ]
        refine wpAnyB_takeY (i := 5) (v := ?vA5) rfl (by kernel_rfl) (by kernel_rfl) (by kernel_rfl) (by kernel_rfl) (fun _ _ _ h => h) (Or.inl ⟨by kernel_rfl, ?runA5⟩) ?_
        case runA5 => (intro w9 _; go_simp; try exact rfl)
        try simp only [Act.put, List.setIfInBounds_toArray, List.set_cons_zero, List.set_cons_succ]
        refine wpAnyB_takeY (i := 6) (v := ?vA6) rfl (by kernel_rfl) (by kernel_rfl) (by kernel_rfl) (by kernel_rfl) (fun _ _ _ h => h) (Or.inl ⟨by kernel_rfl, ?runA6⟩) ?_
        case runA6 => (intro w9 _; go_simp; try exact rfl)
        try simp only [Act.put, List.setIfInBounds_toArray, List.set_cons_zero, List.set_cons_succ]
        refine wpAnyB_takeY (i := 7) (v := ?vA7) rfl (by kernel_rfl) (by kernel_rfl) (by kernel_rfl) (by kernel_rfl) (fun _ _ _ h => h) (Or.inl ⟨by kernel_rfl, ?runA7⟩) ?_
        case runA7 => (intro w9 _; go_simp; try exact rfl)
        try simp only [Act.put, List.setIfInBounds_toArray, List.set_cons_zero, List.set_cons_succ]
        refine wpAnyB_takeY (i := 8) (v := ?vA8) rfl (by kernel_rfl) (by kernel_rfl) (by kernel_rfl) (by kernel_rfl) (fun _ _ _ h => h) (Or.inl ⟨by kernel_rfl, ?runA8⟩) ?_
        case runA8 => (intro w9 _; go_simp; try exact rfl)
        try simp only [Act.put, List.setIfInBounds_toArray, List.set_cons_zero, List.set_cons_succ]
        refine wpAnyB_takeY (i := 9) (v := ?vA9) rfl (by kernel_rfl) (by kernel_rfl) (by kernel_rfl) (by kernel_rfl) (fun _ _ _ h => h) (Or.inl ⟨by kernel_rfl, ?runA9⟩) ?_
        case runA9 => (intro w9 _; go_simp; try exact rfl)
        try simp only [Act.put, List.setIfInBounds_toArray, List.set_cons_zero, List.set_cons_succ]
        refine wpAnyB_takeY (i := 10) (v := ?vA10) rfl (by kernel_rfl) (by kernel_rfl) (by kernel_rfl) (by kernel_rfl) (fun _ _ _ h => h) (Or.inl ⟨by kernel_rfl, ?runA10⟩) ?_
        case runA10 => (intro w9 _; go_simp; try exact rfl)
        try simp only [Act.put, List.setIfInBounds_toArray, List.set_cons_zero, List.set_cons_succ]
        refine wpAnyB_takeY (i := 11) (v := ?vA11) rfl (by kernel_rfl) (by kernel_rfl) (by kernel_rfl) (by kernel_rfl) (fun _ _ _ h => h) (Or.inl ⟨by kernel_rfl, ?runA11⟩) ?_
        case runA11 => (intro w9 _; go_simp; try exact rfl)
        try simp only [Act.put, List.setIfInBounds_toArray, List.set_cons_zero, List.set_cons_succ]
        refine wpAnyB_take [] (i := 12) (v := ?vA12) rfl (by kernel_rfl) (by kernel_rfl) (by kernel_rfl) (by kernel_rfl) (by kernel_rfl) (fun _ _ _ h => h) (Or.inl ⟨by kernel_rfl, ?runA12⟩) ((Keep.refl [] w5).drew) ?_
        case runA12 => (intro w9 hS9; obtain x0 := hS9.cell (p := ⟨fb, foff, none⟩) HFL.out (by simp) |>.trans HFC.out; go_simp; try exact rfl)
        try simp only [Act.put, List.setIfInBounds_toArray, List.set_cons_zero, List.set_cons_succ]
        refine wpAnyB_takeY (i := 13) (v := ?vA13) rfl (by kernel_rfl) (by kernel_rfl) (by kernel_rfl) (by kernel_rfl) (fun _ _ _ h => h) (Or.inl ⟨by kernel_rfl, ?runA13⟩) ?_
        case runA13 => (intro w9 _; go_simp; try exact rfl)
        try simp only [Act.put, List.setIfInBounds_toArray, List.set_cons_zero, List.set_cons_succ]
        refine wpAnyB_takeY (i := 14) (v := ?vA14) rfl (by kernel_rfl) (by kernel_rfl) (by kernel_rfl) (by kernel_rfl) (fun _ _ _ h => h) (Or.inl ⟨by kernel_rfl, ?runA14⟩) ?_
        case runA14 => (intro w9 _; go_simp; try exact rfl)
        try simp only [Act.put, List.setIfInBounds_toArray, List.set_cons_zero, List.set_cons_succ]
        refine wpAnyB_takeY (i := 15) (v := ?vA15) rfl (by kernel_rfl) (by kernel_rfl) (by kernel_rfl) (by kernel_rfl) (fun _ _ _ h => h) (Or.inl ⟨by kernel_rfl, ?runA15⟩) ?_
        case runA15 => (intro w9 _; go_simp; try exact rfl)
        try simp only [Act.put, List.setIfInBounds_toArray, List.set_cons_zero, List.set_cons_succ]
        refine wpAnyB_takeY (i := 16) (v := ?vA16) rfl (by kernel_rfl) (by kernel_rfl) (by kernel_rfl) (by kernel_rfl) (fun _ _ _ h => h) (Or.inl ⟨by kernel_rfl, ?runA16⟩) ?_
        case runA16 => (intro w9 _; go_simp; try exact rfl)
        try simp only [Act.put, List.setIfInBounds_toArray, List.set_cons_zero, List.set_cons_succ]
        refine wpAnyB_takeY (i := 17) (v := ?vA17) rfl (by kernel_rfl) (by kernel_rfl) (by kernel_rfl) (by kernel_rfl) (fun _ _ _ h => h) (Or.inl ⟨by kernel_rfl, ?runA17⟩) ?_
        case runA17 => (intro w9 _; go_simp; try exact rfl)
        try simp only [Act.put, List.setIfInBounds_toArray, List.set_cons_zero, List.set_cons_succ]
        refine wpAnyB_takeY (i := 18) (v := ?vA18) rfl (by kernel_rfl) (by kernel_rfl) (by kernel_rfl) (by kernel_rfl) (fun _ _ _ h => h) (Or.inl ⟨by kernel_rfl, ?runA18⟩) ?_
        case runA18 => (intro w9 _; go_simp; try exact rfl)
        try simp only [Act.put, List.setIfInBounds_toArray, List.set_cons_zero, List.set_cons_succ]
        refine wpAnyB_takeY (i := 19) (v := ?vA19) rfl (by kernel_rfl) (by kernel_rfl) (by kernel_rfl) (by kernel_rfl) (fun _ _ _ h => h) (Or.inl ⟨by kernel_rfl, ?runA19⟩) ?_
        case runA19 => (intro w9 _; go_simp; try exact rfl)
        try simp only [Act.put, List.setIfInBounds_toArray, List.set_cons_zero, List.set_cons_succ]
        refine wpAnyB_take [] (i := 20) (v := ?vA20) rfl (by kernel_rfl) (by kernel_rfl) (by kernel_rfl) (by kernel_rfl) (by kernel_rfl) (fun _ _ _ h => h) (Or.inl ⟨by kernel_rfl, ?runA20⟩) ((Keep.refl [] w5).drew) ?_
        case runA20 => (intro w9 hS9; obtain x0 := hS9.cell (p := ⟨fb, foff, none⟩) HFL.out (by simp) |>.trans HFC.out; go_simp; try exact rfl)
        try simp only [Act.put, List.setIfInBounds_toArray, List.set_cons_zero, List.set_cons_succ]
        refine wpAnyB_takeY (i := 21) (v := ?vA21) rfl (by kernel_rfl) (by kernel_rfl) (by kernel_rfl) (by kernel_rfl) (fun _ _ _ h => h) (Or.inl ⟨by kernel_rfl, ?runA21⟩) ?_
        case runA21 => (intro w9 _; go_simp; try exact rfl)
        try simp only [Act.put, List.setIfInBounds_toArray, List.set_cons_zero, List.set_cons_succ]
        refine wpAnyB_takeY (i := 22) (v := ?vA22) rfl (by kernel_rfl) (by kernel_rfl) (by kernel_rfl) (by kernel_rfl) (fun _ _ _ h => h) (Or.inl ⟨by kernel_rfl, ?runA22⟩) ?_
        case runA22 => (intro w9 _; go_simp; try exact rfl)
        try simp only [Act.put, List.setIfInBounds_toArray, List.set_cons_zero, List.set_cons_succ]
        refine wpAnyB_take [] (i := 23) (v := ?vA23) rfl (by kernel_rfl) (by kernel_rfl) (by kernel_rfl) (by kernel_rfl) (by kernel_rfl) (fun _ _ _ h => h) (Or.inl ⟨by kernel_rfl, ?runA23⟩) ((Keep.refl [] w5).drew) ?_
        case runA23 => (intro w9 hS9; obtain x0 := hS9.cell (p := ⟨cb, coff + 2, none⟩) HCL.out (by simp) |>.trans HCC.out; go_simp; try exact rfl)
        try simp only [Act.put, List.setIfInBounds_toArray, List.set_cons_zero, List.set_cons_succ]
        refine wpAnyB_takeY (i := 24) (v := ?vA24) rfl (by kernel_rfl) (by kernel_rfl) (by kernel_rfl) (by kernel_rfl) (fun _ _ _ h => h) (Or.inl ⟨by kernel_rfl, ?runA24⟩) ?_
        case runA24 => (intro w9 _; go_simp; try exact rfl)
        try simp only [Act.put, List.setIfInBounds_toArray, List.set_cons_zero, List.set_cons_succ]
        refine wpAnyB_takeY (i := 25) (v := ?vA25) rfl (by kernel_rfl) (by kernel_rfl) (by kernel_rfl) (by kernel_rfl) (fun _ _ _ h => h) (Or.inl ⟨by kernel_rfl, ?runA25⟩) ?_
        case runA25 => (intro w9 _; go_simp; try exact rfl)
        try simp only [Act.put, List.setIfInBounds_toArray, List.set_cons_zero, List.set_cons_succ]
        refine wpAnyB_takeY (i := 26) (v := ?vA26) rfl (by kernel_rfl) (by kernel_rfl) (by kernel_rfl) (by kernel_rfl) (fun _ _ _ h => h) (Or.inl ⟨by kernel_rfl, ?runA26⟩) ?_
        case runA26 => (intro w9 _; go_simp; try exact rfl)
        try simp only [Act.put, List.setIfInBounds_toArray, List.set_cons_zero, List.set_cons_succ]
        refine wpAnyB_takeY (i := 27) (v := ?vA27) rfl (by kernel_rfl) (by kernel_rfl) (by kernel_rfl) (by kernel_rfl) (fun _ _ _ h => h) (Or.inl ⟨by kernel_rfl, ?runA27⟩) ?_
        case runA27 => (intro w9 _; go_simp; try exact rfl)
        try simp only [Act.put, List.setIfInBounds_toArray, List.set_cons_zero, List.set_cons_succ]
        refine wpAnyB_takeY (i := 28) (v := ?vA28) rfl (by kernel_rfl) (by kernel_rfl) (by kernel_rfl) (by kernel_rfl) (fun _ _ _ h => h) (Or.inl ⟨by kernel_rfl, ?runA28⟩) ?_
        case runA28 => (intro w9 _; go_simp; try exact rfl)
        try simp only [Act.put, List.setIfInBounds_toArray, List.set_cons_zero, List.set_cons_succ]
        refine wpAnyB_takeY (i := 29) (v := ?vA29) rfl (by kernel_rfl) (by kernel_rfl) (by kernel_rfl) (by kernel_rfl) (fun _ _ _ h => h) (Or.inl ⟨by kernel_rfl, ?runA29⟩) ?_
        case runA29 => (intro w9 _; go_simp; try exact rfl)
        try simp only [Act.put, List.setIfInBounds_toArray, List.set_cons_zero, List.set_cons_succ]
        refine wpAnyB_takeY (i := 30) (v := ?vA30) rfl (by kernel_rfl) (by kernel_rfl) (by kernel_rfl) (by kernel_rfl) (fun _ _ _ h => h) (Or.inl ⟨by kernel_rfl, ?runA30⟩) ?_
        case runA30 => (intro w9 _; go_simp; try exact rfl)
        try simp only [Act.put, List.setIfInBounds_toArray, List.set_cons_zero, List.set_cons_succ]
        refine wpAnyB_take [37] (i := 31) (v := ?vA31) rfl (by kernel_rfl) (by kernel_rfl) (by kernel_rfl) (by kernel_rfl) (by kernel_rfl) (fun _ _ _ h => h) (Or.inl ⟨by kernel_rfl, ?runA31⟩) ((Keep.refl [] w5).drew) ?_
        case runA31 => (intro w9 hS9; obtain x0 := hS9.cell (p := ⟨fb, foff, none⟩) HFL.out (by simp) |>.trans HFC.out; go_simp; try exact rfl)
        try simp only [Act.put, List.setIfInBounds_toArray, List.set_cons_zero, List.set_cons_succ]
        refine wpAnyB_takeY (i := 32) (v := ?vA32) rfl (by kernel_rfl) (by kernel_rfl) (by kernel_rfl) (by kernel_rfl) (fun _ _ _ h => h) (Or.inl ⟨by kernel_rfl, ?runA32⟩) ?_
        case runA32 => (intro w9 _; go_simp; try exact rfl)
        try simp only [Act.put, List.setIfInBounds_toArray, List.set_cons_zero, List.set_cons_succ]
        refine wpAnyB_takeY (i := 33) (v := ?vA33) rfl (by kernel_rfl) (by kernel_rfl) (by kernel_rfl) (by kernel_rfl) (fun _ _ _ h => h) (Or.inl ⟨by kernel_rfl, ?runA33⟩) ?_
        case runA33 => (intro w9 _; go_simp; try exact rfl)
        try simp only [Act.put, List.setIfInBounds_toArray, List.set_cons_zero, List.set_cons_succ]
        refine wpAnyB_take [37] (i := 34) (v := ?vA34) rfl (by kernel_rfl) (by kernel_rfl) (by kernel_rfl) (by kernel_rfl) (by kernel_rfl) (fun _ _ _ h => h) (Or.inl ⟨by kernel_rfl, ?runA34⟩) ((Keep.refl [] w5).drew) ?_
        case runA34 => (intro w9 hS9; obtain x0 := hS9.cell (p := ⟨cb, coff + 2, none⟩) HCL.out (by simp) |>.trans HCC.out; go_simp; try exact rfl)
        try simp only [Act.put, List.setIfInBounds_toArray, List.set_cons_zero, List.set_cons_succ]
        refine wpAnyB_takeY (i := 35) (v := ?vA35) rfl (by kernel_rfl) (by kernel_rfl) (by kernel_rfl) (by kernel_rfl) (fun _ _ _ h => h) (Or.inl ⟨by kernel_rfl, ?runA35⟩) ?_
        case runA35 => (intro w9 _; go_simp; try exact rfl)
        try simp only [Act.put, List.setIfInBounds_toArray, List.set_cons_zero, List.set_cons_succ]
        refine wpAnyB_take [37] (i := 36) (v := ?vA36) rfl (by kernel_rfl) (by kernel_rfl) (by kernel_rfl) (by kernel_rfl) (by kernel_rfl) (fun _ _ _ h => h) (Or.inl ⟨by kernel_rfl, ?runA36⟩) ((Keep.refl [] w5).drew) ?_
        case runA36 => (intro w9 hS9; obtain ⟨x0, x1, x2, x3, x4, x5, x6⟩ := And.intro (hS9.cell (p := ⟨nb, noff, none⟩) HNL.out (by simp) |>.trans HNC.out.1) (And.intro (hS9.cell (p := ⟨nb, noff + 1, none⟩) HNL.out (by simp) |>.trans HNC.out.2.1) (And.intro (hS9.cell (p := ⟨nb, noff + 2, none⟩) HNL.out (by simp) |>.trans HNC.out.2.2.1) (And.intro (hS9.cell (p := ⟨nb, noff + 3, none⟩) HNL.out (by simp) |>.trans HNC.out.2.2.2.1) (And.intro (hS9.cell (p := ⟨nb, noff + 4, none⟩) HNL.out (by simp) |>.trans HNC.out.2.2.2.2.1) (And.intro (hS9.cell (p := ⟨nb, noff + 5, none⟩) HNL.out (by simp) |>.trans HNC.out.2.2.2.2.2.1) (hS9.cell (p := ⟨nb, noff + 6, none⟩) HNL.out (by simp) |>.trans HNC.out.2.2.2.2.2.2)))))); go_simp; try exact rfl)
        try simp only [Act.put, List.setIfInBounds_toArray, List.set_cons_zero, List.set_cons_succ]
        refine wpAnyB_take [] (i := 37) (v := ?vA37) rfl (by kernel_rfl) (by kernel_rfl) (by kernel_rfl) (by kernel_rfl) (by kernel_rfl) (fun _ _ _ h => h) (Or.inl ⟨by kernel_rfl, ?runA37⟩) ((Keep.refl [] w5).drew) ?_
        case runA37 => (intro w9 hS9; obtain ⟨c0, c1, c2, c3, c4, c5, c6⟩ := cells7 (blkK HB5.out hS9 (by simp)); go_simp; try exact rfl)
        try simp only [Act.put, List.setIfInBounds_toArray, List.set_cons_zero, List.set_cons_succ]
        refine wpAnyB_ready (rs := [38]) (by kernel_rfl) (by simp) ?_
        refine AllReadyB.cons rfl (fun K hK => ?_) AllReadyB.nil
        go_simp
        refine (HSAME.out _ ((Keep.refl [] w5).drew)).mono ?_
        rintro e w6 ⟨rfl, hk6⟩
        have HK6 := Lib.hid (((Keep.refl [] w5).drew).trans hk6 (by simp))
        clear hk6
        go_simp
        refine hK.out _ _ (fun h => (nomatch h)) ?_
        clear hK K
        try simp only [Act.put, List.setIfInBounds_toArray, List.set_cons_zero, List.set_cons_succ]
        refine wpAnyB_takeY (i := 39) (v := ?vA39) rfl (by kernel_rfl) (by kernel_rfl) (by kernel_rfl) (by kernel_rfl) (fun _ _ _ h => h) (Or.inl ⟨by kernel_rfl, ?runA39⟩) ?_
        case runA39 => (intro w9 _; go_simp; try exact rfl)
        try simp only [Act.put, List.setIfInBounds_toArray, List.set_cons_zero, List.set_cons_succ]
        refine wpAnyB_takeY (i := 40) (v := ?vA40) rfl (by kernel_rfl) (by kernel_rfl) (by kernel_rfl) (by kernel_rfl) (fun _ _ _ h => h) (Or.inl ⟨by kernel_rfl, ?runA40⟩) ?_
        case runA40 => (intro w9 _; go_simp; try exact rfl)
        try simp only [Act.put, List.setIfInBounds_toArray, List.set_cons_zero, List.set_cons_succ]
        refine wpAnyB_ready (rs := [41]) (by kernel_rfl) (by simp) ?_
        refine AllReadyB.cons rfl (fun K hK => ?_) AllReadyB.nil
        go_simp
        refine (p_live (HV5.out.keep HK6.out)).mono ?_
        rintro e w7 ⟨rfl, hk7⟩
        have HK7 := Lib.hid ((HK5.out.trans HK6.out (by simp)).trans hk7 (by simp))
        clear hk7
        go_simp
        refine hK.out _ _ (fun h => (nomatch h)) ?_
        clear hK K
        try simp only [Act.put, List.setIfInBounds_toArray, List.set_cons_zero, List.set_cons_succ]
        refine wpAnyB_takeY (i := 42) (v := ?vA42) rfl (by kernel_rfl) (by kernel_rfl) (by kernel_rfl) (by kernel_rfl) (fun _ _ _ h => h) (Or.inl ⟨by kernel_rfl, ?runA42⟩) ?_
        case runA42 => (intro w9 _; go_simp; try exact rfl)
        try simp only [Act.put, List.setIfInBounds_toArray, List.set_cons_zero, List.set_cons_succ]
        refine wpAnyB_takeY (i := 43) (v := ?vA43) rfl (by kernel_rfl) (by kernel_rfl) (by kernel_rfl) (by kernel_rfl) (fun _ _ _ h => h) (Or.inl ⟨by kernel_rfl, ?runA43⟩) ?_
        case runA43 => (intro w9 _; go_simp; try exact rfl)
        try simp only [Act.put, List.setIfInBounds_toArray, List.set_cons_zero, List.set_cons_succ]
        refine wpAnyB_done (by kernel_rfl) ?_ _
        go_wp2_with fail
        go_ret
        exact ⟨rfl, HK7.out⟩
      · have hne : (er != 0) = true := by simpa using h0
        go_wp2_with (go_at_call 8; refine (num_any _ _).mono ?_; rintro e w' ⟨rfl, rfl⟩)
        refine (p_live HV4.out).mono ?_
        rintro e w5 ⟨rfl, hk5⟩
        have HK5 := Lib.hid (HK4.out.trans hk5 (by simp))
        clear hk5
        go_wp2_with fail
        go_ret
        exact ⟨rfl, HK5.out⟩
    have HCUT := Lib.hid hcut
    clear hcut a_out
    by_cases h0 : erA = 0
    · by_cases h1 : erB = 0
      · have hea := HEA.out.1
        have heb := HEB.out.1
        obtain ⟨rfl, esA, oA, hrdA, -, hlA, hnA⟩ := HEA.out.2.2 (by rw [← hea]; exact h0)
        obtain ⟨rfl, esB, oB, hrdB, -, hlB, hnB⟩ := HEB.out.2.2 (by rw [← heb]; exact h1)
        have hprA := PrOk.of HEA.out.2.1 (by rw [← hea]; exact h0)
        have hprB := PrOk.of HEB.out.2.1 (by rw [← heb]; exact h1)
        have hleA := HEA.out.2.1.funs_le (by rw [← hea]; exact h0)
        have hleB := HEB.out.2.1.funs_le (by rw [← heb]; exact h1)
        simp only [Array.length_toList] at hleA hleB
        have hszA : s.data.size = s.size := rfl
        have hszB : t.data.size = t.size := rfl
        have HPA := Lib.hid hprA
        have HPB := Lib.hid hprB
        have HRA := Lib.hid (And.intro hrdA (And.intro hlA hnA))
        have HRB := Lib.hid (And.intro hrdB (And.intro hlB hnB))
        have HLEN := Lib.hid (show lA.length ≤ 4000 ∧ lB.length ≤ 4000 by omega)
        subst h0 h1
        clear hprA hprB hrdA hlA hnA hrdB hlB hnB hleA hleB hszA hszB hea heb HEA HEB
        go_wp2_with (go_at_call 8; refine (num_any _ _).mono ?_; rintro e w' ⟨rfl, rfl⟩)
        refine (p_program _ w2 HV2.out.err (by rw [ByteArray.size_append, ByteArray.size_append]; show s.size + 1 + t.size ≤ 16384; omega) HV2.out.lv).mono ?_
        intro e w3 hres
        obtain ⟨lC, sC, hevC, hk3, aC, nC, cC, atC, rfl, -, hyC⟩ := hres.form
        clear hres
        rw [show (s ++ (⟨#[10]⟩ : ByteArray) ++ t).data.toList = s.data.toList ++ 10 :: t.data.toList from by simp] at hevC
        obtain ⟨hm1, rfl⟩ := law_parts HPA.out HPB.out hevC
        obtain ⟨rfl, hfC⟩ := hyC hm1
        rw [hm1]
        obtain ⟨i0, hi0, hz0, hz1, hz2⟩ := info3 fun_info
        have HI := Lib.hid hi0
        have hkA3 := HK12.out.trans hk3 (by simp)
        have hk4 := (Keep.refl [] w3).alloc (.cells #[] 38)
        have HRDA := Lib.hid ((HRA.out.1.keep0 hkA3).keep0 hk4)
        have HONEA := Lib.hid (FsR.cellsOne HRA.out.2.1 HRA.out.2.2)
        have HONEB := Lib.hid (FsR.cellsOne HRB.out.2.1 HRB.out.2.2)
        have HRDB := Lib.hid ((HRB.out.1.keep0 hk3).keep0 hk4)
        have HROW0 := Lib.hid (Row.made0 w3 38 1)
        have hnB : ∀ b, oB = some b → b ∉ [w3.heap.size] := fun b hb hm => by have h1 := HRB.out.1.keep0 hk3; rw [hb] at h1; have h2 := Rd.lt h1 (by have := List.length_pos_iff.2 HPB.out.ne; omega); simp at hm; omega
        have HNB := Lib.hid hnB
        have HFC := Lib.hid hfC
        have HK3 := Lib.hid hk3
        have HKW := Lib.hid (HK2.out.trans hk3 (by simp))
        obtain ⟨hla, hlb⟩ := HLEN.out
        clear hnB hevC hyC hm1 hfC hi0 hkA3 hk4 hk3
        go_upto_region 7 with fail
        go_wp2_with (first
          | (go_at_call 8; refine (num_any _ _).mono ?_; rintro e w' ⟨rfl, rfl⟩)
          | (at_builtin; go_loud (refine wpList_append_rdW _ (by kernel_rfl) _ _ 33 33 rfl 38 38 i0 _ 1 24 Tryd.underlying33 Tryd.underlying33 HI.out hz0 hz1 hz2 rfl _ 0 0 0 _ rfl HROW0.out _ rfl _ _ _ HRDA.out HONEA.out (by unfold maxLen; omega) (by omega) ?_); intro g off cap w5 hr5 hk5 hg5; simp only [Nat.zero_add, List.nil_append] at hr5; have HROW5 := Lib.hid hr5; have HK5 := Lib.hid hk5; have HG5 := Lib.hid hg5; clear hr5 hk5 hg5)
          | (at_builtin; go_loud (refine wpList_append_rdW _ (by kernel_rfl) _ _ 33 33 rfl 38 38 i0 _ 1 24 Tryd.underlying33 Tryd.underlying33 HI.out hz0 hz1 hz2 rfl _ _ _ _ _ rfl HROW5.out _ rfl _ _ _ (HRDB.out.keep HK5.out HNB.out) HONEB.out (by unfold maxLen; omega) (by omega) ?_); intro g2 off2 cap2 w6 hr6 hk6 hg6; have HROW6 := Lib.hid hr6; have HK6 := Lib.hid hk6; have HG6 := Lib.hid hg6; clear hr6 hk6 hg6)
          | fail)
        obtain ⟨o', hrd6, -⟩ := HROW6.out.rd
        have hkn : Keep [] w3 w6 := by
          have h0 := (Keep.refl [] w3).alloc (.cells #[] 38)
          have h1 : Keep [] w3 w5 := h0.trans HK5.out (fun x hx => .inr (by simp at hx; omega))
          refine h1.trans HK6.out (fun x hx => .inr ?_)
          have hg := HG5.out
          simp at hx
          simp at hg
          omega
        have hkA : Keep [] w1 w2 := HK12.out
        have hA : ∀ i (h : i < esA.length) (h' : i < lA.length), NsR (fun _ => True) w2 true esA[i] lA[i] := fun i h h' => ((HRA.out.2.2 i h h').keep hkA (by simp)).mono (fun _ _ => trivial)
        have hfs := FsR.append (HK3.out.trans hkn (by simp)) ⟨HRA.out.2.1, hA⟩ HRB.out.2 hrd6
        have hfc := HFC.out.keep hkn (by simp)
        rw [List.length_append] at hfc
        clear hla hlb
        refine (p_sameAll hfs hfc).mono ?_
        rintro e w7 ⟨rfl, hk7⟩
        have HK7 := Lib.hid ((HKW.out.trans hkn (by simp)).trans hk7 (by simp))
        clear hk7 hfs hA hkA hkn hrd6
        go_wp2_with fail
        exact HCUT.out _ _ (CutF.mk rfl ⟨rfl, rfl, HK7.out⟩)
      · have hne : (erB == 0) = false := beq_eq_false_iff_ne.2 h1
        subst h0
        go_wp2_with (go_at_call 8; refine (num_any _ _).mono ?_; rintro e w' ⟨rfl, rfl⟩)
        exact HCUT.out _ _ (CutF.mk rfl ⟨rfl, rfl, HK2.out⟩)
    · have hne : (erA == 0) = false := beq_eq_false_iff_ne.2 h0
      go_wp2_with (go_at_call 8; refine (num_any _ _).mono ?_; rintro e w' ⟨rfl, rfl⟩)
      exact HCUT.out _ _ (CutF.mk rfl ⟨rfl, rfl, HK2.out⟩)
end Go.Proofs.YtdmmhfbafinkpaaDoor
