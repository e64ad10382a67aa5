import Derived.Test.YtdmmhfbafinkpaaGreatDoorPa19
/- Parse: Expr. Printed by gen-pa20.py. -/
namespace Go.Proofs.YtdmmhfbafinkpaaGreatDoor
open Go.RowKit Go.Emb Go.Shelf

theorem results_node_tmp2 {P : Program} {fn : Func} {p t u : Tmp} {ty : TypeId} (h : fn.results = #[.cell p ty, .tmp t, .tmp u]) (tmps : Array Value) (w : World) (g : Nat) (tt : TypeId) (cs : Array Value) (fr : Nat × Nat) (d : TypeDesc)
    (hp : tmps.getD p undef = .pointer (some ⟨g, 0, none⟩)) (hg : w.heap[g]? = some (.cells cs tt fr))
    (hu : P.underlying ty = some d) (hd : (match d with | .struct _ | .array _ _ => true | _ => false) = true) (hi : (P.info? ty).map (·.size) = some cs.size) :
    (results fn tmps).run P w = .ok (.tuple #[.agg cs, tmps.getD t undef, tmps.getD u undef]) w := by
  have hp' : tmps[p]?.getD undef = .pointer (some ⟨g, 0, none⟩) := by simpa using hp
  simp [results, h, hp', asAddr, run_loadVar_row w g tt ty cs fr d hg hu hd hi]
/-- a zero node's block is neither the tokens' nor the table's -/
theorem PS.keepZ {lo : Nat} {w w' : World} {pb B : Nat} {s : St} (h : PS lo w pb s) (hb : w.heap[B]? = some zN) (hB : B ≠ pb) (hk : Keep [B] w w') : PS lo w' pb s := by
  obtain ⟨c0, c1, c2, c3, c4, c5, c6⟩ := cells7 hb
  have cx : ∀ i, 7 ≤ i → w.cell? ⟨B, i, none⟩ = none := fun i hi => by
    simp only [World.cell?, hb]
    have : (#[Value.int .i64 0, .int .i64 0, .string ⟨#[]⟩, .int .i64 0, .slice none 0 0, .slice none 0 0, .slice none 0 0] : Array Value)[i]? = none := Array.getElem?_eq_none (by simpa using hi)
    simp [this]
  have h5 : ∀ i v, w.cell? ⟨B, i, none⟩ = some v → i < 7 := fun i v hv => by
    rcases Nat.lt_or_ge i 7 with h | h
    · exact h
    · rw [cx i h] at hv; cases hv
  obtain ⟨v, o, h1, h2, h3⟩ := h.blk
  refine ⟨⟨v, o, blkK h1 hk (by simpa using Ne.symm hB), ?_, h3⟩, h.plo, fun k hk5 => ?_⟩
  · obtain ⟨hl, a, c, rfl, e1, e2, e3⟩ := h2
    refine ⟨hl, a, c, rfl, e1, e2, ?_⟩
    rcases e3 with e3 | ⟨b, off, rfl, rfl, e3⟩
    · exact .inl e3
    · refine .inr ⟨b, off, rfl, rfl, fun i hi => ?_⟩
      rw [← e3 i hi]
      by_cases hbB : b = B
      · exfalso
        subst hbB
        match ht : s.toks with
        | [] => rw [ht] at hi; simp at hi
        | x :: r =>
          rw [ht] at e3
          have q0 := e3 0 (by simp)
          have q1 := e3 1 (by simp; omega)
          have q2 := e3 2 (by simp; omega)
          have q3 := e3 3 (by simp; omega)
          have q4 := e3 4 (by simp; omega)
          simp [encK] at q0 q1 q2 q3 q4
          have := h5 _ _ q4
          have hoff : off = 0 ∨ off = 1 ∨ off = 2 := by omega
          rcases hoff with rfl | rfl | rfl
          · rw [show (0 + 4) = 4 from rfl, c4] at q4; cases q4
          · rw [show (1 + 1) = 2 from rfl, c2] at q1; cases q1
          · rw [c2] at q0; cases q0
      · have hlt : b < w.heap.size := by
          rcases Nat.lt_or_ge b w.heap.size with h | h
          · exact h
          · exfalso
            have hx := e3 i hi
            have : w.cell? ⟨b, off + i, none⟩ = none := by
              simp only [World.cell?, Array.getElem?_eq_none h]
            rw [this, List.getElem?_eq_getElem (by omega)] at hx
            cases hx
        exact hk.cell (p := ⟨b, off + i, none⟩) hlt (by simpa using hbB)
  · obtain ⟨sv, so, g1, g2, g3, g4⟩ := h.lv k hk5
    obtain ⟨hl, a, c, rfl, e1, e2, e3⟩ := g2
    have hlen : 0 < (levelsL k).length := by
      have hk' : k = 0 ∨ k = 1 ∨ k = 2 ∨ k = 3 ∨ k = 4 := by omega
      rcases hk' with rfl | rfl | rfl | rfl | rfl <;> decide
    have hne : ∀ x ∈ levelsL k, x ≠ [] := by
      have hk' : k = 0 ∨ k = 1 ∨ k = 2 ∨ k = 3 ∨ k = 4 := by omega
      rcases hk' with rfl | rfl | rfl | rfl | rfl <;> decide
    rcases e3 with ⟨e3, e4⟩ | ⟨b, off, rfl, rfl, e3⟩
    · omega
    have hgB : 0 ≠ B := by
      intro e
      rw [e] at g1
      have hk' : k = 0 ∨ k = 1 ∨ k = 2 ∨ k = 3 ∨ k = 4 := by omega
      rcases hk' with rfl | rfl | rfl | rfl | rfl
      · rw [c0] at g1; cases g1
      · rw [c1] at g1; cases g1
      · rw [c2] at g1; cases g1
      · rw [c3] at g1; cases g1
      · rw [c4] at g1; cases g1
    have hbB : b ≠ B := by
      rintro rfl
      have q0 := e3 0 (by omega)
      rw [Nat.add_zero] at q0
      obtain ⟨x, hx⟩ : ∃ x, (levelsL k)[0]? = some x := ⟨(levelsL k)[0], by simp [hlen]⟩
      have hx0 := hne x (List.mem_of_getElem? hx)
      rw [List.getElem?_map, hx] at q0
      simp only [Option.map_some, strV] at q0
      have := h5 _ _ q0
      have hoff : off = 0 ∨ off = 1 ∨ off = 2 ∨ off = 3 ∨ off = 4 ∨ off = 5 ∨ off = 6 := by omega
      rcases hoff with rfl | rfl | rfl | rfl | rfl | rfl | rfl
      · rw [c0] at q0; cases q0
      · rw [c1] at q0; cases q0
      · rw [c2] at q0
        simp at q0
        exact hx0 (by simpa using q0.symm)
      · rw [c3] at q0; cases q0
      · rw [c4] at q0; cases q0
      · rw [c5] at q0; cases q0
      · rw [c6] at q0; cases q0
    exact ⟨_, some b, by rw [hk.cell (p := ⟨0, k, none⟩) (World.block_lt_of_cell? _ _ g1) (by simpa using hgB)]; exact g1, (show Rd w 1 _ _ _ _ from ⟨hl, _, c, rfl, e1, e2, .inr ⟨b, off, rfl, rfl, e3⟩⟩).keep hk (fun x hx => by cases hx; simpa using hbB), g3, g4⟩
/-- what an expression comes to -/
def ExR (bs : List UInt8) (n : Nd) (s' : St) : Prop :=
  ((beginS bs).err = 0 ∧ ∃ s1, Ev (fun n => expr n 0) (beginS bs) n s1 ∧ s' = if s1.toks = [] then s1 else failS 110 s1) ∨ ((beginS bs).err ≠ 0 ∧ s' = beginS bs)
def ExpP (w : World) (bs : List UInt8) (e : Ending) (w' : World) : Prop :=
  ∃ n s', ExR bs n s' ∧ Keep [] w w' ∧
    ((s'.err = 0 ∧ ∃ cs : List Value, e = .returned (.tuple #[.agg cs.toArray, .int .i64 0, .int .i64 0]) ∧ NdR (Frs w.heap.size w') w' false cs n) ∨
     (s'.err ≠ 0 ∧ e = .returned (.tuple #[.agg #[.int .i64 0, .int .i64 0, .string ⟨#[]⟩, .int .i64 0, .slice none 0 0, .slice none 0 0, .slice none 0 0], .int .i64 s'.err, .int .i64 s'.at_])))
set_option maxRecDepth 100000 in
set_option maxHeartbeats 1000000 in
theorem p_expression (s : ByteArray) (w : World) (he : ErrOk w) (hs : s.size ≤ 16384) (hlv : LvT w.heap.size w) :
    Calls Tryz.prog 15 #[.string s] w (ExpP w s.data.toList) := by
  have hbl := begin_len s.data.toList
  have HBL := Lib.hid (show (beginS s.data.toList).toks.length ≤ 16384 by simp at hbl; omega)
  have hk1 := (Keep.refl [] w).alloc zN
  have hb1 := heap_alloc_new w zN
  have HBG := Lib.hid (p_begin s (w.alloc zN) (he.keep hk1) hs ((hlv.keep hk1 (by simp)).lt hk1.size))
  have HB1 := Lib.hid hb1
  have HK1 := Lib.hid hk1
  clear he hs hlv hbl hk1 hb1
  obtain ⟨bs, hbs⟩ : ∃ bs, bs = s.data.toList := ⟨_, rfl⟩
  rw [← hbs] at HBL HBG ⊢
  clear hbs
  obtain ⟨B, hB⟩ : ∃ B, B = w.heap.size := ⟨_, rfl⟩
  go_enter Tryz.func15, Tryz.ntmps15
  go_wp2_with fail
  refine HBG.out.mono ?_
  rintro e w2 ⟨q, rfl, hps2, hq, hq2, hk2⟩
  rw [size_alloc] at hq
  rw [← hB]
  rw [← hB] at hq HB1
  have hb2 := blkK HB1.out hk2 (by simp)
  have HB2 := Lib.hid hb2
  have HPS2 := Lib.hid hps2
  have HK2 := Lib.hid (HK1.out.trans hk2 (by simp))
  have HQ := Lib.hid (And.intro hB (And.intro hq hq2))
  obtain ⟨pv, po, hpb, ⟨-, ta, tc, rfl, -⟩, -⟩ := hps2.blk
  obtain ⟨s0, s1, s2, s3⟩ := cells4p hpb
  clear hps2 hk2 hq hq2 HBG hb2 hB HB1 HK1 hpb
  go_upto_region 2 with fail
  rename_i K_out a_out K_in a_in
  have hcut : ∀ a' w', CutF 38 (fun f wx => f 2 = .pointer (some ⟨B, 0, none⟩) ∧ f 3 = .int .i64 0 ∧ f 4 = .int .i64 0 ∧ f 5 = .pointer (some ⟨q, 0, none⟩) ∧ ∃ (n : Nd) (s' : St) (cs : List Value), ExR bs n s' ∧ wx.heap[B]? = some (.cells cs.toArray 29 (0, 0)) ∧ NdR (Frs (q + 1) wx) wx false cs n ∧ PS (q + 1) wx q s' ∧ Keep [] w wx) a' w' → K_out a' w' := by
    intro a' w' hc
    refine a_out _ _ ?_
    clear a_out a_in K_in s0 s1 s2 s3
    obtain ⟨f, rfl, h2, h3, h4, h5, n, s', cs, hex, hbx, hnd, hps, hkw⟩ := hc.lit
    obtain ⟨kindA, numA, atA, nameA, p1A, n1A, c1A, p2A, n2A, c2A, p3A, n3A, c3A, rfl, -⟩ := id hnd.un7s
    rw [show ((List.range 38).map f).toArray = #[f 0, f 1, f 2, f 3, f 4, f 5, f 6, f 7, f 8, f 9, f 10, f 11, f 12, f 13, f 14, f 15, f 16, f 17, f 18, f 19, f 20, f 21, f 22, f 23, f 24, f 25, f 26, f 27, f 28, f 29, f 30, f 31, f 32, f 33, f 34, f 35, f 36, f 37] from rfl]
    rw [h2, h3, h4, h5]
    obtain ⟨pv, po, hpb, ⟨-, ta, tc, rfl, -⟩, -⟩ := hps.blk
    obtain ⟨s0, s1, s2, s3⟩ := cells4p hpb
    have HEX := Lib.hid hex
    have HBX := Lib.hid hbx
    have HND := Lib.hid hnd
    have HPB := Lib.hid hpb
    have HKW := Lib.hid hkw
    clear hc h2 h3 h4 h5 hex hbx hnd hps hkw hpb
    by_cases herr : s'.err = 0
    · have herr' : (s'.err == 0) = true := by simp [herr]
      obtain ⟨d0, d1, d2, d3, d4, d5, d6⟩ := cells7 HBX.out
      have f6 := frozenP HBX.out
      go_wp2_with fail
      obtain ⟨hb7, hk7⟩ := set7 HBX.out (.int .i64 kindA) (.int .i64 numA) (.string ⟨nameA.toArray⟩) (.int .i64 atA) (.slice p1A n1A c1A) (.slice p2A n2A c2A) (.slice p3A n3A c3A)
      refine bodyPost_ret (results_node_tmp2 (ty := 29) rfl _ _ B _ _ _ _ rfl hb7 Tryz.underlying29 rfl node_size) rfl ?_
      obtain ⟨hB, hq, hq2⟩ := HQ.out
      exact ⟨n, s', HEX.out, (HKW.out.mono (G := [B]) (by simp)).trans hk7 (by simp) |>.mono (fun b hb hl => by simp at hb; omega), .inl ⟨herr, _, rfl, HND.out.up hk7 (by simp; omega) (by omega)⟩⟩
    · have herr' : (s'.err == 0) = false := beq_eq_false_iff_ne.2 herr
      obtain ⟨d0, d1, d2, d3, d4, d5, d6⟩ := cells7 HBX.out
      have f6 := frozenP HBX.out
      have hqB : q ≠ B := by have := HQ.out; omega
      go_wp2_with fail
      refine wp_regionB [8, 9, 10] (fun w1' => w1'.heap[q]? = some (.cells #[.slice ta s'.toks.length tc, .int .i64 s'.en, .int .i64 s'.err, .int .i64 s'.at_] 79 (0, 0))) (by kernel_rfl) ?_
      refine wpAnyB_takeY (i := 0) (v := ?vA0) rfl (by kernel_rfl) (by kernel_rfl) (by kernel_rfl) (by kernel_rfl) (fun _ _ _ h => h) (Or.inl ⟨by kernel_rfl, ?runA0⟩) ?_
      case runA0 => (intro w9 _; go_simp; try exact rfl)
      try simp only [Act.put, List.setIfInBounds_toArray, List.set_cons_zero, List.set_cons_succ]
      refine wpAnyB_takeY (i := 1) (v := ?vA1) rfl (by kernel_rfl) (by kernel_rfl) (by kernel_rfl) (by kernel_rfl) (fun _ _ _ h => h) (Or.inl ⟨by kernel_rfl, ?runA1⟩) ?_
      case runA1 => (intro w9 _; go_simp; try exact rfl)
      try simp only [Act.put, List.setIfInBounds_toArray, List.set_cons_zero, List.set_cons_succ]
      refine wpAnyB_takeY (i := 2) (v := ?vA2) rfl (by kernel_rfl) (by kernel_rfl) (by kernel_rfl) (by kernel_rfl) (fun _ _ _ h => h) (Or.inl ⟨by kernel_rfl, ?runA2⟩) ?_
      case runA2 => (intro w9 _; go_simp; try exact rfl)
      try simp only [Act.put, List.setIfInBounds_toArray, List.set_cons_zero, List.set_cons_succ]
      refine wpAnyB_takeY (i := 3) (v := ?vA3) rfl (by kernel_rfl) (by kernel_rfl) (by kernel_rfl) (by kernel_rfl) (fun _ _ _ h => h) (Or.inl ⟨by kernel_rfl, ?runA3⟩) ?_
      case runA3 => (intro w9 _; go_simp; try exact rfl)
      try simp only [Act.put, List.setIfInBounds_toArray, List.set_cons_zero, List.set_cons_succ]
      refine wpAnyB_takeY (i := 5) (v := ?vA5) rfl (by kernel_rfl) (by kernel_rfl) (by kernel_rfl) (by kernel_rfl) (fun _ _ _ h => h) (Or.inl ⟨by kernel_rfl, ?runA5⟩) ?_
      case runA5 => (intro w9 _; go_simp; try exact rfl)
      try simp only [Act.put, List.setIfInBounds_toArray, List.set_cons_zero, List.set_cons_succ]
      refine wpAnyB_takeY (i := 6) (v := ?vA6) rfl (by kernel_rfl) (by kernel_rfl) (by kernel_rfl) (by kernel_rfl) (fun _ _ _ h => h) (Or.inl ⟨by kernel_rfl, ?runA6⟩) ?_
      case runA6 => (intro w9 _; go_simp; try exact rfl)
      try simp only [Act.put, List.setIfInBounds_toArray, List.set_cons_zero, List.set_cons_succ]
      refine wpAnyB_takeY (i := 7) (v := ?vA7) rfl (by kernel_rfl) (by kernel_rfl) (by kernel_rfl) (by kernel_rfl) (fun _ _ _ h => h) (Or.inl ⟨by kernel_rfl, ?runA7⟩) ?_
      case runA7 => (intro w9 _; go_simp; try exact rfl)
      try simp only [Act.put, List.setIfInBounds_toArray, List.set_cons_zero, List.set_cons_succ]
      refine wpAnyB_take [8, 9] (i := 4) (v := ?vA4) rfl (by kernel_rfl) (by kernel_rfl) (by kernel_rfl) (by kernel_rfl) (by kernel_rfl) (fun _ _ _ h => h) (Or.inl ⟨by kernel_rfl, ?runA4⟩) ((blkK HPB.out (Keep.refl [] _).drew (by simp))) ?_
      case runA4 => (intro w9 hS9; obtain ⟨y0, y1, y2, y3⟩ := cells4p hS9; go_simp; try exact rfl)
      try simp only [Act.put, List.setIfInBounds_toArray, List.set_cons_zero, List.set_cons_succ]
      refine wpAnyB_take [9, 10] (i := 8) (v := ?vA8) rfl (by kernel_rfl) (by kernel_rfl) (by kernel_rfl) (by kernel_rfl) (by kernel_rfl) (fun _ _ _ h => h) (Or.inl ⟨by kernel_rfl, ?runA8⟩) ((blkK HPB.out (Keep.refl [] _).drew (by simp))) ?_
      case runA8 => (intro w9 hS9; obtain ⟨y0, y1, y2, y3⟩ := cells4p hS9; go_simp; try exact rfl)
      try simp only [Act.put, List.setIfInBounds_toArray, List.set_cons_zero, List.set_cons_succ]
      obtain ⟨hb7, hk7⟩ := set7 HBX.out (.int .i64 0) (.int .i64 0) (.string ⟨#[]⟩) (.int .i64 0) (.slice none 0 0) (.slice none 0 0) (.slice none 0 0)
      have hpb7 := blkK (blkK HPB.out hk7 (by simpa using hqB)) (Keep.refl [] _).drew (by simp)
      refine wpAnyB_ready (rs := [9]) (by kernel_rfl) (by simp) ?_
      refine AllReadyB.cons rfl (fun K hK => ?_) AllReadyB.nil
      go_simp
      refine hK.out _ _ (fun h => hpb7) ?_
      clear hK K
      try simp only [Act.put, List.setIfInBounds_toArray, List.set_cons_zero, List.set_cons_succ]
      refine wpAnyB_take [] (i := 10) (v := ?vA10) rfl (by kernel_rfl) (by kernel_rfl) (by kernel_rfl) (by kernel_rfl) (by kernel_rfl) (fun _ _ _ h => h) (Or.inl ⟨by kernel_rfl, ?runA10⟩) (hpb7) ?_
      case runA10 => (intro w9 hS9; obtain ⟨y0, y1, y2, y3⟩ := cells4p hS9; go_simp; try exact rfl)
      try simp only [Act.put, List.setIfInBounds_toArray, List.set_cons_zero, List.set_cons_succ]
      refine wpAnyB_takeY (i := 11) (v := ?vA11) rfl (by kernel_rfl) (by kernel_rfl) (by kernel_rfl) (by kernel_rfl) (fun _ _ _ h => h) (Or.inl ⟨by kernel_rfl, ?runA11⟩) ?_
      case runA11 => (intro w9 _; go_simp; try exact rfl)
      try simp only [Act.put, List.setIfInBounds_toArray, List.set_cons_zero, List.set_cons_succ]
      refine wpAnyB_done (by kernel_rfl) ?_ _
      clear d0 d1 d2 d3 d4 d5 d6 f6 s0 s1 s2 s3
      go_wp2_with fail
      have hb8 := blkK hb7 (Keep.refl [] _).drew (by simp)
      refine bodyPost_ret (results_node_tmp2 (ty := 29) rfl _ _ B _ _ _ _ rfl hb8 Tryz.underlying29 rfl node_size) rfl ?_
      obtain ⟨hB, hq, hq2⟩ := HQ.out
      exact ⟨n, s', HEX.out, ((HKW.out.mono (G := [B]) (by simp)).trans hk7 (by simp)).drew.mono (fun b hb hl => by simp at hb; omega), .inr ⟨herr, rfl⟩⟩
  have HCUT := Lib.hid hcut
  clear hcut a_out
  by_cases herr : (beginS bs).err = 0
  · have herr' : ((beginS bs).err == 0) = true := by simp [herr]
    have hcall := (allC (q + 1) q (32 * (beginS bs).toks.length + 10)).expr (d := 0) HPS2.out (by have := HQ.out.2.2; omega) (by have := HBL.out; omega) (by omega)
    have HCALL := Lib.hid hcall
    clear hcall
    go_wp2_with fail
    refine HCALL.out.mono ?_
    rintro e w3 ⟨cs, n, t3, rfl, hev3, hnd3, hps3, hle3, hk3⟩
    obtain ⟨kindA, numA, atA, nameA, p1A, n1A, c1A, p2A, n2A, c2A, p3A, n3A, c3A, rfl, -⟩ := id hnd3.un7s
    obtain ⟨hB, hq, hq2⟩ := HQ.out
    have hb3 := blkK HB2.out hk3 (by simp; omega)
    obtain ⟨d0, d1, d2, d3, d4, d5, d6⟩ := cells7 hb3
    have f3 := frozenP hb3
    obtain ⟨hb4, hk4⟩ := set7 hb3 (.int .i64 kindA) (.int .i64 numA) (.string ⟨nameA.toArray⟩) (.int .i64 atA) (.slice p1A n1A c1A) (.slice p2A n2A c2A) (.slice p3A n3A c3A)
    have hps4 := hps3.keepZ hb3 (by omega) hk4
    have hnd4 := hnd3.up (lo' := q + 1) hk4 (by simp; omega) (by omega)
    have hkw4 := (((HK2.out.mono (G := [q, B]) (by simp)).trans hk3 (by simp)).trans hk4 (by simp)).mono (G := []) (fun b hb hl => by simp at hb; omega)
    obtain ⟨pv, po, hpb4, ⟨-, ta4, tc4, rfl, -⟩, -⟩ := hps4.blk
    clear s0 s1 s2 s3
    obtain ⟨s0, s1, s2, s3⟩ := cells4p hpb4
    have HPS4 := Lib.hid hps4
    have HB4 := Lib.hid hb4
    have HND4 := Lib.hid hnd4
    have HKW4 := Lib.hid hkw4
    have HEV3 := Lib.hid hev3
    clear hev3 hnd3 hps3 hle3 hk3 hB hq hq2 hb3 hb4 hk4 hps4 hnd4 hkw4 hpb4 HCALL HB2 HPS2 HK2
    go_upto_region 4 with fail
    generalize (((((((w3.setCell ⟨B, 0, none⟩ (.int .i64 kindA)).setCell ⟨B, 1, none⟩ (.int .i64 numA)).setCell ⟨B, 2, none⟩ (.string ⟨nameA.toArray⟩)).setCell ⟨B, 3, none⟩ (.int .i64 atA)).setCell ⟨B, 4, none⟩ (.slice p1A n1A c1A)).setCell ⟨B, 5, none⟩ (.slice p2A n2A c2A)).setCell ⟨B, 6, none⟩ (.slice p3A n3A c3A)) = w4 at *
    clear d0 d1 d2 d3 d4 d5 d6 f3
    by_cases ht : t3.toks = []
    · have ht' : ¬ (0 : Int) < (t3.toks.length : Int) := by simp [ht]
      go_wp2_with fail
      refine HCUT.out _ _ (CutF.mk rfl ⟨rfl, rfl, rfl, rfl, n, t3, _, .inl ⟨herr, t3, HEV3.out, by rw [if_pos ht]⟩, HB4.out, HND4.out, HPS4.out, HKW4.out⟩)
    · have ht' : (0 : Int) < (t3.toks.length : Int) := by have := List.length_pos_iff.2 ht; omega
      have HF := Lib.hid (p_fails HPS4.out 110)
      go_wp2_with fail
      refine HF.out.mono ?_
      rintro e w5 ⟨rfl, hps5, hk5⟩
      obtain ⟨hB, hq, hq2⟩ := HQ.out
      have hb5 := blkK HB4.out hk5 (by simp; omega)
      have hnd5 := HND4.out.up hk5 (by simp) (Nat.le_refl _)
      have hkw5 := ((HKW4.out.mono (G := [q]) (by simp)).trans hk5 (by simp)).mono (G := []) (fun b hb hl => by simp at hb; omega)
      have HFIN := Lib.hid (And.intro hb5 (And.intro hnd5 (And.intro hps5 hkw5)))
      clear hb5 hnd5 hkw5 hps5 hk5 hB hq hq2 s0 s1 s2 s3
      go_wp2_with fail
      exact HCUT.out _ _ (CutF.mk rfl ⟨rfl, rfl, rfl, rfl, n, _, _, .inl ⟨herr, t3, HEV3.out, by rw [if_neg ht]⟩, HFIN.out.1, HFIN.out.2.1, HFIN.out.2.2.1, HFIN.out.2.2.2⟩)
  · have herr' : ((beginS bs).err == 0) = false := beq_eq_false_iff_ne.2 herr
    go_wp2_with fail
    exact HCUT.out _ _ (CutF.mk rfl ⟨rfl, rfl, rfl, rfl, nd0, beginS bs, _, .inr ⟨herr, rfl⟩, HB2.out, NdR.mk7 (kind := 0) (num := 0) (name := []) (NsR.nil _ _ false) (NsR.nil _ _ true) (NsR.nil _ _ false), HPS2.out, HK2.out⟩)
end Go.Proofs.YtdmmhfbafinkpaaGreatDoor
