import Derived.Test.YtdmmhfbafinkpaaGreatDoorPa10
import Derived.WalkSpells
/- Parse: leaf. -/
namespace Go.Proofs.YtdmmhfbafinkpaaGreatDoor
open Go.RowKit Go.Emb

theorem keyI : KeyEnc Tryz.prog 3 (Value.int .i64) where
  same := ⟨.int .i64, Tryz.underlying3, fun x y => by simp [Instr.sameNow]; rw [Bool.eq_iff_iff]; simp⟩
  check := fun em x w => MapKept.run_checkKey Tryz.underlying3 (by simp [MapKept.IsKey]) em 9999
  stays := fun x w => MapKept.run_keyThatStays (d := .int .i64) (by simp [MapKept.IsKey])
theorem wpList_mapA_insert {P : Program} (w : World) {ops : Array Oper} {rest : List Oper} {o : Oper} {a : Act} {Q : Exit → Act → World → Prop} {α : Type} [DecidableEq α] {enc : α → Value} (hg : o.guard = none) (m x v : Operand) (T : TypeId) (hop : o.op = Op.insert T m x v)
    (K E : TypeId) (L : KeyEnc P K enc) (ht : P.underlying T = some (.map K E)) (b : Nat) (ps : List (α × Value)) (hm : a.eval m = .map (some b)) (hown : MapA enc w b ps) (key : α) (hx : a.eval x = enc key) (val : Value) (hv : a.eval v = val)
    (hK : ∀ w', MapA enc w' b (mput ps key val) → Keep [b] w w' → wpList P ops Q rest (a.put o.dst undef) w') : wpList P ops Q (o :: rest) a w := by
  refine wpList_plain hg fun K' hK' => ?_
  obtain ⟨w', hrun, r1, r2⟩ := hown.update L ht key val
  unfold Oper.wp
  simp [execOp, hop, hm, hx, hv, hrun, Result.andThen]
  exact hK' _ _ (hK w' r1 r2)
theorem results_node_tmp {P : Program} {fn : Func} {p t : Tmp} {ty : TypeId} (h : fn.results = #[.cell p ty, .tmp t]) (tmps : Array Value) (w : World) (g : Nat) (tt : TypeId) (cs : Array Value) (fr : Nat × Nat) (d : TypeDesc)
    (hp : tmps.getD p undef = .pointer (some ⟨g, 0, none⟩)) (hg : w.heap[g]? = some (.cells cs tt fr))
    (hu : P.underlying ty = some d) (hd : (match d with | .struct _ | .array _ _ => true | _ => false) = true) (hi : (P.info? ty).map (·.size) = some cs.size) :
    (results fn tmps).run P w = .ok (.tuple #[.agg cs, tmps.getD t undef]) w := by
  have hp' : tmps[p]?.getD undef = .pointer (some ⟨g, 0, none⟩) := by simpa using hp
  simp [results, h, hp', asAddr, run_loadVar_row w g tt ty cs fr d hg hu hd hi]
theorem zeroI (w : World) : (zeroValue 3).run Tryz.prog w = .ok (.int .i64 0) w := by kernel_rfl
/-- what leaf answers -/
def LeafP (lo : Nat) (w : World) (pb : Nat) (s : St) (e : Ending) (w' : World) : Prop :=
  ∃ (k i at_ : Int) (nm : List UInt8), e = .returned (.tuple #[.agg #[.int .i64 k, .int .i64 i, .string ⟨nm.toArray⟩, .int .i64 at_, .slice none 0 0, .slice none 0 0, .slice none 0 0], .bool (leafS s).1.isSome]) ∧ (∀ n, (leafS s).1 = some n → n = .mk k i nm [] [] []) ∧ PS lo w' pb (leafS s).2 ∧ Keep [pb] w w'
/-- the table of the leaves' kinds -/
abbrev leafPs : List (Int × Value) := mput (mput (mput [] 1 (.int .i64 1)) 2 (.int .i64 2)) 3 (.int .i64 3)
theorem leaf_find (k : Int) : (mfind leafPs k).getD (.int .i64 0) = .int .i64 (if 1 ≤ k ∧ k ≤ 3 then k else 0) ∧ (mfind leafPs k).isSome = decide (1 ≤ k ∧ k ≤ 3) := by
  by_cases h1 : k = 1
  · subst h1; exact ⟨rfl, rfl⟩
  by_cases h2 : k = 2
  · subst h2; exact ⟨rfl, rfl⟩
  by_cases h3 : k = 3
  · subst h3; exact ⟨rfl, rfl⟩
  have h : mfind leafPs k = none := mfind_none.2 (by
    intro p hp
    have : leafPs = [(1, .int .i64 1), (2, .int .i64 2), (3, .int .i64 3)] := rfl
    rw [this] at hp
    simp at hp
    rcases hp with rfl | rfl | rfl <;> simp <;> omega)
  have hn : ¬ (1 ≤ k ∧ k ≤ 3) := by omega
  rw [h, if_neg hn]
  exact ⟨rfl, by simp [hn]⟩
set_option maxRecDepth 100000 in
set_option maxHeartbeats 1000000 in
theorem p_leaf {lo : Nat} {w : World} {pb : Nat} {s : St} (h : PS lo w pb s) (hlo : lo ≤ w.heap.size) :
    Calls Tryz.prog 143 #[.pointer (some ⟨pb, 0, none⟩)] w (LeafP lo w pb s) := by
  have hplo := h.plo
  have hk1 := (Keep.refl [] w).alloc zN
  have hb1 := heap_alloc_new w zN
  have hp1 := h.keep0 hk1
  have HPLO := Lib.hid hplo
  have HLO := Lib.hid hlo
  have HK1 := Lib.hid hk1
  have HB1 := Lib.hid hb1
  have HPS1 := Lib.hid hp1
  obtain ⟨v, o, hb, hrd, ho⟩ := hp1.blk
  obtain ⟨s0, s1, s2, s3⟩ := cells4p hb
  have f0 := frozenP hb
  have HB := Lib.hid hb
  have HO := Lib.hid ho
  clear h hlo hplo hk1 hp1 hb ho
  obtain ⟨toks, en, err, at_⟩ := s
  cases toks with
  | nil =>
    obtain ⟨a, c, rfl⟩ := toks_nil hrd
    obtain ⟨d0, d1, d2, d3, d4, d5, d6⟩ := cells7 hb1
    have f1 := frozenP hb1
    clear hrd hb1
    simp only at s0 s1 s2 s3
    go_enter Tryz.func143, Tryz.ntmps143
    go_wp2_with fail
    refine bodyPost_ret (results_node_tmp (ty := 29) rfl _ _ w.heap.size _ _ _ _ rfl HB1.out Tryz.underlying29 rfl node_size) rfl ?_
    exact ⟨0, 0, 0, [], rfl, fun n h => (nomatch h), HPS1.out, HK1.out.mono (by simp)⟩
  | cons x r =>
    obtain ⟨tb, toff, tc, rfl, rfl, htc, c0, c1, c2, c3, hrd2⟩ := toks_at hrd
    have c4 : (w.alloc zN).cell? ⟨tb, toff + 4, none⟩ = some (.int .i64 (x.2 + x.1.en : Nat)) := by
      obtain ⟨-, a', c', e, h1, h2, h3⟩ := hrd
      cases e
      rcases h3 with ⟨h3, _⟩ | ⟨b', off', e', e'', h3⟩
      · cases h3
      · cases e'
        simpa [encK] using h3 4 (by simp; omega)
    have HRD2 := Lib.hid hrd2
    have HL1 := Lib.hid hb1
    clear hrd hrd2
    simp only at s0 s1 s2 s3
    go_enter Tryz.func143, Tryz.ntmps143
    have hmm := @run_makeMap Tryz.prog
    have hm0 := MapA.made (Value.int .i64) ((w.alloc zN).alloc (.cells #[.int .i64 x.1.kind, .int .i64 x.1.num, .string ⟨x.1.text.toArray⟩, .int .i64 (x.2 : Nat), .int .i64 ((x.2 : Int) + (x.1.en : Int))] 88))
    rw [size_alloc, size_alloc] at hm0
    have HM0 := Lib.hid hm0
    clear hm0
    go_upto_region 5 with (first
      | (refine wpList_mapA_insert _ rfl _ _ _ 175 rfl 3 3 keyI Tryz.underlying175 _ [] rfl HM0.out 1 rfl _ rfl ?_; intro w3 hm3 hk3; have HM3 := Lib.hid hm3; have HK3 := Lib.hid hk3; clear hm3 hk3)
      | (refine wpList_mapA_insert _ rfl _ _ _ 175 rfl 3 3 keyI Tryz.underlying175 _ _ rfl HM3.out 2 rfl _ rfl ?_; intro w4 hm4 hk4; have HM4 := Lib.hid hm4; have HK4 := Lib.hid hk4; clear hm4 hk4)
      | (refine wpList_mapA_insert _ rfl _ _ _ 175 rfl 3 3 keyI Tryz.underlying175 _ _ rfl HM4.out 3 rfl _ rfl ?_; intro w5 hm5 hk5; have HM5 := Lib.hid hm5; have HK5 := Lib.hid hk5; clear hm5 hk5)
      | fail)
    have hk2 := (Keep.refl [] (w.alloc zN)).alloc (.cells #[.int .i64 x.1.kind, .int .i64 x.1.num, .string ⟨x.1.text.toArray⟩, .int .i64 (x.2 : Nat), .int .i64 ((x.2 : Int) + (x.1.en : Int))] 88)
    have ht2 := heap_alloc_new (w.alloc zN) (.cells #[.int .i64 x.1.kind, .int .i64 x.1.num, .string ⟨x.1.text.toArray⟩, .int .i64 (x.2 : Nat), .int .i64 ((x.2 : Int) + (x.1.en : Int))] 88)
    rw [size_alloc] at ht2
    have hk5 : Keep [w.heap.size + 1 + 1] (w.alloc zN) w5 := (((hk2.alloc _).mono (G := [w.heap.size + 1 + 1]) (by simp)).trans HK3.out (by simp)).trans HK4.out (by simp) |>.trans HK5.out (by simp)
    have hn := HLO.out
    have hp := HPLO.out
    have hps5 := HPS1.out.keep hk5 (by simp; omega)
    have hb5 := blkK HL1.out hk5 (by simp; omega)
    have ht5 := blkK (blkK (blkK (blkK ht2 ((Keep.refl [] _).alloc (.map #[] 0)) (by simp)) HK3.out (by simp)) HK4.out (by simp)) HK5.out (by simp)
    have hpb5 := blkK HB.out hk5 (by simp; omega)
    have hrd5 := HRD2.out.keep hk5 (fun b hb => by have := (HO.out b hb).1; simp; omega)
    obtain ⟨d0, d1, d2, d3, d4⟩ := cells5 ht5
    have HPB5 := Lib.hid hpb5
    obtain ⟨p0, p1, p2, p3⟩ := cells4p hpb5
    have f5 := frozenP hpb5
    have HB5 := Lib.hid hb5
    have HKW := Lib.hid ((HK1.out.mono (G := [w.heap.size + 1 + 1]) (by simp)).trans hk5 (by simp))
    have HPS5 := Lib.hid hps5
    have HRD5 := Lib.hid hrd5
    obtain ⟨hz, hs⟩ := leaf_find x.1.kind
    obtain ⟨kk, hkk⟩ : ∃ kk : Int, kk = if 1 ≤ x.1.kind ∧ x.1.kind ≤ 3 then x.1.kind else 0 := ⟨_, rfl⟩
    obtain ⟨ok, hok⟩ : ∃ ok : Bool, ok = decide (1 ≤ x.1.kind ∧ x.1.kind ≤ 3) := ⟨_, rfl⟩
    rw [← hkk] at hz
    rw [← hok] at hs
    have HKK := Lib.hid hkk
    have HOK := Lib.hid hok
    have HZ := Lib.hid hz
    have HS := Lib.hid hs
    have HMP : Hid (MapA (Value.int .i64) w5 (w.heap.size + 1 + 1) leafPs) := HM5
    clear hkk hok hk2 ht2 hk5 hps5 hb5 ht5 hpb5 hrd5 HM0 HM3 HM4 HK3 HK4 HK5 c0 c1 c2 c3 c4 s0 s1 s2 s3 f0 hmm hz hs HK1 HB1 HPS1 HB HL1 HRD2 hb1
    go_upto_region 6 with (at_lookup; refine wpList_mapA_look_ok _ rfl _ _ _ rfl 3 3 keyI Tryz.underlying175 (zeroI _) _ _ rfl HMP.out _ rfl ?_; rw [HZ.out, HS.out])
    by_cases hk : 1 ≤ x.1.kind ∧ x.1.kind ≤ 3
    · obtain rfl : ok = true := by rw [HOK.out]; simp [hk]
      obtain rfl : kk = x.1.kind := by rw [HKK.out, if_pos hk]
      have hsl : ∀ W, (Instr.slice 46 (.slice (some ⟨tb, toff, none⟩) (r.length + 1) tc) (some (.int .i64 1)) none none).run Tryz.prog W = .ok (.slice (some ⟨tb, sliceOff toff tc 1 5, none⟩) r.length (tc - 1)) W := by
        intro W
        exact run_slice_lo W Tryz.underlying46 (fun _ => by kernel_rfl) tb toff (r.length + 1) tc 1 (by omega)
      have hko : Keep [pb] w5 (w5.setCell ⟨pb, 0, none⟩ (.slice (some ⟨tb, sliceOff toff tc 1 5, none⟩) r.length (tc - 1))) := Keep.set1 w5 ⟨pb, 0, none⟩ _
      have hps6 : PS lo (w5.setCell ⟨pb, 0, none⟩ (.slice (some ⟨tb, sliceOff toff tc 1 5, none⟩) r.length (tc - 1))) pb ⟨r, en, err, at_⟩ :=
        HPS5.out.written hko (by simpa using heap_setCell_at (i := 0) HPB5.out (.slice (some ⟨tb, sliceOff toff tc 1 5, none⟩) r.length (tc - 1))) HRD5.out HO.out
      have hb6 := blkK HB5.out hko (by simp; omega)
      obtain ⟨g0, g1, g2, g3, g4, g5, g6⟩ := cells7 HB5.out
      have f6 := frozenP HB5.out
      have HB6 := Lib.hid hb6
      have HPS6 := Lib.hid hps6
      have HKO := Lib.hid hko
      have hne : w.heap.size ≠ pb := by omega
      have hne2 : w.heap.size + 1 ≠ pb := by omega
      clear hb6 hps6 hko htc
      go_wp2_with fail
      obtain ⟨hb7, hk7⟩ := set7 HB6.out (.int .i64 x.1.kind) (.int .i64 x.1.num) (.string ⟨x.1.text.toArray⟩) (.int .i64 (x.2 : Nat)) (.slice none 0 0) (.slice none 0 0) (.slice none 0 0)
      refine bodyPost_ret (results_node_tmp (ty := 29) rfl _ _ w.heap.size _ _ _ _ rfl hb7 Tryz.underlying29 rfl node_size) rfl ?_
      have hlf : leafS ⟨x :: r, en, err, at_⟩ = (some (.mk x.1.kind x.1.num x.1.text [] [] []), ⟨r, en, err, at_⟩) := by
        unfold leafS
        simp only
        rw [if_pos hk]
      unfold LeafP
      rw [hlf]
      exact ⟨x.1.kind, x.1.num, (x.2 : Nat), x.1.text, rfl, fun n h => (Option.some.inj h).symm, HPS6.out.keep hk7 (by simp; exact hn), keepB (lo := w.heap.size) (((HKW.out.mono (G := [pb, w.heap.size, w.heap.size + 1 + 1]) (by simp)).trans HKO.out (by simp)).trans hk7 (by simp)) (by simp; omega) (Nat.le_refl _)⟩
    · obtain rfl : ok = false := by rw [HOK.out]; exact decide_eq_false hk
      obtain rfl : kk = 0 := by rw [HKK.out, if_neg hk]
      obtain ⟨g0, g1, g2, g3, g4, g5, g6⟩ := cells7 HB5.out
      have f6 := frozenP HB5.out
      go_wp2_with fail
      obtain ⟨hb7, hk7⟩ := set7 HB5.out (.int .i64 0) (.int .i64 x.1.num) (.string ⟨x.1.text.toArray⟩) (.int .i64 (x.2 : Nat)) (.slice none 0 0) (.slice none 0 0) (.slice none 0 0)
      refine bodyPost_ret (results_node_tmp (ty := 29) rfl _ _ w.heap.size _ _ _ _ rfl hb7 Tryz.underlying29 rfl node_size) rfl ?_
      have hlf : leafS ⟨x :: r, en, err, at_⟩ = (none, ⟨x :: r, en, err, at_⟩) := by
        unfold leafS
        simp only
        rw [if_neg hk]
      unfold LeafP
      rw [hlf]
      exact ⟨0, x.1.num, (x.2 : Nat), x.1.text, rfl, fun n h => (nomatch h), HPS5.out.keep hk7 (by simp; exact hn), keepB (lo := w.heap.size) ((HKW.out.mono (G := [pb, w.heap.size, w.heap.size + 1 + 1]) (by simp)).trans hk7 (by simp)) (by simp; omega) (Nat.le_refl _)⟩
end Go.Proofs.YtdmmhfbafinkpaaGreatDoor
