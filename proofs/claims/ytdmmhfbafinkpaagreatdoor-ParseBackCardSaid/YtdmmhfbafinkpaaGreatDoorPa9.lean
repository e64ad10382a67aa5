import Derived.Test.YtdmmhfbafinkpaaGreatDoorPa8
import Derived.Test.YtdmmhfbafinkpaaGreatDoorBaseTake
/- Parse: binary. Printed by gen-pa9.py. -/
namespace Go.Proofs.YtdmmhfbafinkpaaGreatDoor
open Go.RowKit Go.Emb

set_option maxRecDepth 100000 in
set_option maxHeartbeats 1000000 in
theorem w_binary5 {lo pb : Nat} {w : World} {s : St} {d : Nat} (ih : AllC lo pb (32 * s.toks.length + 3)) (h : PS lo w pb s) (hlo : lo ≤ w.heap.size) (hd : d + s.toks.length ≤ 1000000) :
    Calls Tryz.prog 66 #[.pointer (some ⟨pb, 0, none⟩), .int .i64 5, .int .i64 d] w (NodeP lo w pb (fun n => binary n 5 d) s) := by
  have hplo := h.plo
  have hk1 := (Keep.refl [] w).alloc zN
  have hb1 := heap_alloc_new w zN
  have hcall := ih.unary (d := d) (h.keep0 hk1) (Nat.le_trans hlo hk1.size) hd (by omega)
  have HCALL := Lib.hid hcall
  have HB1 := Lib.hid hb1
  have HK1 := Lib.hid hk1
  have HLO := Lib.hid hlo
  have HPLO := Lib.hid hplo
  clear ih h hlo hd hplo hcall hk1 hb1
  go_enter Tryz.func66, Tryz.ntmps66
  go_wp2_with fail
  refine HCALL.out.mono ?_
  rintro e w4 ⟨cs, n, s', rfl, hev, hnd, hps, hle, hk4⟩
  obtain ⟨kindA, numA, atA, nameA, p1A, n1A, c1A, p2A, n2A, c2A, p3A, n3A, c3A, rfl, -⟩ := id hnd.un7s
  have hne : w.heap.size ≠ pb := by have := HPLO.out; have := HLO.out; omega
  have hb4 := blkK HB1.out hk4 (by simp; exact hne)
  obtain ⟨d0, d1, d2, d3, d4, d5, d6⟩ := cells7 hb4
  have f4 := frozenP hb4
  have HEV := Lib.hid hev
  have HND := Lib.hid hnd
  have HPS := Lib.hid hps
  have HLE := Lib.hid hle
  have HK4 := Lib.hid hk4
  have HB4 := Lib.hid hb4
  clear hev hnd hps hle hk4 hb4 hne
  go_wp2_with fail
  obtain ⟨hb5, hk5⟩ := set7 HB4.out (.int .i64 kindA) (.int .i64 numA) (.string ⟨nameA.toArray⟩) (.int .i64 atA) (.slice p1A n1A c1A) (.slice p2A n2A c2A) (.slice p3A n3A c3A)
  refine bodyPost_ret (results_cell_row (ty := 29) rfl _ _ w.heap.size _ _ _ _ rfl hb5 Tryz.underlying29 rfl node_size) rfl ?_
  have hP := HPLO.out
  have hL := HLO.out
  have hs := HK1.out.size
  refine ⟨_, n, s', rfl, Ev.of_binary_5 HEV.out, HND.out.up hk5 (by simp) hs, HPS.out.keep hk5 (by simp; omega), HLE.out, ?_⟩
  exact keepB (lo := w.heap.size) (((HK1.out.mono (G := [pb]) (by simp)).trans HK4.out (by simp)).mono (G := [pb, w.heap.size]) (by simp) |>.trans hk5 (by simp)) (by simp) (Nat.le_refl _)
set_option maxRecDepth 100000 in
set_option maxHeartbeats 4000000 in
theorem w_binary {lo pb : Nat} {w : World} {s : St} {v d : Nat} (ih : AllC lo pb (32 * s.toks.length + 3 + (5 - v))) (h : PS lo w pb s) (hlo : lo ≤ w.heap.size) (hd : d + s.toks.length ≤ 1000000) (hv : v < 5) :
    Calls Tryz.prog 66 #[.pointer (some ⟨pb, 0, none⟩), .int .i64 v, .int .i64 d] w (NodeP lo w pb (fun n => binary n v d) s) := by
  have hplo := h.plo
  have hk1 := (Keep.refl [] w).alloc zN
  have hb1 := heap_alloc_new w zN
  have hcall := ih.binary (v := v + 1) (d := d) (h.keep0 hk1) (Nat.le_trans hlo hk1.size) hd (by omega) (by omega)
  rw [show ((v + 1 : Nat) : Int) = (v : Int) + 1 from by omega] at hcall
  have HCALL := Lib.hid hcall
  have hnext := fun (W : World) (s1 : St) (hW : PS lo W pb s1) (hl : lo ≤ W.heap.size) (hle : s1.toks.length + 1 ≤ s.toks.length) => ih.binary (v := v + 1) (d := d) hW hl (by omega) (by omega) (by omega)
  have HNEXT := Lib.hid hnext
  have HB1 := Lib.hid hb1
  have HK1 := Lib.hid hk1
  have HLO := Lib.hid hlo
  have HPLO := Lib.hid hplo
  have hvv : IntKind.i64.wrap ((v : Int) + 1) = (v : Int) + 1 := IntWalk.i64_in _ (by omega)
  have hv5 : ((v : Int) == 5) = false := beq_eq_false_iff_ne.2 (by omega)
  have hv5' : (v : Int) < 5 := by omega
  have hv0 : ¬ (v : Int) < 0 := by omega
  obtain ⟨B, hB⟩ : ∃ B, B = w.heap.size := ⟨_, rfl⟩
  have HV := Lib.hid hv
  clear ih h hlo hd hplo hcall hk1 hb1 hnext hv
  go_enter Tryz.func66, Tryz.ntmps66
  go_wp2_with fail
  refine HCALL.out.mono ?_
  rintro e w4 ⟨cs, a, s2, rfl, hev, hnd, hps, hle, hk4⟩
  rw [← hB]
  rw [← hB] at HB1
  obtain ⟨kindA, numA, atA, nameA, p1A, n1A, c1A, p2A, n2A, c2A, p3A, n3A, c3A, rfl, -⟩ := id hnd.un7s
  have hBp : B ≠ pb := by have := HPLO.out; have := HLO.out; omega
  have hb4 := blkK HB1.out hk4 (by simp; exact hBp)
  have hk5 := (Keep.refl [] w4).alloc (.cells #[.int .i64 kindA, .int .i64 numA, .string ⟨nameA.toArray⟩, .int .i64 atA, .slice p1A n1A c1A, .slice p2A n2A c2A, .slice p3A n3A c3A] 29)
  have hA5 := heap_alloc_new w4 (.cells #[.int .i64 kindA, .int .i64 numA, .string ⟨nameA.toArray⟩, .int .i64 atA, .slice p1A n1A c1A, .slice p2A n2A c2A, .slice p3A n3A c3A] 29)
  have hb5 := blkK hb4 hk5 (by simp)
  have hs4 := hk4.size
  rw [size_alloc, ← hB] at hs4
  have hnd5 : NdR (FrsX (B + 1) (w4.alloc (.cells #[.int .i64 kindA, .int .i64 numA, .string ⟨nameA.toArray⟩, .int .i64 atA, .slice p1A n1A c1A, .slice p2A n2A c2A, .slice p3A n3A c3A] 29)) (some w4.heap.size)) (w4.alloc (.cells #[.int .i64 kindA, .int .i64 numA, .string ⟨nameA.toArray⟩, .int .i64 atA, .slice p1A n1A c1A, .slice p2A n2A c2A, .slice p3A n3A c3A] 29)) false _ a := (hnd.fix.keepI hk5 (by simp)).mono (fun b h => ⟨by have := h.1; rw [size_alloc, ← hB] at this; exact this, by have := h.2; rw [size_alloc]; omega, fun e => by cases e; have := h.2; omega⟩)
  have hkw5 : Keep [pb] w (w4.alloc (.cells #[.int .i64 kindA, .int .i64 numA, .string ⟨nameA.toArray⟩, .int .i64 atA, .slice p1A n1A c1A, .slice p2A n2A c2A, .slice p3A n3A c3A] 29)) := ((HK1.out.mono (G := [pb]) (by simp)).trans hk4 (by simp)).trans hk5 (by simp)
  have hps5 := hps.keep0 hk5
  have HINIT := Lib.hid (show ∃ (a : Nd) (si : St) (cs : List Value), (w4.alloc (.cells #[.int .i64 kindA, .int .i64 numA, .string ⟨nameA.toArray⟩, .int .i64 atA, .slice p1A n1A c1A, .slice p2A n2A c2A, .slice p3A n3A c3A] 29)).heap[w4.heap.size]? = some (.cells cs.toArray 29 (0, 0)) ∧ (w4.alloc (.cells #[.int .i64 kindA, .int .i64 numA, .string ⟨nameA.toArray⟩, .int .i64 atA, .slice p1A n1A c1A, .slice p2A n2A c2A, .slice p3A n3A c3A] 29)).heap[B]? = some zN ∧ NdR (FrsX (B + 1) (w4.alloc (.cells #[.int .i64 kindA, .int .i64 numA, .string ⟨nameA.toArray⟩, .int .i64 atA, .slice p1A n1A c1A, .slice p2A n2A c2A, .slice p3A n3A c3A] 29)) (some w4.heap.size)) (w4.alloc (.cells #[.int .i64 kindA, .int .i64 numA, .string ⟨nameA.toArray⟩, .int .i64 atA, .slice p1A n1A c1A, .slice p2A n2A c2A, .slice p3A n3A c3A] 29)) false cs a ∧ PS lo (w4.alloc (.cells #[.int .i64 kindA, .int .i64 numA, .string ⟨nameA.toArray⟩, .int .i64 atA, .slice p1A n1A c1A, .slice p2A n2A c2A, .slice p3A n3A c3A] 29)) pb si ∧ Keep [pb] w (w4.alloc (.cells #[.int .i64 kindA, .int .i64 numA, .string ⟨nameA.toArray⟩, .int .i64 atA, .slice p1A n1A c1A, .slice p2A n2A c2A, .slice p3A n3A c3A] 29)) ∧ si.toks.length ≤ s.toks.length ∧ ∀ r s', Ev (fun n => binLoop n v d a) si r s' → Ev (fun n => binary n v d) s r s' from
    ⟨a, s2, _, hA5, hb5, hnd5, hps5, hkw5, hle, fun r s' h => Ev.of_binary_lt (by have := HV.out; omega) hev h⟩)
  obtain ⟨A, hA⟩ : ∃ A, A = w4.heap.size := ⟨_, rfl⟩
  have hAB : B + 1 ≤ A := by omega
  rw [← hA] at HINIT
  have HAB := Lib.hid hAB
  have HBB := Lib.hid hB
  clear hev hnd hps hle hk4 hb4 hk5 hA5 hb5 hs4 hnd5 hkw5 hps5 hAB hB hBp HCALL HB1 HK1
  go_wp2_with fail
  rw [← hA]
  clear hA
  generalize w4.alloc (.cells #[.int .i64 kindA, .int .i64 numA, .string ⟨nameA.toArray⟩, .int .i64 atA, .slice p1A n1A c1A, .slice p2A n2A c2A, .slice p3A n3A c3A] 29) = w5 at *
  go_loopw [8] (fun _ wr => ∃ (a : Nd) (si : St) (cs : List Value), wr.heap[A]? = some (.cells cs.toArray 29 (0, 0)) ∧ wr.heap[B]? = some zN ∧ NdR (FrsX (B + 1) wr (some A)) wr false cs a ∧ PS lo wr pb si ∧ Keep [pb] w wr ∧ si.toks.length ≤ s.toks.length ∧ ∀ r s', Ev (fun n => binLoop n v d a) si r s' → Ev (fun n => binary n v d) s r s') (fun _ wr => plen wr pb)
  case atStart => exact HINIT.out
  case round =>
    obtain ⟨a, si, cs, hA, hB, hnd, hps, hkw, hle, hev⟩ := hrel
    obtain ⟨kindA, numA, atA, nameA, p1A, n1A, c1A, p2A, n2A, c2A, p3A, n3A, c3A, rfl, -⟩ := id hnd.un7s
    clear HINIT
    obtain ⟨sv, so, hcg, hrd, -, -⟩ := hps.lv v HV.out
    have hrt : RdT wr sv (levelsL v) := ⟨so, hrd⟩
    obtain ⟨la, lc, rfl⟩ := hrt.form
    have HTAKE := Lib.hid (p_take hps hrt)
    have HPLC := Lib.hid (p_place hps)
    have HEV := Lib.hid hev
    have HND := Lib.hid hnd
    have HKW := Lib.hid hkw
    have HLE := Lib.hid hle
    have HPN := Lib.hid hps.len
    have HA := Lib.hid hA
    have HB := Lib.hid hB
    have hAp : A ≠ pb := by have := HAB.out; have := HBB.out; have := HPLO.out; have := HLO.out; omega
    have hBp : B ≠ pb := by have := HBB.out; have := HPLO.out; have := HLO.out; omega
    have HAP := Lib.hid hAp
    have HBP := Lib.hid hBp
    clear hA hB hnd hps hkw hle hev hrd hrt hAp hBp
    go_wp2_with (go_at_call 67; refine HPLC.out.mono ?_; rintro e w2' ⟨rfl, rfl⟩)
    refine HTAKE.out.mono ?_
    rintro e w6 ⟨rfl, hps6, hk6⟩
    have hA6 := blkK HA.out hk6 (by simp; exact HAP.out)
    have hB6 := blkK HB.out hk6 (by simp; exact HBP.out)
    have hlw := HLO.out
    have hpl := HPLO.out
    have hbb := HBB.out
    have hnd6 : NdR (FrsX (B + 1) w6 (some A)) w6 false _ a := (HND.out.keep hk6 (fun b hb hc => by simp at hb; have := hc.1; omega)).mono (fun b h => ⟨h.1, Nat.lt_of_lt_of_le h.2.1 hk6.size, h.2.2⟩)
    have hkw6 := HKW.out.trans hk6 (by simp)
    have hl6 := Nat.le_trans hlw hkw6.size
    have HPS6 := Lib.hid hps6
    have HND6 := Lib.hid hnd6
    have HKW6 := Lib.hid hkw6
    have HL6 := Lib.hid hl6
    have HLE6 := Lib.hid (take_len (levelsL v) si)
    have HA6 := Lib.hid hA6
    have HB6 := Lib.hid hB6
    clear hps6 hk6 hA6 hB6 hlw hpl hbb hnd6 hkw6 hl6 hcg HTAKE HPLC HND HKW HA HB
    rcases ho : (takeS (levelsL v) si).1 with _ | t
    · simp only [Option.isSome_none, Option.getD_none]
      obtain ⟨c0, c1, c2, c3, c4, c5, c6⟩ := cells7 HA6.out
      obtain ⟨d0, d1, d2, d3, d4, d5, d6⟩ := cells7 HB6.out
      have f6 := frozenP HB6.out
      have HO := Lib.hid ho
      clear ho
      go_wp2_with fail
      obtain ⟨hb7, hk7⟩ := set7 HB6.out (.int .i64 kindA) (.int .i64 numA) (.string ⟨nameA.toArray⟩) (.int .i64 atA) (.slice p1A n1A c1A) (.slice p2A n2A c2A) (.slice p3A n3A c3A)
      refine bodyPost_ret (results_cell_row (ty := 29) rfl _ _ B _ _ _ _ rfl hb7 Tryz.underlying29 rfl node_size) rfl ?_
      have hbb := HBB.out
      have hlw := HLO.out
      have hpl := HPLO.out
      refine ⟨_, a, _, rfl, HEV.out _ _ (Ev.of_binLoop_none HO.out), (HND6.out.keep hk7 (fun b hb hc => by simp at hb; have := hc.1; omega)).mono (fun b h => ⟨by have := h.1; omega, Nat.lt_of_lt_of_le h.2.1 hk7.size⟩), HPS6.out.keep hk7 (by simp; omega), Nat.le_trans HLE6.out HLE.out, keepB (lo := w.heap.size) ((HKW6.out.mono (G := [pb, B]) (by simp)).trans hk7 (by simp)) (by simp; omega) (Nat.le_refl _)⟩
    · simp only [Option.isSome_some, Option.getD_some]
      obtain ⟨hlt, -⟩ := take_lt ho
      have hcall := HNEXT.out w6.drew _ (HPS6.out.keep0 (Keep.refl [] w6).drew) (Nat.le_trans HL6.out (Keep.refl [] w6).drew.size) (by have := HLE.out; omega)
      rw [show ((v + 1 : Nat) : Int) = (v : Int) + 1 from by omega] at hcall
      have HCALL := Lib.hid hcall
      have HO := Lib.hid ho
      have HLT := Lib.hid hlt
      clear hcall ho hlt
      go_wp2_with fail
      refine wp_regionB [7] (fun w' => w'.heap[A]? = some (.cells #[.int .i64 kindA, .int .i64 numA, .string ⟨nameA.toArray⟩, .int .i64 atA, .slice p1A n1A c1A, .slice p2A n2A c2A, .slice p3A n3A c3A] 29 (0, 0))) (by kernel_rfl) ?_
      have HA6D : Hid (w6.drew.heap[A]? = some (.cells #[.int .i64 kindA, .int .i64 numA, .string ⟨nameA.toArray⟩, .int .i64 atA, .slice p1A n1A c1A, .slice p2A n2A c2A, .slice p3A n3A c3A] 29 (0, 0))) := Lib.hid (blkK HA6.out ((Keep.refl [] w6).drew) (by simp))
      refine wpAnyB_takeY (i := 0) (v := ?vA0) rfl (by kernel_rfl) (by kernel_rfl) (by kernel_rfl) (by kernel_rfl) (fun _ _ _ h => h) (Or.inl ⟨by kernel_rfl, ?runA0⟩) ?_
      case runA0 => (intro w9 _; go_simp; try exact rfl)
      try simp only [Act.put, List.setIfInBounds_toArray, List.set_cons_zero, List.set_cons_succ]
      refine wpAnyB_takeY (i := 1) (v := ?vA1) rfl (by kernel_rfl) (by kernel_rfl) (by kernel_rfl) (by kernel_rfl) (fun _ _ _ h => h) (Or.inl ⟨by kernel_rfl, ?runA1⟩) ?_
      case runA1 => (intro w9 _; go_simp; try exact rfl)
      try simp only [Act.put, List.setIfInBounds_toArray, List.set_cons_zero, List.set_cons_succ]
      refine wpAnyB_takeY (i := 3) (v := ?vA3) rfl (by kernel_rfl) (by kernel_rfl) (by kernel_rfl) (by kernel_rfl) (fun _ _ _ h => h) (Or.inl ⟨by kernel_rfl, ?runA3⟩) ?_
      case runA3 => (intro w9 _; go_simp; try exact rfl)
      try simp only [Act.put, List.setIfInBounds_toArray, List.set_cons_zero, List.set_cons_succ]
      refine wpAnyB_takeY (i := 4) (v := ?vA4) rfl (by kernel_rfl) (by kernel_rfl) (by kernel_rfl) (by kernel_rfl) (fun _ _ _ h => h) (Or.inl ⟨by kernel_rfl, ?runA4⟩) ?_
      case runA4 => (intro w9 _; go_simp; try exact rfl)
      try simp only [Act.put, List.setIfInBounds_toArray, List.set_cons_zero, List.set_cons_succ]
      refine wpAnyB_takeY (i := 5) (v := ?vA5) rfl (by kernel_rfl) (by kernel_rfl) (by kernel_rfl) (by kernel_rfl) (fun _ _ _ h => h) (Or.inl ⟨by kernel_rfl, ?runA5⟩) ?_
      case runA5 => (intro w9 _; go_simp; try exact rfl)
      try simp only [Act.put, List.setIfInBounds_toArray, List.set_cons_zero, List.set_cons_succ]
      refine wpAnyB_takeY (i := 6) (v := ?vA6) rfl (by kernel_rfl) (by kernel_rfl) (by kernel_rfl) (by kernel_rfl) (fun _ _ _ h => h) (Or.inl ⟨by kernel_rfl, ?runA6⟩) ?_
      case runA6 => (intro w9 _; go_simp; try exact rfl)
      try simp only [Act.put, List.setIfInBounds_toArray, List.set_cons_zero, List.set_cons_succ]
      refine wpAnyB_take [7] (i := 2) (v := ?vA2) rfl (by kernel_rfl) (by kernel_rfl) (by kernel_rfl) (by kernel_rfl) (by kernel_rfl) (fun _ _ _ h => h) (Or.inl ⟨by kernel_rfl, ?runA2⟩) (HA6D.out) ?_
      case runA2 => (intro w9 hS9; obtain ⟨c0, c1, c2, c3, c4, c5, c6⟩ := cells7 hS9; go_simp; try exact rfl)
      try simp only [Act.put, List.setIfInBounds_toArray, List.set_cons_zero, List.set_cons_succ]
      refine wpAnyB_ready (rs := [7]) (by kernel_rfl) (by simp) ?_
      refine AllReadyB.cons rfl (fun K hK => ?_) AllReadyB.nil
      go_simp
      refine HCALL.out.mono ?_
      rintro e w7 ⟨cs, b, s3, rfl, hevb, hndb, hpsb, hleb, hk7⟩
      obtain ⟨kindB, numB, atB, nameB, p1B, n1B, c1B, p2B, n2B, c2B, p3B, n3B, c3B, rfl, -⟩ := id hndb.un7s
      have hk7' : Keep [pb] w6 w7 := ((Keep.refl [] w6).drew.mono (G := [pb]) (by simp)).trans hk7 (by simp)
      have hA7 : w7.heap[A]? = some (.cells #[.int .i64 kindA, .int .i64 numA, .string ⟨nameA.toArray⟩, .int .i64 atA, .slice p1A n1A c1A, .slice p2A n2A c2A, .slice p3A n3A c3A] 29 (0, 0)) := blkK HA6.out hk7' (by simp; exact HAP.out)
      have HA7 := Lib.hid hA7
      have HEVB := Lib.hid hevb
      have HNDB := Lib.hid hndb
      have HPSB := Lib.hid hpsb
      have HLEB := Lib.hid hleb
      have HK7 := Lib.hid hk7'
      clear hevb hndb hpsb hleb hk7 hk7' hA7
      go_wp2_with fail
      refine hK.out _ _ (fun h => HA7.out) ?_
      clear hK K
      try simp only [Act.put, List.setIfInBounds_toArray, List.set_cons_zero, List.set_cons_succ]
      refine wpAnyB_ready (rs := [8]) (by kernel_rfl) (by simp) ?_
      refine AllReadyB.cons rfl (fun K hK => ?_) AllReadyB.nil
      go_simp
      refine hK.out _ _ (fun h => (nomatch h)) ?_
      clear hK K
      try simp only [Act.put, List.setIfInBounds_toArray, List.set_cons_zero, List.set_cons_succ]
      refine wpAnyB_takeY (i := 9) (v := ?vA9) rfl (by kernel_rfl) (by kernel_rfl) (by kernel_rfl) (by kernel_rfl) (fun _ _ _ h => h) (Or.inl ⟨by kernel_rfl, ?runA9⟩) ?_
      case runA9 => (intro w9 _; go_simp; try exact rfl)
      try simp only [Act.put, List.setIfInBounds_toArray, List.set_cons_zero, List.set_cons_succ]
      refine wpAnyB_ready (rs := [10]) (by kernel_rfl) (by simp) ?_
      refine AllReadyB.cons rfl (fun K hK => ?_) AllReadyB.nil
      have hk8 := (Keep.refl [] w7).alloc (.cells #[.int .i64 kindA, .int .i64 numA, .string ⟨nameA.toArray⟩, .int .i64 atA, .slice p1A n1A c1A, .slice p2A n2A c2A, .slice p3A n3A c3A, .int .i64 kindB, .int .i64 numB, .string ⟨nameB.toArray⟩, .int .i64 atB, .slice p1B n1B c1B, .slice p2B n2B c2B, .slice p3B n3B c3B] 29)
      have hA8 := blkK HA7.out hk8 (by simp)
      obtain ⟨e0, e1, e2, e3, e4, e5, e6⟩ := cells7 hA8
      have f8 := frozenP hA8
      have HA8 := Lib.hid hA8
      have HK8 := Lib.hid hk8
      clear hA8 hk8
      go_simp
      refine hK.out _ _ (fun h => (nomatch h)) ?_
      clear hK K
      try simp only [Act.put, List.setIfInBounds_toArray, List.set_cons_zero, List.set_cons_succ]
      refine wpAnyB_done (by kernel_rfl) ?_ _
      clear e0 e1 e2 e3 e4 e5 e6 f8
      obtain ⟨hA9, hk9⟩ := set7 HA8.out (.int .i64 9) (.int .i64 0) (.string ⟨t.toArray⟩) (.int .i64 (plc si)) (.slice (some ⟨w7.heap.size, 0, none⟩) 2 2) (.slice none 0 0) (.slice none 0 0)
      have hs7 := HK7.out.size
      have hab := HAB.out
      have ha7 := (Array.getElem?_eq_some_iff.1 HA7.out).1
      have ha6 := (Array.getElem?_eq_some_iff.1 HA6.out).1
      have hbb := HBB.out
      have hlw := HLO.out
      have hpl := HPLO.out
      have hndA := HND6.out.keepX HK7.out (by simp; omega)
      have hndB := HNDB.out
      rw [show w6.drew.heap.size = w6.heap.size from rfl] at hndB
      have hndB' : NdR (FrsX (B + 1) w7 (some A)) w7 false _ b := hndB.toX (by omega) (fun b hb => by cases hb; exact ha6)
      have hlit := NsR.lit2X (cs := #[.int .i64 kindA, .int .i64 numA, .string ⟨nameA.toArray⟩, .int .i64 atA, .slice p1A n1A c1A, .slice p2A n2A c2A, .slice p3A n3A c3A, .int .i64 kindB, .int .i64 numB, .string ⟨nameB.toArray⟩, .int .i64 atB, .slice p1B n1B c1B, .slice p2B n2B c2B, .slice p3B n3B c3B]) 29 rfl (by omega) (fun b hb => by cases hb; exact ha7) hndA hndB'
      have hlit9 := hlit.keepX hk9 (by simp)
      have hB7 := blkK HB6.out HK7.out (by simp; exact HBP.out)
      have hB9 := blkK (blkK hB7 HK8.out (by simp)) hk9 (by simp; omega)
      have hkw8 := (HKW6.out.trans HK7.out (by simp)).trans HK8.out (by simp)
      have hkw9 := keepB (pb := pb) (lo := w.heap.size) ((hkw8.mono (G := [pb, A]) (by simp)).trans hk9 (by simp)) (by simp; omega) (Nat.le_refl _)
      have hps9 := (HPSB.out.keep0 HK8.out).keep hk9 (by simp; omega)
      have hnd9 := NdR.mk7 (kind := 9) (num := 0) (name := t) (at_ := plc si) hlit9 (NsR.nil _ _ true) (NsR.nil _ _ false)
      generalize ((((((((w7.alloc (.cells #[.int .i64 kindA, .int .i64 numA, .string ⟨nameA.toArray⟩, .int .i64 atA, .slice p1A n1A c1A, .slice p2A n2A c2A, .slice p3A n3A c3A, .int .i64 kindB, .int .i64 numB, .string ⟨nameB.toArray⟩, .int .i64 atB, .slice p1B n1B c1B, .slice p2B n2B c2B, .slice p3B n3B c3B] 29)).setCell ⟨A, 0, none⟩ (.int .i64 9)).setCell ⟨A, 1, none⟩ (.int .i64 0)).setCell ⟨A, 2, none⟩ (.string ⟨t.toArray⟩)).setCell ⟨A, 3, none⟩ (.int .i64 (plc si))).setCell ⟨A, 4, none⟩ (.slice (some ⟨w7.heap.size, 0, none⟩) 2 2)).setCell ⟨A, 5, none⟩ (.slice none 0 0)).setCell ⟨A, 6, none⟩ (.slice none 0 0)) = w9 at *
      have HA9 := Lib.hid hA9
      have HB9 := Lib.hid hB9
      have HND9 := Lib.hid hnd9
      have HPS9 := Lib.hid hps9
      have HKW9 := Lib.hid hkw9
      have hle9 : s3.toks.length + 1 ≤ si.toks.length := by have := HLEB.out; have := HLT.out; omega
      have HLE9 := Lib.hid hle9
      clear hA9 hk9 hs7 hab ha7 ha6 hbb hlw hpl hndA hndB hndB' hlit hlit9 hB7 hB9 hkw8 hkw9 hps9 hnd9 hle9 HA6D HA7 HA8 HK8 HK7 HNDB HPSB
      by_cases hv2 : v = 2
      · have q2 : ((v : Int) == 2) = true := by simp [hv2]
        subst hv2
        obtain ⟨c0, c1, c2, c3, c4, c5, c6⟩ := cells7 HA9.out
        obtain ⟨d0, d1, d2, d3, d4, d5, d6⟩ := cells7 HB9.out
        have f9 := frozenP HB9.out
        go_wp2_with fail
        obtain ⟨hb10, hk10⟩ := set7 HB9.out (.int .i64 9) (.int .i64 0) (.string ⟨t.toArray⟩) (.int .i64 (plc si)) (.slice (some ⟨w7.heap.size, 0, none⟩) 2 2) (.slice none 0 0) (.slice none 0 0)
        refine bodyPost_ret (results_cell_row (ty := 29) rfl _ _ B _ _ _ _ rfl hb10 Tryz.underlying29 rfl node_size) rfl ?_
        have hbb := HBB.out
        have hlw := HLO.out
        have hpl := HPLO.out
        refine ⟨_, _, s3, rfl, HEV.out _ _ (Ev.of_binLoop_two HO.out HEVB.out), (HND9.out.keep hk10 (fun b hb hc => by simp at hb; have := hc.1; omega)).mono (fun b h => ⟨by have := h.1; omega, Nat.lt_of_lt_of_le h.2.1 hk10.size⟩), HPS9.out.keep hk10 (by simp; omega), by have := HLE9.out; have := HLE.out; omega, keepB (lo := w.heap.size) ((HKW9.out.mono (G := [pb, B]) (by simp)).trans hk10 (by simp)) (by simp; omega) (Nat.le_refl _)⟩
      · have q2 : ((v : Int) == 2) = false := beq_eq_false_iff_ne.2 (by omega)
        have HV2 := Lib.hid hv2
        clear hv2
        go_wp2_with fail
        go_roundw
        case rel => exact ⟨_, s3, _, HA9.out, HB9.out, HND9.out, HPS9.out, HKW9.out, by have := HLE9.out; have := HLE.out; omega, fun r s' h => HEV.out _ _ (Ev.of_binLoop_go HV2.out HO.out HEVB.out h)⟩
        case measure => rw [HPS9.out.len, HPN.out]; have := HLE9.out; omega
end Go.Proofs.YtdmmhfbafinkpaaGreatDoor
