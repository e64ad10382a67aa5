import Derived.Test.YtdmmhfbafinkpaaGreatDoorPa9
import Derived.Test.YtdmmhfbafinkpaaGreatDoorPaF
import Derived.Test.YtdmmhfbafinkpaaGreatDoorBaseApp2
/- Parse: call. Printed by gen-pa10.py. -/
namespace Go.Proofs.YtdmmhfbafinkpaaGreatDoor
open Go.RowKit Go.Emb

/-- what is read of a slice of trees, cell by cell -/
theorem NsR.cellsOne {S : Nat → Prop} {w : World} {es : List (List Value)} {l : List Nd} {k : Bool} (hl : es.length = l.length) (h : ∀ i (h : i < es.length) (h' : i < l.length), NdR S w k es[i] l[i]) : ∀ u ∈ es.flatten, u.oneCell' = true := by
  intro u hu
  obtain ⟨e, he, hu⟩ := List.mem_flatten.1 hu
  obtain ⟨i, hi, rfl⟩ := List.mem_iff_getElem.1 he
  exact (h i hi (by omega)).one u hu
theorem row_lit1 (w : World) (E k : Nat) (cs : Array Value) (hk : cs.size = k) : Row (w.alloc (.cells cs E)) E k (.slice (some ⟨w.heap.size, 0, none⟩) 1 1) 1 cs.toList (some w.heap.size) :=
  ⟨by simp [hk], .inr ⟨w.heap.size, 0, 1, cs, rfl, rfl, heap_alloc_new w _, Nat.le_refl _, by simp [maxLen], by omega, fun i hi => by simp⟩⟩
theorem row_lit1' (w : World) (B : Nat) (hB : B = w.heap.size) (E k : Nat) (cs : Array Value) (hk : cs.size = k) : Row (w.alloc (.cells cs E)) E k (.slice (some ⟨B, 0, none⟩) 1 1) 1 cs.toList (some B) := by
  subst hB; exact row_lit1 w E k cs hk
theorem bareS_cons {x : Tk × Nat} {r : List (Tk × Nat)} {e a b : Int} : bareS ⟨x :: r, e, a, b⟩ = (x.1.kind == 2) := rfl
set_option maxRecDepth 100000 in
set_option maxHeartbeats 4000000 in
theorem w_call {lo pb : Nat} {w : World} {s : St} {d : Nat} (ih : AllC lo pb (32 * s.toks.length + 1)) (h : PS lo w pb s) (hlo : lo ≤ w.heap.size) (hd : d + s.toks.length ≤ 1000000) :
    Calls Tryz.prog 117 #[.pointer (some ⟨pb, 0, none⟩), .int .i64 d] w (NodeP lo w pb (fun n => call n d) s) := by
  have hplo := h.plo
  have hk1 := (Keep.refl [] w).alloc zN
  have hb1 := heap_alloc_new w zN
  have hcall := ih.prim (d := d) (h.keep0 hk1) (Nat.le_trans hlo hk1.size) hd (by omega)
  have HCALL := Lib.hid hcall
  have hnext := fun (W : World) (s1 : St) (hW : PS lo W pb s1) (hl : lo ≤ W.heap.size) (hle : s1.toks.length + 1 ≤ s.toks.length) => ih.untilL (x := sShut) (d := d + 1) hW hl (by omega) (by omega)
  have HNEXT := Lib.hid hnext
  have HB1 := Lib.hid hb1
  have HK1 := Lib.hid hk1
  have HLO := Lib.hid hlo
  have HPLO := Lib.hid hplo
  have HPS1 := Lib.hid (h.keep0 hk1)
  have hdd : IntKind.i64.wrap ((d : Int) + 1) = (d : Int) + 1 := IntWalk.i64_in _ (by omega)
  have HTL := Lib.hid (show s.toks.length ≤ 1000000 by omega)
  obtain ⟨B, hB⟩ : ∃ B, B = w.heap.size := ⟨_, rfl⟩
  obtain ⟨i0, hi0, hz0, hz1, hz2⟩ := info3 node_info
  have HI := Lib.hid hi0
  clear ih h hlo hd hplo hcall hk1 hb1 hnext hi0
  go_enter Tryz.func117, Tryz.ntmps117
  go_upto_region 1 with fail
  refine wp_cut (CutF 51 (fun f wx => f 5 = .bool (bareS s) ∧ f 4 = .pointer (some ⟨w.heap.size, 0, none⟩) ∧ f 0 = .pointer (some ⟨pb, 0, none⟩) ∧ f 1 = .int .i64 d ∧ w.alloc zN = wx)) ?rest ?first
  case first =>
    intro J K' hJ hK'
    have HJ := Lib.hid hJ
    clear hJ
    generalize w.alloc zN = w1 at *
    obtain ⟨v, o, h1, h2, -⟩ := HPS1.out.blk
    obtain ⟨s0, s1, s2, s3⟩ := cells4p h1
    obtain ⟨toks, en, err, at_⟩ := s
    cases toks with
    | nil =>
      obtain ⟨a, c, rfl⟩ := toks_nil h2
      clear h1 h2
      simp only at s0 s1 s2 s3
      go_wp2_with fail
      exact Met.intro (HJ.out _ _ (CutF.mk rfl ⟨rfl, rfl, rfl, rfl, rfl⟩))
    | cons x r =>
      obtain ⟨b, off, c, rfl, -, -, c0, c1, c2, c3, -⟩ := toks_at h2
      clear h1 h2
      simp only at s0 s1 s2 s3
      go_wp2_with fail
      exact Met.intro (HJ.out _ _ (CutF.mk rfl ⟨rfl, rfl, rfl, rfl, rfl⟩))
  case rest =>
   intro a' w' hc
   obtain ⟨f, rfl, h5, h4, h0, h1, rfl⟩ := hc.lit
   rw [show ((List.range 51).map f).toArray = #[f 0, f 1, f 2, f 3, f 4, f 5, f 6, f 7, f 8, f 9, f 10, f 11, f 12, f 13, f 14, f 15, f 16, f 17, f 18, f 19, f 20, f 21, f 22, f 23, f 24, f 25, f 26, f 27, f 28, f 29, f 30, f 31, f 32, f 33, f 34, f 35, f 36, f 37, f 38, f 39, f 40, f 41, f 42, f 43, f 44, f 45, f 46, f 47, f 48, f 49, f 50] from rfl]
   rw [h5, h4, h0, h1]
   clear hc h5 h4 h0 h1
   go_wp2_with fail
   refine HCALL.out.mono ?_
   rintro e w4 ⟨cs, a, s2, rfl, hev, hnd, hps, hle, hk4⟩
   rw [← hB]
   rw [← hB] at HB1
   obtain ⟨kindA, numA, atA, nameA, p1A, n1A, c1A, p2A, n2A, c2A, p3A, n3A, c3A, rfl, -⟩ := id hnd.un7s
   have hBp : B ≠ pb := by have := HPLO.out; have := HLO.out; omega
   have hb4 := blkK HB1.out hk4 (by simp; exact hBp)
   have hk5 := (Keep.refl [] w4).alloc (.cells #[.int .i64 kindA, .int .i64 numA, .string ⟨nameA.toArray⟩, .int .i64 atA, .slice p1A n1A c1A, .slice p2A n2A c2A, .slice p3A n3A c3A] 29)
   have hA5 := heap_alloc_new w4 (.cells #[.int .i64 kindA, .int .i64 numA, .string ⟨nameA.toArray⟩, .int .i64 atA, .slice p1A n1A c1A, .slice p2A n2A c2A, .slice p3A n3A c3A] 29)
   have hb5 := blkK hb4 hk5 (by simp)
   have hs4 := hk4.size
   rw [size_alloc, ← hB] at hs4
   have hnd5 : NdR (FrsX (B + 1) (w4.alloc (.cells #[.int .i64 kindA, .int .i64 numA, .string ⟨nameA.toArray⟩, .int .i64 atA, .slice p1A n1A c1A, .slice p2A n2A c2A, .slice p3A n3A c3A] 29)) (some w4.heap.size)) (w4.alloc (.cells #[.int .i64 kindA, .int .i64 numA, .string ⟨nameA.toArray⟩, .int .i64 atA, .slice p1A n1A c1A, .slice p2A n2A c2A, .slice p3A n3A c3A] 29)) false _ a := (hnd.fix.keepI hk5 (by simp)).mono (fun b h => ⟨by have := h.1; rw [size_alloc, ← hB] at this; exact this, by have := h.2; rw [size_alloc]; omega, fun e => by cases e; have := h.2; omega⟩)
   have hkw5 : Keep [pb] w (w4.alloc (.cells #[.int .i64 kindA, .int .i64 numA, .string ⟨nameA.toArray⟩, .int .i64 atA, .slice p1A n1A c1A, .slice p2A n2A c2A, .slice p3A n3A c3A] 29)) := ((HK1.out.mono (G := [pb]) (by simp)).trans hk4 (by simp)).trans hk5 (by simp)
   have hps5 := hps.keep0 hk5
   have HINIT := Lib.hid (show ∃ (bare : Bool) (a : Nd) (si : St) (cs : List Value), Value.bool (bareS s) = .bool bare ∧ (w4.alloc (.cells #[.int .i64 kindA, .int .i64 numA, .string ⟨nameA.toArray⟩, .int .i64 atA, .slice p1A n1A c1A, .slice p2A n2A c2A, .slice p3A n3A c3A] 29)).heap[w4.heap.size]? = some (.cells cs.toArray 29 (0, 0)) ∧ (w4.alloc (.cells #[.int .i64 kindA, .int .i64 numA, .string ⟨nameA.toArray⟩, .int .i64 atA, .slice p1A n1A c1A, .slice p2A n2A c2A, .slice p3A n3A c3A] 29)).heap[B]? = some zN ∧ NdR (FrsX (B + 1) (w4.alloc (.cells #[.int .i64 kindA, .int .i64 numA, .string ⟨nameA.toArray⟩, .int .i64 atA, .slice p1A n1A c1A, .slice p2A n2A c2A, .slice p3A n3A c3A] 29)) (some w4.heap.size)) (w4.alloc (.cells #[.int .i64 kindA, .int .i64 numA, .string ⟨nameA.toArray⟩, .int .i64 atA, .slice p1A n1A c1A, .slice p2A n2A c2A, .slice p3A n3A c3A] 29)) false cs a ∧ PS lo (w4.alloc (.cells #[.int .i64 kindA, .int .i64 numA, .string ⟨nameA.toArray⟩, .int .i64 atA, .slice p1A n1A c1A, .slice p2A n2A c2A, .slice p3A n3A c3A] 29)) pb si ∧ Keep [pb] w (w4.alloc (.cells #[.int .i64 kindA, .int .i64 numA, .string ⟨nameA.toArray⟩, .int .i64 atA, .slice p1A n1A c1A, .slice p2A n2A c2A, .slice p3A n3A c3A] 29)) ∧ si.toks.length ≤ s.toks.length ∧ ∀ r s', Ev (fun n => callLoop n d bare a) si r s' → Ev (fun n => call n d) s r s' from
     ⟨_, a, s2, _, rfl, hA5, hb5, hnd5, hps5, hkw5, hle, fun r s' h => Ev.of_call hev h⟩)
   obtain ⟨A, hA⟩ : ∃ A, A = w4.heap.size := ⟨_, rfl⟩
   have hAB : B + 1 ≤ A := by omega
   rw [← hA] at HINIT
   have HAB := Lib.hid hAB
   have HBB := Lib.hid hB
   clear hev hnd hps hle hk4 hb4 hk5 hA5 hb5 hs4 hnd5 hkw5 hps5 hAB hB hBp HCALL HB1 HK1 HPS1
   go_wp2_with fail
   rw [← hA]
   clear hA
   generalize w4.alloc (.cells #[.int .i64 kindA, .int .i64 numA, .string ⟨nameA.toArray⟩, .int .i64 atA, .slice p1A n1A c1A, .slice p2A n2A c2A, .slice p3A n3A c3A] 29) = w5 at *
   go_loopw [5] (fun v wr => ∃ (bare : Bool) (a : Nd) (si : St) (cs : List Value), v = .bool bare ∧ wr.heap[A]? = some (.cells cs.toArray 29 (0, 0)) ∧ wr.heap[B]? = some zN ∧ NdR (FrsX (B + 1) wr (some A)) wr false cs a ∧ PS lo wr pb si ∧ Keep [pb] w wr ∧ si.toks.length ≤ s.toks.length ∧ ∀ r s', Ev (fun n => callLoop n d bare a) si r s' → Ev (fun n => call n d) s r s') (fun _ wr => plen wr pb)
   case atStart => exact HINIT.out
   case round =>
    obtain ⟨bare, a, si, cs, rfl, hA, hB, hnd, hps, hkw, hle, hev⟩ := hrel
    obtain ⟨kindA, numA, atA, nameA, p1A, n1A, c1A, p2A, n2A, c2A, p3A, n3A, c3A, rfl, hnm⟩ := id hnd.un7s
    clear HINIT
    have hlr : lo ≤ wr.heap.size := Nat.le_trans HLO.out hkw.size
    have HHAS := Lib.hid (p_has hps hlr sOpen)
    have HPLC := Lib.hid (p_place hps)
    have HEV := Lib.hid hev
    have HND := Lib.hid hnd
    have HKW := Lib.hid hkw
    have HLE := Lib.hid hle
    have HPN := Lib.hid hps.len
    have HA := Lib.hid hA
    have HB := Lib.hid hB
    have hAp : A ≠ pb := by have := HAB.out; have := HBB.out; have := HPLO.out; have := HLO.out; omega
    have hBp : B ≠ pb := by have := HBB.out; have := HPLO.out; have := HLO.out; omega
    have HAP := Lib.hid hAp
    have HBP := Lib.hid hBp
    have HNM := Lib.hid hnm
    clear hA hB hnd hps hkw hle hev hAp hBp hlr hnm
    go_wp2_with (go_at_call 67; refine HPLC.out.mono ?_; rintro e w2' ⟨rfl, rfl⟩)
    refine HHAS.out.mono ?_
    rintro e w6 ⟨rfl, hps6, hk6⟩
    have hA6 := blkK HA.out hk6 (by simp; exact HAP.out)
    have hB6 := blkK HB.out hk6 (by simp; exact HBP.out)
    have hlw := HLO.out
    have hpl := HPLO.out
    have hbb := HBB.out
    have hnd6 : NdR (FrsX (B + 1) w6 (some A)) w6 false _ a := (HND.out.keep hk6 (fun b hb hc => by simp at hb; have := hc.1; omega)).mono (fun b h => ⟨h.1, Nat.lt_of_lt_of_le h.2.1 hk6.size, h.2.2⟩)
    have hkw6 := HKW.out.trans hk6 (by simp)
    have hl6 := Nat.le_trans hlw hkw6.size
    have HPS6 := Lib.hid hps6
    have HND6 := Lib.hid hnd6
    have HKW6 := Lib.hid hkw6
    have HL6 := Lib.hid hl6
    have HLE6 := Lib.hid (has_len sOpen si)
    have HA6 := Lib.hid hA6
    have HB6 := Lib.hid hB6
    clear hps6 hk6 hA6 hB6 hlw hpl hbb hnd6 hkw6 hl6 HHAS HPLC HND HKW HA HB
    rcases ho : (hasS sOpen si).1 with _ | _
    · obtain ⟨c0, c1, c2, c3, c4, c5, c6⟩ := cells7 HA6.out
      obtain ⟨d0, d1, d2, d3, d4, d5, d6⟩ := cells7 HB6.out
      have f6 := frozenP HB6.out
      have HO := Lib.hid ho
      clear ho
      go_wp2_with fail
      obtain ⟨hb7, hk7⟩ := set7 HB6.out (.int .i64 kindA) (.int .i64 numA) (.string ⟨nameA.toArray⟩) (.int .i64 atA) (.slice p1A n1A c1A) (.slice p2A n2A c2A) (.slice p3A n3A c3A)
      refine bodyPost_ret (results_cell_row (ty := 29) rfl _ _ B _ _ _ _ rfl hb7 Tryz.underlying29 rfl node_size) rfl ?_
      have hbb := HBB.out
      have hlw := HLO.out
      have hpl := HPLO.out
      refine ⟨_, a, _, rfl, HEV.out _ _ (Ev.of_callLoop_none HO.out), (HND6.out.keep hk7 (fun b hb hc => by simp at hb; have := hc.1; omega)).mono (fun b h => ⟨by have := h.1; omega, Nat.lt_of_lt_of_le h.2.1 hk7.size⟩), HPS6.out.keep hk7 (by simp; omega), Nat.le_trans HLE6.out HLE.out, keepB (lo := w.heap.size) ((HKW6.out.mono (G := [pb, B]) (by simp)).trans hk7 (by simp)) (by simp; omega) (Nat.le_refl _)⟩
    · have hlt := has_lt ho
      have HO := Lib.hid ho
      have HLT := Lib.hid hlt
      have hcall := HNEXT.out w6 _ HPS6.out HL6.out (by have := HLE.out; omega)
      rw [show ((d + 1 : Nat) : Int) = (d : Int) + 1 from by omega] at hcall
      have HCALL := Lib.hid hcall
      clear hcall ho hlt
      go_wp2_with fail
      refine HCALL.out.mono ?_
      rintro e w7 ⟨v, l, s3, rfl, hevb, hnsb, hpsb, hleb, hk7⟩
      obtain ⟨va, vc, rfl⟩ := hnsb.form
      have hA7 := blkK HA6.out hk7 (by simp; exact HAP.out)
      have hB7 := blkK HB6.out hk7 (by simp; exact HBP.out)
      have hkw7 := HKW6.out.trans hk7 (by simp)
      have hab := HAB.out
      have ha6 := (Array.getElem?_eq_some_iff.1 HA6.out).1
      have ha7 := (Array.getElem?_eq_some_iff.1 hA7).1
      have hbb := HBB.out
      have hlw := HLO.out
      have hpl := HPLO.out
      have hnd7 := HND6.out.keepX hk7 (by simp; omega)
      have hns7 : NsR (FrsX (B + 1) w7 (some A)) w7 false _ l := hnsb.toX (by omega) (fun b hb => by cases hb; exact ha6)
      have hlen : l.length ≤ 1000000 := by have h1 := hevb.until_len; have := HLT.out; have := HLE.out; have := HTL.out; omega
      have HEVB := Lib.hid hevb
      have HNS7 := Lib.hid hns7
      have HND7 := Lib.hid hnd7
      have HPS7 := Lib.hid hpsb
      have HLEB := Lib.hid hleb
      have HA7 := Lib.hid hA7
      have HB7 := Lib.hid hB7
      have HKW7 := Lib.hid hkw7
      have HN := Lib.hid (And.intro hab (And.intro ha7 (And.intro hbb (And.intro hlw hpl))))
      obtain ⟨c0, c1, c2, c3, c4, c5, c6⟩ := cells7 hA7
      have f7 := frozenP hA7
      clear hevb hnsb hpsb hleb hk7 hA7 hB7 hkw7 hab ha6 ha7 hbb hlw hpl hnd7 hns7 HND6 HPS6 HA6 HB6 HKW6 HL6 HCALL
      cases bare with
      | true =>
        go_wp2_with fail
        go_roundw
        all_goals clear c0 c1 c2 c3 c4 c5 c6 f7
        all_goals obtain ⟨hA9, hk9⟩ := set7 HA7.out (.int .i64 7) (.int .i64 0) (.string ⟨nameA.toArray⟩) (.int .i64 atA) (.slice va l.length vc) (.slice none 0 0) (.slice none 0 0)
        all_goals obtain ⟨hab, ha7, hbb, hlw, hpl⟩ := HN.out
        all_goals have hps9 := HPS7.out.keep hk9 (by simp; omega)
        case rel =>
          have hns9 := HNS7.out.keepX hk9 (by simp)
          have hB9 := blkK HB7.out hk9 (by simp; omega)
          have hkw9 := keepB (pb := pb) (lo := w.heap.size) ((HKW7.out.mono (G := [pb, A]) (by simp)).trans hk9 (by simp)) (by simp; omega) (Nat.le_refl _)
          have hnd9 := NdR.mk7 (kind := 7) (num := 0) (name := nameA) (at_ := atA) hns9 (NsR.nil _ _ true) (NsR.nil _ _ false)
          exact ⟨false, _, s3, _, rfl, hA9, hB9, hnd9, hps9, hkw9, by have := HLEB.out; have := HLT.out; have := HLE.out; omega, fun r s' h => HEV.out _ _ (Ev.of_callLoop_go HO.out HEVB.out (by rw [if_pos rfl, HNM.out]; exact h))⟩
        case measure => rw [hps9.len, HPN.out]; have := HLEB.out; have := HLT.out; omega
      | false =>
        obtain ⟨es, oe, hrd, hse, hle8, hel⟩ := HNS7.out
        have hone := NsR.cellsOne hle8 hel
        have hk8 := (Keep.refl [] w7).alloc (.cells #[.int .i64 kindA, .int .i64 numA, .string ⟨nameA.toArray⟩, .int .i64 atA, .slice p1A n1A c1A, .slice p2A n2A c2A, .slice p3A n3A c3A] 29)
        have hrd8 := hrd.keep0 hk8
        have hrow := row_lit1' w7 _ rfl 29 7 #[.int .i64 kindA, .int .i64 numA, .string ⟨nameA.toArray⟩, .int .i64 atA, .slice p1A n1A c1A, .slice p2A n2A c2A, .slice p3A n3A c3A] rfl
        have HRD := Lib.hid hrd8
        have HROW := Lib.hid hrow
        have HONE := Lib.hid hone
        have HEL := Lib.hid (And.intro hle8 hel)
        have hA8 := blkK HA7.out hk8 (by simp)
        have hB8 := blkK HB7.out hk8 (by simp)
        have HA8 := Lib.hid hA8
        have HB8 := Lib.hid hB8
        have HPS8 := Lib.hid (HPS7.out.keep0 hk8)
        have HKW8 := Lib.hid (HKW7.out.trans hk8 (by simp))
        clear hrd hse hle8 hel hone hk8 hrd8 hrow hA8 hB8
        go_wp2_with (at_builtin; go_loud (refine wpList_append_rd _ rfl _ _ 26 26 rfl 29 29 i0 _ 7 112 Tryz.underlying26 Tryz.underlying26 HI.out hz0 hz1 hz2 rfl _ 0 1 1 _ rfl HROW.out _ rfl _ _ _ HRD.out HONE.out (by unfold maxLen; omega) (by omega) ?_); intro g off cap w9 hr9 hk9 hg9; obtain ⟨hab, ha7, hbb, hlw, hpl⟩ := HN.out; obtain ⟨hle8, hel⟩ := HEL.out; have hns9 := NsR.consApp HND7.out hle8 hel hk9 hr9 hg9 (by omega) (fun b hb => by cases hb; exact ha7); have hA9 := blkK HA8.out hk9 (by simp; omega); have hB9 := blkK HB8.out hk9 (by simp; omega); have hps9 := HPS8.out.keep hk9 (by simp; have h := HKW7.out.size; omega); have hkw9 := keepB (pb := pb) (lo := w.heap.size) ((HKW8.out.mono (G := [pb, w7.heap.size]) (by simp)).trans hk9 (by simp)) (by simp; have h := HKW7.out.size; omega) (Nat.le_refl _); obtain ⟨e0, e1, e2, e3, e4, e5, e6⟩ := cells7 hA9; have f9 := frozenP hA9; have HNS9 := Lib.hid hns9; have HA9 := Lib.hid hA9; have HB9 := Lib.hid hB9; have HPS9 := Lib.hid hps9; have HKW9 := Lib.hid hkw9; clear hab ha7 hbb hlw hpl hle8 hel hr9 hk9 hg9 hns9 hA9 hB9 hps9 hkw9 c0 c1 c2 c3 c4 c5 c6 f7)
        go_roundw
        all_goals clear e0 e1 e2 e3 e4 e5 e6 f9
        all_goals obtain ⟨hA10, hk10⟩ := set7 HA9.out (.int .i64 8) (.int .i64 0) (.string ⟨#[]⟩) (.int .i64 (plc si)) (.slice (some ⟨g, off, none⟩) (1 + l.length) cap) (.slice none 0 0) (.slice none 0 0)
        all_goals obtain ⟨hab, ha7, hbb, hlw, hpl⟩ := HN.out
        all_goals have hps10 := HPS9.out.keep hk10 (by simp; omega)
        case rel =>
          have hns10 := HNS9.out.keepX hk10 (by simp)
          have hB10 := blkK HB9.out hk10 (by simp; omega)
          have hkw10 := keepB (pb := pb) (lo := w.heap.size) ((HKW9.out.mono (G := [pb, A]) (by simp)).trans hk10 (by simp)) (by simp; omega) (Nat.le_refl _)
          have hnd10 := NdR.mk7 (kind := 8) (num := 0) (name := []) (at_ := plc si) hns10 (NsR.nil _ _ true) (NsR.nil _ _ false)
          exact ⟨false, _, s3, _, rfl, hA10, hB10, hnd10, hps10, hkw10, by have := HLEB.out; have := HLT.out; have := HLE.out; omega, fun r s' h => HEV.out _ _ (Ev.of_callLoop_go HO.out HEVB.out h)⟩
        case measure => rw [hps10.len, HPN.out]; have := HLEB.out; have := HLT.out; omega
end Go.Proofs.YtdmmhfbafinkpaaGreatDoor
