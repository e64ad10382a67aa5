import Derived.Test.YtdmmhfbafinkpaaGreatDoorPa7
import Derived.Test.YtdmmhfbafinkpaaGreatDoorBaseApp2
import Derived.RegionTactic
/- Parse: expr. Printed by gen-pa8.py. -/
namespace Go.Proofs.YtdmmhfbafinkpaaGreatDoor
open Go.RowKit Go.Emb

/-- a node that is written into the box of the result -/
theorem node_ret {lo pb : Nat} {w0 w w' : World} {B : Nat} {cs : List Value} {n : Nd} {f : Nat → P Nd} {s s' : St} (hev : Ev f s n s') (hnd : NdR (Frs w0.heap.size w) w false cs n) (hps : PS lo w pb s') (hle : s'.toks.length ≤ s.toks.length) (hk : Keep [pb, B] w0 w) (hB : B = w0.heap.size) (hk' : Keep [B] w w') (hlo : lo ≤ w0.heap.size)
    (hnb : NdR (Frs w0.heap.size w') w' false cs n) : NodeP lo w0 pb f s (.returned (.agg cs.toArray)) w' :=
  ⟨cs, n, s', rfl, hev, hnb, hps.keep hk' (by simp; omega), hle, keepB (lo := w0.heap.size) (hk.trans hk' (by simp)) (by simp; omega) (Nat.le_refl _)⟩
set_option maxRecDepth 100000 in
set_option maxHeartbeats 4000000 in
theorem w_expr {lo pb : Nat} {w : World} {s : St} {d : Nat} (ih : AllC lo pb (32 * s.toks.length + 9)) (h : PS lo w pb s) (hlo : lo ≤ w.heap.size) (hd : d + s.toks.length ≤ 1000000) :
    Calls Tryz.prog 43 #[.pointer (some ⟨pb, 0, none⟩), .int .i64 d] w (NodeP lo w pb (fun n => expr n d) s) := by
  have IH := Lib.hid ih
  have HLO := Lib.hid hlo
  have HD := Lib.hid hd
  have hplo := h.plo
  have HPLO := Lib.hid hplo
  have hk1 := (Keep.refl [] w).alloc zN
  have HK1 := Lib.hid hk1
  have hb1 := heap_alloc_new w zN
  have HE := Lib.hid (p_enter (h.keep0 hk1) d)
  have HB1 := Lib.hid hb1
  obtain ⟨B, hB⟩ : ∃ B, B = w.heap.size := ⟨_, rfl⟩
  rw [← hB] at HB1
  have HBB := Lib.hid hB
  clear ih h hlo hd hplo hk1 hb1
  go_enter Tryz.func43, Tryz.ntmps43
  go_wp2_with (go_at_call 65; refine HE.out.mono ?_; rintro e w2 ⟨rfl, h2, hk2⟩; have H2 := Lib.hid h2; have HK2 := Lib.hid hk2; clear h2 hk2)
  rw [← hB]
  clear hB
  have hBp : B ≠ pb := by have := HPLO.out; have := HLO.out; have := HBB.out; omega
  have hl2 : B + 1 ≤ w2.heap.size := by have h1 := HK2.out.size; rw [size_alloc] at h1; have := HBB.out; omega
  have hlo2 : lo ≤ w2.heap.size := by have := HLO.out; have := HBB.out; omega
  refine (IH.out.binary (v := 0) (d := d) H2.out hlo2 (by have := HD.out; have := enter_len d s; omega) (by omega) (by have := enter_len d s; omega)).mono ?_
  rintro e w3 ⟨cs, a, s2, rfl, hev2, hnd2, hps2, hle2, hk3⟩
  obtain ⟨kindA, numA, atA, nameA, p1A, n1A, c1A, p2A, n2A, c2A, p3A, n3A, c3A, rfl, -⟩ := id hnd2.un7s
  have hb2 := blkK HB1.out HK2.out (by simp; exact hBp)
  have hb3 := blkK hb2 hk3 (by simp; exact hBp)
  have hk4 := (Keep.refl [] w3).alloc (.cells #[.int .i64 kindA, .int .i64 numA, .string ⟨nameA.toArray⟩, .int .i64 atA, .slice p1A n1A c1A, .slice p2A n2A c2A, .slice p3A n3A c3A] 29)
  have hA4 := heap_alloc_new w3 (.cells #[.int .i64 kindA, .int .i64 numA, .string ⟨nameA.toArray⟩, .int .i64 atA, .slice p1A n1A c1A, .slice p2A n2A c2A, .slice p3A n3A c3A] 29)
  have hb4 := blkK hb3 hk4 (by simp)
  have hl3 := hk3.size
  have HEV2 := Lib.hid hev2
  have HND2 := Lib.hid hnd2
  have HLE2 := Lib.hid hle2
  have HKW2 := Lib.hid ((HK1.out.mono (G := [pb]) (by simp)).trans HK2.out (by simp))
  have HKW3 := Lib.hid (((HK1.out.mono (G := [pb]) (by simp)).trans HK2.out (by simp)).trans hk3 (by simp))
  obtain ⟨A, hA⟩ : ∃ A, A = w3.heap.size := ⟨_, rfl⟩
  rw [← hA] at hA4
  have HAA := Lib.hid hA
  have HK4 := Lib.hid hk4
  have HBA := Lib.hid (And.intro hA4 hb4)
  have HPS4 := Lib.hid (hps2.keep0 hk4)
  have HL := Lib.hid (And.intro hl2 (And.intro hlo2 hl3))
  have HBP := Lib.hid hBp
  clear hev2 hnd2 hps2 hle2 hk3 hb2 hb3 hk4 hA4 hb4 hl2 hlo2 hl3 hBp HE HB1 HK1 H2 HK2
  go_wp2_with (go_at_call 67; refine (p_place HPS4.out).mono ?_; rintro e w4' ⟨rfl, rfl⟩)
  refine (take_litb HPS4.out (by rw [size_alloc]) [sEq, sSend] 2 _ rfl (by simp [maxLen]) rfl).mono ?_
  rintro e w5 ⟨rfl, h5, hk5⟩
  rw [← hA]
  clear hA
  have hAp : A ≠ pb := by have := HL.out; have := HPLO.out; have := HAA.out; omega
  have hAB : A ≠ B := by have := HL.out; have := HAA.out; omega
  have hA5 := blkK HBA.out.1 hk5 (by simp; exact hAp)
  have hB5 := blkK HBA.out.2 hk5 (by simp; exact HBP.out)
  have hk5w := (HKW3.out.trans HK4.out (by simp)).trans hk5 (by simp)
  have hsz5 := (HK4.out.mono (G := [pb]) (by simp)).trans hk5 (by simp) |>.size
  have hle5 := Nat.le_trans (take_len [sEq, sSend] s2) (Nat.le_trans HLE2.out (enter_len d s))
  have hnd5 := (HND2.out.fix.keepI HK4.out (by simp)).keepI hk5 (by simp; have := HL.out; have := HPLO.out; omega)
  have H5 := Lib.hid h5
  have HK5W := Lib.hid hk5w
  have HAB := Lib.hid hAB
  have HAP := Lib.hid hAp
  have HSZ5 := Lib.hid hsz5
  have HLE5 := Lib.hid hle5
  have HND5 := Lib.hid hnd5
  rcases ho : (takeS [sEq, sSend] s2).1 with _ | t
  · simp only [Option.isSome_none, Option.getD_none]
    obtain ⟨c0, c1, c2, c3, c4, c5, c6⟩ := cells7 hA5
    obtain ⟨d0, d1, d2, d3, d4, d5, d6⟩ := cells7 hB5
    have f5 := frozenP hB5
    have HO := Lib.hid ho
    have HB5 := Lib.hid hB5
    clear h5 hk5 hA5 hB5 hk5w hsz5 hle5 hnd5 hAp hAB ho
    go_wp2_with fail
    obtain ⟨hb6, hk6⟩ := set7 HB5.out (.int .i64 kindA) (.int .i64 numA) (.string ⟨nameA.toArray⟩) (.int .i64 atA) (.slice p1A n1A c1A) (.slice p2A n2A c2A) (.slice p3A n3A c3A)
    refine bodyPost_ret (results_cell_row (ty := 29) rfl _ _ B _ _ _ _ rfl hb6 Tryz.underlying29 rfl node_size) rfl ?_
    have hB := HBB.out
    have hP := HPLO.out
    have hLo := HLO.out
    have hL := HL.out
    exact ⟨_, a, _, rfl, Ev.of_expr_one HEV2.out HO.out, ((HND5.out.keepI hk6 (by simp; omega)).fin (by omega) (by have := hk6.size; have := HSZ5.out; omega)), H5.out.keep hk6 (by simp; omega), HLE5.out, keepB (lo := w.heap.size) ((HK5W.out.mono (G := [pb, B]) (by simp)).trans hk6 (by simp)) (by simp; omega) (Nat.le_refl _)⟩
  · simp only [Option.isSome_some, Option.getD_some]
    obtain ⟨hlt, hmem⟩ := take_lt ho
    have hle1 := enter_len d s
    have hl2' := HLE2.out
    have HOT := Lib.hid ho
    have hdd : IntKind.i64.wrap ((d : Int) + 1) = (d : Int) + 1 := IntWalk.i64_in _ (by have := HD.out; omega)
    have hle2 : (takeS [sEq, sSend] s2).2.toks.length + 1 ≤ s.toks.length := by omega
    have HLT := Lib.hid hle2
    have HA5 := Lib.hid hA5
    have HB5 := Lib.hid hB5
    clear h5 hk5 hA5 hB5 hk5w hsz5 hle5 hnd5 hAp hAB ho hlt hle1 hl2' hle2 HBA HPS4
    have ht : t = sEq ∨ t = sSend := by simpa using hmem
    clear hmem
    obtain ⟨NB, hNB⟩ : ∃ NB, NB = w5.heap.size := ⟨_, rfl⟩
    rcases ht with rfl | rfl

    · go_wp2_with fail
      have hN6 : (w5.alloc (.cells #[.int .i64 11, .int .i64 0, .string ⟨#[]⟩, .int .i64 (plc s2), .slice none 0 0, .slice none 0 0, .slice none 0 0] 29)).heap[w5.heap.size]? = some (.cells #[.int .i64 11, .int .i64 0, .string ⟨#[]⟩, .int .i64 (plc s2), .slice none 0 0, .slice none 0 0, .slice none 0 0] 29 (0, 0)) := heap_alloc_new w5 _
      have hk6 : Keep [] w5 (w5.alloc (.cells #[.int .i64 11, .int .i64 0, .string ⟨#[]⟩, .int .i64 (plc s2), .slice none 0 0, .slice none 0 0, .slice none 0 0] 29)) := (Keep.refl [] w5).alloc _
      generalize (w5.alloc (.cells #[.int .i64 11, .int .i64 0, .string ⟨#[]⟩, .int .i64 (plc s2), .slice none 0 0, .slice none 0 0, .slice none 0 0] 29)) = w6 at *
      rw [← hNB] at hN6 ⊢
      have HNB := Lib.hid hNB
      clear hNB
      have hA6 := blkK HA5.out hk6 (by simp)
      have hB6 := blkK HB5.out hk6 (by simp)
      have hk6w := HK5W.out.trans hk6 (by simp)
      have hNA : A ≠ NB := by have := (Array.getElem?_eq_some_iff.1 HA5.out).1; have := HNB.out; omega
      have hNp : NB ≠ pb := by have := HPLO.out; have := HL.out; have := HSZ5.out; have := HNB.out; omega
      have hNBB : B ≠ NB := by have := (Array.getElem?_eq_some_iff.1 HB5.out).1; have := HNB.out; omega
      have hs6 := hk6.size
      have hcall := IH.out.expr (w := w6.drew) (s := (takeS [sEq, sSend] s2).2) (d := d + 1) ((H5.out.keep0 hk6).keep0 (Keep.refl [] w6).drew) (by have := (Keep.refl [] w6).drew.size; have := HL.out; have := HSZ5.out; omega) (by have := HLT.out; have := HD.out; omega) (by have := HLT.out; omega)
      rw [show ((d + 1 : Nat) : Int) = (d : Int) + 1 from by omega] at hcall
      have HCALL := Lib.hid hcall
      have HA6 := Lib.hid hA6
      have HB6 := Lib.hid hB6
      have HN6 := Lib.hid hN6
      have HNA := Lib.hid hNA
      have HNP := Lib.hid hNp
      have HNBB := Lib.hid hNBB
      have HK6 := Lib.hid hk6
      have HK6W := Lib.hid hk6w
      clear hcall hA6 hB6 hN6 hNA hNp hk6 hk6w hNBB hs6

      refine wp_region_held_drew (S := fun w' => Keep [pb, NB] w6 w') (by kernel_rfl) ((Keep.refl [pb, NB] w6).drew) (fun hHeld => ?_)
      refine wpAnyH_takeL (i := 0) (v := ?vE0) rfl (by kernel_rfl) (by kernel_rfl) (by kernel_rfl) (fun _ _ _ h => h) (Or.inl ⟨by kernel_rfl, ?runE0⟩) hHeld ?_
      case runE0 => (intro w9 hS9; obtain ⟨c0, c1, c2, c3, c4, c5, c6⟩ := cells7 (blkK HA6.out hS9 (by simp; exact ⟨HAP.out, HNA.out⟩)); go_simp; try exact rfl)
      try simp only [Act.put, List.setIfInBounds_toArray, List.set_cons_zero, List.set_cons_succ]
      refine wpAnyH_takeL (i := 1) (v := ?vE1) rfl (by kernel_rfl) (by kernel_rfl) (by kernel_rfl) (fun _ _ _ h => h) (Or.inl ⟨by kernel_rfl, ?runE1⟩) hHeld ?_
      case runE1 => (intro w9 hS9; obtain ⟨c0, c1, c2, c3, c4, c5, c6⟩ := cells7 (blkK HA6.out hS9 (by simp; exact ⟨HAP.out, HNA.out⟩)); go_simp; try exact rfl)
      try simp only [Act.put, List.setIfInBounds_toArray, List.set_cons_zero, List.set_cons_succ]
      refine wpAnyH_takeL (i := 2) (v := ?vE2) rfl (by kernel_rfl) (by kernel_rfl) (by kernel_rfl) (fun _ _ _ h => h) (Or.inl ⟨by kernel_rfl, ?runE2⟩) hHeld ?_
      case runE2 => (intro w9 hS9; obtain ⟨c0, c1, c2, c3, c4, c5, c6⟩ := cells7 (blkK HA6.out hS9 (by simp; exact ⟨HAP.out, HNA.out⟩)); go_simp; try exact rfl)
      try simp only [Act.put, List.setIfInBounds_toArray, List.set_cons_zero, List.set_cons_succ]
      refine wpAnyH_takeL (i := 3) (v := ?vE3) rfl (by kernel_rfl) (by kernel_rfl) (by kernel_rfl) (fun _ _ _ h => h) (Or.inl ⟨by kernel_rfl, ?runE3⟩) hHeld ?_
      case runE3 => (intro w9 hS9; obtain ⟨c0, c1, c2, c3, c4, c5, c6⟩ := cells7 (blkK HA6.out hS9 (by simp; exact ⟨HAP.out, HNA.out⟩)); go_simp; try exact rfl)
      try simp only [Act.put, List.setIfInBounds_toArray, List.set_cons_zero, List.set_cons_succ]
      refine wpAnyH_ready (rs := [4]) (by kernel_rfl) (by simp) ?_
      refine AllReadyH.consL rfl (fun K hK => ?_) AllReadyH.nil
      go_simp
      refine HCALL.out.mono ?_
      rintro e w7 ⟨cs, b, s3, rfl, hevb, hndb, hpsb, hleb, hk7⟩
      obtain ⟨kindB, numB, atB, nameB, p1B, n1B, c1B, p2B, n2B, c2B, p3B, n3B, c3B, rfl, -⟩ := id hndb.un7s
      have hk7' : Keep [pb, NB] w6 w7 := (((Keep.refl [] w6).drew.mono (G := [pb]) (by simp)).trans hk7 (by simp)).mono (by simp)
      have HC := Lib.hid hk7'
      have HEVB := Lib.hid hevb
      have HNDB := Lib.hid hndb
      have HPSB := Lib.hid hpsb
      have HLEB := Lib.hid hleb
      have HK7 := Lib.hid hk7
      clear hevb hndb hpsb hleb hk7 hk7'
      go_wp2_with fail
      refine hK.out _ _ HC.out (fun hHeld2 => ?_)
      clear hK K hHeld
      have hHeld := hHeld2
      clear hHeld2
      try simp only [Act.put, List.setIfInBounds_toArray, List.set_cons_zero, List.set_cons_succ]
      have hk8 := (Keep.refl [] w7).alloc (.cells #[.int .i64 kindA, .int .i64 numA, .string ⟨nameA.toArray⟩, .int .i64 atA, .slice p1A n1A c1A, .slice p2A n2A c2A, .slice p3A n3A c3A, .int .i64 kindB, .int .i64 numB, .string ⟨nameB.toArray⟩, .int .i64 atB, .slice p1B n1B c1B, .slice p2B n2B c2B, .slice p3B n3B c3B] 29)
      have hN7 := blkK (blkK HN6.out ((Keep.refl [] w6).drew) (by simp)) HK7.out (by simp; exact HNP.out)
      have hN8 := blkK hN7 hk8 (by simp)
      have HK8 := Lib.hid hk8
      have HN8 := Lib.hid hN8
      clear hk8 hN7 hN8
      refine wpAnyH_ready (rs := [5]) (by kernel_rfl) (by simp) ?_
      refine AllReadyH.consL rfl (fun K hK => ?_) AllReadyH.nil
      go_simp
      refine hK.out _ _ (HC.out.trans HK8.out (by simp)) (fun hHeld2 => ?_)
      clear hK K hHeld
      have hHeld := hHeld2
      clear hHeld2
      try simp only [Act.put, List.setIfInBounds_toArray, List.set_cons_zero, List.set_cons_succ]
      refine wpAnyH_takeL (i := 6) (v := ?vE6) rfl (by kernel_rfl) (by kernel_rfl) (by kernel_rfl) (fun _ _ _ h => h) (Or.inl ⟨by kernel_rfl, ?runE6⟩) hHeld ?_
      case runE6 => (intro w9 hS9; obtain ⟨c0, c1, c2, c3, c4, c5, c6⟩ := cells7 (blkK HA6.out hS9 (by simp; exact ⟨HAP.out, HNA.out⟩)); go_simp; try exact rfl)
      try simp only [Act.put, List.setIfInBounds_toArray, List.set_cons_zero, List.set_cons_succ]
      refine wpAnyH_ready (rs := [7]) (by kernel_rfl) (by simp) ?_
      refine AllReadyH.consL rfl (fun K hK => ?_) AllReadyH.nil
      obtain ⟨e0, e1, e2, e3, e4, e5, e6⟩ := cells7 HN8.out
      have f8 := frozenP HN8.out
      go_simp
      have hN9 : ((w7.alloc (.cells #[.int .i64 kindA, .int .i64 numA, .string ⟨nameA.toArray⟩, .int .i64 atA, .slice p1A n1A c1A, .slice p2A n2A c2A, .slice p3A n3A c3A, .int .i64 kindB, .int .i64 numB, .string ⟨nameB.toArray⟩, .int .i64 atB, .slice p1B n1B c1B, .slice p2B n2B c2B, .slice p3B n3B c3B] 29)).setCell ⟨NB, 4, none⟩ (.slice (some ⟨w7.heap.size, 0, none⟩) 2 2)).heap[NB]? = some (.cells #[.int .i64 11, .int .i64 0, .string ⟨#[]⟩, .int .i64 (plc s2), .slice (some ⟨w7.heap.size, 0, none⟩) 2 2, .slice none 0 0, .slice none 0 0] 29 (0, 0)) := by simpa using heap_setCell_at (i := 4) HN8.out (.slice (some ⟨w7.heap.size, 0, none⟩) 2 2)
      have hk9 : Keep [NB] (w7.alloc (.cells #[.int .i64 kindA, .int .i64 numA, .string ⟨nameA.toArray⟩, .int .i64 atA, .slice p1A n1A c1A, .slice p2A n2A c2A, .slice p3A n3A c3A, .int .i64 kindB, .int .i64 numB, .string ⟨nameB.toArray⟩, .int .i64 atB, .slice p1B n1B c1B, .slice p2B n2B c2B, .slice p3B n3B c3B] 29)) ((w7.alloc (.cells #[.int .i64 kindA, .int .i64 numA, .string ⟨nameA.toArray⟩, .int .i64 atA, .slice p1A n1A c1A, .slice p2A n2A c2A, .slice p3A n3A c3A, .int .i64 kindB, .int .i64 numB, .string ⟨nameB.toArray⟩, .int .i64 atB, .slice p1B n1B c1B, .slice p2B n2B c2B, .slice p3B n3B c3B] 29)).setCell ⟨NB, 4, none⟩ (.slice (some ⟨w7.heap.size, 0, none⟩) 2 2)) := Keep.set1 _ ⟨NB, 4, none⟩ _
      have hs7 := HK7.out.size
      rw [show w6.drew.heap.size = w6.heap.size from rfl] at hs7
      have hs6 := HK6.out.size
      have hn6 := (Array.getElem?_eq_some_iff.1 HN6.out).1
      have hnb := HNB.out
      have hl := HL.out
      have hpl := HPLO.out
      have hlow := HLO.out
      have hs5 := HSZ5.out
      have hbb := HBB.out
      have hndA := ((HND5.out.keepI HK6.out (by simp)).keepI ((Keep.refl [] w6).drew) (by simp)).keepI HK7.out (by simp; omega)
      have hndB := HNDB.out.fix
      rw [show w6.drew.heap.size = w6.heap.size from rfl] at hndB
      have hlit := NsR.lit2I (cs := #[.int .i64 kindA, .int .i64 numA, .string ⟨nameA.toArray⟩, .int .i64 atA, .slice p1A n1A c1A, .slice p2A n2A c2A, .slice p3A n3A c3A, .int .i64 kindB, .int .i64 numB, .string ⟨nameB.toArray⟩, .int .i64 atB, .slice p1B n1B c1B, .slice p2B n2B c2B, .slice p3B n3B c3B]) 29 rfl hndA hndB
      have hs8 := hk9.size
      rw [size_alloc] at hs8
      have hlit9 := hlit.finII hk9 (lo := w2.heap.size) (by simp; omega) (by omega) (by omega) (by omega) (by omega) (by omega) (by omega)
      have hB7 := blkK (blkK HB6.out ((Keep.refl [] w6).drew) (by simp)) HK7.out (by simp; exact HBP.out)
      have hB9 := blkK (blkK hB7 HK8.out (by simp)) hk9 (by simp; exact HNBB.out)
      have hkw9 := ((HK6W.out.trans ((Keep.refl [] w6).drew) (by simp)).trans HK7.out (by simp)).trans HK8.out (by simp)
      have hps9 := (HPSB.out.keep0 HK8.out).keep hk9 (by simp; omega)
      generalize ((w7.alloc (.cells #[.int .i64 kindA, .int .i64 numA, .string ⟨nameA.toArray⟩, .int .i64 atA, .slice p1A n1A c1A, .slice p2A n2A c2A, .slice p3A n3A c3A, .int .i64 kindB, .int .i64 numB, .string ⟨nameB.toArray⟩, .int .i64 atB, .slice p1B n1B c1B, .slice p2B n2B c2B, .slice p3B n3B c3B] 29)).setCell ⟨NB, 4, none⟩ (.slice (some ⟨w7.heap.size, 0, none⟩) 2 2)) = w9 at *
      have HN9 := Lib.hid hN9
      have HB9 := Lib.hid hB9
      have HLIT9 := Lib.hid hlit9
      have HPS9 := Lib.hid hps9
      have HKW9 := Lib.hid (((hkw9.mono (G := [pb, NB]) (by simp)).trans hk9 (by simp)))
      have HC9 := Lib.hid ((HC.out.trans HK8.out (by simp)).trans hk9 (by simp))
      have HSS := Lib.hid hs8
      clear hN9 hk9 hs7 hs6 hn6 hnb hl hpl hlow hs5 hbb hndA hndB hlit hs8 hlit9 hB7 hB9 hkw9 hps9 e0 e1 e2 e3 e4 e5 e6 f8 HN8 HK8 HK7 HC HNDB HPSB
      refine hK.out _ _ HC9.out (fun hHeld2 => ?_)
      clear hK K hHeld hHeld2
      try simp only [Act.put, List.setIfInBounds_toArray, List.set_cons_zero, List.set_cons_succ]
      refine wpAnyH_done (by kernel_rfl) ?_ _
      obtain ⟨c0, c1, c2, c3, c4, c5, c6⟩ := cells7 HN9.out
      obtain ⟨d0, d1, d2, d3, d4, d5, d6⟩ := cells7 HB9.out
      have f9 := frozenP HB9.out
      go_wp2_with fail
      obtain ⟨hb10, hk10⟩ := set7 HB9.out (.int .i64 11) (.int .i64 0) (.string ⟨#[]⟩) (.int .i64 (plc s2)) (.slice (some ⟨w7.heap.size, 0, none⟩) 2 2) (.slice none 0 0) (.slice none 0 0)
      refine bodyPost_ret (results_cell_row (ty := 29) rfl _ _ B _ _ _ _ rfl hb10 Tryz.underlying29 rfl node_size) rfl ?_
      have hB := HBB.out
      have hP := HPLO.out
      have hLo := HLO.out
      have hL := HL.out
      have hNB := HNB.out
      have hS5 := HSZ5.out
      have hev := Ev.of_expr_two HEV2.out HOT.out HEVB.out
      rw [if_neg (by decide)] at hev
      refine ⟨[.int .i64 11, .int .i64 0, .string ⟨#[]⟩, .int .i64 (plc s2), .slice (some ⟨w7.heap.size, 0, none⟩) 2 2, .slice none 0 0, .slice none 0 0], _, s3, rfl, hev, NdR.mk7 (name := []) ?_ (NsR.nil _ _ _) (NsR.nil _ _ _), HPS9.out.keep hk10 (by simp; omega), Nat.le_trans HLEB.out (by have := HLT.out; omega), keepB (lo := w.heap.size) ((HKW9.out.mono (G := [pb, NB, B]) (by simp)).trans hk10 (by simp)) (by simp; omega) (Nat.le_refl _)⟩
      exact NsR.up HLIT9.out hk10 (by simp; omega) (by omega)
    · have hN5 := heap_alloc_new w5 (.cells #[.int .i64 11, .int .i64 0, .string ⟨#[]⟩, .int .i64 (plc s2), .slice none 0 0, .slice none 0 0, .slice none 0 0] 29)
      obtain ⟨c0, c1, c2, c3, c4, c5, c6⟩ := cells7 hN5
      have f5 := frozenP hN5
      go_wp2_with fail
      clear hN5 c0 c1 c2 c3 c4 c5 c6 f5
      have hN6 : (w5.alloc (.cells #[.int .i64 12, .int .i64 0, .string ⟨#[]⟩, .int .i64 (plc s2), .slice none 0 0, .slice none 0 0, .slice none 0 0] 29)).heap[w5.heap.size]? = some (.cells #[.int .i64 12, .int .i64 0, .string ⟨#[]⟩, .int .i64 (plc s2), .slice none 0 0, .slice none 0 0, .slice none 0 0] 29 (0, 0)) := heap_alloc_new w5 _
      have hk6 : Keep [] w5 (w5.alloc (.cells #[.int .i64 12, .int .i64 0, .string ⟨#[]⟩, .int .i64 (plc s2), .slice none 0 0, .slice none 0 0, .slice none 0 0] 29)) := (Keep.refl [] w5).alloc _
      generalize (w5.alloc (.cells #[.int .i64 12, .int .i64 0, .string ⟨#[]⟩, .int .i64 (plc s2), .slice none 0 0, .slice none 0 0, .slice none 0 0] 29)) = w6 at *
      rw [← hNB] at hN6 ⊢
      have HNB := Lib.hid hNB
      clear hNB
      have hA6 := blkK HA5.out hk6 (by simp)
      have hB6 := blkK HB5.out hk6 (by simp)
      have hk6w := HK5W.out.trans hk6 (by simp)
      have hNA : A ≠ NB := by have := (Array.getElem?_eq_some_iff.1 HA5.out).1; have := HNB.out; omega
      have hNp : NB ≠ pb := by have := HPLO.out; have := HL.out; have := HSZ5.out; have := HNB.out; omega
      have hNBB : B ≠ NB := by have := (Array.getElem?_eq_some_iff.1 HB5.out).1; have := HNB.out; omega
      have hs6 := hk6.size
      have hcall := IH.out.expr (w := w6.drew) (s := (takeS [sEq, sSend] s2).2) (d := d + 1) ((H5.out.keep0 hk6).keep0 (Keep.refl [] w6).drew) (by have := (Keep.refl [] w6).drew.size; have := HL.out; have := HSZ5.out; omega) (by have := HLT.out; have := HD.out; omega) (by have := HLT.out; omega)
      rw [show ((d + 1 : Nat) : Int) = (d : Int) + 1 from by omega] at hcall
      have HCALL := Lib.hid hcall
      have HA6 := Lib.hid hA6
      have HB6 := Lib.hid hB6
      have HN6 := Lib.hid hN6
      have HNA := Lib.hid hNA
      have HNP := Lib.hid hNp
      have HNBB := Lib.hid hNBB
      have HK6 := Lib.hid hk6
      have HK6W := Lib.hid hk6w
      clear hcall hA6 hB6 hN6 hNA hNp hk6 hk6w hNBB hs6

      refine wp_region_held_drew (S := fun w' => Keep [pb, NB] w6 w') (by kernel_rfl) ((Keep.refl [pb, NB] w6).drew) (fun hHeld => ?_)
      refine wpAnyH_takeL (i := 0) (v := ?vE0) rfl (by kernel_rfl) (by kernel_rfl) (by kernel_rfl) (fun _ _ _ h => h) (Or.inl ⟨by kernel_rfl, ?runE0⟩) hHeld ?_
      case runE0 => (intro w9 hS9; obtain ⟨c0, c1, c2, c3, c4, c5, c6⟩ := cells7 (blkK HA6.out hS9 (by simp; exact ⟨HAP.out, HNA.out⟩)); go_simp; try exact rfl)
      try simp only [Act.put, List.setIfInBounds_toArray, List.set_cons_zero, List.set_cons_succ]
      refine wpAnyH_takeL (i := 1) (v := ?vE1) rfl (by kernel_rfl) (by kernel_rfl) (by kernel_rfl) (fun _ _ _ h => h) (Or.inl ⟨by kernel_rfl, ?runE1⟩) hHeld ?_
      case runE1 => (intro w9 hS9; obtain ⟨c0, c1, c2, c3, c4, c5, c6⟩ := cells7 (blkK HA6.out hS9 (by simp; exact ⟨HAP.out, HNA.out⟩)); go_simp; try exact rfl)
      try simp only [Act.put, List.setIfInBounds_toArray, List.set_cons_zero, List.set_cons_succ]
      refine wpAnyH_takeL (i := 2) (v := ?vE2) rfl (by kernel_rfl) (by kernel_rfl) (by kernel_rfl) (fun _ _ _ h => h) (Or.inl ⟨by kernel_rfl, ?runE2⟩) hHeld ?_
      case runE2 => (intro w9 hS9; obtain ⟨c0, c1, c2, c3, c4, c5, c6⟩ := cells7 (blkK HA6.out hS9 (by simp; exact ⟨HAP.out, HNA.out⟩)); go_simp; try exact rfl)
      try simp only [Act.put, List.setIfInBounds_toArray, List.set_cons_zero, List.set_cons_succ]
      refine wpAnyH_takeL (i := 3) (v := ?vE3) rfl (by kernel_rfl) (by kernel_rfl) (by kernel_rfl) (fun _ _ _ h => h) (Or.inl ⟨by kernel_rfl, ?runE3⟩) hHeld ?_
      case runE3 => (intro w9 hS9; obtain ⟨c0, c1, c2, c3, c4, c5, c6⟩ := cells7 (blkK HA6.out hS9 (by simp; exact ⟨HAP.out, HNA.out⟩)); go_simp; try exact rfl)
      try simp only [Act.put, List.setIfInBounds_toArray, List.set_cons_zero, List.set_cons_succ]
      refine wpAnyH_ready (rs := [4]) (by kernel_rfl) (by simp) ?_
      refine AllReadyH.consL rfl (fun K hK => ?_) AllReadyH.nil
      go_simp
      refine HCALL.out.mono ?_
      rintro e w7 ⟨cs, b, s3, rfl, hevb, hndb, hpsb, hleb, hk7⟩
      obtain ⟨kindB, numB, atB, nameB, p1B, n1B, c1B, p2B, n2B, c2B, p3B, n3B, c3B, rfl, -⟩ := id hndb.un7s
      have hk7' : Keep [pb, NB] w6 w7 := (((Keep.refl [] w6).drew.mono (G := [pb]) (by simp)).trans hk7 (by simp)).mono (by simp)
      have HC := Lib.hid hk7'
      have HEVB := Lib.hid hevb
      have HNDB := Lib.hid hndb
      have HPSB := Lib.hid hpsb
      have HLEB := Lib.hid hleb
      have HK7 := Lib.hid hk7
      clear hevb hndb hpsb hleb hk7 hk7'
      go_wp2_with fail
      refine hK.out _ _ HC.out (fun hHeld2 => ?_)
      clear hK K hHeld
      have hHeld := hHeld2
      clear hHeld2
      try simp only [Act.put, List.setIfInBounds_toArray, List.set_cons_zero, List.set_cons_succ]
      have hk8 := (Keep.refl [] w7).alloc (.cells #[.int .i64 kindA, .int .i64 numA, .string ⟨nameA.toArray⟩, .int .i64 atA, .slice p1A n1A c1A, .slice p2A n2A c2A, .slice p3A n3A c3A, .int .i64 kindB, .int .i64 numB, .string ⟨nameB.toArray⟩, .int .i64 atB, .slice p1B n1B c1B, .slice p2B n2B c2B, .slice p3B n3B c3B] 29)
      have hN7 := blkK (blkK HN6.out ((Keep.refl [] w6).drew) (by simp)) HK7.out (by simp; exact HNP.out)
      have hN8 := blkK hN7 hk8 (by simp)
      have HK8 := Lib.hid hk8
      have HN8 := Lib.hid hN8
      clear hk8 hN7 hN8
      refine wpAnyH_ready (rs := [5]) (by kernel_rfl) (by simp) ?_
      refine AllReadyH.consL rfl (fun K hK => ?_) AllReadyH.nil
      go_simp
      refine hK.out _ _ (HC.out.trans HK8.out (by simp)) (fun hHeld2 => ?_)
      clear hK K hHeld
      have hHeld := hHeld2
      clear hHeld2
      try simp only [Act.put, List.setIfInBounds_toArray, List.set_cons_zero, List.set_cons_succ]
      refine wpAnyH_takeL (i := 6) (v := ?vE6) rfl (by kernel_rfl) (by kernel_rfl) (by kernel_rfl) (fun _ _ _ h => h) (Or.inl ⟨by kernel_rfl, ?runE6⟩) hHeld ?_
      case runE6 => (intro w9 hS9; obtain ⟨c0, c1, c2, c3, c4, c5, c6⟩ := cells7 (blkK HA6.out hS9 (by simp; exact ⟨HAP.out, HNA.out⟩)); go_simp; try exact rfl)
      try simp only [Act.put, List.setIfInBounds_toArray, List.set_cons_zero, List.set_cons_succ]
      refine wpAnyH_ready (rs := [7]) (by kernel_rfl) (by simp) ?_
      refine AllReadyH.consL rfl (fun K hK => ?_) AllReadyH.nil
      obtain ⟨e0, e1, e2, e3, e4, e5, e6⟩ := cells7 HN8.out
      have f8 := frozenP HN8.out
      go_simp
      have hN9 : ((w7.alloc (.cells #[.int .i64 kindA, .int .i64 numA, .string ⟨nameA.toArray⟩, .int .i64 atA, .slice p1A n1A c1A, .slice p2A n2A c2A, .slice p3A n3A c3A, .int .i64 kindB, .int .i64 numB, .string ⟨nameB.toArray⟩, .int .i64 atB, .slice p1B n1B c1B, .slice p2B n2B c2B, .slice p3B n3B c3B] 29)).setCell ⟨NB, 4, none⟩ (.slice (some ⟨w7.heap.size, 0, none⟩) 2 2)).heap[NB]? = some (.cells #[.int .i64 12, .int .i64 0, .string ⟨#[]⟩, .int .i64 (plc s2), .slice (some ⟨w7.heap.size, 0, none⟩) 2 2, .slice none 0 0, .slice none 0 0] 29 (0, 0)) := by simpa using heap_setCell_at (i := 4) HN8.out (.slice (some ⟨w7.heap.size, 0, none⟩) 2 2)
      have hk9 : Keep [NB] (w7.alloc (.cells #[.int .i64 kindA, .int .i64 numA, .string ⟨nameA.toArray⟩, .int .i64 atA, .slice p1A n1A c1A, .slice p2A n2A c2A, .slice p3A n3A c3A, .int .i64 kindB, .int .i64 numB, .string ⟨nameB.toArray⟩, .int .i64 atB, .slice p1B n1B c1B, .slice p2B n2B c2B, .slice p3B n3B c3B] 29)) ((w7.alloc (.cells #[.int .i64 kindA, .int .i64 numA, .string ⟨nameA.toArray⟩, .int .i64 atA, .slice p1A n1A c1A, .slice p2A n2A c2A, .slice p3A n3A c3A, .int .i64 kindB, .int .i64 numB, .string ⟨nameB.toArray⟩, .int .i64 atB, .slice p1B n1B c1B, .slice p2B n2B c2B, .slice p3B n3B c3B] 29)).setCell ⟨NB, 4, none⟩ (.slice (some ⟨w7.heap.size, 0, none⟩) 2 2)) := Keep.set1 _ ⟨NB, 4, none⟩ _
      have hs7 := HK7.out.size
      rw [show w6.drew.heap.size = w6.heap.size from rfl] at hs7
      have hs6 := HK6.out.size
      have hn6 := (Array.getElem?_eq_some_iff.1 HN6.out).1
      have hnb := HNB.out
      have hl := HL.out
      have hpl := HPLO.out
      have hlow := HLO.out
      have hs5 := HSZ5.out
      have hbb := HBB.out
      have hndA := ((HND5.out.keepI HK6.out (by simp)).keepI ((Keep.refl [] w6).drew) (by simp)).keepI HK7.out (by simp; omega)
      have hndB := HNDB.out.fix
      rw [show w6.drew.heap.size = w6.heap.size from rfl] at hndB
      have hlit := NsR.lit2I (cs := #[.int .i64 kindA, .int .i64 numA, .string ⟨nameA.toArray⟩, .int .i64 atA, .slice p1A n1A c1A, .slice p2A n2A c2A, .slice p3A n3A c3A, .int .i64 kindB, .int .i64 numB, .string ⟨nameB.toArray⟩, .int .i64 atB, .slice p1B n1B c1B, .slice p2B n2B c2B, .slice p3B n3B c3B]) 29 rfl hndA hndB
      have hs8 := hk9.size
      rw [size_alloc] at hs8
      have hlit9 := hlit.finII hk9 (lo := w2.heap.size) (by simp; omega) (by omega) (by omega) (by omega) (by omega) (by omega) (by omega)
      have hB7 := blkK (blkK HB6.out ((Keep.refl [] w6).drew) (by simp)) HK7.out (by simp; exact HBP.out)
      have hB9 := blkK (blkK hB7 HK8.out (by simp)) hk9 (by simp; exact HNBB.out)
      have hkw9 := ((HK6W.out.trans ((Keep.refl [] w6).drew) (by simp)).trans HK7.out (by simp)).trans HK8.out (by simp)
      have hps9 := (HPSB.out.keep0 HK8.out).keep hk9 (by simp; omega)
      generalize ((w7.alloc (.cells #[.int .i64 kindA, .int .i64 numA, .string ⟨nameA.toArray⟩, .int .i64 atA, .slice p1A n1A c1A, .slice p2A n2A c2A, .slice p3A n3A c3A, .int .i64 kindB, .int .i64 numB, .string ⟨nameB.toArray⟩, .int .i64 atB, .slice p1B n1B c1B, .slice p2B n2B c2B, .slice p3B n3B c3B] 29)).setCell ⟨NB, 4, none⟩ (.slice (some ⟨w7.heap.size, 0, none⟩) 2 2)) = w9 at *
      have HN9 := Lib.hid hN9
      have HB9 := Lib.hid hB9
      have HLIT9 := Lib.hid hlit9
      have HPS9 := Lib.hid hps9
      have HKW9 := Lib.hid (((hkw9.mono (G := [pb, NB]) (by simp)).trans hk9 (by simp)))
      have HC9 := Lib.hid ((HC.out.trans HK8.out (by simp)).trans hk9 (by simp))
      have HSS := Lib.hid hs8
      clear hN9 hk9 hs7 hs6 hn6 hnb hl hpl hlow hs5 hbb hndA hndB hlit hs8 hlit9 hB7 hB9 hkw9 hps9 e0 e1 e2 e3 e4 e5 e6 f8 HN8 HK8 HK7 HC HNDB HPSB
      refine hK.out _ _ HC9.out (fun hHeld2 => ?_)
      clear hK K hHeld hHeld2
      try simp only [Act.put, List.setIfInBounds_toArray, List.set_cons_zero, List.set_cons_succ]
      refine wpAnyH_done (by kernel_rfl) ?_ _
      obtain ⟨c0, c1, c2, c3, c4, c5, c6⟩ := cells7 HN9.out
      obtain ⟨d0, d1, d2, d3, d4, d5, d6⟩ := cells7 HB9.out
      have f9 := frozenP HB9.out
      go_wp2_with fail
      obtain ⟨hb10, hk10⟩ := set7 HB9.out (.int .i64 12) (.int .i64 0) (.string ⟨#[]⟩) (.int .i64 (plc s2)) (.slice (some ⟨w7.heap.size, 0, none⟩) 2 2) (.slice none 0 0) (.slice none 0 0)
      refine bodyPost_ret (results_cell_row (ty := 29) rfl _ _ B _ _ _ _ rfl hb10 Tryz.underlying29 rfl node_size) rfl ?_
      have hB := HBB.out
      have hP := HPLO.out
      have hLo := HLO.out
      have hL := HL.out
      have hNB := HNB.out
      have hS5 := HSZ5.out
      have hev := Ev.of_expr_two HEV2.out HOT.out HEVB.out
      rw [if_pos (by decide)] at hev
      refine ⟨[.int .i64 12, .int .i64 0, .string ⟨#[]⟩, .int .i64 (plc s2), .slice (some ⟨w7.heap.size, 0, none⟩) 2 2, .slice none 0 0, .slice none 0 0], _, s3, rfl, hev, NdR.mk7 (name := []) ?_ (NsR.nil _ _ _) (NsR.nil _ _ _), HPS9.out.keep hk10 (by simp; omega), Nat.le_trans HLEB.out (by have := HLT.out; omega), keepB (lo := w.heap.size) ((HKW9.out.mono (G := [pb, NB, B]) (by simp)).trans hk10 (by simp)) (by simp; omega) (Nat.le_refl _)⟩
      exact NsR.up HLIT9.out hk10 (by simp; omega) (by omega)
end Go.Proofs.YtdmmhfbafinkpaaGreatDoor
