/- The document's tape: fail, taken. Printed by gen-mn14.py. -/
import Derived.Test.YtngepgnmlpinaaaMn13
namespace Go.Proofs.Ytngepgnmlpinaaa
open Go.RowKit Go.Emb

theorem r_fail {w : World} {q : Nat} {bs : List UInt8} {pos : Nat} {sp : Int} {v : Value} {bo : Option Nat} (h : TP 67 w q bs pos 0 sp v bo) (er : Int) {m : Nat} (hm : m ≤ bs.length) :
    Calls Try.prog 68 #[.pointer (some ⟨q, 0, none⟩), .int .i64 er, .int .i64 (m : Int)] w fun e w' => e = .returned (.tuple #[]) ∧ TP 67 w' q bs m er (m : Int) v bo ∧ Keep [q] w w' := by
  obtain ⟨c0, c1, c2, c3, f0, f1, f2, f3⟩ := cells4 h.blk
  have H := Lib.hid h
  clear h
  go_enter Try.func68, Try.ntmps68
  go_wp2_with fail
  refine bodyPost_end (results_none rfl _ _ _) rfl ?_
  have hk : Keep [q] w (((w.setCell ⟨q, 2, none⟩ (.int .i64 er)).setCell ⟨q, 3, none⟩ (.int .i64 (m : Int))).setCell ⟨q, 1, none⟩ (.int .i64 (m : Int))) := (((Keep.refl [q] w).setCell (.inl (by simp)) _).setCell (.inl (by simp)) _).setCell (.inl (by simp)) _
  refine ⟨rfl, H.out.turn hk hm ?_, hk⟩
  have := heap_setCell_at (i := 1) (heap_setCell_at (i := 3) (heap_setCell_at (i := 2) H.out.blk (.int .i64 er)) (.int .i64 (m : Int))) (.int .i64 (m : Int))
  simpa using this
set_option maxRecDepth 100000 in
set_option maxHeartbeats 4000000 in
theorem r_taken {w : World} {q : Nat} {bs : List UInt8} {v : Value} {bo : Option Nat} {st : Option (List UInt8)} (h : TSt 67 w q bs v bo st) (more : Bool) {mo : Int} (hmo : mo = if more then 128 else 0) :
    Calls Try.prog 69 #[.pointer (some ⟨q, 0, none⟩), .int .i64 mo] w fun e w' => e = .returned (.tuple #[.int .u64 ((oNum more st).1 : Int), .bool (oNum more st).2.1]) ∧ TSt 67 w' q bs v bo (oNum more st).2.2 ∧ Keep [q] w w' := by
  obtain ⟨pos, fa, sp, ht, ⟨rfl, hfa, hf1, hf2⟩ | ⟨rfl, hsp, rfl⟩⟩ := h
  · obtain ⟨c0, c1, c2, c3, f0, f1, f2, f3⟩ := cells4 ht.blk
    have hne : (fa != 0) = true := by simp [hfa]
    have HT := Lib.hid ht
    have HF := Lib.hid (And.intro hfa (And.intro hf1 hf2))
    clear ht hfa hf1 hf2
    go_enter Try.func69, Try.ntmps69
    go_wp2_with fail
    go_ret2
    exact ⟨rfl, ⟨pos, fa, sp, HT.out, .inl ⟨rfl, HF.out⟩⟩, Keep.refl _ _⟩
  · subst hsp
    have hle := ht.le
    have hsz := ht.sz
    obtain ⟨c0, c1, c2, c3, f0, f1, f2, f3⟩ := cells4 ht.blk
    obtain ⟨-, va, vc, rfl, hc1, hc2, -⟩ := id ht.rd
    unfold maxLen at hc2
    obtain ⟨R, hR⟩ : ∃ R, R = oNum more (some (bs.drop pos)) := ⟨_, rfl⟩
    rw [← hR]
    have HRR := Lib.hid hR
    have HMO := Lib.hid hmo
    have HT := Lib.hid ht
    clear hR hmo
    by_cases hend : pos = bs.length
    · have hz : R = (0, false, none) := HRR.out.trans (oNum_none (by rw [List.drop_of_length_le (by omega)]; rfl))
      have hst := r_fail ht 3 hle
      have HS := Lib.hid hst
      have HZ := Lib.hid hz
      have hge : (bs.length : Int) ≤ (pos : Int) := by omega
      clear hst ht hz hend HMO
      go_enter Try.func69, Try.ntmps69
      go_wp2_with fail
      refine HS.out.mono ?_
      rintro e w2 ⟨rfl, h1, h2⟩
      have H := Lib.hid (And.intro h1 h2)
      clear h1 h2
      go_wp2_with fail
      go_ret2
      rw [HZ.out]
      exact ⟨rfl, ⟨pos, 3, _, H.out.1, .inl ⟨rfl, by omega, by omega, by omega⟩⟩, H.out.2⟩
    · obtain ⟨ch, r, hl⟩ : ∃ ch r, bs.drop pos = ch :: r := by
        cases hd : bs.drop pos with
        | nil => have := congrArg List.length hd; rw [List.length_drop] at this; simp at this; omega
        | cons ch r => exact ⟨ch, r, rfl⟩
      have hrl : r.length = bs.length - (pos + 1) := by have := congrArg List.length hl; rw [List.length_drop] at this; simp at this; omega
      have hr2 : bs.drop (pos + 1) = r := by rw [← List.drop_drop, hl]; rfl
      have hbp : bs[pos]'(by omega) = ch := by
        have := List.getElem_drop (xs := bs) (i := pos) (j := 0) (h := by rw [hl]; simp)
        simp only [Nat.add_zero] at this
        rw [← this]
        simp [hl]
      have hcells := fun i (hi : i < bs.length) => rd_cell ht.rd hi hi
      obtain ⟨sb, soff, rfl, -, hcell⟩ := hcells pos (by omega)
      rw [hbp] at hcell
      have hcj : ∀ i (hi : i < bs.length), w.cell? ⟨sb, soff + i, none⟩ = some (.int .u8 (bs[i].toNat : Int)) := fun i hi => by
        obtain ⟨b', off', e1, -, h⟩ := hcells i hi
        cases e1
        exact h
      obtain ⟨kk, hkk⟩ : ∃ k, k = kOf more ch := ⟨_, rfl⟩
      obtain ⟨is, his⟩ : ∃ b, b = (more && decide (128 ≤ ch.toNat)) := ⟨_, rfl⟩
      have hp := pNum_cons more ch r
      rw [← hkk, ← his] at hp
      have hch := ch.toNat_lt
      have hkk2 : kk < 256 := by rw [hkk]; unfold kOf; split <;> omega
      have HP := Lib.hid hp
      have HL := Lib.hid (And.intro hrl hr2)
      have HKI := Lib.hid (And.intro hkk his)
      have HRL := Lib.hid (hl ▸ HRR.out)
      have HCJ := Lib.hid hcj
      have p0 : (0 : Int) ≤ (pos : Int) := by omega
      have p1 : (pos : Int) < (bs.length : Int) := by omega
      clear hp hrl hr2 hkk his hl hbp hcells ht HRR hcj
      go_enter Try.func69, Try.ntmps69
      go_upto_region 8 with fail
      refine wp_cut (CutF 101 (fun f wx => f 8 = .bool is ∧ f 7 = .int .i64 (ch.toNat : Int) ∧ f 1 = .int .i64 mo ∧ f 0 = .pointer (some ⟨q, 0, none⟩) ∧ f 6 = .int .i64 (pos : Int) ∧ w = wx)) ?rest ?first
      case first =>
        intro J K' hJ hK'
        have HJ := Lib.hid hJ
        clear hJ
        obtain ⟨-, his⟩ := HKI.out
        have hmo := HMO.out
        cases more with
        | false =>
          simp at his hmo
          subst his hmo
          go_wp2_with fail
          exact Met.intro (HJ.out _ _ (CutF.mk rfl ⟨rfl, rfl, rfl, rfl, rfl, rfl⟩))
        | true =>
          simp at hmo
          subst hmo
          by_cases h128 : 128 ≤ ch.toNat
          · simp [h128] at his
            subst his
            have hge : (128 : Int) ≤ (ch.toNat : Int) := by omega
            go_wp2_with fail
            exact Met.intro (HJ.out _ _ (CutF.mk rfl ⟨by simp [hge], rfl, rfl, rfl, rfl, rfl⟩))
          · simp [h128] at his
            subst his
            have hge : ¬ (128 : Int) ≤ (ch.toNat : Int) := by omega
            go_wp2_with fail
            exact Met.intro (HJ.out _ _ (CutF.mk rfl ⟨by simp [hge], rfl, rfl, rfl, rfl, rfl⟩))
      case rest =>
        intro a' w' hc
        obtain ⟨f, rfl, h8, h7, h1, h0, h6, rfl⟩ := hc.lit
        rw [show ((List.range 101).map f).toArray = #[f 0, f 1, f 2, f 3, f 4, f 5, f 6, f 7, f 8, f 9, f 10, f 11, f 12, f 13, f 14, f 15, f 16, f 17, f 18, f 19, f 20, f 21, f 22, f 23, f 24, f 25, f 26, f 27, f 28, f 29, f 30, f 31, f 32, f 33, f 34, f 35, f 36, f 37, f 38, f 39, f 40, f 41, f 42, f 43, f 44, f 45, f 46, f 47, f 48, f 49, f 50, f 51, f 52, f 53, f 54, f 55, f 56, f 57, f 58, f 59, f 60, f 61, f 62, f 63, f 64, f 65, f 66, f 67, f 68, f 69, f 70, f 71, f 72, f 73, f 74, f 75, f 76, f 77, f 78, f 79, f 80, f 81, f 82, f 83, f 84, f 85, f 86, f 87, f 88, f 89, f 90, f 91, f 92, f 93, f 94, f 95, f 96, f 97, f 98, f 99, f 100] from rfl]
        rw [h8, h7, h1, h0, h6]
        clear hc h8 h7 h1 h0 h6
        go_upto_region 9 with fail
        rename_i K_out a_out K_in a_in
        have hcut : ∀ a' w', CutF 101 (fun f wx => f 7 = .int .i64 (kk : Int) ∧ f 8 = .bool is ∧ f 0 = .pointer (some ⟨q, 0, none⟩) ∧ f 6 = .int .i64 (pos : Int) ∧ w = wx) a' w' → K_out a' w' := by
          intro a' w' hc
          refine a_out _ _ ?_
          clear a_out a_in K_in
          obtain ⟨f, rfl, h7, h8, h0, h6, rfl⟩ := hc.lit
          rw [show ((List.range 101).map f).toArray = #[f 0, f 1, f 2, f 3, f 4, f 5, f 6, f 7, f 8, f 9, f 10, f 11, f 12, f 13, f 14, f 15, f 16, f 17, f 18, f 19, f 20, f 21, f 22, f 23, f 24, f 25, f 26, f 27, f 28, f 29, f 30, f 31, f 32, f 33, f 34, f 35, f 36, f 37, f 38, f 39, f 40, f 41, f 42, f 43, f 44, f 45, f 46, f 47, f 48, f 49, f 50, f 51, f 52, f 53, f 54, f 55, f 56, f 57, f 58, f 59, f 60, f 61, f 62, f 63, f 64, f 65, f 66, f 67, f 68, f 69, f 70, f 71, f 72, f 73, f 74, f 75, f 76, f 77, f 78, f 79, f 80, f 81, f 82, f 83, f 84, f 85, f 86, f 87, f 88, f 89, f 90, f 91, f 92, f 93, f 94, f 95, f 96, f 97, f 98, f 99, f 100] from rfl]
          rw [h7, h8, h0, h6]
          clear hc h7 h8 h0 h6 hcell HKI HMO
          by_cases h8 : 8 < kk
          · have h8' : (8 : Int) < (kk : Int) := by omega
            have hz : R = (0, false, none) := HRL.out.trans (oNum_none (by rw [HP.out, if_pos (.inl h8)]))
            have hst := r_fail HT.out 10 (m := pos) (by omega)
            have HS := Lib.hid hst
            have HZ := Lib.hid hz
            clear hst hz
            go_wp2_with fail
            refine HS.out.mono ?_
            rintro e w2 ⟨rfl, h1, h2⟩
            have H := Lib.hid (And.intro h1 h2)
            clear h1 h2
            go_wp2_with fail
            go_ret2
            rw [HZ.out]
            exact ⟨rfl, ⟨pos, 10, _, H.out.1, .inl ⟨rfl, by omega, by omega, by omega⟩⟩, H.out.2⟩
          · have h8' : ¬ (8 : Int) < (kk : Int) := by omega
            have hw1 : IntKind.i64.wrap ((bs.length : Int) - (pos : Int)) = (bs.length : Int) - (pos : Int) := IntWalk.i64_in _ (by omega)
            have hw2 : IntKind.i64.wrap ((bs.length : Int) - (pos : Int) - 1) = (bs.length : Int) - (pos : Int) - 1 := IntWalk.i64_in _ (by omega)
            by_cases hsh : r.length < kk
            · have hsh' : (bs.length : Int) - (pos : Int) - 1 < (kk : Int) := by have := HL.out.1; omega
              have hz : R = (0, false, none) := HRL.out.trans (oNum_none (by rw [HP.out, if_pos (.inr (.inl hsh))]))
              have hst := r_fail HT.out 3 (m := pos) (by omega)
              have HS := Lib.hid hst
              have HZ := Lib.hid hz
              clear hst hz
              go_wp2_with fail
              refine HS.out.mono ?_
              rintro e w2 ⟨rfl, h1, h2⟩
              have H := Lib.hid (And.intro h1 h2)
              clear h1 h2
              go_wp2_with fail
              go_ret2
              rw [HZ.out]
              exact ⟨rfl, ⟨pos, 3, _, H.out.1, .inl ⟨rfl, by omega, by omega, by omega⟩⟩, H.out.2⟩
            · have hsh' : ¬ (bs.length : Int) - (pos : Int) - 1 < (kk : Int) := by have := HL.out.1; omega
              have htk : (r.take kk).length = kk := by rw [List.length_take]; omega
              obtain ⟨p, hp⟩ : ∃ p, p = r.take kk := ⟨_, rfl⟩
              have hpi : ∀ i (hi : i < kk), p[i]? = some (bs[pos + (i + 1)]'(by have := HL.out.1; omega)) := fun i hi => by
                have e := List.getElem?_drop (xs := bs) (i := pos + 1) (j := i)
                rw [HL.out.2] at e
                rw [hp, List.getElem?_take_of_lt hi, e, List.getElem?_eq_getElem (by have := HL.out.1; omega)]
                congr 2
                omega
              have hmh := many_head (l := p) (by rw [hp]; omega)
              rw [← hp] at htk
              have hzz : (p.head? = some 0 → pNum more (ch :: r) = none) ∧ (p.head? ≠ some 0 → pNum more (ch :: r) = some (valL p, is, r.drop kk)) := by
                rw [HP.out, ← hp]
                exact ⟨fun h => if_pos (.inr (.inr h)), fun h => if_neg (by simp only [not_or]; exact ⟨by omega, by omega, h⟩)⟩
              have HTK := Lib.hid htk
              have HPI := Lib.hid hpi
              have HMH := Lib.hid hmh
              have HZZ := Lib.hid hzz
              clear hp htk hpi hmh hzz HP
              go_wp2_with fail
              go_loop [9, 10] (fun n i => ∃ j : Nat, j ≤ kk ∧ n = .int .u64 (valL (p.take j) : Int) ∧ i = .int .i64 ((j + 1 : Nat) : Int)) (fun _ i => kk + 1 - (intOf i).toNat)
              case atStart => exact ⟨0, Nat.zero_le _, rfl, rfl⟩
              case round =>
                obtain ⟨j, hj, rfl, rfl⟩ := hrel
                by_cases hjl : j < kk
                · have hcj := HCJ.out (pos + (j + 1)) (by have := HL.out.1; omega)
                  have hpj := HPI.out j hjl
                  rw [List.getElem?_eq_getElem (by have := HTK.out; omega)] at hpj
                  simp only [Option.some.injEq] at hpj
                  rw [← hpj] at hcj
                  have hv := valL_take (l := p) (i := j) (by have := HTK.out; omega)
                  have hvl := valL_take_lt (l := p) (i := j) (by omega)
                  have hc256 := (p[j]'(by have := HTK.out; omega)).toNat_lt
                  generalize (p[j]'(by have := HTK.out; omega)).toNat = cj at *
                  obtain ⟨nj, hnj⟩ : ∃ n, n = valL (p.take j) := ⟨_, rfl⟩
                  rw [← hnj] at hv hvl
                  rw [← hnj]
                  have hor := or_byte nj cj hvl hc256
                  rw [Int.natCast_mul] at hor
                  have hor2 : bits BinOp.or IntKind.u64 ((nj : Int) * 256) (cj : Int) = ((nj * 256 + cj : Nat) : Int) := hor
                  have HOR := Lib.hid hor2
                  have HV := Lib.hid hv
                  have hw : IntKind.u64.wrap ((nj : Int) * 256) = ((nj * 256 : Nat) : Int) := (IntWalk.u64_in _ (by omega)).trans (by omega)
                  have j1 : ((j + 1 : Nat) : Int) ≤ (kk : Int) := by omega
                  have hw3 : IntKind.i64.wrap ((pos : Int) + ((j + 1 : Nat) : Int)) = ((pos + (j + 1) : Nat) : Int) := (IntWalk.i64_in _ (by omega)).trans (by omega)
                  have j2 : ((pos + (j + 1) : Nat) : Int) < (bs.length : Int) := by have := HL.out.1; omega
                  clear hv hnj hor hor2 hpj
                  go_wp2_with fail
                  go_round
                  case rel => exact ⟨j + 1, by omega, by rw [HV.out, HOR.out], by go_num⟩
                  case measure => simp [intOf]; omega
                · obtain rfl : j = kk := by omega
                  have j1 : ¬ ((j + 1 : Nat) : Int) ≤ (j : Int) := by omega
                  rw [List.take_of_length_le (by have := HTK.out; omega)]
                  have hvl := valL_lt8 (l := p) (by have := HTK.out; omega)
                  have hmany := r_many (w := w) hvl
                  have HM := Lib.hid hmany
                  clear hmany
                  have hmh : (beL (valL p)).length = j ↔ p.head? ≠ some 0 := by have := HMH.out; rw [HTK.out] at this; exact this
                  generalize hmg : (beL (valL p)).length = mg at *
                  generalize valL p = nv at *
                  clear hmg
                  by_cases hmj : mg = j
                  · subst hmj
                    have hz : R = (nv, is, some (r.drop mg)) := HRL.out.trans (oNum_some (HZZ.out.2 (hmh.1 rfl)))
                    have hdr : bs.drop (pos + 1 + mg) = r.drop mg := by rw [← HL.out.2, List.drop_drop]
                    have hw3 : IntKind.i64.wrap ((pos : Int) + 1) = (pos : Int) + 1 := IntWalk.i64_in _ (by omega)
                    have hw4 : IntKind.i64.wrap ((pos : Int) + 1 + (mg : Int)) = ((pos + 1 + mg : Nat) : Int) := (IntWalk.i64_in _ (by omega)).trans (by omega)
                    have HZ := Lib.hid hz
                    have HDR := Lib.hid hdr
                    clear hz hdr hmh HMH
                    go_wp2_with fail
                    refine HM.out.mono ?_
                    rintro e w2 ⟨rfl, rfl⟩
                    go_wp2_with fail
                    go_ret2
                    rw [HZ.out]
                    have hk : Keep [q] w (w.setCell ⟨q, 1, none⟩ (.int .i64 ((pos + 1 + mg : Nat) : Int))) := (Keep.refl [q] w).setCell (.inl (by simp)) _
                    have hb := heap_setCell_at (i := 1) HT.out.blk (.int .i64 ((pos + 1 + mg : Nat) : Int))
                    exact ⟨rfl, ⟨pos + 1 + mg, 0, 0, HT.out.turn hk (by have := HL.out.1; omega) (by simpa using hb), .inr ⟨rfl, rfl, congrArg some HDR.out.symm⟩⟩, hk⟩
                  · have hz : R = (0, false, none) := HRL.out.trans (oNum_none (HZZ.out.1 (Classical.byContradiction fun h => hmj (hmh.2 h))))
                    have hst := r_fail HT.out 10 (m := pos) (by omega)
                    have HS := Lib.hid hst
                    have HZ := Lib.hid hz
                    have hne : ((mg : Int) != (j : Int)) = true := by simp; omega
                    clear hz hst hmh HMH
                    go_wp2_with fail
                    refine HM.out.mono ?_
                    rintro e w2 ⟨rfl, rfl⟩
                    go_wp2_with fail
                    refine HS.out.mono ?_
                    rintro e w2 ⟨rfl, h1, h2⟩
                    have H := Lib.hid (And.intro h1 h2)
                    clear h1 h2
                    go_wp2_with fail
                    go_ret2
                    rw [HZ.out]
                    exact ⟨rfl, ⟨pos, 10, _, H.out.1, .inl ⟨rfl, by omega, by omega, by omega⟩⟩, H.out.2⟩
        have HCUT := Lib.hid hcut
        clear hcut a_out
        obtain ⟨hkk, his⟩ := HKI.out
        have hmo := HMO.out
        unfold kOf at hkk
        rw [← his] at hkk
        cases is with
        | false =>
          rw [if_neg (by simp)] at hkk
          clear his HKI hmo HMO
          subst hkk
          go_wp2_with fail
          exact HCUT.out _ _ (CutF.mk rfl ⟨rfl, rfl, rfl, rfl, rfl⟩)
        | true =>
          rw [if_pos rfl] at hkk
          have hm : more = true := by simp at his; exact his.1
          have h128 : 128 ≤ ch.toNat := by simp at his; exact his.2
          subst hm
          simp at hmo
          subst hmo
          have hu : IntKind.i64.wrap ((ch.toNat : Int) - 128) = (kk : Int) := (IntWalk.i64_in _ (by omega)).trans (by omega)
          clear his HKI HMO hkk
          go_wp2_with fail
          exact HCUT.out _ _ (CutF.mk rfl ⟨rfl, rfl, rfl, rfl, rfl⟩)
end Go.Proofs.Ytngepgnmlpinaaa
