/- QueueOnce: the walk. -/
import Derived.Test.YtphfmbkfcjiciaaOnceP
namespace Go.Proofs.Ytphfmbkfcjiciaa.once
open Go.RowKit Go.Emb Go.Shelf Go.Lib Go.Sort

/-- an act that came in, still there -/
theorem act_cells {w0 w : World} {v : Value} {acts : List ActV} (h : RdActs w0 v acts) (k : Keep [] w0 w) {a : Option Addr} {c : Nat} (hv : v = .slice a acts.length c) {i : Nat} (hi : i < acts.length) :
    ∃ b off, a = some ⟨b, off, none⟩ ∧ w.cell? ⟨b, off + i * 4, none⟩ = some (.int .i64 acts[i].kind) ∧ w.cell? ⟨b, off + i * 4 + 1, none⟩ = some acts[i].lv ∧ w.cell? ⟨b, off + i * 4 + 2, none⟩ = some (.int .i64 acts[i].p) ∧ w.cell? ⟨b, off + i * 4 + 3, none⟩ = some (.int .i64 acts[i].t) ∧
      ∃ o, Rd w 1 acts[i].lv acts[i].l.length (acts[i].l.map (Value.int .i64)) o ∧ ∀ b, o = some b → b < w0.heap.size := by
  have hk := h.keep k
  obtain ⟨a', c', hv', _, _, h3, h4⟩ := hk
  rw [hv] at hv'
  cases hv'
  obtain ⟨a', c', hv', _, _, h5, _⟩ := h
  obtain ⟨⟨o, r1, r2⟩, _⟩ := h5 acts[i] (List.getElem_mem hi)
  rcases h4 with h4 | ⟨b, off, rfl, hb, h4⟩
  · omega
  · obtain ⟨c0, c1, c2, c3⟩ := h4 i hi
    exact ⟨b, off, rfl, c0, c1, c2, c3, o, r1.keep0 k, r2⟩

set_option maxRecDepth 100000 in
set_option maxHeartbeats 2000000 in
theorem walk {w : World} {v : Value} {acts : List ActV} (h : RdActs w v acts) (now : Int) : Calls Try.prog 4 #[v, .int .i64 now] w fun e w' => e = .returned (.bool true) ∧ Keep [] w w' := by
  have HA := Lib.hid h
  obtain ⟨a, c, rfl, hc1, hc2, -, -⟩ := h
  unfold maxLen at hc2
  go_enter Try.func4, Try.ntmps4
  go_wp2_with fail
  refine (huge_any HA.out).mono ?_
  rintro e w' ⟨hb, rfl, hfew, rfl⟩
  have HFEW := Lib.hid hfew
  clear hfew
  cases hb with
  | true =>
    go_wp2_with fail
    refine (live_any _).mono ?_
    rintro e w' ⟨rfl, hk⟩
    go_wp2_with fail
    go_ret
    exact ⟨rfl, hk⟩
  | false =>
    obtain ⟨hf1, hf2⟩ := HFEW.out rfl
    clear HFEW
    go_wp2_with fail
    refine (s_new (Sep.nil w)).mono ?_
    rintro e w1 ⟨q, rfl, F, hs⟩
    have HS1 := Lib.hid hs
    clear hs
    go_wp2_with fail
    go_loopw [6] (fun i wr => ∃ k : Nat, k ≤ acts.length ∧ i = .int .i64 k ∧ ∃ F, Sep w [TQ q (readyAll (acts.take k)) (timersAll (acts.take k)) F] wr) (fun i _ => acts.length - (intOf i).toNat)
    case atStart => exact ⟨0, Nat.zero_le _, rfl, F, HS1.out⟩
    case round =>
      clear HS1 F w1
      obtain ⟨k, hk, rfl, F, hs⟩ := hrel
      have HS := Lib.hid hs
      clear hs
      by_cases hlt : k < acts.length
      · obtain ⟨b, off, rfl, c0, c1, c2, c3, o, r1, r2⟩ := act_cells HA.out HS.out.keep rfl hlt
        have i0 : (0 : Int) ≤ (k : Int) := by omega
        have i1 : (k : Int) < (acts.length : Int) := by omega
        have hle := readyAll_le acts k
        have hst := sumL_take acts k
        have hst2 := sumL_take acts (k + 1)
        have hsn : sumL (acts.take (k + 1)) = sumL (acts.take k) + acts[k].l.length := by rw [List.take_succ_eq_append_getElem hlt, sumL_snoc]
        have hcall := s_ready HS.out r1 (fun b hb => HS.out.old (r2 b hb)) (by omega)
        have HC := Lib.hid hcall
        have hsr : readyAll (acts.take (k + 1)) = addAll (readyAll (acts.take k)) acts[k].l := by rw [List.take_succ_eq_append_getElem hlt, readyAll_snoc]
        have hsm : timersAll (acts.take (k + 1)) = mput (timersAll (acts.take k)) acts[k].p acts[k].t := by rw [List.take_succ_eq_append_getElem hlt, timersAll_snoc]
        have HSR := Lib.hid hsr
        have HSM := Lib.hid hsm
        clear hcall c0 c2 c3 r1 r2 hle hst hst2 hsn hsr hsm
        generalize hlv : acts[k].lv = lv at *
        clear hlv
        go_wp2_with fail
        refine HC.out.mono ?_
        rintro e w2 ⟨rfl, F2, hs2⟩
        have HS2 := Lib.hid hs2
        clear hs2 c1
        obtain ⟨b', off', hbb, -, -, c2, c3, -⟩ := act_cells HA.out HS2.out.keep rfl hlt
        cases hbb
        obtain ⟨w3, hw3⟩ : ∃ w3, w3 = w2.drew := ⟨_, rfl⟩
        have hcall := s_set (show Sep w [TQ q _ _ F2] w3 by rw [hw3]; exact HS2.out.kept (Keep.refl _ _).drew) acts[k].p acts[k].t
        have HW3 := Lib.hid hw3
        clear hw3
        have HC2 := Lib.hid hcall
        clear hcall HC
        generalize hp : acts[k].p = p at *
        generalize ht : acts[k].t = t at *
        clear hp ht
        go_wp2_with fail
        go_still_tail 11, (by kernel_rfl)
        change wpList _ _ _ _ _ w2.drew
        rw [← HW3.out]
        go_wp2_with fail
        refine HC2.out.mono ?_
        rintro e w4 ⟨rfl, F4, hs4⟩
        have HS4 := Lib.hid hs4
        clear hs4
        go_wp2_with fail
        go_roundw
        case rel => exact ⟨k + 1, by omega, by go_num, F4, by rw [HSR.out, HSM.out]; exact HS4.out⟩
        case measure => simp [intOf]; omega
      · obtain rfl : k = acts.length := by omega
        have hle := readyAll_le acts acts.length
        have htl := timersAll_le acts acts.length
        rw [List.take_length] at hle htl
        have hs : Sep w [TQ q (readyAll acts) (timersAll acts) F] wr := by have := HS.out; rwa [List.take_length] at this
        generalize hl0 : readyAll acts = l0 at *
        generalize hT0 : timersAll acts = T at *
        have htnd := IsQ.tnd (hs.get (t := TQ q l0 T F) (by simp))
        have HT := Lib.hid htnd
        have HS0 := Lib.hid hs
        clear htnd hs HS hl0 hT0
        go_wp2_with fail
        refine (s_tick HS0.out now (by omega)).mono ?_
        rintro e w2 ⟨av, oa, F2, rfl, hs⟩
        have hdl : (due T now).length ≤ T.length := by unfold due; rw [List.length_map]; exact Nat.le_trans (List.length_filter_le _ _) (by rw [sortT_length]; exact Nat.le_refl _)
        have hall := addAll_le (due T now) l0
        have HS2 := Lib.hid hs
        clear hs HS0
        go_wp2_with fail
        refine (s_waiting HS2.out (by omega)).mono ?_
        rintro e w3 ⟨wv, ow, F3, rfl, hs⟩
        have HS3 := Lib.hid hs
        clear hs HS2
        go_wp2_with fail
        refine (s_tick HS3.out now (by omega)).mono ?_
        rintro e w4 ⟨bv, ob, F4, rfl, hs⟩
        rw [addAll_twice] at hs
        have HS4 := Lib.hid hs
        clear hs HS3
        generalize hl1 : addAll l0 (due T now) = l1 at *
        have hl1n : l1.length ≤ 1000000 := by omega
        generalize hdu : due T now = A at *
        have HDU := Lib.hid hdu
        have hAn : A.length ≤ 1000000 := by omega
        clear hdu hl1 hall
        go_wp2_with fail
        refine ((s_numbers (xs := A) (ys := A) HS4.out (HS4.out.get (t := TI av A oa) (by simp)) (HS4.out.get (t := TI bv A ob) (by simp)) (by omega) (by omega)).mono (R' := fun e w' => e = .returned (.bool true) ∧ Sep w [TQ q l1 T F4, TI bv A ob, TI wv l1 ow, TI av A oa] w') ?_).mono ?_
        · rintro e w' ⟨rfl, hs⟩
          exact ⟨by simp, hs⟩
        rintro e w5 ⟨rfl, hs⟩
        have HS5 := Lib.hid hs
        clear hs HS4
        go_wp2_with fail
        refine (s_waiting HS5.out (by omega)).mono ?_
        rintro e w6 ⟨wv2, ow2, F6, rfl, hs⟩
        have HS6 := Lib.hid hs
        clear hs HS5
        go_wp2_with fail
        refine ((s_numbers (xs := l1) (ys := l1) HS6.out (HS6.out.get (t := TI wv l1 ow) (by simp)) (HS6.out.get (t := TI wv2 l1 ow2) (by simp)) (by omega) (by omega)).mono (R' := fun e w' => e = .returned (.bool true) ∧ Sep w [TQ q l1 T F6, TI wv l1 ow, TI av A oa] w') ?_).mono ?_
        · rintro e w' ⟨rfl, hs⟩
          exact ⟨by simp, Sep.sub hs ((((List.Sublist.refl _).cons _).cons _).cons_cons _)⟩
        rintro e w7 ⟨rfl, hs⟩
        have HS7 := Lib.hid hs
        clear hs HS6
        have hwrd : Rd w7 1 wv l1.length (l1.map (Value.int .i64)) ow := HS7.out.get (t := TI wv l1 ow) (by simp)
        obtain ⟨-, wa, wc, rfl, -, hwc, hwcell⟩ := hwrd
        have HWC := Lib.hid hwcell
        have hlnd : l1.Nodup := IsQ.lnd (HS7.out.get (t := TQ q l1 T F6) (by simp))
        have HLN := Lib.hid hlnd
        clear hwcell hlnd
        go_wp2_with fail
        go_loopw [10] (fun i wr => ∃ k n : Nat, k ≤ l1.length ∧ i = .int .i64 k ∧ wr = w7.drewN n) (fun i _ => l1.length - (intOf i).toNat)
        case atStart => exact ⟨0, 0, Nat.zero_le _, rfl, rfl⟩
        case round =>
          obtain ⟨k, n, hk, rfl, rfl⟩ := hrel
          by_cases hlt : k < l1.length
          · go_wp2_with fail
            go_loopw [11] (fun i wr => ∃ m n : Nat, m ≤ k ∧ i = .int .i64 m ∧ wr = w7.drewN n) (fun i _ => k - (intOf i).toNat)
            case atStart => exact ⟨0, n, Nat.zero_le _, rfl, rfl⟩
            case round =>
              obtain ⟨m, n2, hm, rfl, rfl⟩ := hrel
              by_cases hmk : m < k
              · rcases HWC.out with ⟨h0, _⟩ | ⟨b, off, rfl, rfl, hcs⟩
                · omega
                have e1 : w7.cell? ⟨b, off + k, none⟩ = some (.int .i64 l1[k]) := by rw [hcs k (by omega), List.getElem?_map, List.getElem?_eq_getElem hlt]; rfl
                have e2 : w7.cell? ⟨b, off + m, none⟩ = some (.int .i64 l1[m]) := by rw [hcs m (by omega), List.getElem?_map, List.getElem?_eq_getElem (by omega)]; rfl
                have hne : (l1[k] == l1[m]) = false := by
                  have := (List.pairwise_iff_getElem.1 HLN.out) m k (by omega) hlt hmk
                  simp; exact fun e => this e.symm
                have i0 : (0 : Int) ≤ (k : Int) := by omega
                have i1 : (k : Int) < (l1.length : Int) := by omega
                have i2 : (0 : Int) ≤ (m : Int) := by omega
                have i3 : (m : Int) < (l1.length : Int) := by omega
                clear hcs
                generalize l1[k] = x at *
                generalize l1[m] = y at *
                go_wp2_with fail
                go_quiet (fail)
                go_wp2_with fail
                go_roundw
                case rel => exact ⟨m + 1, _, by omega, by go_num, rfl⟩
                case measure => simp [intOf]; omega
              · go_wp2_with fail
                go_roundw
                case rel => exact ⟨k + 1, n2, by omega, by go_num, rfl⟩
                case measure => simp [intOf]; omega
          · go_wp2_with fail
            refine (s_timers (HS7.out.kept ((Keep.refl _ _).drewN n)) (by omega)).mono ?_
            rintro e w8 ⟨tv, ot, F8, rfl, hs⟩
            have HS8 := Lib.hid hs
            clear hs HS7
            have htrd : Rd w8 2 tv (sortT T).length ((sortT T).flatMap encT) ot := HS8.out.get (t := TD tv (sortT T) ot) (by simp)
            have hard : Rd w8 1 av A.length (A.map (Value.int .i64)) oa := HS8.out.get (t := TI av A oa) (by simp)
            obtain ⟨-, ta, tc, rfl, -, htc, -⟩ := htrd
            obtain ⟨-, aa, ac, rfl, -, hac, -⟩ := hard
            have hDl := sortT_length T
            have hdueA : dueK (sortT T) now (sortT T).length = A := by rw [dueK_all]; exact HDU.out
            have hdueg : ∀ k (hk : k < (sortT T).length), (sortT T)[k].2 ≤ now → A[(dueK (sortT T) now k).length]? = some (sortT T)[k].1 := fun k hk hd => by rw [← HDU.out]; exact dueK_get T now hk hd
            have HDA := Lib.hid hdueA
            have HDG := Lib.hid hdueg
            have HDL := Lib.hid hDl
            have hDl2 : (sortT T).length ≤ 150 := by omega
            have hst : Sep w [TQ q l1 (left T (dueK (sortT T) now 0)) F8, TD (.slice ta (sortT T).length tc) (sortT T) ot, TI (.slice aa A.length ac) A oa] w8 := by
              have := HS8.out
              simp only [dueK, List.take_zero, List.filter_nil, List.map_nil, left_nil]
              exact Sep.sub this (((List.Sublist.refl _).cons _).cons_cons _ |>.cons_cons _)
            have HST := Lib.hid hst
            clear hst hdueA hdueg hDl HS8 HWC HLN
            go_wp2_with fail
            go_loopw [13, 14] (fun d i wr => ∃ k : Nat, k ≤ (sortT T).length ∧ i = .int .i64 k ∧ d = .int .i64 (dueK (sortT T) now k).length ∧ ∃ F, Sep w [TQ q l1 (left T (dueK (sortT T) now k)) F, TD (.slice ta (sortT T).length tc) (sortT T) ot, TI (.slice aa A.length ac) A oa] wr) (fun _ i _ => (sortT T).length - (intOf i).toNat)
            case atStart => exact ⟨0, Nat.zero_le _, rfl, rfl, F8, HST.out⟩
            case round =>
              clear HST F8
              obtain ⟨j, hj, rfl, rfl, F, hs⟩ := hrel
              have HS := Lib.hid hs
              clear hs
              have hdlen := dueK_le (sortT T) now j
              by_cases hlt : j < (sortT T).length
              · have hfind : mfind (left T (dueK (sortT T) now j)) (sortT T)[j].1 = some (sortT T)[j].2 := left_find HT.out ((sortT_mem T).mem_iff.1 (List.getElem_mem hlt)) (dueK_notin HT.out now hlt)
                have hat := s_at HS.out (sortT T)[j].1
                rw [hfind] at hat
                have htrd : Rd wr 2 (.slice ta (sortT T).length tc) (sortT T).length ((sortT T).flatMap encT) ot := HS.out.get (t := TD (.slice ta (sortT T).length tc) (sortT T) ot) (by simp)
                have hard : Rd wr 1 (.slice aa A.length ac) A.length (A.map (Value.int .i64)) oa := HS.out.get (t := TI (.slice aa A.length ac) A oa) (by simp)
                obtain ⟨-, ta', tc', htv, -, -, h0 | ⟨b, off, rfl, rfl, hcs⟩⟩ := htrd
                · omega
                cases htv
                obtain ⟨e1, e2⟩ := flat2 (sortT T) j hlt
                have g1 : wr.cell? ⟨b, off + j * 2, none⟩ = some (.int .i64 (sortT T)[j].1) := by rw [hcs (j * 2) (by omega), e1]
                have g2 : wr.cell? ⟨b, off + j * 2 + 1, none⟩ = some (.int .i64 (sortT T)[j].2) := by rw [Nat.add_assoc, hcs (j * 2 + 1) (by omega), e2]
                have g3 : 0 < j → ∃ yp, wr.cell? ⟨b, off + (j - 1) * 2 + 1, none⟩ = some (.int .i64 yp) ∧ decide ((sortT T)[j].2 < yp) = false := by
                  intro hj0
                  obtain ⟨_, e4⟩ := flat2 (sortT T) (j - 1) (by omega)
                  refine ⟨(sortT T)[j - 1].2, by rw [Nat.add_assoc, hcs ((j - 1) * 2 + 1) (by omega), e4], ?_⟩
                  obtain ⟨j', rfl⟩ : ∃ j', j = j' + 1 := ⟨j - 1, by omega⟩
                  have := sortT_le T hlt
                  simp only [Nat.add_sub_cancel] at *
                  simp; omega
                have hsn := dueK_succ (sortT T) now j hlt
                have hg := HDG.out j hlt
                have HAT := Lib.hid hat
                have HSN := Lib.hid hsn
                have HG := Lib.hid hg
                have G3 := Lib.hid g3
                have HFD := Lib.hid hfind
                have HARD := Lib.hid hard
                clear hat hsn hg g3 hcs e1 e2 hfind hard
                generalize (sortT T)[j].1 = x at *
                generalize (sortT T)[j].2 = y at *
                have i0 : (0 : Int) ≤ (j : Int) := by omega
                have i1 : (j : Int) < ((sortT T).length : Int) := by omega
                have hyy : (y != y) = false := by simp
                go_wp2_with fail
                refine HAT.out.mono ?_
                rintro e w9 ⟨rfl, rfl⟩
                rcases Nat.eq_zero_or_pos j with hj0 | hj0
                case' inl =>
                  have j0 : decide ((0 : Int) < (j : Int)) = false := by simp; omega
                  have j0' : decide (0 < j) = false := by simp; omega
                  clear hj0
                case' inr =>
                  obtain ⟨yp, g4, g5⟩ := G3.out hj0
                  have j0 : decide ((0 : Int) < (j : Int)) = true := by simp; omega
                  have j1 : IntKind.i64.wrap ((j : Int) - 1) = (j : Int) - 1 := IntWalk.i64_in _ (by omega)
                  have j2 : (0 : Int) ≤ (j : Int) - 1 := by omega
                  have j3 : ((j : Int) - 1).toNat = j - 1 := by omega
                  have j4 : (j : Int) - 1 < ((sortT T).length : Int) := by omega
                all_goals
                  go_wp2_with fail
                  go_quiet (fail)
                  try clear j1 j2 j3 j4
                  have k1 : (wr.drewN nq).cell? ⟨b, off + j * 2, none⟩ = some (.int .i64 x) := g1
                  have k2 : (wr.drewN nq).cell? ⟨b, off + j * 2 + 1, none⟩ = some (.int .i64 y) := g2
                  have k3 : ∀ p, (wr.drewN nq).cell? p = wr.cell? p := fun _ => rfl
                  have hs9 := HS.out.kept ((Keep.refl _ _).drewN nq)
                  have HS9 := Lib.hid hs9
                  have K3 := Lib.hid k3
                  clear hs9 g1 g2 k3
                  generalize wr.drewN nq = w9 at *
                  by_cases hd : y ≤ now
                  · have hAm := HG.out hd
                    have hmA : (dueK (sortT T) now j).length < A.length := by
                      rcases Nat.lt_or_ge (dueK (sortT T) now j).length A.length with h | h
                      · exact h
                      · rw [List.getElem?_eq_none h] at hAm; cases hAm
                    obtain ⟨-, aa', ac', hav, -, -, h0 | ⟨b2, off2, haa, hoa, hcs⟩⟩ := HARD.out
                    · omega
                    cases hav
                    subst haa
                    have g6 : w9.cell? ⟨b2, off2 + (dueK (sortT T) now j).length, none⟩ = some (.int .i64 x) := by
                      rw [K3.out, hcs _ (by omega), List.getElem?_map, hAm]; rfl
                    obtain ⟨w10, hw10⟩ : ∃ w10, w10 = w9.drew := ⟨_, rfl⟩
                    have hcl := s_clear (show Sep w _ w10 by rw [hw10]; exact HS9.out.kept (Keep.refl _ _).drew) x
                    rw [HFD.out, left_snoc] at hcl
                    have HSN2 : Hid (dueK (sortT T) now (j + 1) = dueK (sortT T) now j ++ [x]) := by have := HSN.out; rw [if_pos hd] at this; exact this
                    have HCL := Lib.hid hcl
                    have HW10 := Lib.hid hw10
                    have hxx : (x != x) = false := by simp
                    clear hcs hcl hw10 hAm
                    have HM := Lib.hid hmA
                    generalize hm : (dueK (sortT T) now j).length = m at *
                    have HMM := Lib.hid hm
                    clear hm
                    have m1 : decide ((A.length : Int) < (m : Int) + 1) = false := by simp; omega
                    have m2 : (0 : Int) ≤ (m : Int) := by omega
                    have m3 : (m : Int) < (A.length : Int) := by omega
                    have m4 : IntKind.i64.wrap ((m : Int) + 1 - 1) = (m : Int) := by rw [IntWalk.i64_in _ (by omega)]; omega
                    have m5 : IntKind.i64.wrap (m : Int) = (m : Int) := IntWalk.i64_in _ (by omega)
                    have m6 : IntKind.i64.wrap ((m : Int) + 1) = (m : Int) + 1 := IntWalk.i64_in _ (by omega)
                    go_wp2_with fail
                    go_still_tail 24, (by kernel_rfl)
                    clear m4 m5 m6
                    change wpList _ _ _ _ _ w9.drew
                    rw [← HW10.out]
                    go_wp2_with fail
                    refine HCL.out.mono ?_
                    rintro e w11 ⟨rfl, F11, hs11⟩
                    have HS11 := Lib.hid hs11
                    clear hs11
                    go_wp2_with fail
                    go_roundw
                    case rel => exact ⟨j + 1, by omega, by go_num, by rw [HSN2.out, List.length_append, HMM.out]; go_num, F11, by rw [HSN2.out]; exact HS11.out⟩
                    case measure => simp [intOf]; omega
                  · go_wp2_with fail
                    go_roundw
                    case rel => exact ⟨j + 1, by omega, by go_num, by rw [HSN.out, if_neg hd, List.append_nil], F, by rw [HSN.out, if_neg hd, List.append_nil]; exact HS9.out⟩
                    case measure => simp [intOf]; omega
              · obtain rfl : j = (sortT T).length := by omega
                have hfin : Sep w [TQ q l1 (left T A) F, TD (.slice ta (sortT T).length tc) (sortT T) ot, TI (.slice aa A.length ac) A oa] wr := by have := HS.out; rwa [HDA.out] at this
                have hdl2 : dueK (sortT T) now (sortT T).length = A := HDA.out
                have hlen2 := left_len HT.out now
                have hdl3 := due_left (T := T) now
                rw [HDU.out] at hlen2 hdl3
                have hLl : (left T A).length ≤ T.length := List.length_filter_le _ _
                have HF := Lib.hid hfin
                have HL2 := Lib.hid hlen2
                have HD3 := Lib.hid hdl3
                have HDE := Lib.hid hdl2
                clear hfin hlen2 hdl3 HS
                rw [hdl2]
                clear hdl2
                have hAA : ((A.length : Int) == (A.length : Int)) = true := by simp
                go_wp2_with fail
                refine (s_tick HF.out now (by omega)).mono ?_
                rintro e w12 ⟨v12, o12, F12, rfl, hs⟩
                rw [HD3.out] at hs
                have hv12 : Rd w12 1 v12 0 [] o12 := hs.get (t := TI v12 [] o12) (by simp)
                obtain ⟨-, a12, c12, rfl, -⟩ := hv12
                have HS12 := Lib.hid hs
                clear hs HF
                go_wp2_with fail
                refine (s_timers HS12.out (by omega)).mono ?_
                rintro e w13 ⟨v13, o13, F13, rfl, hs⟩
                have hv13 : Rd w13 2 v13 (sortT (left T A)).length ((sortT (left T A)).flatMap encT) o13 := hs.get (t := TD v13 (sortT (left T A)) o13) (by simp)
                obtain ⟨-, a13, c13, rfl, -⟩ := hv13
                have HS13 := Lib.hid hs
                have hc13 : (((sortT (left T A)).length : Int) == ((sortT T).length : Int) - (A.length : Int)) = true := by
                  rw [sortT_length, sortT_length]; have := HL2.out; simp; omega
                clear hs HS12
                go_wp2_with fail
                refine (s_live HS13.out).mono ?_
                rintro e w14 ⟨rfl, hs⟩
                have HS14 := Lib.hid hs
                clear hs
                go_wp2_with fail
                go_ret
                exact ⟨rfl, HS14.out.keep⟩

end Go.Proofs.Ytphfmbkfcjiciaa.once
