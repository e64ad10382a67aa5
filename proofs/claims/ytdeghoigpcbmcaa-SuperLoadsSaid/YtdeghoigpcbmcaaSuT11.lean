/- The program's tape: a number. Printed by gen-mn11.py. -/
import Derived.Test.YtdeghoigpcbmcaaSuT10
namespace Go.Proofs.Ytdeghoigpcbmcaa
open Go.RowKit Go.Emb

theorem oNum_none {more : Bool} {l : List UInt8} (h : pNum more l = none) : oNum more (some l) = (0, false, none) := by simp [oNum, h]
theorem oNum_some {more is : Bool} {l r : List UInt8} {n : Nat} (h : pNum more l = some (n, is, r)) : oNum more (some l) = (n, is, some r) := by simp [oNum, h]
theorem rd_cell {w : World} {a : Option Addr} {n c : Nat} {bs : List UInt8} {o : Option Nat} (h : Rd w 1 (.slice a n c) n (Lib.byteCells bs) o) {i : Nat} (hi : i < n) (hb : i < bs.length) :
    ∃ b off, a = some ⟨b, off, none⟩ ∧ o = some b ∧ w.cell? ⟨b, off + i, none⟩ = some (.int .u8 (bs[i].toNat : Int)) := by
  obtain ⟨hl, a', c', hv, _, _, h3⟩ := h
  cases hv
  rcases h3 with ⟨h3, _⟩ | ⟨b, off, rfl, rfl, h3⟩
  · omega
  · refine ⟨b, off, rfl, rfl, ?_⟩
    rw [h3 i (by omega)]
    simp [Lib.byteCells, List.getElem?_eq_getElem hb]
set_option maxRecDepth 100000 in
set_option maxHeartbeats 2000000 in
theorem p_number {w : World} {q : Nat} {bs : List UInt8} {v : Value} {bo : Option Nat} {st : Option (List UInt8)} (h : TSt 108 w q bs v bo st) (more : Bool) :
    Calls Try.prog 62 #[.pointer (some ⟨q, 0, none⟩), .bool more] w fun e w' => e = .returned (.tuple #[.int .u64 ((oNum more st).1 : Int), .bool (oNum more st).2.1]) ∧ TSt 108 w' q bs v bo (oNum more st).2.2 ∧ Keep [q] w w' := by
  obtain ⟨pos, fa, sp, ht, ⟨rfl, hfa, hf1, hf2⟩ | ⟨rfl, hsp, rfl⟩⟩ := h
  · have hr := p_runs ht
    rw [show decide (fa = 0) = false from by simp [hfa]] at hr
    have HR := Lib.hid hr
    have HT := Lib.hid ht
    have HF := Lib.hid (And.intro hfa (And.intro hf1 hf2))
    clear hr ht hfa hf1 hf2
    go_enter Try.func62, Try.ntmps62
    go_wp2_with fail
    refine HR.out.mono ?_
    rintro e w1 ⟨rfl, rfl⟩
    go_wp2_with fail
    go_ret2
    exact ⟨rfl, ⟨pos, fa, sp, HT.out, .inl ⟨rfl, HF.out⟩⟩, Keep.refl _ _⟩
  · subst hsp
    have hr := p_runs ht
    rw [show decide ((0 : Int) = 0) = true from rfl] at hr
    have hle := ht.le
    have hsz := ht.sz
    obtain ⟨c0, c1, c2, c3, f0, f1, f2, f3⟩ := cells4 ht.blk
    have hcut := p_cut ht (n := 1) (by omega) hle
    obtain ⟨R, hR⟩ : ∃ R, R = oNum more (some (bs.drop pos)) := ⟨_, rfl⟩
    rw [← hR]
    have HRR := Lib.hid hR
    clear hR
    have HR := Lib.hid hr
    have HT := Lib.hid ht
    have HC := Lib.hid hcut
    clear hr ht hcut
    go_enter Try.func62, Try.ntmps62
    go_wp2_with fail
    refine HR.out.mono ?_
    rintro e w1 ⟨rfl, rfl⟩
    go_wp2_with fail
    refine HC.out.mono ?_
    rintro e w1 (⟨hn, rfl, htp, hk⟩ | ⟨hn, sv, so, rfl, htp, hk, hrd, hso⟩)
    · have hz : R = (0, false, none) := HRR.out.trans (oNum_none (by rw [List.drop_of_length_le (by omega)]; rfl))
      have H := Lib.hid (And.intro htp hk)
      clear htp hk HC HT
      go_wp2_with fail
      go_ret2
      try rw [hz]
      exact ⟨rfl, ⟨pos, 3, _, H.out.1, .inl ⟨rfl, by omega, by omega, by omega⟩⟩, H.out.2⟩
    · obtain ⟨ch, r, hl⟩ : ∃ ch r, bs.drop pos = ch :: r := by
        cases hd : bs.drop pos with
        | nil => have := congrArg List.length hd; rw [List.length_drop] at this; simp at this; omega
        | cons ch r => exact ⟨ch, r, rfl⟩
      have hrl : r.length = bs.length - (pos + 1) := by have := congrArg List.length hl; rw [List.length_drop] at this; simp at this; omega
      have hr2 : bs.drop (pos + 1) = r := by rw [← List.drop_drop, hl]; rfl
      rw [hl] at hrd
      have HRL := Lib.hid (hl ▸ HRR.out)
      have hrd' := hrd
      obtain ⟨-, sa, sc, rfl, -, -, -⟩ := id hrd
      obtain ⟨sb, soff, rfl, -, hcell⟩ := rd_cell (bs := [ch]) (by simpa using hrd) (i := 0) (by omega) (by simp)
      simp only [List.getElem_cons_zero, Nat.add_zero] at hcell
      obtain ⟨kk, hkk⟩ : ∃ k, k = kOf more ch := ⟨_, rfl⟩
      obtain ⟨is, his⟩ : ∃ b, b = (more && decide (128 ≤ ch.toNat)) := ⟨_, rfl⟩
      have hp := pNum_cons more ch r
      rw [← hkk, ← his] at hp
      have hch := ch.toNat_lt
      have hkk2 : kk < 256 := by rw [hkk]; unfold kOf; split <;> omega
      have H1 := Lib.hid htp
      have HK1 := Lib.hid hk
      have HP := Lib.hid hp
      have HL := Lib.hid (And.intro hrl hr2)
      have HKI := Lib.hid (And.intro hkk his)
      clear htp hk hp hrl hr2 hkk his hrd hrd' HC HT hl hso
      go_upto_region 8 with fail
      rename_i K_out a_out K_in a_in
      have hcut : ∀ a' w', CutF 80 (fun f wx => f 4 = .int .u64 0 ∧ f 9 = .int .u8 (kk : Int) ∧ f 5 = .bool is ∧ f 0 = .pointer (some ⟨q, 0, none⟩) ∧ f 6 = .int .i64 (pos : Int) ∧ w1 = wx) a' w' → K_out a' w' := by
        intro a' w' hc
        refine a_out _ _ ?_
        clear a_out a_in K_in
        obtain ⟨f, rfl, h4, h9, h5, h0, h6, rfl⟩ := hc.lit
        rw [show ((List.range 80).map f).toArray = #[f 0, f 1, f 2, f 3, f 4, f 5, f 6, f 7, f 8, f 9, f 10, f 11, f 12, f 13, f 14, f 15, f 16, f 17, f 18, f 19, f 20, f 21, f 22, f 23, f 24, f 25, f 26, f 27, f 28, f 29, f 30, f 31, f 32, f 33, f 34, f 35, f 36, f 37, f 38, f 39, f 40, f 41, f 42, f 43, f 44, f 45, f 46, f 47, f 48, f 49, f 50, f 51, f 52, f 53, f 54, f 55, f 56, f 57, f 58, f 59, f 60, f 61, f 62, f 63, f 64, f 65, f 66, f 67, f 68, f 69, f 70, f 71, f 72, f 73, f 74, f 75, f 76, f 77, f 78, f 79] from rfl]
        rw [h4, h9, h5, h0, h6]
        clear hc h4 h9 h5 h0 h6 hcell HKI
        by_cases h8 : 8 < kk
        · have h8' : (8 : Int) < (kk : Int) := by omega
          have hz : R = (0, false, none) := HRL.out.trans (oNum_none (by rw [HP.out, if_pos (.inl h8)]))
          have hst := p_stops H1.out 10 (m := pos) (by omega)
          have HS := Lib.hid hst
          clear hst
          go_wp2_with fail
          refine HS.out.mono ?_
          rintro e w2 ⟨rfl, h1, h2⟩
          have H2 := Lib.hid (And.intro h1 (HK1.out.trans h2 (fun _ h => .inl h)))
          clear h1 h2 HK1 H1 HS
          go_wp2_with fail
          go_ret2
          try rw [hz]
          exact ⟨rfl, ⟨pos, 10, _, H2.out.1, .inl ⟨rfl, by omega, by omega, by omega⟩⟩, H2.out.2⟩
        · have h8' : ¬ (8 : Int) < (kk : Int) := by omega
          have hcut := p_cut H1.out (n := kk) (by omega) hle
          have HC2 := Lib.hid hcut
          clear hcut
          go_wp2_with fail
          refine HC2.out.mono ?_
          rintro e w2 (⟨hn2, rfl, htp, hk⟩ | ⟨hn2, sv, so2, rfl, htp, hk, hrd, hso2⟩)
          · have hz : R = (0, false, none) := HRL.out.trans (oNum_none (by rw [HP.out, if_pos (.inr (.inl (by have := HL.out.1; omega)))]))
            have H2 := Lib.hid (And.intro htp (HK1.out.trans hk (fun _ h => .inl h)))
            clear htp hk HC2 HK1 H1
            go_wp2_with fail
            go_ret2
            try rw [hz]
            exact ⟨rfl, ⟨pos, 3, _, H2.out.1, .inl ⟨rfl, by omega, by omega, by omega⟩⟩, H2.out.2⟩
          · rw [HL.out.2] at hrd
            have hkr : kk ≤ r.length := by have := HL.out.1; omega
            have htk : (r.take kk).length = kk := by rw [List.length_take]; omega
            obtain ⟨-, sa2, sc2, rfl, hq1, hq2, -⟩ := id hrd
            unfold maxLen at hq2
            by_cases hhd : (r.take kk).head? = some 0
            · have hz : R = (0, false, none) := HRL.out.trans (oNum_none (by rw [HP.out, if_pos (.inr (.inr hhd))]))
              have hpos : 0 < kk := by
                rcases Nat.eq_zero_or_pos kk with h | h
                · rw [h] at hhd; simp at hhd
                · exact h
              obtain ⟨sb2, soff2, rfl, -, hcell⟩ := rd_cell hrd (i := 0) hpos (by omega)
              rw [List.head?_eq_getElem?, List.getElem?_eq_getElem (by omega)] at hhd
              simp only [Option.some.injEq] at hhd
              rw [hhd] at hcell
              simp only [Nat.add_zero] at hcell
              have hcell2 : w2.cell? ⟨sb2, soff2, none⟩ = some (.int .u8 0) := hcell
              have hpos' : (0 : Int) < (kk : Int) := by omega
              have hst := p_stops htp 10 (m := pos) (by omega)
              have HS := Lib.hid hst
              have H2 := Lib.hid (HK1.out.trans hk (fun _ h => .inl h))
              clear hst htp hk hrd hcell hhd HC2
              go_wp2_with fail
              refine HS.out.mono ?_
              rintro e w3 ⟨rfl, h1, h2⟩
              have H3 := Lib.hid (And.intro h1 (H2.out.trans h2 (fun _ h => .inl h)))
              clear h1 h2 HK1 H1 HS
              go_wp2_with fail
              go_ret2
              try rw [hz]
              exact ⟨rfl, ⟨pos, 10, _, H3.out.1, .inl ⟨rfl, by omega, by omega, by omega⟩⟩, H3.out.2⟩
            · have hz : R = (valL (r.take kk), is, some (r.drop kk)) := HRL.out.trans (oNum_some (by rw [HP.out, if_neg (by simp only [not_or]; exact ⟨by omega, by omega, hhd⟩)]))
              have hdr : bs.drop (pos + 1 + kk) = r.drop kk := by rw [← HL.out.2, List.drop_drop]
              have H2 := Lib.hid (And.intro htp (HK1.out.trans hk (fun _ h => .inl h)))
              have HRD := Lib.hid hrd
              have HDR := Lib.hid hdr
              have HTK := Lib.hid htk
              obtain ⟨p, hp⟩ : ∃ p, p = r.take kk := ⟨_, rfl⟩
              rw [← hp] at HRD HTK hhd hz
              have h1 : ∀ i, i < kk → ∃ u : Nat, u < 256 ∧ p[i]? = some (UInt8.ofNat u) := fun i hi => by
                have h4 : i < p.length := by have := HTK.out; omega
                refine ⟨p[i].toNat, p[i].toNat_lt, ?_⟩
                rw [List.getElem?_eq_getElem h4, UInt8.ofNat_toNat]
              clear h1 hp
              rcases Nat.eq_zero_or_pos kk with hk0 | hpos
              · subst hk0
                have hp0 : p = [] := List.eq_nil_of_length_eq_zero HTK.out
                subst hp0
                clear htp hk hrd hdr htk HC2 HRD HTK hhd
                go_wp2_with fail
                go_loop [4, 68] (fun n i => n = .int .u64 0 ∧ i = .int .i64 0) (fun _ _ => 0)
                case atStart => exact ⟨rfl, rfl⟩
                case round =>
                  obtain ⟨rfl, rfl⟩ := hrel
                  go_wp2_with fail
                  go_ret2
                  try rw [hz]
                  exact ⟨rfl, ⟨_, 0, 0, H2.out.1, .inr ⟨rfl, rfl, congrArg some HDR.out.symm⟩⟩, H2.out.2⟩
              · obtain ⟨sb2, soff2, rfl, -, hcell0⟩ := rd_cell HRD.out (i := 0) hpos (by have := HTK.out; omega)
                have hne : (p[0]'(by have := HTK.out; omega)).toNat ≠ 0 := fun h => by
                  apply hhd
                  rw [List.head?_eq_getElem?, List.getElem?_eq_getElem (by have := HTK.out; omega)]
                  congr 1
                  exact UInt8.toNat.inj h
                have hlt256 := (p[0]'(by have := HTK.out; omega)).toNat_lt
                generalize (p[0]'(by have := HTK.out; omega)).toNat = u0 at *
                simp only [Nat.add_zero] at hcell0
                have hpos' : (0 : Int) < (kk : Int) := by omega
                have hne' : ((u0 : Int) == 0) = false := beq_eq_false_iff_ne.2 (by omega)
                clear htp hk hrd hdr htk HC2 hhd hne
                go_wp2_with fail
                clear hcell0 hne'
                go_loop [4, 68] (fun n i => ∃ j : Nat, j ≤ kk ∧ n = .int .u64 (valL (p.take j) : Int) ∧ i = .int .i64 (j : Int)) (fun _ i => kk - (intOf i).toNat)
                case atStart => exact ⟨0, Nat.zero_le _, rfl, rfl⟩
                case round =>
                  obtain ⟨j, hj, rfl, rfl⟩ := hrel
                  by_cases hjl : j < kk
                  · obtain ⟨sb3, soff3, e1, -, hcj⟩ := rd_cell HRD.out (i := j) hjl (by have := HTK.out; omega)
                    cases e1
                    have hv := valL_take (l := p) (i := j) (by have := HTK.out; omega)
                    have hvl := valL_take_lt (l := p) (i := j) (by omega)
                    have hc256 := (p[j]'(by have := HTK.out; omega)).toNat_lt
                    generalize (p[j]'(by have := HTK.out; omega)).toNat = cj at *
                    obtain ⟨nj, hnj⟩ : ∃ n, n = valL (p.take j) := ⟨_, rfl⟩
                    rw [← hnj] at hv hvl
                    rw [← hnj]
                    have hor := or_byte nj cj hvl hc256
                    rw [Int.natCast_mul] at hor
                    have hor2 : bits BinOp.or IntKind.u64 ((nj : Int) * 256) (cj : Int) = ((nj * 256 + cj : Nat) : Int) := hor
                    have HOR := Lib.hid hor2
                    clear hor hor2
                    have HV := Lib.hid hv
                    have hw : IntKind.u64.wrap ((nj : Int) * 256) = ((nj * 256 : Nat) : Int) := (IntWalk.u64_in _ (by omega)).trans (by omega)
                    have j0 : (0 : Int) ≤ (j : Int) := by omega
                    have j1 : (j : Int) < (kk : Int) := by omega
                    clear hv hnj
                    go_wp2_with fail
                    go_round
                    case rel => exact ⟨j + 1, by omega, by rw [HV.out, HOR.out], by go_num⟩
                    case measure => simp [intOf]; omega
                  · obtain rfl : j = kk := by omega
                    go_wp2_with fail
                    go_ret2
                    try rw [hz]
                    exact ⟨by rw [List.take_of_length_le (by have := HTK.out; omega)]; rfl, ⟨_, 0, 0, H2.out.1, .inr ⟨rfl, rfl, congrArg some HDR.out.symm⟩⟩, H2.out.2⟩
      have HCUT := Lib.hid hcut
      clear hcut a_out
      obtain ⟨hkk, his⟩ := HKI.out
      unfold kOf at hkk
      cases more with
      | false =>
        simp at hkk his
        subst hkk his
        go_wp2_with fail
        exact HCUT.out _ _ (CutF.mk rfl ⟨rfl, rfl, rfl, rfl, rfl, rfl⟩)
      | true =>
        by_cases h128 : 128 ≤ ch.toNat
        · simp [h128] at hkk his
          subst his
          have hge : (128 : Int) ≤ (ch.toNat : Int) := by omega
          have hu : IntKind.u8.wrap ((ch.toNat : Int) - 128) = (kk : Int) := (IntWalk.u8_in _ (by omega)).trans (by omega)
          clear hkk
          go_wp2_with fail
          exact HCUT.out _ _ (CutF.mk rfl ⟨rfl, rfl, rfl, rfl, rfl, rfl⟩)
        · simp [h128] at hkk his
          subst his hkk
          have hge : ¬ (128 : Int) ≤ (ch.toNat : Int) := by omega
          go_wp2_with fail
          exact HCUT.out _ _ (CutF.mk rfl ⟨rfl, rfl, rfl, rfl, rfl, rfl⟩)
end Go.Proofs.Ytdeghoigpcbmcaa
