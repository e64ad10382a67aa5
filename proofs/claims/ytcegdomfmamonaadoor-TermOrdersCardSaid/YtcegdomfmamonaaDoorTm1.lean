/- Terms: how many parts (the document's left, Fits, Size). -/
import Derived.Test.YtcegdomfmamonaaDoorProg
import Derived.Test.YtcegdomfmamonaaDoorTmP
import Derived.Deep.QuietTactic
import Derived.BigQuiet
namespace Go.Proofs.YtcegdomfmamonaaDoor
open Go.RowKit Go.Emb Go.Lib

def leftN (n : Int) (k : Nat) : Int := if (k : Int) ≤ n then n - k else -1
theorem leftN_step (n : Int) (j k : Nat) (h : 0 ≤ leftN n j) (_hn : 0 ≤ n) : leftN (leftN n j) k = leftN n (j + k) := by
  unfold leftN at *
  split at h
  · rename_i h1
    rw [if_pos h1]
    by_cases h2 : (k : Int) ≤ n - j
    · rw [if_pos h2, if_pos (by omega)]; omega
    · rw [if_neg h2, if_neg (by omega)]
  · omega
theorem leftN_neg (n : Int) (j k : Nat) (h : ¬ 0 ≤ leftN n j) (hk : j ≤ k) : leftN n j = leftN n k := by
  unfold leftN at *
  split at h
  · omega
  · rename_i h1
    rw [if_neg h1, if_neg (by omega)]
theorem leftN_bd (n : Int) (j : Nat) (hn : 0 ≤ n) : -1 ≤ leftN n j ∧ leftN n j ≤ n := by
  unfold leftN; split <;> omega
theorem leftN_one (n : Int) (hn : 0 ≤ n) : leftN n 1 = n - 1 := by
  unfold leftN; split <;> omega

set_option maxHeartbeats 1000000 in
theorem r_leftN : ∀ (N : Nat) (t : Tm), t.sz ≤ N → ∀ (B : Nat) (n : Int) (w : World), RdTm B w t → 0 ≤ n → n ≤ 100000 → Calls Tryd.prog 50 #[aggTm t, .int .i64 n] w fun e w' => e = .returned (.int .i64 (leftN n t.sz)) ∧ Keep [] w w'
  | 0, t, hN, _, _, _, _, _, _ => by have := t.sz_pos; omega
  | N + 1, t, hN, B, n, w, hr, hn0, hn1 => by
    have IH := r_leftN N
    obtain ⟨hd, hit⟩ := (RdTm_iff t).1 hr
    obtain ⟨-, -, hlen, o, hrd, ho⟩ := hd
    have hmem := fun (x : Tm) (hx : x ∈ t.items) => sz_mem_lt hx
    have hsz : t.sz = 1 + szL t.items := by cases t; simp only [Tm.sz, Tm.items]; omega
    unfold aggTm
    have HIT := Lib.hid hit
    have HRD := Lib.hid hrd
    have HMEM := Lib.hid hmem
    have HSZ := Lib.hid hsz
    have HIH := Lib.hid IH
    obtain ⟨a, c, hiv, hc1, hc2⟩ := hrd.form
    unfold maxLen at hc2
    clear hit hrd hr hmem hsz IH ho
    rw [hiv]
    rw [hiv] at HRD
    clear hiv
    generalize t.items = l at *
    generalize t.kind = tk at *
    generalize t.num = tn at *
    generalize t.name = ts at *
    have hb1 := leftN_one n hn0
    go_enter Tryd.func50, Tryd.ntmps50
    go_wp2_with fail
    go_loopw [1, 5] (fun m i wr => ∃ j : Nat, j ≤ l.length ∧ i = .int .i64 j ∧ m = .int .i64 (leftN n (1 + szL (l.take j))) ∧ Keep [] (w.alloc (.cells #[.int .i64 tk, .int .i64 tn, .string ts, .slice a l.length c] 31)) wr) (fun _ i _ => l.length - (intOf i).toNat)
    case atStart => exact ⟨0, Nat.zero_le _, rfl, by simp [szL_nil, hb1], Keep.refl _ _⟩
    case round =>
      clear hb1
      obtain ⟨j, hj, rfl, rfl, hK⟩ := hrel
      have HK := Lib.hid hK
      obtain ⟨-, -, -, e3⟩ := box4 hK
      clear hK
      have hbd := leftN_bd n (1 + szL (l.take j)) hn0
      by_cases hlt : j < l.length
      · have hk0 : Keep [] w wr := ((Keep.refl [] w).alloc _).trans HK.out (by simp)
        obtain ⟨b, off, rfl, rfl, g0, g1, g2, g3⟩ := HRD.out.at4 hlt
        have c0 := hk0.cellOf g0
        have c1 := hk0.cellOf g1
        have c2 := hk0.cellOf g2
        have c3 := hk0.cellOf g3
        clear g0 g1 g2 g3
        have hmemj := List.getElem_mem hlt
        have hstep := leftN_step n (1 + szL (l.take j)) l[j].sz
        have hts := szL_take_succ l j hlt
        by_cases hpos : 0 ≤ leftN n (1 + szL (l.take j))
        · have hcall := HIH.out l[j] (by have := HMEM.out _ hmemj; omega) B (leftN n (1 + szL (l.take j))) wr ((HIT.out _ hmemj).keep0 hk0) hpos (by omega)
          rw [hstep hpos hn0, Nat.add_assoc, ← hts] at hcall
          have HC := Lib.hid hcall
          clear hcall hstep hts
          unfold aggTm at HC
          generalize l[j].kind = xk at *
          generalize l[j].num = xn at *
          generalize l[j].name = xs at *
          generalize l[j].iv = xv at *
          generalize hm : leftN n (1 + szL (l.take j)) = m at *
          clear hm
          have i0 : (0 : Int) ≤ (j : Int) := by omega
          have i1 : (j : Int) < (l.length : Int) := by omega
          have hd1 : decide (0 ≤ m) = true := by simpa using hpos
          go_wp2_with fail
          refine HC.out.mono ?_
          rintro e w2 ⟨rfl, hk2⟩
          go_wp2_with fail
          go_roundw
          case rel => exact ⟨j + 1, by omega, by go_num, rfl, HK.out.trans hk2 (by simp)⟩
          case measure => simp [intOf]; omega
        · have hres := leftN_neg n (1 + szL (l.take j)) (1 + szL l) hpos (by have := szL_take_le l j; omega)
          rw [← HSZ.out] at hres
          have HRES := Lib.hid hres
          clear hstep hts hres
          generalize hm : leftN n (1 + szL (l.take j)) = m at *
          clear hm
          have i0 : (0 : Int) ≤ (j : Int) := by omega
          have i1 : (j : Int) < (l.length : Int) := by omega
          have hd1 : decide (0 ≤ m) = false := by simpa using hpos
          go_wp2_with fail
          go_ret
          exact ⟨by rw [HRES.out]; rfl, hk0⟩
      · obtain rfl : j = l.length := by omega
        rw [List.take_length, ← HSZ.out] at *
        go_wp2_with fail
        go_ret
        exact ⟨rfl, ((Keep.refl [] w).alloc _).trans HK.out (by simp)⟩

theorem r_left {t : Tm} {B : Nat} {n : Int} {w : World} (h : RdTm B w t) (h0 : 0 ≤ n) (h1 : n ≤ 100000) : Calls Tryd.prog 50 #[aggTm t, .int .i64 n] w fun e w' => e = .returned (.int .i64 (leftN n t.sz)) ∧ Keep [] w w' :=
  r_leftN t.sz t (Nat.le_refl _) B n w h h0 h1

set_option maxHeartbeats 1000000 in
theorem r_fits {B : Nat} {w : World} {v : Value} {l : List Tm} (h : HasT B w v l) {n : Int} (hn0 : 0 ≤ n) (hn1 : n ≤ 100000) :
    Calls Tryd.prog 43 #[v, .int .i64 n] w fun e w' => e = .returned (.bool (decide ((szL l : Int) ≤ n))) ∧ Keep [] w w' := by
  obtain ⟨a, c, rfl, hc1, hc2⟩ := h.form
  unfold maxLen at hc2
  have HH := Lib.hid h
  clear h
  have hb0 : leftN n 0 = n := by unfold leftN; rw [if_pos (by omega)]; omega
  go_enter Tryd.func43, Tryd.ntmps43
  go_wp2_with fail
  go_loopw [1, 5] (fun m i wr => ∃ j : Nat, j ≤ l.length ∧ i = .int .i64 j ∧ m = .int .i64 (leftN n (szL (l.take j))) ∧ Keep [] w wr) (fun _ i _ => l.length - (intOf i).toNat)
  case atStart => exact ⟨0, Nat.zero_le _, rfl, by simp [szL_nil, hb0], Keep.refl _ _⟩
  case round =>
    clear hb0
    obtain ⟨j, hj, rfl, rfl, hK⟩ := hrel
    have HK := Lib.hid hK
    clear hK
    have hbd := leftN_bd n (szL (l.take j)) hn0
    by_cases hlt : j < l.length
    · obtain ⟨b, off, rfl, c0, c1, c2, c3, hrx⟩ := HH.out.at HK.out hlt
      have hstep := leftN_step n (szL (l.take j)) l[j].sz
      have hts := szL_take_succ l j hlt
      have i0 : (0 : Int) ≤ (j : Int) := by omega
      have i1 : (j : Int) < (l.length : Int) := by omega
      by_cases hpos : 0 ≤ leftN n (szL (l.take j))
      · have hcall := r_left hrx hpos (by omega)
        rw [hstep hpos hn0, ← hts] at hcall
        have HC := Lib.hid hcall
        clear hcall hstep hts hrx
        unfold aggTm at HC
        generalize l[j].kind = xk at *
        generalize l[j].num = xn at *
        generalize l[j].name = xs at *
        generalize l[j].iv = xv at *
        generalize hm : leftN n (szL (l.take j)) = m at *
        clear hm
        have hd1 : decide (0 ≤ m) = true := by simpa using hpos
        go_wp2_with fail
        refine HC.out.mono ?_
        rintro e w2 ⟨rfl, hk2⟩
        go_wp2_with fail
        go_roundw
        case rel => exact ⟨j + 1, by omega, by go_num, rfl, HK.out.trans hk2 (by simp)⟩
        case measure => simp [intOf]; omega
      · have hres : decide ((szL l : Int) ≤ n) = false := by
          have := szL_take_le l j
          unfold leftN at hpos
          split at hpos
          · omega
          · simp; omega
        have HRES := Lib.hid hres
        clear hstep hts hres hrx
        generalize hm : leftN n (szL (l.take j)) = m at *
        clear hm
        have hd1 : decide (0 ≤ m) = false := by simpa using hpos
        go_wp2_with fail
        go_ret
        exact ⟨by rw [HRES.out]; rfl, HK.out⟩
    · obtain rfl : j = l.length := by omega
      rw [List.take_length] at *
      have hres : decide (0 ≤ leftN n (szL l)) = decide ((szL l : Int) ≤ n) := by
        unfold leftN
        by_cases h : (szL l : Int) ≤ n
        · rw [if_pos h]; simp
        · rw [if_neg h]; simp [h]
      have HRES := Lib.hid hres
      clear hres
      generalize hm : leftN n (szL l) = m at *
      clear hm
      go_wp2_with fail
      go_ret
      exact ⟨by rw [← HRES.out]; rfl, HK.out⟩

theorem r_size {B : Nat} {w : World} {t : Tm} (h : RdTm B w t) : Calls Tryd.prog 14 #[aggTm t] w fun e w' => e = .returned (.int .i64 (min t.sz 4097 : Nat)) ∧ Keep [] w w' := by
  have hcall := fun ob => r_left (h.keep0 ((Keep.refl [] w).alloc ob)) (n := 4096) (by omega) (by omega)
  have hv1 : leftN 4096 t.sz < 0 → ((min t.sz 4097 : Nat) : Int) = 4097 := by unfold leftN; split <;> omega
  have hv2 : ¬ leftN 4096 t.sz < 0 → ((min t.sz 4097 : Nat) : Int) = 4096 - leftN 4096 t.sz := by unfold leftN; split <;> omega
  have hb := leftN_bd 4096 t.sz (by omega)
  have HV1 := Lib.hid hv1
  have HV2 := Lib.hid hv2
  have HC := Lib.hid hcall
  clear hv1 hv2 hcall
  generalize leftN 4096 t.sz = m at *
  unfold aggTm at *
  generalize t.iv = tv at *
  by_cases hm : m < 0
  · go_enter Tryd.func14, Tryd.ntmps14
    go_wp2_with fail
    refine (HC.out _).mono ?_
    rintro e w2 ⟨rfl, hk2⟩
    go_wp2_with fail
    go_ret
    exact ⟨by rw [HV1.out hm]; rfl, ((Keep.refl [] w).alloc _).trans hk2 (by simp)⟩
  · go_enter Tryd.func14, Tryd.ntmps14
    go_wp2_with fail
    refine (HC.out _).mono ?_
    rintro e w2 ⟨rfl, hk2⟩
    go_wp2_with fail
    go_ret
    exact ⟨by rw [HV2.out hm]; rfl, ((Keep.refl [] w).alloc _).trans hk2 (by simp)⟩
end Go.Proofs.YtcegdomfmamonaaDoor
