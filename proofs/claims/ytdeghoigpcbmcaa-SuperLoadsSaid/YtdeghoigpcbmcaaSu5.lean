/- Super: slices.Equal of bytes. -/
import Derived.Test.YtdeghoigpcbmcaaSu4
namespace Go.Proofs.Ytdeghoigpcbmcaa
open Go.RowKit Go.Emb

theorem _root_.Go.Emb.Keep.cellOf {F : List Nat} {w w' : World} (h : Keep F w w') {p : Addr} {v : Value} (hc : w.cell? p = some v) (hn : p.block ∉ F := by simp) : w'.cell? p = some v := by
  rw [h.cell (World.block_lt_of_cell? _ _ hc) hn]
  exact hc
theorem take_eq_succ {l m : List UInt8} {k : Nat} (h : l.take k = m.take k) (hl : k < l.length) (hm : k < m.length) (he : l[k] = m[k]) : l.take (k + 1) = m.take (k + 1) := by
  rw [List.take_succ_eq_append_getElem hl, List.take_succ_eq_append_getElem hm, h, he]
set_option maxRecDepth 100000 in
set_option maxHeartbeats 1000000 in
theorem p_eql {w : World} {v1 v2 : Value} {l m : List UInt8} {o1 o2 : Option Nat} (h1 : Rd w 1 v1 l.length (Lib.byteCells l) o1) (h2 : Rd w 1 v2 m.length (Lib.byteCells m) o2) (hl : l.length ≤ 1000000000) (hm : m.length ≤ 1000000000) :
    Calls Try.prog 52 #[v1, v2] w fun e w' => e = .returned (.bool (decide (l = m))) ∧ Keep [] w w' := by
  obtain ⟨a1, c1, rfl⟩ : ∃ a c, v1 = .slice a l.length c := by obtain ⟨-, a, c, h, -⟩ := h1; exact ⟨a, c, h⟩
  obtain ⟨a2, c2, rfl⟩ : ∃ a c, v2 = .slice a m.length c := by obtain ⟨-, a, c, h, -⟩ := h2; exact ⟨a, c, h⟩
  have H1 := Lib.hid h1
  have H2 := Lib.hid h2
  clear h1 h2
  by_cases hlm : l.length = m.length
  · have hlm' : ((l.length : Int) == (m.length : Int)) = true := by simp [hlm]
    have HLM := Lib.hid hlm
    clear hlm
    go_enter Try.func52, Try.ntmps52
    go_wp2_with fail
    go_loopw [13] (fun i wr => ∃ k : Nat, k ≤ l.length ∧ i = .int .i64 k ∧ l.take k = m.take k ∧ Keep [] w wr) (fun i _ => l.length - (RowKit.intOf i).toNat)
    case atStart => exact ⟨0, Nat.zero_le _, rfl, rfl, Keep.refl _ _⟩
    case round =>
      obtain ⟨k, hk, rfl, htk, hkw⟩ := hrel
      by_cases hlt : k < l.length
      · have hltm : k < m.length := by rw [← HLM.out]; exact hlt
        obtain ⟨b1, f1, rfl, g1⟩ := rdb_at H1.out hlt
        obtain ⟨b2, f2, rfl, g2⟩ := rdb_at H2.out hltm
        have c0 := hkw.cellOf g1
        have c3 := hkw.cellOf g2
        have q0 : (0 : Int) ≤ (k : Int) := by omega
        have q1 : (k : Int) < (l.length : Int) := by omega
        have q2 : (k : Int) < (m.length : Int) := by omega
        have HKW := Lib.hid hkw
        have HTK := Lib.hid htk
        clear hkw htk g1 g2
        by_cases he : l[k] = m[k]
        · have he' : ((l[k].toNat : Int) == (m[k].toNat : Int)) = true := by simp [he]
          have HE := Lib.hid he
          clear he
          go_upto_region 6 with fail
          go_quiet (fail)
          go_wp2_with fail
          go_roundw
          case rel => exact ⟨k + 1, by omega, by go_num, take_eq_succ HTK.out hlt hltm HE.out, by repeat (first | exact HKW.out | refine Keep.drewN ?_ _ | refine Keep.drew ?_)⟩
          case measure => first | (simp [RowKit.intOf]; omega) | omega
        · have he' : ((l[k].toNat : Int) == (m[k].toNat : Int)) = false := beq_eq_false_iff_ne.2 (fun h => he (UInt8.toNat.inj (by omega)))
          have HE := Lib.hid he
          clear he
          go_upto_region 6 with fail
          go_quiet (fail)
          go_wp2_with fail
          refine bodyPost_ret (results_tmp rfl _ _ _) rfl ?_
          refine ⟨?_, by repeat (first | exact HKW.out | refine Keep.drewN ?_ _ | refine Keep.drew ?_)⟩
          rw [decide_eq_false (fun h => HE.out (by subst h; rfl))]
          rfl
      · have hall : l = m := by
          have h := htk
          rw [List.take_of_length_le (by omega), List.take_of_length_le (by have := HLM.out; omega)] at h
          exact h
        have HALL := Lib.hid hall
        have HKW := Lib.hid hkw
        have q1 : ¬ (k : Int) < (l.length : Int) := by omega
        clear hall hkw htk
        go_wp2_with fail
        refine bodyPost_ret (results_tmp rfl _ _ _) rfl ?_
        refine ⟨?_, HKW.out⟩
        rw [decide_eq_true HALL.out]
        rfl
  · have hlm' : ((l.length : Int) == (m.length : Int)) = false := beq_eq_false_iff_ne.2 (by omega)
    have HLM := Lib.hid hlm
    clear hlm
    go_enter Try.func52, Try.ntmps52
    go_wp2_with fail
    refine bodyPost_ret (results_tmp rfl _ _ _) rfl ?_
    refine ⟨?_, Keep.refl _ _⟩
    rw [decide_eq_false (fun h => HLM.out (by rw [h]))]
    rfl
end Go.Proofs.Ytdeghoigpcbmcaa
