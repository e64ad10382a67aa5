/- Super: Check. Printed by gen-su14.py. -/
import Derived.Test.YtdeghoigpcbmcaaSuX5
import Derived.Test.YtdeghoigpcbmcaaSu13
namespace Go.Proofs.Ytdeghoigpcbmcaa
open Go.RowKit Go.Emb Go.Emb.Ext

structure Sup where
  gen : Nat
  ps : List E
  len : Int
  ep : Int
def aggS (x : Sup) (pv : Value) : Value := .agg #[.int .u64 x.gen, pv, .int .i64 x.len, .int .i64 x.ep]
def okE (n : Nat) (e : E) : Prop := 2 ≤ e.1 ∧ e.1 < n ∧ 1 ≤ e.2 ∧ e.2 ≤ n - e.1
def apart (x y : E) : Prop := x.1 + x.2 ≤ y.1 ∨ y.1 + y.2 ≤ x.1
def okHead (x : Sup) : Prop := x.gen ≠ 0 ∧ 0 ≤ x.ep ∧ x.ep ≤ 16777215 ∧ 0 ≤ x.len ∧ x.len ≤ 1048576 ∧ x.ps.length ≤ 8
/-- a super that may be -/
def okS (n : Nat) (x : Sup) : Prop := okHead x ∧ (∀ e ∈ x.ps, okE n e) ∧ x.ps.Pairwise apart
theorem apart_symm : ∀ {x y : E}, apart x y → apart y x := fun h => h.symm
theorem apart_perm {s l : List E} (h : s.Perm l) : s.Pairwise apart ↔ l.Pairwise apart := h.pairwise_iff apart_symm
theorem chain_apart : ∀ (s : List E), s.Pairwise (fun x y => x.1 ≤ y.1) → (∀ e ∈ s, 1 ≤ e.2) → ((∀ i (h : i + 1 < s.length), s[i].1 + s[i].2 ≤ s[i + 1].1) ↔ s.Pairwise apart)
  | [], _, _ => by simp
  | [x], _, _ => by simp
  | x :: y :: l, hs, hl => by
    have ih := chain_apart (y :: l) hs.of_cons (fun e he => hl e (by simp at he ⊢; exact .inr he))
    rw [List.pairwise_cons] at hs
    constructor
    · intro h
      rw [List.pairwise_cons]
      have h0 := h 0 (by simp)
      simp at h0
      refine ⟨fun e he => .inl ?_, ih.1 (fun i hi => ?_)⟩
      · rcases List.mem_cons.1 he with rfl | he
        · exact h0
        · have h2 := hs.2
          rw [List.pairwise_cons] at h2
          have := h2.1 e he
          omega
      · have := h (i + 1) (by simp at hi ⊢; omega)
        simpa using this
    · intro h i hi
      rw [List.pairwise_cons] at h
      cases i with
      | zero =>
        simp
        rcases h.1 y (by simp) with h | h
        · exact h
        · have h1 := hs.1 y (by simp)
          have h2 := hl y (by simp)
          omega
      | succ i =>
        have := ih.2 h.2 i (by simp at hi ⊢; omega)
        simpa using this
def CheckP (w : World) (n : Nat) (x : Sup) (e : Ending) (w' : World) : Prop := ∃ c : Int, e = .returned (.int .i64 c) ∧ (c = 0 ∧ okS n x ∨ c = 2 ∧ ¬ okS n x) ∧ Keep [] w w'
theorem cells4s {w : World} {q : Nat} {a b c d : Value} {t : TypeId} (h : w.heap[q]? = some (.cells #[a, b, c, d] t (0, 0))) : w.cell? ⟨q, 0, none⟩ = some a ∧ w.cell? ⟨q, 1, none⟩ = some b ∧ w.cell? ⟨q, 2, none⟩ = some c ∧ w.cell? ⟨q, 3, none⟩ = some d := by
  refine ⟨?_, ?_, ?_, ?_⟩ <;> simp [World.cell?, h]
set_option maxRecDepth 100000 in
set_option maxHeartbeats 4000000 in
theorem p_check {w : World} {n : Nat} {x : Sup} {pv : Value} {o : Option Nat} (hr : RdE w pv x.ps o) (ho : ∀ b, o = some b → b < w.heap.size) (hn : n ≤ 16384) (hsz : x.ps.length ≤ 1000000) :
    Calls Try.prog 10 #[.int .i64 n, aggS x pv] w (CheckP w n x) := by
  obtain ⟨pa, pc, rfl⟩ : ∃ a c, pv = .slice a x.ps.length c := by obtain ⟨-, a, c, h, -⟩ := hr; exact ⟨a, c, h⟩
  obtain ⟨gen, ps, len, ep⟩ := x
  unfold aggS
  simp only at *
  have hk1 : Keep [] w (w.alloc (.cells #[.int .u64 gen, .slice pa ps.length pc, .int .i64 len, .int .i64 ep] 25)) := (Keep.refl [] w).alloc _
  have hb1 := heap_alloc_new w (.cells #[.int .u64 gen, .slice pa ps.length pc, .int .i64 len, .int .i64 ep] 25)
  have HR := Lib.hid hr
  have HO := Lib.hid ho
  have HK1 := Lib.hid hk1
  have HB1 := Lib.hid hb1
  obtain ⟨c0, c1, c2, c3⟩ := cells4s hb1
  clear hr ho hk1 hb1
  by_cases hh : okHead ⟨gen, ps, len, ep⟩
  · have HH := Lib.hid hh
    obtain ⟨g1, g2, g3, g4, g5, g6⟩ := hh
    simp only at g1 g2 g3 g4 g5 g6
    have g1' : ((gen : Int) == 0) = false := beq_eq_false_iff_ne.2 (by omega)
    have g2' : ¬ ep < 0 := by omega
    have g3' : ¬ 16777215 < ep := by omega
    have g4' : ¬ len < 0 := by omega
    have g5' : ¬ 1048576 < len := by omega
    have g6' : ¬ (8 : Int) < (ps.length : Int) := by omega
    clear g1 g2 g3 g4 g5
    go_enter Try.func10, Try.ntmps10
    go_wp2_with fail
    clear c0 c1 c2 c3
    generalize w.alloc (.cells #[.int .u64 gen, .slice pa ps.length pc, .int .i64 len, .int .i64 ep] 25) = w1 at *
    go_loopw [41] (fun i wr => ∃ k : Nat, k ≤ ps.length ∧ i = .int .i64 k ∧ (∀ e ∈ ps.take k, okE n e) ∧ Keep [] w1 wr) (fun i _ => ps.length - (RowKit.intOf i).toNat)
    case atStart => exact ⟨0, Nat.zero_le _, rfl, by simp, Keep.refl _ _⟩
    case round =>
      obtain ⟨k, hk, rfl, hok, hkw⟩ := hrel
      have HKW := Lib.hid hkw
      have HOK := Lib.hid hok
      clear hkw hok
      by_cases hlt : k < ps.length
      · have hts := List.take_succ_eq_append_getElem hlt
        have hmem := List.getElem_mem hlt
        obtain ⟨b, off, rfl, -, e0, e1⟩ := HR.out.at hlt
        have d0 := (HK1.out.trans HKW.out (by simp)).cellOf e0
        have d1 := (HK1.out.trans HKW.out (by simp)).cellOf e1
        have q0 : (0 : Int) ≤ (k : Int) := by omega
        have q1 : (k : Int) < (ps.length : Int) := by omega
        have HTS := Lib.hid hts
        have HMEM := Lib.hid hmem
        clear e0 e1 hts hmem
        generalize ps[k] = x at *
        obtain ⟨f, m⟩ := x
        simp only at d0 d1
        have hkx : Keep [] w1 (wr.alloc (.cells #[.int .i64 f, .int .i64 m] 54)) := HKW.out.alloc _
        have HKX := Lib.hid hkx
        clear hkx
        by_cases he : okE n (f, m)
        · have HE := Lib.hid he
          obtain ⟨h1, h2, h3, h4⟩ := he
          simp only at h1 h2 h3 h4
          have h1' : ¬ f < 2 := by omega
          have h2' : ¬ (n : Int) ≤ f := by omega
          have h3' : ¬ m < 1 := by omega
          have h4' : ¬ (n : Int) - f < m := by omega
          have hw : IntKind.i64.wrap ((n : Int) - f) = (n : Int) - f := IntWalk.i64_in _ (by omega)
          clear h1 h2 h3 h4
          go_wp2_with fail
          go_roundw
          case rel => exact ⟨k + 1, by omega, by go_num, fun e he => by rw [HTS.out] at he; rcases List.mem_append.1 he with he | he; exact HOK.out e he; simp at he; subst he; exact HE.out, HKX.out⟩
          case measure => first | (simp [RowKit.intOf]; omega) | omega
        · have hno : ¬ okS n ⟨gen, ps, len, ep⟩ := fun h => he (h.2.1 _ HMEM.out)
          have HNO := Lib.hid hno
          clear hno
          by_cases h1 : f < 2
          · go_wp2_with fail
            refine bodyPost_ret (results_tmp rfl _ _ _) rfl ?_
            exact ⟨2, rfl, .inr ⟨rfl, HNO.out⟩, HK1.out.trans HKX.out (by simp)⟩
          · by_cases h2 : (n : Int) ≤ f
            · go_wp2_with fail
              refine bodyPost_ret (results_tmp rfl _ _ _) rfl ?_
              exact ⟨2, rfl, .inr ⟨rfl, HNO.out⟩, HK1.out.trans HKX.out (by simp)⟩
            · by_cases h3 : m < 1
              · go_wp2_with fail
                refine bodyPost_ret (results_tmp rfl _ _ _) rfl ?_
                exact ⟨2, rfl, .inr ⟨rfl, HNO.out⟩, HK1.out.trans HKX.out (by simp)⟩
              · have h4 : (n : Int) - f < m := by
                  by_cases h4 : (n : Int) - f < m
                  · exact h4
                  · exact absurd ⟨by show 2 ≤ f; omega, by show f < (n : Int); omega, by show 1 ≤ m; omega, by show m ≤ (n : Int) - f; omega⟩ he
                have hw : IntKind.i64.wrap ((n : Int) - f) = (n : Int) - f := IntWalk.i64_in _ (by omega)
                clear he
                go_wp2_with fail
                refine bodyPost_ret (results_tmp rfl _ _ _) rfl ?_
                exact ⟨2, rfl, .inr ⟨rfl, HNO.out⟩, HK1.out.trans HKX.out (by simp)⟩
      · have hall : ∀ e ∈ ps, okE n e := by
          have := HOK.out
          rwa [List.take_of_length_le (by omega)] at this
        have HALL := Lib.hid hall
        have q1 : ¬ (k : Int) < (ps.length : Int) := by omega
        obtain ⟨d0, d1, d2, d3⟩ := cells4s (blkk HB1.out HKW.out (by simp))
        clear hall
        go_wp2_with fail
        refine (values_any _ _ ⟨_, _, _, rfl⟩).mono ?_
        rintro e w2 ⟨rfl, rfl⟩
        have hka := (HK1.out.trans HKW.out (by simp)).alloc (.cells #[.slice pa ps.length pc] 23)
        have hsf := sortedFunc_any (w := wr.alloc (.cells #[.slice pa ps.length pc] 23)) (B := wr.heap.size) (v := .slice pa ps.length pc) (by simp) (HR.out.keep hka (by simp)) (by omega) (fun e he => by have := HALL.out e he; unfold okE at this; unfold SmallE; omega) (fun b hb => Nat.lt_of_lt_of_le (HO.out b hb) hka.size)
        have HSF := Lib.hid hsf
        have HKA := Lib.hid hka
        clear hsf hka d0 d1 d2 d3
        go_wp2_with fail
        refine HSF.out.mono ?_
        rintro e w3 ⟨v3, o3, s, rfl, hp, hpw, hrow, hfr, hk3⟩
        obtain ⟨o4, hrd, -⟩ := Row.rd hrow
        have hrd2 : RdE w3 v3 s o4 := hrd
        obtain ⟨sa, sc, rfl⟩ : ∃ a c, v3 = .slice a s.length c := by obtain ⟨-, a, c, h, -⟩ := hrd; exact ⟨a, c, h⟩
        have hsl : s.length ≤ 8 := by rw [hp.length_eq]; omega
        have HRS := Lib.hid hrd2
        have HP := Lib.hid hp
        have hall2 : ∀ e ∈ s, okE n e := fun e he => HALL.out e (hp.mem_iff.1 he)
        have HALL2 := Lib.hid hall2
        have hch := chain_apart s hpw (fun e he => (hall2 e he).2.2.1)
        rw [apart_perm hp] at hch
        have HCH := Lib.hid hch
        have HK3 := Lib.hid (HKA.out.trans hk3 (by simp))
        clear hrow hfr hk3 hrd hrd2 hp hall2 hch hpw HSF
        go_wp2_with fail
        go_loopw [8] (fun i wq => ∃ k : Nat, 1 ≤ k ∧ (k ≤ s.length ∨ k = 1) ∧ i = .int .i64 k ∧ (∀ j (h : j + 1 < s.length), j + 1 < k → s[j].1 + s[j].2 ≤ s[j + 1].1) ∧ Keep [] w3 wq) (fun i _ => s.length - (RowKit.intOf i).toNat)
        case atStart => exact ⟨1, by omega, .inr rfl, rfl, fun j h1 h2 => by omega, Keep.refl _ _⟩
        case round =>
          rename World => wq
          obtain ⟨i, hi1, hi2, rfl, hadj, hkq⟩ := hrel
          have HKQ := Lib.hid hkq
          have HADJ := Lib.hid hadj
          clear hkq hadj
          by_cases hlt2 : i < s.length
          · obtain ⟨j, rfl⟩ : ∃ j, i = j + 1 := ⟨i - 1, by omega⟩
            have hj1 : j < s.length := by omega
            obtain ⟨b, off, rfl, -, e0, e1⟩ := HRS.out.at hj1
            obtain ⟨b', off', hbb, -, e2, e3⟩ := HRS.out.at hlt2
            cases hbb
            have d0 := HKQ.out.cellOf e0
            have d1 := HKQ.out.cellOf e1
            have d2 := HKQ.out.cellOf e2
            have hm1 := HALL2.out _ (List.getElem_mem hj1)
            have hm2 := HALL2.out _ (List.getElem_mem hlt2)
            unfold okE at hm1 hm2
            have hw2 : IntKind.i64.wrap (s[j].1 + s[j].2) = s[j].1 + s[j].2 := IntWalk.i64_in _ (by omega)
            have hw1 : IntKind.i64.wrap (((j + 1 : Nat) : Int) - 1) = (j : Int) := (IntWalk.i64_in _ (by omega)).trans (by omega)
            obtain ⟨i, hij⟩ : ∃ i, i = j + 1 := ⟨_, rfl⟩
            have hst : s[j + 1].1 + 0 = s[j + 1].1 := by omega
            obtain ⟨y, hy⟩ : ∃ y, y = s[j + 1].1 := ⟨_, rfl⟩
            obtain ⟨z, hz⟩ : ∃ z, z = s[j].1 := ⟨_, rfl⟩
            obtain ⟨u, hu⟩ : ∃ u, u = s[j].2 := ⟨_, rfl⟩
            rw [← hy, ← hij] at d2
            rw [← hz] at d0 hw2
            rw [← hu] at d1 hw2
            rw [← hij] at hw1 hlt2 ⊢
            have HS := Lib.hid (show s[j].1 + s[j].2 ≤ s[j + 1].1 ↔ z + u ≤ y by rw [hy, hz, hu])
            have HIJ := Lib.hid hij
            have q0 : (0 : Int) ≤ (j : Int) := by omega
            have q1 : (j : Int) < (s.length : Int) := by omega
            have q2 : (0 : Int) ≤ (i : Int) := by omega
            have q3 : (i : Int) < (s.length : Int) := by omega
            clear e0 e1 e2 e3 hm1 hm2 hy hz hu hst hij
            by_cases hgap : y < z + u
            · go_upto_region 13 with fail
              go_quiet (fail)
              go_wp2_with fail
              refine bodyPost_ret (results_tmp rfl _ _ _) rfl ?_
              refine ⟨2, rfl, .inr ⟨rfl, fun h => ?_⟩, by repeat (first | exact HK3.out.trans HKQ.out (by simp) | refine Keep.drewN ?_ _ | refine Keep.drew ?_)⟩
              have h1 := HCH.out.2 h.2.2 j (by omega)
              have h2 := HS.out.1 h1
              omega
            · go_upto_region 13 with fail
              go_quiet (fail)
              go_wp2_with fail
              go_roundw
              case rel =>
                refine ⟨i + 1, by omega, .inl (by omega), by go_num, fun t h1 h2 => ?_, by repeat (first | exact HKQ.out | refine Keep.drewN ?_ _ | refine Keep.drew ?_)⟩
                by_cases htj : t = j
                · subst htj
                  exact HS.out.2 (by omega)
                · exact HADJ.out t h1 (by have := HIJ.out; omega)
              case measure => first | (simp [RowKit.intOf]; omega) | omega
          · have hall3 : ps.Pairwise apart := HCH.out.1 (fun j h => HADJ.out j h (by omega))
            have q3 : ¬ (i : Int) < (s.length : Int) := by omega
            have HALL3 := Lib.hid hall3
            clear hall3
            go_wp2_with fail
            refine bodyPost_ret (results_tmp rfl _ _ _) rfl ?_
            exact ⟨0, rfl, .inl ⟨rfl, HH.out, HALL.out, HALL3.out⟩, HK3.out.trans HKQ.out (by simp)⟩
  · have hno : ¬ okS n ⟨gen, ps, len, ep⟩ := fun h => hh h.1
    have HNO := Lib.hid hno
    clear hno
    unfold okHead at hh
    simp only at hh
    by_cases h1 : gen = 0
    · clear hh
      have h1' : ((gen : Int) == 0) = true := by rw [h1]; rfl
      clear h1
      go_enter Try.func10, Try.ntmps10
      go_wp2_with fail
      refine bodyPost_ret (results_tmp rfl _ _ _) rfl ?_
      exact ⟨2, rfl, .inr ⟨rfl, HNO.out⟩, HK1.out⟩
    · skip
      have h1' : ((gen : Int) == 0) = false := beq_eq_false_iff_ne.2 (by omega)
      by_cases h2 : ep < 0
      · clear hh
        go_enter Try.func10, Try.ntmps10
        go_wp2_with fail
        refine bodyPost_ret (results_tmp rfl _ _ _) rfl ?_
        exact ⟨2, rfl, .inr ⟨rfl, HNO.out⟩, HK1.out⟩
      · skip
        by_cases h3 : 16777215 < ep
        · clear hh
          go_enter Try.func10, Try.ntmps10
          go_wp2_with fail
          refine bodyPost_ret (results_tmp rfl _ _ _) rfl ?_
          exact ⟨2, rfl, .inr ⟨rfl, HNO.out⟩, HK1.out⟩
        · skip
          by_cases h4 : len < 0
          · clear hh
            go_enter Try.func10, Try.ntmps10
            go_wp2_with fail
            refine bodyPost_ret (results_tmp rfl _ _ _) rfl ?_
            exact ⟨2, rfl, .inr ⟨rfl, HNO.out⟩, HK1.out⟩
          · skip
            by_cases h5 : 1048576 < len
            · clear hh
              go_enter Try.func10, Try.ntmps10
              go_wp2_with fail
              refine bodyPost_ret (results_tmp rfl _ _ _) rfl ?_
              exact ⟨2, rfl, .inr ⟨rfl, HNO.out⟩, HK1.out⟩
            · skip
              have h6 : (8 : Int) < (ps.length : Int) := by omega
              clear hh
              go_enter Try.func10, Try.ntmps10
              go_wp2_with fail
              refine bodyPost_ret (results_tmp rfl _ _ _) rfl ?_
              exact ⟨2, rfl, .inr ⟨rfl, HNO.out⟩, HK1.out⟩
end Go.Proofs.Ytdeghoigpcbmcaa
