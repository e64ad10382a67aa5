/- Super: seal's Get. Printed by gen-su6.py. -/
import Derived.Test.YtdeghoigpcbmcaaSu5
import Derived.Test.YtdeghoigpcbmcaaSuT13
namespace Go.Proofs.Ytdeghoigpcbmcaa
open Go.RowKit Go.Emb

theorem results_cell_tmp {P : Program} {fn : Func} {p t : Tmp} {ty : TypeId} (h : fn.results = #[.cell p ty, .tmp t]) (tmps : Array Value) (w : World) (g : Nat) (tt : TypeId) (cs : Array Value) (fr : Nat × Nat) (d : TypeDesc)
    (hp : tmps.getD p undef = .pointer (some ⟨g, 0, none⟩)) (hg : w.heap[g]? = some (.cells cs tt fr))
    (hu : P.underlying ty = some d) (hd : (match d with | .struct _ | .array _ _ => true | _ => false) = true) (hi : (P.info? ty).map (·.size) = some cs.size) :
    (results fn tmps).run P w = .ok (.tuple #[.agg cs, tmps.getD t undef]) w := by
  have hp' : tmps[p]?.getD undef = .pointer (some ⟨g, 0, none⟩) := by simpa using hp
  simp [results, h, hp', asAddr, run_loadVar_row w g tt ty cs fr d hg hu hd hi]
theorem frozen3 {w : World} {q : Nat} {cs : Array Value} {t : TypeId} (h : w.heap[q]? = some (.cells cs t (0, 0))) : ∀ i, w.frozen? ⟨q, i, none⟩ = false := fun i => by simp [World.frozen?, h]
theorem set3 {w : World} {q : Nat} {a b c : Value} {t : TypeId} (h : w.heap[q]? = some (.cells #[a, b, c] t (0, 0))) (x y z : Value) : (((w.setCell ⟨q, 0, none⟩ x).setCell ⟨q, 1, none⟩ y).setCell ⟨q, 2, none⟩ z).heap[q]? = some (.cells #[x, y, z] t (0, 0)) ∧ Keep [q] w (((w.setCell ⟨q, 0, none⟩ x).setCell ⟨q, 1, none⟩ y).setCell ⟨q, 2, none⟩ z) :=
  ⟨heap_setCell_at (heap_setCell_at (heap_setCell_at h x) y) z, (((Keep.refl [q] w).setCell (.inl (by simp)) x).setCell (.inl (by simp)) y).setCell (.inl (by simp)) z⟩
theorem _root_.Go.Emb.Rd.ltB {w : World} {k : Nat} {v : Value} {n : Nat} {xs : List Value} {o : Option Nat} (h : Rd w k v n xs o) : ∀ d, o = some d → 0 < n * k → d < w.heap.size := by
  rintro d rfl hn
  obtain ⟨hl, a, c, rfl, h1, h2, h3⟩ := h
  rcases h3 with ⟨_, h4⟩ | ⟨b, off, rfl, h4, h3⟩
  · cases h4
  · cases h4
    have h := h3 0 hn
    rw [List.getElem?_eq_getElem (by omega)] at h
    exact World.block_lt_of_cell? _ _ h
theorem sealed_size : (Try.prog.info? 52).map (·.size) = some 3 := by kernel_rfl
/-- a slice of bytes, owned: read -/
theorem RB.rdd {w : World} {v : Value} {bs : List UInt8} {o : Option Nat} (h : RB w v bs o) : ∃ o', Rd w 1 v bs.length (Lib.byteCells bs) o' := by
  obtain ⟨o', h, -⟩ := Row.rd h
  exact ⟨o', h⟩
def GetP (w : World) (b : List UInt8) (e : Ending) (w' : World) : Prop :=
  ((openS b = none ∧ e = .returned (.tuple #[.agg #[.int .u8 0, .int .u64 0, .slice none 0 0], .int .i64 30])) ∨
   ∃ x lv o, openS b = some x ∧ e = .returned (.tuple #[.agg #[.int .u8 x.kind.toNat, .int .u64 x.num, lv], .int .i64 0]) ∧ RB w' lv x.load o ∧ (∀ c, o = some c → w.heap.size ≤ c)) ∧ Keep [] w w'
theorem openS_none {b : List UInt8} (h : roomN b.length = 0 ∨ roomN b.length < hiN ((b.drop 9).take 2) ∨ sealKind b = 0 ∨ sealL b.length (sealOf b) ≠ b) : openS b = none := by
  unfold openS
  refine if_neg ?_
  rintro ⟨h1, h2, h3, h4⟩
  rcases h with h | h | h | h
  · exact h1 h
  · omega
  · exact h3 h
  · exact h h4
theorem openS_some {b : List UInt8} (h1 : roomN b.length ≠ 0) (h2 : hiN ((b.drop 9).take 2) ≤ roomN b.length) (h3 : sealKind b ≠ 0) (h4 : sealL b.length (sealOf b) = b) : openS b = some (sealOf b) := by
  unfold openS
  exact if_pos ⟨h1, h2, h3, h4⟩
theorem size1 : ∀ w, (sizeOf 5).run Try.prog w = .ok 1 w := by
  obtain ⟨i0, hi, hz0, hz1, hz2⟩ := u8_ok
  exact fun w => by simp [sizeOf, typeInfo, hi, hz1]
theorem rd_part {w : World} {blk off n c : Nat} {bs : List UInt8} {o : Option Nat} (h : Rd w 1 (.slice (some ⟨blk, off, none⟩) n c) bs.length (Lib.byteCells bs) o) (hne : 0 < bs.length) {lo m : Nat} (hm : lo + m ≤ bs.length) :
    Rd w 1 (.slice (some ⟨blk, off + lo, none⟩) m (c - lo)) ((bs.drop lo).take m).length (Lib.byteCells ((bs.drop lo).take m)) (some blk) := by
  have hl : ((bs.drop lo).take m).length = m := by rw [List.length_take, List.length_drop]; omega
  obtain ⟨h0, a, c', he, h1, h2, h3⟩ := h
  cases he
  rcases h3 with ⟨h3, -⟩ | ⟨b, f, hb, -, h3⟩
  · omega
  · cases hb
    rw [hl]
    refine ⟨by simp [Lib.byteCells]; omega, _, _, rfl, by omega, by omega, .inr ⟨_, _, rfl, rfl, fun i hi => ?_⟩⟩
    have := h3 (lo + i) (by omega)
    rw [← byteCells_part, List.getElem?_take, if_pos (by omega), List.getElem?_drop, ← this, Nat.add_assoc]
set_option maxRecDepth 100000 in
set_option maxHeartbeats 4000000 in
theorem p_get {w : World} {v : Value} {b : List UInt8} {o : Option Nat} (hr : Rd w 1 v b.length (Lib.byteCells b) o) (hlo : ∀ c, o = some c → c < w.heap.size) (hsz : b.length ≤ 1000000000) :
    Calls Try.prog 39 #[v] w (GetP w b) := by
  obtain ⟨a, c, rfl⟩ : ∃ a c, v = .slice a b.length c := by obtain ⟨-, a, c, h, -⟩ := hr; exact ⟨a, c, h⟩
  have hk1 : Keep [] w (w.alloc (.cells #[.int .u8 0, .int .u64 0, .slice none 0 0] 52)) := (Keep.refl [] w).alloc _
  have hb1 := heap_alloc_new w (.cells #[.int .u8 0, .int .u64 0, .slice none 0 0] 52)
  have HR := Lib.hid hr
  have HK1 := Lib.hid hk1
  have HB1 := Lib.hid hb1
  obtain ⟨c0, c1, c2⟩ := cells3b hb1
  have hroom := p_room (b.length : Int)
  rw [roomI_nat] at hroom
  have HRM := Lib.hid hroom
  clear hr hk1 hb1 hroom
  obtain ⟨rm, hrm⟩ : ∃ r, r = roomN b.length := ⟨_, rfl⟩
  rw [← hrm] at HRM
  have HRR := Lib.hid hrm
  clear hrm
  by_cases h0 : rm = 0
  · have h0' : ((rm : Int) == 0) = true := by simp [h0]
    have H0 := Lib.hid h0
    clear h0
    go_enter Try.func39, Try.ntmps39
    go_wp2_with fail
    refine (HRM.out _).mono ?_
    rintro e w2 ⟨rfl, rfl⟩
    go_wp2_with fail
    refine bodyPost_ret (results_cell_tmp rfl _ _ w.heap.size _ _ _ _ rfl HB1.out Try.underlying52 rfl sealed_size) rfl ?_
    exact ⟨.inl ⟨openS_none (.inl (by rw [← HRR.out]; exact H0.out)), rfl⟩, HK1.out⟩
  · have h0' : ((rm : Int) == 0) = false := beq_eq_false_iff_ne.2 (by omega)
    have hrl : rm + 15 = b.length ∧ 64 ≤ b.length ∧ b.length ≤ 4096 := by
      have h1 := HRR.out
      unfold roomN at h1
      split at h1
      · exact absurd h1 h0
      · omega
    obtain ⟨z1, z2, z3⟩ := hrl
    have Z1 := Lib.hid z1
    clear z1
    have hrA := HR.out.keep0 HK1.out
    have hcap : b.length ≤ c := by obtain ⟨-, a', c', he, h1, -⟩ := hrA; cases he; exact h1
    obtain ⟨blk, off, rfl, g0⟩ := rdb_at hrA (k := 0) (by omega)
    rw [Nat.add_zero] at g0
    have hrd := rd_part hrA (by omega) (lo := 9) (m := 2) (by omega)
    have hln : ((b.drop 9).take 2).length = 2 := by rw [List.length_take, List.length_drop]; omega
    have htold := p_told hrd (by omega)
    have z4 : (9 : Int) ≤ (c : Int) := by omega
    have z5 : (11 : Int) ≤ (c : Int) := by omega
    have z6 : ¬ c = 9 := by omega
    have HCAP := Lib.hid hcap
    have HG0 := Lib.hid g0
    clear g0 hcap
    have hnlt := hiN_lt ((b.drop 9).take 2)
    rw [hln] at hnlt
    have HLN := Lib.hid hln
    have HT := Lib.hid htold
    obtain ⟨n, hn⟩ : ∃ n, n = hiN ((b.drop 9).take 2) := ⟨_, rfl⟩
    rw [← hn] at HT hnlt
    have HN := Lib.hid hn
    have hwn : IntKind.i64.wrap (n : Int) = (n : Int) := IntWalk.i64_in _ (by omega)
    clear hn htold hrd hrA hln
    by_cases hbig : rm < n
    · have hbig' : (rm : Int) < (n : Int) := by omega
      go_enter Try.func39, Try.ntmps39
      go_wp2_with fail
      refine (HRM.out _).mono ?_
      rintro e w2 ⟨rfl, rfl⟩
      go_wp2_with fail
      refine HT.out.mono ?_
      rintro e w3 ⟨rfl, rfl⟩
      go_wp2_with fail
      refine (HRM.out _).mono ?_
      rintro e w2 ⟨rfl, rfl⟩
      go_wp2_with fail
      refine bodyPost_ret (results_cell_tmp rfl _ _ w.heap.size _ _ _ _ rfl HB1.out Try.underlying52 rfl sealed_size) rfl ?_
      exact ⟨.inl ⟨openS_none (.inr (.inl (by rw [← HRR.out, ← HN.out]; exact hbig))), rfl⟩, HK1.out⟩
    · have hbig' : ¬ (rm : Int) < (n : Int) := by omega
      go_enter Try.func39, Try.ntmps39
      go_wp2_with fail
      refine (HRM.out _).mono ?_
      rintro e w2 ⟨rfl, rfl⟩
      go_wp2_with fail
      refine HT.out.mono ?_
      rintro e w3 ⟨rfl, rfl⟩
      go_wp2_with fail
      refine (HRM.out _).mono ?_
      rintro e w2 ⟨rfl, rfl⟩
      go_upto_region 6 with fail
      have hq : blk ≠ w.heap.size := by
        obtain ⟨b', f', hb', g'⟩ := rdb_at HR.out (k := 0) (by omega)
        cases hb'
        exact Nat.ne_of_lt (World.block_lt_of_cell? _ _ g')
      generalize w.alloc (.cells #[.int .u8 0, .int .u64 0, .slice none 0 0] 52) = w1 at *
      obtain ⟨q, hqq⟩ : ∃ q, q = w.heap.size := ⟨_, rfl⟩
      have HQ := Lib.hid hq
      have h0k : b[0] = sealKind b := by
        cases b with
        | nil => simp at z2
        | cons x l => rfl
      obtain ⟨kd, hkd⟩ : ∃ k, k = sealKind b := ⟨_, rfl⟩
      rw [h0k, ← hkd] at HG0
      have HKD := Lib.hid hkd
      have H0K := Lib.hid h0k
      obtain ⟨num, hnum⟩ : ∃ k, k = sealNum b := ⟨_, rfl⟩
      have HNUM := Lib.hid hnum
      have s1 : (0 : Int) ≤ (n : Int) := by omega
      obtain ⟨m, hm⟩ : ∃ m, m = 11 + n := ⟨_, rfl⟩
      have hwa : IntKind.i64.wrap (11 + (n : Int)) = (m : Int) := (IntWalk.i64_in _ (by omega)).trans (by omega)
      have s2 : (11 : Int) ≤ (m : Int) := by omega
      have s3 : (m : Int) ≤ (c : Int) := by have := HCAP.out; have := Z1.out; omega
      have HM := Lib.hid hm
      clear hm
      have s4 : (1 : Int) ≤ (c : Int) := by omega
      have s5 : 0 < b.length := by omega
      have z1 := Z1.out
      clear hkd h0k hnum hq hqq
      refine wp_region_held_drew (S := fun w' => Keep [w.heap.size] w1 w') (by kernel_rfl) (Keep.refl [w.heap.size] w1).drew (fun hHeld => ?_)
      have HS0 := Lib.hid hHeld
      clear hHeld
      have hHeld := HS0.out
      have HBX := Lib.hid (show w1.drew.heap[w.heap.size]? = _ from HB1.out)
      generalize w1.drew = w2 at *
      refine wpAnyH_takeL (i := 0) (v := ?vA0) rfl (by kernel_rfl) (by kernel_rfl) (by kernel_rfl) (fun _ _ _ h => h) (Or.inl ⟨by kernel_rfl, ?runA0⟩) hHeld ?_
      case runA0 => (intro w9 hS9; obtain c3 := hS9.cellOf HG0.out (by simpa using HQ.out); go_simp; try exact rfl)
      try simp only [Act.put, List.setIfInBounds_toArray, List.set_cons_zero, List.set_cons_succ]
      refine wpAnyH_takeL (i := 1) (v := ?vA1) rfl (by kernel_rfl) (by kernel_rfl) (by kernel_rfl) (fun _ _ _ h => h) (Or.inl ⟨by kernel_rfl, ?runA1⟩) hHeld ?_
      case runA1 => (intro w9 hS9; obtain c3 := hS9.cellOf HG0.out (by simpa using HQ.out); go_simp; try exact rfl)
      try simp only [Act.put, List.setIfInBounds_toArray, List.set_cons_zero, List.set_cons_succ]
      refine wpAnyH_takeL (i := 2) (v := ?vA2) rfl (by kernel_rfl) (by kernel_rfl) (by kernel_rfl) (fun _ _ _ h => h) (Or.inl ⟨by kernel_rfl, ?runA2⟩) hHeld ?_
      case runA2 => (intro w9 hS9; obtain c3 := hS9.cellOf HG0.out (by simpa using HQ.out); go_simp; try exact rfl)
      try simp only [Act.put, List.setIfInBounds_toArray, List.set_cons_zero, List.set_cons_succ]
      refine wpAnyH_takeL (i := 3) (v := ?vA3) rfl (by kernel_rfl) (by kernel_rfl) (by kernel_rfl) (fun _ _ _ h => h) (Or.inl ⟨by kernel_rfl, ?runA3⟩) hHeld ?_
      case runA3 => (intro w9 hS9; obtain c3 := hS9.cellOf HG0.out (by simpa using HQ.out); go_simp; try exact rfl)
      try simp only [Act.put, List.setIfInBounds_toArray, List.set_cons_zero, List.set_cons_succ]
      refine wpAnyH_takeL (i := 4) (v := (.slice (some ⟨blk, off + 1, none⟩) 8 (c - 1))) rfl (by kernel_rfl) (by kernel_rfl) (by kernel_rfl) (fun _ _ _ h => h) (Or.inl ⟨by kernel_rfl, ?runA4⟩) hHeld ?_
      case runA4 => (intro w9 hS9; obtain c3 := hS9.cellOf HG0.out (by simpa using HQ.out); go_simp; (have hcc := HCAP.out; omega))
      try simp only [Act.put, List.setIfInBounds_toArray, List.set_cons_zero, List.set_cons_succ]
      refine wpAnyH_takeL (i := 6) (v := ?vA6) rfl (by kernel_rfl) (by kernel_rfl) (by kernel_rfl) (fun _ _ _ h => h) (Or.inl ⟨by kernel_rfl, ?runA6⟩) hHeld ?_
      case runA6 => (intro w9 hS9; obtain c3 := hS9.cellOf HG0.out (by simpa using HQ.out); go_simp; try exact rfl)
      try simp only [Act.put, List.setIfInBounds_toArray, List.set_cons_zero, List.set_cons_succ]
      refine wpAnyH_takeL (i := 7) (v := ?vA7) rfl (by kernel_rfl) (by kernel_rfl) (by kernel_rfl) (fun _ _ _ h => h) (Or.inl ⟨by kernel_rfl, ?runA7⟩) hHeld ?_
      case runA7 => (intro w9 hS9; obtain c3 := hS9.cellOf HG0.out (by simpa using HQ.out); go_simp; try exact rfl)
      try simp only [Act.put, List.setIfInBounds_toArray, List.set_cons_zero, List.set_cons_succ]
      refine wpAnyH_takeL (i := 8) (v := ?vA8) rfl (by kernel_rfl) (by kernel_rfl) (by kernel_rfl) (fun _ _ _ h => h) (Or.inl ⟨by kernel_rfl, ?runA8⟩) hHeld ?_
      case runA8 => (intro w9 hS9; obtain c3 := hS9.cellOf HG0.out (by simpa using HQ.out); go_simp; try exact rfl)
      try simp only [Act.put, List.setIfInBounds_toArray, List.set_cons_zero, List.set_cons_succ]
      refine wpAnyH_takeL (i := 9) (v := (.slice (some ⟨blk, off + 11, none⟩) n (c - 11))) rfl (by kernel_rfl) (by kernel_rfl) (by kernel_rfl) (fun _ _ _ h => h) (Or.inl ⟨by kernel_rfl, ?runA9⟩) hHeld ?_
      case runA9 => (intro w9 hS9; obtain c3 := hS9.cellOf HG0.out (by simpa using HQ.out); go_simp; (have hcc := HCAP.out; have hm := HM.out; first | done | omega | exact ⟨by omega, by omega⟩ | (trace_state; simp; omega)))
      try simp only [Act.put, List.setIfInBounds_toArray, List.set_cons_zero, List.set_cons_succ]
      have hrB := HR.out.keep0 (HK1.out.trans HS0.out (by simp))
      have ht8 := p_told (rd_part hrB (by omega) (lo := 1) (m := 8) (by omega)) (by rw [List.length_take]; omega)
      rw [show hiN ((b.drop 1).take 8) = num from HNUM.out.symm] at ht8
      have hcl := p_clone (rd_part hrB (by omega) (lo := 11) (m := n) (by omega)) (by rw [List.length_take]; omega)
      rw [show (b.drop 11).take n = sealLoad b by unfold sealLoad; rw [HN.out]] at hcl
      have HT8 := Lib.hid ht8
      have HCL := Lib.hid hcl
      clear ht8 hcl hrB
      refine wpAnyH_ready (rs := [5]) (by kernel_rfl) (by simp) ?_
      refine AllReadyH.consL rfl (fun K hK => ?_) AllReadyH.nil
      go_simp
      refine HT8.out.mono ?_
      rintro e w3 ⟨rfl, rfl⟩
      clear hHeld
      go_wp2_with fail
      refine hK.out _ _ HS0.out (fun hHeld => ?_)
      clear hK K
      try simp only [Act.put, List.setIfInBounds_toArray, List.set_cons_zero, List.set_cons_succ]
      refine wpAnyH_ready (rs := [10]) (by kernel_rfl) (by simp) ?_
      refine AllReadyH.consL rfl (fun K hK => ?_) AllReadyH.nil
      go_simp
      refine HCL.out.mono ?_
      rintro e w3 ⟨lv, lo, rfl, hrb, hfr, hk3⟩
      obtain ⟨la, lc, rfl, -⟩ := hrb.form
      have hbx3 := blkk HBX.out hk3 (by simp)
      have HBX3 := Lib.hid hbx3
      have HRB := Lib.hid hrb
      have HFR := Lib.hid hfr
      have HS3 := Lib.hid (HS0.out.trans hk3 (by simp))
      clear hHeld hrb hfr hk3 hbx3
      go_wp2_with fail
      refine hK.out _ _ HS3.out (fun hHeld => ?_)
      clear hK K
      try simp only [Act.put, List.setIfInBounds_toArray, List.set_cons_zero, List.set_cons_succ]
      refine wpAnyH_takeL (i := 11) (v := ?vA11) rfl (by kernel_rfl) (by kernel_rfl) (by kernel_rfl) (fun _ _ _ h => h) (Or.inl ⟨by kernel_rfl, ?runA11⟩) hHeld ?_
      case runA11 => (intro w9 hS9; obtain c3 := hS9.cellOf HG0.out (by simpa using HQ.out); go_simp; try exact rfl)
      try simp only [Act.put, List.setIfInBounds_toArray, List.set_cons_zero, List.set_cons_succ]
      refine wpAnyH_ready (rs := [12]) (by kernel_rfl) (by simp) ?_
      refine AllReadyH.consL rfl (fun K hK => ?_) AllReadyH.nil
      obtain ⟨c4, c5, c6⟩ := cells3b HBX3.out
      have f4 := frozen3 HBX3.out
      go_simp
      obtain ⟨hb4, hk4⟩ := set3 HBX3.out (.int .u8 kd.toNat) (.int .u64 num) (.slice la (sealLoad b).length lc)
      have HB4 := Lib.hid hb4
      have HK4 := Lib.hid hk4
      clear c4 c5 c6 f4 hb4 hk4
      generalize (((w3.setCell ⟨w.heap.size, 0, none⟩ (.int .u8 kd.toNat)).setCell ⟨w.heap.size, 1, none⟩ (.int .u64 num)).setCell ⟨w.heap.size, 2, none⟩ (.slice la (sealLoad b).length lc)) = w4 at *
      refine hK.out _ _ (HS3.out.trans HK4.out (by simp)) (fun hHeld2 => ?_)
      clear hK K hHeld hHeld2
      try simp only [Act.put, List.setIfInBounds_toArray, List.set_cons_zero, List.set_cons_succ]
      refine wpAnyH_done (by kernel_rfl) ?_ _
      clear c0 c1 c2
      obtain ⟨c0, c1, c2⟩ := cells3b HB4.out
      have hnq : ∀ d, lo = some d → d ∉ [w.heap.size] := fun d hd => by have h1 := HFR.out d hd; have h2 := (Array.getElem?_eq_some_iff.1 HBX.out).1; simp; omega
      have hrb4 := HRB.out.keep HK4.out hnq
      have HRB4 := Lib.hid hrb4
      obtain ⟨o4, hrd4, -⟩ := Row.rd hrb4
      have hnl := hiN_lt ((b.drop 1).take 8)
      rw [show ((b.drop 1).take 8).length = 8 by rw [List.length_take, List.length_drop]; omega, show hiN ((b.drop 1).take 8) = num from HNUM.out.symm] at hnl
      have hll : (sealLoad b).length ≤ 1000000000 := by unfold sealLoad; rw [List.length_take, List.length_drop]; omega
      have hput := p_put (size := b.length) (num := num) (kind := kd) hrd4 (by omega) (by omega) hll
      have HPUT := Lib.hid hput
      clear hput hrd4 hrb4 hnq
      go_wp2_with fail
      refine HPUT.out.mono ?_
      rintro e w5 ⟨hp, hk5⟩
      have hso : (⟨kd, num, sealLoad b⟩ : Seal) = sealOf b := by unfold sealOf; rw [HKD.out, HNUM.out]
      rw [hso] at hp
      have hb5 := blkk HB4.out hk5 (by simp)
      obtain ⟨d0, d1, d2⟩ := cells3b hb5
      have f5 := frozen3 hb5
      obtain ⟨hb6, hk6⟩ := set3 hb5 (.int .u8 0) (.int .u64 0) (.slice none 0 0)
      have hkw := (HK1.out.trans (HS3.out.trans HK4.out (by simp)) (by simp)).trans hk5 (by simp)
      have hk7 := hkw.trans hk6 (by simp)
      have HB5 := Lib.hid hb5
      have HB6 := Lib.hid hb6
      have HKW := Lib.hid hkw
      have HK7 := Lib.hid hk7
      have HK5 := Lib.hid hk5
      clear c0 c1 c2 hso hb5 hb6 hk6 hk7 hk5 hkw
      rcases hp with ⟨hc, rfl⟩ | ⟨-, hl, -⟩ | ⟨hc, -, g, rfl, hbb, hg⟩
      · have HC := Lib.hid hc
        clear hc
        go_wp2_with fail
        refine bodyPost_ret (results_cell_tmp rfl _ _ w.heap.size _ _ _ _ rfl HB6.out Try.underlying52 rfl sealed_size) rfl ?_
        exact ⟨.inl ⟨openS_none (HC.out.elim (fun h => .inl h) (fun h => .inr (.inr (.inl h)))), rfl⟩, HK7.out⟩
      · exfalso
        have h1 : (sealOf b).load.length ≤ n := by show (sealLoad b).length ≤ n; unfold sealLoad; rw [List.length_take, ← HN.out]; omega
        have := HRR.out
        omega
      · have hlen : (sealL b.length (sealOf b)).length = b.length := sealL_len ⟨fun h => hc (.inl h), fun h => hc (.inr h), by have h1 : (sealOf b).load.length ≤ n := (by show (sealLoad b).length ≤ n; unfold sealLoad; rw [List.length_take, ← HN.out]; omega); have := HRR.out; omega, by show sealNum b < _; rw [← HNUM.out]; omega⟩
        have hrg := hbb.rd (off := 0) (n := b.length) (c := b.length) (by omega) (by omega) (by unfold maxLen; omega)
        rw [List.drop_zero, List.take_of_length_le (by omega)] at hrg
        have heq := p_eql hrg (HR.out.keep0 HKW.out) (by omega) (by omega)
        have HEQ := Lib.hid heq
        have HC := Lib.hid hc
        clear heq hrg hbb hg hc hlen
        go_wp2_with fail
        refine HEQ.out.mono ?_
        rintro e w6 ⟨rfl, hk6⟩
        have hb7 := blkk HB5.out hk6 (by simp)
        have hkv := HKW.out.trans hk6 (by simp)
        by_cases hsame : sealL b.length (sealOf b) = b
        · rw [decide_eq_true hsame]
          obtain ⟨hb9, hk9⟩ := set3 hb7 (.int .u8 kd.toNat) (.int .u64 num) (.slice la (sealLoad b).length lc)
          have hnq : ∀ d, lo = some d → d ∉ [w.heap.size] := fun d hd => by have h1 := HFR.out d hd; have h2 := (Array.getElem?_eq_some_iff.1 HBX.out).1; simp; omega
          have hrb7 := RB.keep (RB.keep HRB4.out (HK5.out.trans hk6 (by simp)) (by simp)) hk9 hnq
          have hos := openS_some (b := b) (fun h => HC.out (.inl h)) (by have := HRR.out; have := HN.out; omega) (fun h => HC.out (.inr h)) hsame
          have HOS := Lib.hid hos
          have HRB7 := Lib.hid hrb7
          have HKV := Lib.hid (hkv.trans hk9 (by simp))
          have HB9 := Lib.hid hb9
          obtain ⟨d0, d1, d2⟩ := cells3b hb7
          have f7 := frozen3 hb7
          clear hrb7 hsame hb7 hkv hk6 hos hb9 hk9 hnq
          go_wp2_with fail
          refine bodyPost_ret (results_cell_tmp rfl _ _ w.heap.size _ _ _ _ rfl HB9.out Try.underlying52 rfl sealed_size) rfl ?_
          exact ⟨.inr ⟨sealOf b, _, lo, HOS.out, by rw [HKD.out, HNUM.out]; rfl, HRB7.out, fun d hd => by have h1 := HFR.out d hd; have h2 := (Array.getElem?_eq_some_iff.1 HBX.out).1; omega⟩, HKV.out⟩
        · rw [decide_eq_false hsame]
          obtain ⟨d0, d1, d2⟩ := cells3b hb7
          have f7 := frozen3 hb7
          obtain ⟨hb8, hk8⟩ := set3 hb7 (.int .u8 0) (.int .u64 0) (.slice none 0 0)
          have HRES := Lib.hid (show openS b = none from openS_none (.inr (.inr (.inr hsame))))
          have HB8 := Lib.hid hb8
          have HK8 := Lib.hid (hkv.trans hk8 (by simp))
          clear hsame hb7 hkv hk6 hb8 hk8
          go_wp2_with fail
          refine bodyPost_ret (results_cell_tmp rfl _ _ w.heap.size _ _ _ _ rfl HB8.out Try.underlying52 rfl sealed_size) rfl ?_
          exact ⟨.inl ⟨HRES.out, rfl⟩, HK8.out⟩
end Go.Proofs.Ytdeghoigpcbmcaa
