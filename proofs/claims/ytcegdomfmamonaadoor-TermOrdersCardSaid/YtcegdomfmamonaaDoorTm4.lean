/- Terms: the program's Size; the statement's names, small, plain. -/
import Derived.Test.YtcegdomfmamonaaDoorTm3
namespace Go.Proofs.YtcegdomfmamonaaDoor
open Go.RowKit Go.Emb Go.Lib

set_option maxRecDepth 100000 in
theorem p_size {B : Nat} {w : World} {t : Tm} (h : RdTm B w t) (hB : B ≤ w.heap.size) : Calls Tryd.prog 13 #[aggTm t] w fun e w' => e = .returned (.int .i64 (min t.sz 4097 : Nat)) ∧ Keep [] w w' := by
  have hcall := fun ob => countN t.sz t (Nat.le_refl _) (w.heap.size + 1) 0 ((w.alloc ob).alloc (.cells #[.int .i64 0] 54)) ((h.up (by omega)).keep0 (((Keep.refl [] w).alloc ob).alloc _)) (by have := heap_alloc_new (w.alloc ob) (.cells #[.int .i64 0] 54); simpa using this) (by omega)
  have hc : cntN 0 t.sz = min t.sz 4097 := by unfold cntN; rw [Nat.zero_add]
  unfold CountP at hcall
  rw [hc] at hcall
  obtain ⟨xa, xc, hxv, -, -⟩ := h.has.form
  have HC := Lib.hid hcall
  clear hcall hc
  unfold aggTm at *
  rw [hxv] at *
  clear hxv
  generalize t.items.length = xl at *
  generalize decide (0 + t.sz ≤ 4096) = bb at *
  generalize min t.sz 4097 = res at *
  go_enter Tryd.func13, Tryd.ntmps13
  go_wp2_with fail
  refine (HC.out _).mono ?_
  rintro e w2 ⟨rfl, hc2, hk2⟩
  obtain ⟨d0, -⟩ := one_cell hc2
  clear hc2
  go_wp2_with fail
  go_ret
  exact ⟨rfl, (((Keep.refl [] w).alloc _).alloc _).trans hk2 (by simp)⟩

theorem box_after_set (w : World) (p : Addr) (v x0 x1 x2 x3 : Value) (t : TypeId) : ((w.setCell p v).alloc (.cells #[x0, x1, x2, x3] t)).cell? ⟨w.heap.size, 3, none⟩ = some x3 := by
  have h := (box4 (Keep.refl [] ((w.setCell p v).alloc (.cells #[x0, x1, x2, x3] t)))).2.2.2
  have e : (w.setCell p v).heap.size = w.heap.size := by simp [World.setCell]
  rwa [e] at h
def NamesP (w : World) (cb : Nat) (e : Ending) (w' : World) : Prop := ∃ r m' : Int, e = .returned (.int .i64 r) ∧ w'.heap[cb]? = some (.cells #[.int .i64 m'] 3) ∧ Keep [cb] w w'
def CellI (w0 : World) (cb : Nat) (w : World) : Prop := ∃ m : Int, w.heap[cb]? = some (.cells #[.int .i64 m] 3) ∧ Keep [cb] w0 w

set_option maxRecDepth 100000 in
set_option maxHeartbeats 1000000 in
theorem namesN : ∀ (N : Nat) (t : Tm), t.sz ≤ N → ∀ (cb : Nat) (m : Int) (w : World), RdTm cb w t → w.heap[cb]? = some (.cells #[.int .i64 m] 3) → Calls Tryd.prog 44 #[aggTm t, .pointer (some ⟨cb, 0, none⟩)] w (NamesP w cb)
  | 0, t, hN, _, _, _, _, _ => by have := t.sz_pos; omega
  | N + 1, t, hN, cb, m, w, hr, hcb => by
    have IH := namesN N
    have hh := hr.has
    have hmem := fun (x : Tm) (hx : x ∈ t.items) => sz_mem_lt hx
    obtain ⟨a, c, hiv, hc1, hc2⟩ := hh.form
    unfold maxLen at hc2
    unfold aggTm
    rw [hiv] at hh ⊢
    have hlt0 := (Array.getElem?_eq_some_iff.1 hcb).1
    obtain ⟨d0, d1⟩ := one_cell hcb
    have HH := Lib.hid hh
    have HCB := Lib.hid hcb
    have HMEM := Lib.hid hmem
    have HIH := Lib.hid IH
    clear hh hr hmem IH hiv hcb
    generalize t.items = l at *
    generalize t.kind = tk at *
    generalize t.num = tn at *
    generalize t.name = ts at *
    have hcb1 : ∀ v : Int, (w.setCell ⟨cb, 0, none⟩ (.int .i64 v)).heap[cb]? = some (.cells #[.int .i64 v] 3) := fun v => by rw [heap_setCell_at HCB.out]; rfl
    have HCB1 := Lib.hid hcb1
    clear hcb1
    go_enter Tryd.func44, Tryd.ntmps44
    go_wp2_with fail
    go_loopw [5, 6] (fun n i wr => ∃ (j : Nat) (r : Int), j ≤ l.length ∧ i = .int .i64 j ∧ n = .int .i64 r ∧ wr.cell? ⟨w.heap.size, 3, none⟩ = some (.slice a l.length c) ∧ CellI w cb wr) (fun _ i _ => l.length - (intOf i).toNat)
    case atStart =>
      refine ⟨0, _, Nat.zero_le _, rfl, rfl, box_after_set _ _ _ _ _ _ _ _, _, (((Keep.refl [] _).alloc _).block cb (by simpa [World.setCell] using hlt0) (by simp)).trans (HCB1.out _), ((Keep.refl [cb] w).setCell (.inl (by simp)) _).alloc _⟩
    case round =>
      clear HCB1 HCB d0 d1
      obtain ⟨j, r, hj, rfl, rfl, e3, m', hcm, hK⟩ := hrel
      have HK := Lib.hid hK
      have HCM := Lib.hid hcm
      obtain ⟨d0, d1⟩ := one_cell hcm
      clear hK hcm
      by_cases hlt : j < l.length
      · obtain ⟨b, off, rfl, c0, c1, c2, c3, hrx⟩ := HasT.atF HH.out HK.out (by simp) hlt
        have hcall := HIH.out l[j] (by have := HMEM.out _ (List.getElem_mem hlt); omega) cb m' wr hrx HCM.out
        have i0 : (0 : Int) ≤ (j : Int) := by omega
        have i1 : (j : Int) < (l.length : Int) := by omega
        unfold aggTm at hcall
        have HC := Lib.hid hcall
        clear hrx hcall
        generalize l[j].kind = xk at *
        generalize l[j].num = xn at *
        generalize l[j].name = xs at *
        generalize l[j].iv = xv at *
        by_cases hpos : 0 < m'
        · go_wp2_with fail
          refine HC.out.mono ?_
          rintro e w2 ⟨r2, m2, rfl, hc2', hk2⟩
          have HC2' := Lib.hid hc2'
          have he3 := hk2.cell (p := ⟨w.heap.size, 3, none⟩) (World.block_lt_of_cell? _ _ e3) (by simp; omega)
          rw [e3] at he3
          have HE3 := Lib.hid he3
          clear hc2' he3
          go_wp2_with fail
          go_roundw
          case rel => exact ⟨j + 1, _, by omega, by go_num, rfl, HE3.out, _, HC2'.out, HK.out.trans hk2 (by simp)⟩
          case measure => simp [intOf]; omega
        · go_wp2_with fail
          go_ret
          exact ⟨_, _, rfl, HCM.out, HK.out⟩
      · go_wp2_with fail
        go_ret
        exact ⟨_, _, rfl, HCM.out, HK.out⟩

def SmallP (w : World) (l : List Tm) (e : Ending) (w' : World) : Prop := ∃ b, e = .returned (.bool b) ∧ (b = true → l.length ≤ 4097) ∧ Keep [] w w'
set_option maxRecDepth 100000 in
set_option maxHeartbeats 1000000 in
theorem l_small {B : Nat} {w : World} {v : Value} {l : List Tm} (h : HasT B w v l) (hB : B ≤ w.heap.size) : Calls Tryd.prog 8 #[v] w (SmallP w l) := by
  obtain ⟨a, c, rfl, hc1, hc2⟩ := h.form
  unfold maxLen at hc2
  have HH := Lib.hid h
  clear h
  go_enter Tryd.func8, Tryd.ntmps8
  go_wp2_with fail
  go_loopw [4, 5] (fun n i wr => ∃ (j : Nat) (r : Int), j ≤ l.length ∧ i = .int .i64 j ∧ n = .int .i64 r ∧ ∃ m : Int, wr.heap[w.heap.size]? = some (.cells #[.int .i64 m] 3) ∧ Keep [] w wr) (fun _ i _ => l.length - (intOf i).toNat)
  case atStart => exact ⟨0, _, Nat.zero_le _, rfl, rfl, _, heap_alloc_new w _, (Keep.refl [] w).alloc _⟩
  case round =>
    obtain ⟨j, r, hj, rfl, rfl, m, hcm, hK⟩ := hrel
    have HK := Lib.hid hK
    have HCM := Lib.hid hcm
    clear hK hcm
    by_cases hlt : j < l.length
    · obtain ⟨b, off, rfl, c0, c1, c2, c3, hrx⟩ := HH.out.at HK.out hlt
      have hcall := namesN l[j].sz l[j] (Nat.le_refl _) w.heap.size m wr (hrx.up hB) HCM.out
      have i0 : (0 : Int) ≤ (j : Int) := by omega
      have i1 : (j : Int) < (l.length : Int) := by omega
      unfold aggTm at hcall
      have HC := Lib.hid hcall
      clear hrx hcall
      generalize l[j].kind = xk at *
      generalize l[j].num = xn at *
      generalize l[j].name = xs at *
      generalize l[j].iv = xv at *
      go_wp2_with fail
      refine HC.out.mono ?_
      rintro e w2 ⟨r2, m2, rfl, hc2', hk2⟩
      have HC2' := Lib.hid hc2'
      clear hc2'
      go_wp2_with fail
      go_roundw
      case rel => exact ⟨j + 1, _, by omega, by go_num, rfl, _, HC2'.out, HK.out.trans hk2 (by simp)⟩
      case measure => simp [intOf]; omega
    · by_cases hr : r ≤ 20000
      · go_wp2_with fail
        go_ret
        exact ⟨_, rfl, fun hb => by simp at hb; omega, HK.out⟩
      · go_wp2_with fail
        go_ret
        exact ⟨_, rfl, fun hb => by simp at hb, HK.out⟩

theorem plainTms_append (l r : List Tm) : plainTms (l ++ r) = (plainTms l && plainTms r) := by simp [plainTms_iff]
set_option maxHeartbeats 1000000 in
theorem l_plainN : ∀ (N : Nat) (t : Tm), t.sz ≤ N → ∀ (B : Nat) (w : World), RdTm B w t → Calls Tryd.prog 17 #[aggTm t] w fun e w' => e = .returned (.bool (plainTm t)) ∧ Keep [] w w'
  | 0, t, hN, _, _, _ => by have := t.sz_pos; omega
  | N + 1, t, hN, B, w, hr => by
    have IH := l_plainN N
    have hh := hr.has
    have hmem := fun (x : Tm) (hx : x ∈ t.items) => sz_mem_lt hx
    have his : plainTm t = (plainTms t.items && !decide (t.kind = 4)) := by cases t; rw [plainTm]; rfl
    obtain ⟨a, c, hiv, hc1, hc2⟩ := hh.form
    unfold maxLen at hc2
    unfold aggTm
    rw [hiv] at hh ⊢
    have HH := Lib.hid hh
    have HIS := Lib.hid his
    have HMEM := Lib.hid hmem
    have HIH := Lib.hid IH
    clear hh hr hmem IH hiv his
    generalize t.items = l at *
    generalize t.kind = tk at *
    generalize t.num = tn at *
    generalize t.name = ts at *
    go_enter Tryd.func17, Tryd.ntmps17
    go_wp2_with fail
    go_loopw [3] (fun i wr => ∃ j : Nat, j ≤ l.length ∧ i = .int .i64 j ∧ plainTms (l.take j) = true ∧ Keep [] (w.alloc (.cells #[.int .i64 tk, .int .i64 tn, .string ts, .slice a l.length c] 31)) wr) (fun i _ => l.length - (intOf i).toNat)
    case atStart => exact ⟨0, Nat.zero_le _, rfl, by simp [plainTms], Keep.refl _ _⟩
    case round =>
      obtain ⟨j, hj, rfl, hp, hK⟩ := hrel
      have HK := Lib.hid hK
      have HP := Lib.hid hp
      obtain ⟨e0, -, -, e3⟩ := box4 hK
      clear hK hp
      have hk0 : Keep [] w wr := ((Keep.refl [] w).alloc _).trans HK.out (by simp)
      have HK0 := Lib.hid hk0
      clear hk0
      by_cases hlt : j < l.length
      · obtain ⟨b, off, rfl, c0, c1, c2, c3, hrx⟩ := HH.out.at HK0.out hlt
        have hcall := HIH.out l[j] (by have := HMEM.out _ (List.getElem_mem hlt); omega) B wr hrx
        have hts : plainTms (l.take (j + 1)) = plainTm l[j] := by
          rw [List.take_succ_eq_append_getElem hlt, plainTms_append, HP.out]; simp [plainTms]
        have HTS := Lib.hid hts
        have i0 : (0 : Int) ≤ (j : Int) := by omega
        have i1 : (j : Int) < (l.length : Int) := by omega
        unfold aggTm at hcall
        clear hrx hts
        generalize l[j].kind = xk at *
        generalize l[j].num = xn at *
        generalize l[j].name = xs at *
        generalize l[j].iv = xv at *
        cases hq : plainTm l[j] with
        | true =>
          rw [hq] at hcall HTS
          have HC := Lib.hid hcall
          clear hcall hq
          go_wp2_with fail
          refine HC.out.mono ?_
          rintro e w2 ⟨rfl, hk2⟩
          go_wp2_with fail
          go_roundw
          case rel => exact ⟨j + 1, by omega, by go_num, HTS.out, HK.out.trans hk2 (by simp)⟩
          case measure => simp [intOf]; omega
        | false =>
          rw [hq] at hcall HTS
          have hres : plainTm t = false := by
            have := plainTms_append (l.take (j + 1)) (l.drop (j + 1))
            rw [List.take_append_drop, HTS.out] at this
            rw [HIS.out, this]; rfl
          have HRES := Lib.hid hres
          have HC := Lib.hid hcall
          clear hcall hq hres
          go_wp2_with fail
          refine HC.out.mono ?_
          rintro e w2 ⟨rfl, hk2⟩
          go_wp2_with fail
          go_ret
          exact ⟨by rw [HRES.out]; rfl, HK0.out.trans hk2 (by simp)⟩
      · obtain rfl : j = l.length := by omega
        have hres : plainTm t = (tk != 4) := by
          have := HP.out
          rw [List.take_length] at this
          rw [HIS.out, this, Bool.true_and]
          by_cases h4 : tk = 4
          · subst h4; rfl
          · simp [h4]
        have HRES := Lib.hid hres
        clear hres
        go_wp2_with fail
        go_ret
        exact ⟨by rw [HRES.out]; rfl, HK0.out⟩
theorem l_plain {t : Tm} {B : Nat} {w : World} (h : RdTm B w t) : Calls Tryd.prog 17 #[aggTm t] w fun e w' => e = .returned (.bool (plainTm t)) ∧ Keep [] w w' := l_plainN t.sz t (Nat.le_refl _) B w h
end Go.Proofs.YtcegdomfmamonaaDoor
