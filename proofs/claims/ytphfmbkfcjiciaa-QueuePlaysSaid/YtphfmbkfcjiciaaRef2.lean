/- The document's queue (embersref20): contracts, continued. -/
import Derived.Test.YtphfmbkfcjiciaaRef
import Derived.Deep.RegionLaw
namespace Go.Emb
open Go.RowKit
/-- a part of a slice that is read -/
theorem Rd.upto {w : World} {k b off n c : Nat} {xs : List Value} {o : Option Nat} (h : Rd w k (.slice (some ⟨b, off, none⟩) n c) n xs o) (m : Nat) (hm : m ≤ n) : ∃ o', Rd w k (.slice (some ⟨b, off, none⟩) m c) m (xs.take (m * k)) o' ∧ (o' = none ∨ o' = o) := by
  obtain ⟨hl, a, c', hv, h1, h2, h3⟩ := h
  cases hv
  have hk1 : m * k ≤ n * k := Nat.mul_le_mul_right _ hm
  have hlen : (xs.take (m * k)).length = m * k := by rw [List.length_take, hl]; omega
  by_cases h0 : m = 0
  · exact ⟨none, ⟨hlen, _, c, rfl, by omega, h2, .inl ⟨h0, rfl⟩⟩, .inl rfl⟩
  · rcases h3 with ⟨h3, _⟩ | ⟨b', off', e, ho, h3⟩
    · omega
    · cases e
      exact ⟨o, ⟨hlen, _, c, rfl, by omega, h2, .inr ⟨b, off, rfl, ho, fun i hi => by rw [List.getElem?_take_of_lt hi]; exact h3 i (by omega)⟩⟩, .inr rfl⟩
theorem Rd.from {w : World} {k b off n c : Nat} {xs : List Value} {o : Option Nat} (h : Rd w k (.slice (some ⟨b, off, none⟩) n c) n xs o) (m : Nat) (hm : m ≤ n) : ∃ o', Rd w k (.slice (some ⟨b, sliceOff off c m k, none⟩) (n - m) (c - m)) (n - m) (xs.drop (m * k)) o' ∧ (o' = none ∨ o' = o) := by
  obtain ⟨hl, a, c', hv, h1, h2, h3⟩ := h
  cases hv
  have hk1 : m * k ≤ n * k := Nat.mul_le_mul_right _ hm
  have hlen : (xs.drop (m * k)).length = (n - m) * k := by rw [List.length_drop, hl, Nat.sub_mul]
  by_cases h0 : n - m = 0
  · exact ⟨none, ⟨hlen, _, c - m, rfl, by omega, by omega, .inl ⟨h0, rfl⟩⟩, .inl rfl⟩
  · rcases h3 with ⟨h3, _⟩ | ⟨b', off', e, ho, h3⟩
    · omega
    · cases e
      refine ⟨o, ⟨hlen, _, c - m, rfl, by omega, by omega, .inr ⟨b, _, rfl, ho, fun i hi => ?_⟩⟩, .inr rfl⟩
      rw [Nat.sub_mul] at hi
      unfold sliceOff
      rw [if_neg (by omega), List.getElem?_drop, Nat.add_assoc]
      exact h3 (m * k + i) (by omega)

/-- an empty row in a new block -/
theorem Row.made0 (w : World) (E k : Nat) : Row (w.alloc (.cells #[] E)) E k (.slice (some ⟨w.heap.size, 0, none⟩) 0 0) 0 [] (some w.heap.size) :=
  ⟨by simp, .inr ⟨w.heap.size, 0, 0, #[], rfl, rfl, heap_alloc_new w _, Nat.le_refl _, by simp, by simp, by simp⟩⟩
end Go.Emb
namespace Go.Proofs.Ytphfmbkfcjiciaa
open Go.RowKit Go.Emb Go.Shelf Go.Lib Go.Sort

/-- the timers turn: a new slice in field 1 -/
theorem isR_timers {w w1 : World} {r : Nat} {l : List Int} {D D' : List (Int × Int)} {lv tv : Value} {ol ot : Option Nat} (h : IsR' w r l D lv tv ol ot) (k : Keep [] w w1) {v : Value} {n : Nat} {g : Nat} (hrow : Row w1 42 2 v n (D'.flatMap encT) (some g)) (hn : n = D'.length) (hg : w.heap.size ≤ g) (u : Value) (hu : u = v) :
    ∃ F', IsR (w1.setCell ⟨r, 1, none⟩ u) r l D' F' ∧ (∀ b ∈ F', b ∈ (r :: (ol.toList ++ ot.toList)) ∨ w.heap.size ≤ b) ∧ Keep (r :: (ol.toList ++ ot.toList)) w (w1.setCell ⟨r, 1, none⟩ u) := by
  subst hn hu
  have hlt := (Array.getElem?_eq_some_iff.1 h.here).1
  have hh : w1.heap[r]? = some (.cells #[lv, tv] 47 (0, 0)) := (k.block r hlt (by simp)).trans h.here
  have k3 := Keep.set1 w1 ⟨r, 1, none⟩ u
  have hgl := hrow.lt g rfl
  obtain ⟨o', hrd, ho'⟩ := hrow.rd
  have hs := k.size
  have hof : ∀ b, o' = some b → b = g := by
    intro b hb
    rcases ho' with e | e <;> rw [e] at hb <;> cases hb
    rfl
  refine ⟨r :: (ol.toList ++ o'.toList), ⟨lv, u, ol, o', ⟨?_, ?_, ?_, ?_, ?_⟩, rfl⟩, ?_, ?_⟩
  · have := heap_setCell_at (i := 1) hh u
    simpa using this
  · exact (h.rl.keep k (by simp)).keep k3 (fun b hb => by simpa using (h.nl b hb).1)
  · exact hrd.keep k3 (fun b hb => by rw [hof b hb]; simp; omega)
  · intro b hb
    exact ⟨(h.nl b hb).1, by have := (h.nl b hb).2; simp [World.setCell]; omega⟩
  · intro b hb
    rw [hof b hb]
    exact ⟨by omega, by simpa [World.setCell] using hgl⟩
  · intro b hb
    simp only [List.mem_cons, List.mem_append, Option.mem_toList] at hb ⊢
    rcases hb with rfl | hb | hb
    · left; left; rfl
    · left; right; left; exact hb
    · right; rw [hof b hb]; exact hg
  · exact (k.mono (by simp)).trans k3 (by simp)

/-- who waits turns: a new slice in field 0 -/
theorem isR_list {w w1 : World} {r : Nat} {l l' : List Int} {D : List (Int × Int)} {lv tv : Value} {ol ot : Option Nat} (h : IsR' w r l D lv tv ol ot) (k : Keep [] w w1) {v : Value} {n : Nat} {g : Nat} (hrow : Row w1 2 1 v n (l'.map (Value.int .i64)) (some g)) (hn : n = l'.length) (hg : w.heap.size ≤ g) (u : Value) (hu : u = v) :
    ∃ F', IsR (w1.setCell ⟨r, 0, none⟩ u) r l' D F' ∧ (∀ b ∈ F', b ∈ (r :: (ol.toList ++ ot.toList)) ∨ w.heap.size ≤ b) ∧ Keep (r :: (ol.toList ++ ot.toList)) w (w1.setCell ⟨r, 0, none⟩ u) := by
  subst hn hu
  have hlt := (Array.getElem?_eq_some_iff.1 h.here).1
  have hh : w1.heap[r]? = some (.cells #[lv, tv] 47 (0, 0)) := (k.block r hlt (by simp)).trans h.here
  have k3 := Keep.set1 w1 ⟨r, 0, none⟩ u
  have hgl := hrow.lt g rfl
  obtain ⟨o', hrd, ho'⟩ := hrow.rd
  have hs := k.size
  have hof : ∀ b, o' = some b → b = g := by
    intro b hb
    rcases ho' with e | e <;> rw [e] at hb <;> cases hb
    rfl
  refine ⟨r :: (o'.toList ++ ot.toList), ⟨u, tv, o', ot, ⟨?_, ?_, ?_, ?_, ?_⟩, rfl⟩, ?_, ?_⟩
  · have := heap_setCell_at (i := 0) hh u
    simpa using this
  · exact hrd.keep k3 (fun b hb => by rw [hof b hb]; simp; omega)
  · exact (h.rt.keep k (by simp)).keep k3 (fun b hb => by simpa using (h.nt b hb).1)
  · intro b hb
    rw [hof b hb]
    exact ⟨by omega, by simpa [World.setCell] using hgl⟩
  · intro b hb
    exact ⟨(h.nt b hb).1, by have := (h.nt b hb).2; simp [World.setCell]; omega⟩
  · intro b hb
    simp only [List.mem_cons, List.mem_append, Option.mem_toList] at hb ⊢
    rcases hb with rfl | hb | hb
    · left; left; rfl
    · right; rw [hof b hb]; exact hg
    · left; right; right; exact hb
  · exact (k.mono (by simp)).trans k3 (by simp)

theorem encT_one (D : List (Int × Int)) : ∀ u ∈ D.flatMap encT, u.oneCell' = true := by
  intro u hu
  obtain ⟨t, _, ht⟩ := List.mem_flatMap.1 hu
  simp [encT] at ht
  rcases ht with rfl | rfl <;> rfl
theorem flat_take (D : List (Int × Int)) (m : Nat) : (D.flatMap encT).take (m * 2) = (D.take m).flatMap encT := by
  induction D generalizing m with
  | nil => simp
  | cons t D ih =>
    cases m with
    | zero => simp
    | succ m =>
      rw [List.flatMap_cons, List.take_succ_cons, List.flatMap_cons, List.take_append]
      have h1 : (encT t).length = 2 := rfl
      rw [List.take_of_length_le (by rw [h1]; omega), h1, show (m + 1) * 2 - 2 = m * 2 by omega, ih]
theorem flat_drop (D : List (Int × Int)) (m : Nat) : (D.flatMap encT).drop (m * 2) = (D.drop m).flatMap encT := by
  induction D generalizing m with
  | nil => simp
  | cons t D ih =>
    cases m with
    | zero => simp
    | succ m =>
      have h1 : (encT t).length = 2 := rfl
      rw [List.flatMap_cons, List.drop_succ_cons, List.drop_append, List.drop_of_length_le (by rw [h1]; omega), h1, show (m + 1) * 2 - 2 = m * 2 by omega, ih, List.nil_append]

def RPost (w : World) (r : Nat) (l : List Int) (D : List (Int × Int)) (F : List Nat) (v : Value) (e : Ending) (w' : World) : Prop :=
  e = .returned v ∧ ∃ F', IsR w' r l D F' ∧ (∀ b ∈ F', b ∈ F ∨ w.heap.size ≤ b) ∧ Keep F w w'

/-- without the first of a pid -/
def delP (D : List (Int × Int)) (p : Int) : List (Int × Int) := D.eraseP fun t => decide (t.1 = p)
theorem delP_at {D : List (Int × Int)} {p : Int} {k : Nat} (hk : k < D.length) (h : D[k].1 = p) (hb : p ∉ (D.take k).map (·.1)) : delP D p = D.take k ++ D.drop (k + 1) := by
  unfold delP
  conv => lhs; rw [← List.take_append_drop k D, List.drop_eq_getElem_cons hk]
  rw [List.eraseP_append_right _ (fun t ht => by simp; exact fun e => hb (List.mem_map.2 ⟨t, ht, e⟩)), List.eraseP_cons_of_pos (by simpa using h)]

theorem delP_none {D : List (Int × Int)} {p : Int} (h : p ∉ D.map (·.1)) : delP D p = D := by
  unfold delP
  rw [List.eraseP_of_forall_not]
  intro t ht
  simp
  rintro rfl
  exact h (List.mem_map.2 ⟨t, ht, rfl⟩)

set_option maxHeartbeats 1000000 in
theorem r_clear {w : World} {r : Nat} {l : List Int} {D : List (Int × Int)} {F : List Nat} (h : IsR w r l D F) (p : Int) (hsz : D.length ≤ 1000000000) :
    Calls Try.prog 22 #[.pointer (some ⟨r, 0, none⟩), .int .i64 p] w (RPost w r l (delP D p) F (.bool (decide (p ∈ D.map (·.1))))) := by
  obtain ⟨lv, tv, ol, ot, h, rfl⟩ := h
  obtain ⟨c0, c1, f0, f1⟩ := cells2 h.here
  obtain ⟨i0, hi, hz0, hz1, hz2⟩ := info_parts timer_info
  have hrt := h.rt
  have hlt := (Array.getElem?_eq_some_iff.1 h.here).1
  obtain ⟨-, a, c, rfl, hcl, hc, hcs⟩ := h.rt
  have HCS := Lib.hid hcs
  have HR := Lib.hid h
  have HRT := Lib.hid hrt
  have HI := Lib.hid hi
  clear h hcs hrt hi
  unfold maxLen at hc
  go_enter Try.func22, Try.ntmps22
  go_wp2_with fail
  go_loop [5] (fun i => ∃ k : Nat, k ≤ D.length ∧ i = .int .i64 k ∧ p ∉ (D.take k).map (·.1)) (fun i => D.length - (intOf i).toNat)
  case atStart => exact ⟨0, Nat.zero_le _, rfl, by simp⟩
  case round =>
    obtain ⟨k, hk, rfl, hno⟩ := hrel
    have HNO := Lib.hid hno
    clear hno
    by_cases hklt : k < D.length
    · rcases HCS.out with ⟨h0, _⟩ | ⟨b, off, rfl, rfl, hcs⟩
      · omega
      obtain ⟨e1, _⟩ := flat2 D k hklt
      have hcell : w.cell? ⟨b, off + k * 2, none⟩ = some (.int .i64 D[k].1) := by rw [hcs (k * 2) (by omega), e1]
      have hyes : D[k].1 = p → delP D p = D.take k ++ D.drop (k + 1) ∧ p ∈ D.map (·.1) := fun e => ⟨delP_at hklt e HNO.out, List.mem_map.2 ⟨D[k], List.getElem_mem hklt, e⟩⟩
      have hsucc : D[k].1 ≠ p → p ∉ (D.take (k + 1)).map (·.1) := by
        intro h1 h3
        rw [List.take_succ_eq_append_getElem hklt, List.map_append, List.mem_append] at h3
        rcases h3 with h | h
        · exact HNO.out h
        · simp at h; exact h1 h.symm
      have HY := Lib.hid hyes
      have HN := Lib.hid hsucc
      clear hcs hyes hsucc e1
      generalize D[k].1 = x at *
      have q0 : (0 : Int) ≤ (k : Int) := by omega
      have q1 : (k : Int) < (D.length : Int) := by omega
      by_cases hx : x = p
      · have hxb : (x == p) = true := by simp [hx]
        obtain ⟨hres, hmem⟩ := HY.out hx
        have HRES := Lib.hid hres
        have HMEM := Lib.hid hmem
        clear hres hmem hx
        have q2 : (k : Int) ≤ (c : Int) := by omega
        have q3 : (0 : Int) ≤ (k : Int) + 1 := by omega
        have q4 : (k : Int) + 1 ≤ (D.length : Int) := by omega
        have q5 : IntKind.i64.wrap ((k : Int) + 1) = (k : Int) + 1 := IntWalk.i64_in _ (by omega)
        have hsl : ∀ W, (Instr.slice 38 (.slice (some ⟨b, off, none⟩) D.length c) (some (.int .i64 ((k : Int) + 1))) none none).run Try.prog W = .ok (.slice (some ⟨b, sliceOff off c (k + 1) 2, none⟩) (D.length - (k + 1)) (c - (k + 1))) W := by
          intro W
          have := run_slice_lo (k := 2) W Try.underlying38 (fun _ => by kernel_rfl) b off D.length c (k + 1) (by omega)
          simpa using this
        obtain ⟨o1, hr1, ho1⟩ := HRT.out.upto k (by omega)
        obtain ⟨o2, hr2, ho2⟩ := HRT.out.from (k + 1) (by omega)
        rw [flat_take] at hr1
        rw [flat_drop] at hr2
        have HO2 : Hid (∀ b', o2 = some b' → b' ∉ [w.heap.size]) := by
          intro b' hb'
          rcases ho2 with e | e
          · rw [e] at hb'; cases hb'
          · rw [e] at hb'; cases hb'; have := (HR.out.nt b rfl).2; simp; omega
        have HR1 := Lib.hid hr1
        have HR2 := Lib.hid hr2
        clear hr1 hr2 ho1 ho2
        go_wp2_with fail
        clear hcell
        have hnr : r ≠ w.heap.size := by omega
        have hadr := World.new_ne w ⟨r, 1, none⟩ c1
        have K1 : ∀ (ob : Obj), (w.alloc ob).drew.cell? ⟨r, 1, none⟩ = some (.slice (some ⟨b, off, none⟩) D.length c) ∧ (w.alloc ob).drew.frozen? ⟨r, 1, none⟩ = false := by
          intro ob
          have hh : (w.alloc ob).drew.heap[r]? = w.heap[r]? := Below.heap_alloc w ob r hlt
          rw [HR.out.here] at hh
          exact ⟨(cells2 hh).2.1, (cells2 hh).2.2.2⟩
        have K2 : ∀ (w2 : World) (ob : Obj), Keep [w.heap.size] (w.alloc ob).drew w2 → w2.cell? ⟨r, 1, none⟩ = some (.slice (some ⟨b, off, none⟩) D.length c) ∧ w2.frozen? ⟨r, 1, none⟩ = false := by
          intro w2 ob hk
          have hb := hk.block r (by simp; omega) (by simp; omega)
          have hh : (w.alloc ob).drew.heap[r]? = w.heap[r]? := Below.heap_alloc w ob r hlt
          rw [hh, HR.out.here] at hb
          exact ⟨(cells2 hb).2.1, (cells2 hb).2.2.2⟩
        have K3 : ∀ (w2 w3 : World) (g : Nat) (ob : Obj), Keep [w.heap.size] (w.alloc ob).drew w2 → (w.heap.size = g ∨ (w.alloc ob).drew.heap.size ≤ g) → Keep [g] w2 w3 → w3.cell? ⟨r, 1, none⟩ = some (.slice (some ⟨b, off, none⟩) D.length c) ∧ w3.frozen? ⟨r, 1, none⟩ = false := by
          intro w2 w3 g ob hk hg hk3
          have hb := hk.block r (by simp; omega) (by simp; omega)
          have hh : (w.alloc ob).drew.heap[r]? = w.heap[r]? := Below.heap_alloc w ob r hlt
          rw [hh, HR.out.here] at hb
          have hgr : r ≠ g := by
            rcases hg with e | e
            · omega
            · simp at e; omega
          have hb3 := (hk3.block r (Array.getElem?_eq_some_iff.1 hb).1 (by simpa using hgr)).trans hb
          exact ⟨(cells2 hb3).2.1, (cells2 hb3).2.2.2⟩
        have K1a : ∀ (ob : Obj), (w.alloc ob).cell? ⟨r, 1, none⟩ = some (.slice (some ⟨b, off, none⟩) D.length c) := fun ob => (K1 ob).1
        have K1b : ∀ (ob : Obj), (w.alloc ob).frozen? ⟨r, 1, none⟩ = false := fun ob => (K1 ob).2
        have HK2 := Lib.hid K2
        have HK3 := Lib.hid K3
        clear K1 K2 K3
        go_region_law (first
            | (refine step_append_rd _ (by rfl) _ _ 38 38 (by rfl) 42 42 i0 _ 2 16 Try.underlying38 Try.underlying38 HI.out hz0 hz1 hz2 rfl g off2 k cap2 _ (by rfl) hrow2 (.slice (some ⟨b, sliceOff off c (k + 1) 2, none⟩) (D.length - (k + 1)) (c - (k + 1))) (by rfl) (D.length - (k + 1)) _ o2 ((HR2.out.keep0 (((Keep.refl [] w).alloc _).drew)).keep hk2 (HO2.out)) (encT_one _) (by unfold maxLen; omega) (by omega) ?_; intro g2 off3 cap3 w3 hrow3 hk3 hg3; obtain ⟨hcc3, hff3⟩ := HK3.out _ _ _ _ hk2 hg2 hk3)
            | (refine step_append_rd _ (by rfl) _ _ 38 38 (by rfl) 42 42 i0 _ 2 16 Try.underlying38 Try.underlying38 HI.out hz0 hz1 hz2 rfl w.heap.size 0 0 0 [] (by rfl) ((Row.made0 w _ _).keep (Keep.refl [] _).drew (by simp)) (.slice (some ⟨b, off, none⟩) k c) (by rfl) k _ o1 (HR1.out.keep0 (((Keep.refl [] w).alloc _).drew)) (encT_one _) (by unfold maxLen; omega) (by omega) ?_; intro g off2 cap2 w2 hrow2 hk2 hg2; simp only [Nat.zero_add] at hrow2; obtain ⟨hcc2, hff2⟩ := HK2.out _ _ hk2))
        all_goals
          go_wp2_with fail
          go_ret
          have hgw : w.heap.size ≤ g := by
            rcases hg2 with h | h
            · omega
            · simp at h; omega
          have kA : Keep [] w w2 := (((Keep.refl [] w).alloc _).drew).trans hk2 (fun x hx => .inr (by simp at hx; omega))
          have kB : Keep [] w w3 := kA.trans hk3 (fun x hx => .inr (by simp at hx; omega))
          have hg2w : w.heap.size ≤ g2 := by
            rcases hg3 with h | h
            · omega
            · have := kA.size; omega
          obtain ⟨F', f1, f2, f3⟩ := isR_timers (D' := delP D p) HR.out kB (g := g2) (v := .slice (some ⟨g2, off3, none⟩) (k + (D.length - (k + 1))) cap3) (n := k + (D.length - (k + 1))) (by rw [HRES.out, List.flatMap_append]; simpa using hrow3) (by rw [HRES.out]; simp; omega) hg2w _ rfl
          exact ⟨by simp [HMEM.out], F', f1, f2, f3⟩
      · have hxb : (x == p) = false := by simp [hx]
        have hres := HN.out hx
        have HRES := Lib.hid hres
        clear hres hx
        go_wp2_with fail
        go_round
        case rel => exact ⟨k + 1, by omega, by go_num, HRES.out⟩
        case measure => simp [intOf]; omega
    · have hno : p ∉ D.map (·.1) := by have := HNO.out; rwa [List.take_of_length_le (by omega)] at this
      have HNO2 := Lib.hid hno
      clear hno
      go_wp2_with fail
      go_ret
      exact ⟨by simp [HNO2.out], _, ⟨lv, .slice a D.length c, ol, ot, (by rw [delP_none HNO2.out]; exact HR.out), rfl⟩, fun b hb => .inl hb, Keep.refl _ _⟩

end Go.Proofs.Ytphfmbkfcjiciaa
