/- The document's queue (embersref20): Set. -/
import Derived.Test.YtphfmbkfcjiciaaRef8
import Derived.Deep.CutBlock
import Derived.Deep.DeepCutAuto
namespace Go.Proofs.Ytphfmbkfcjiciaa
open Go.RowKit Go.Emb Go.Shelf Go.Lib Go.Sort

theorem rd2_lit (w : World) (x y : Int) (t : TypeId) : Rd (w.alloc (.cells #[.int .i64 x, .int .i64 y] t)) 2 (.slice (some ⟨w.heap.size, 0, none⟩) 1 1) 1 [.int .i64 x, .int .i64 y] (some w.heap.size) := by
  refine ⟨rfl, _, 1, rfl, Nat.le_refl _, by decide, .inr ⟨_, 0, rfl, rfl, fun i hi => ?_⟩⟩
  match i, hi with
  | 0, _ => simp
  | 1, _ => simp
theorem rd2_litB (w : World) (ob : Obj) (x y : Int) (t : TypeId) : Rd ((w.alloc ob).alloc (.cells #[.int .i64 x, .int .i64 y] t)).drew 2 (.slice (some ⟨w.heap.size + 1, 0, none⟩) 1 1) 1 [.int .i64 x, .int .i64 y] (some (w.heap.size + 1)) := by
  have h := (rd2_lit (w.alloc ob) x y t).keep0 (Keep.refl [] _).drew
  have hs : (w.alloc ob).heap.size = w.heap.size + 1 := by simp
  rwa [hs] at h

/-- ahead of a timer -/
def ltB (p t : Int) (x : Int × Int) : Bool := decide (x.2 < t ∨ (x.2 = t ∧ x.1 < p))
def insP (D : List (Int × Int)) (p t : Int) : List (Int × Int) := D.takeWhile (ltB p t) ++ (p, t) :: D.dropWhile (ltB p t)
theorem while_at {α : Type} {f : α → Bool} {D : List α} : ∀ {k : Nat}, (∀ x ∈ D.take k, f x = true) → (∀ h : k < D.length, f D[k] = false) → D.takeWhile f = D.take k ∧ D.dropWhile f = D.drop k := by
  induction D with
  | nil => intro k _ _; simp
  | cons t D ih =>
    intro k h1 h2
    cases k with
    | zero => have h3 := h2 (by simp); simp at h3; simp [h3]
    | succ k =>
      have ht := h1 t (by simp)
      obtain ⟨i1, i2⟩ := ih (k := k) (fun x hx => h1 x (by rw [List.take_succ_cons]; exact List.mem_cons_of_mem _ hx)) (fun h => by have := h2 (by simp; omega); simpa using this)
      rw [List.takeWhile_cons, List.dropWhile_cons, if_pos ht, if_pos ht, List.take_succ_cons, List.drop_succ_cons, i1, i2]
      exact ⟨rfl, rfl⟩
def SetCut (w1 : World) (E : List (Int × Int)) (p t : Int) (s8 : Value) (wx : World) : Prop := ∃ k : Nat, k ≤ E.length ∧ s8 = .int .i64 k ∧ insP E p t = E.take k ++ (p, t) :: E.drop k ∧ w1 = wx
theorem insP_at {D : List (Int × Int)} {p t : Int} {k : Nat} (h1 : ∀ x ∈ D.take k, ltB p t x = true) (h2 : ∀ h : k < D.length, ltB p t D[k] = false) : insP D p t = D.take k ++ (p, t) :: D.drop k := by
  obtain ⟨i1, i2⟩ := while_at h1 h2
  unfold insP; rw [i1, i2]

set_option maxRecDepth 100000 in
set_option maxHeartbeats 16000000 in
theorem r_set {w : World} {r : Nat} {l : List Int} {D : List (Int × Int)} {F : List Nat} (h : IsR w r l D F) (p t : Int) (hsz : D.length ≤ 1000000) :
    Calls Try.prog 21 #[.pointer (some ⟨r, 0, none⟩), .int .i64 p, .int .i64 t] w (RPost w r l (insP (delP D p) p t) F (.bool (!decide (p ∈ D.map (·.1))))) := by
  obtain ⟨i0, hi, hz0, hz1, hz2⟩ := info_parts timer_info
  have HH := Lib.hid h
  have HI := Lib.hid hi
  clear h hi
  go_enter Try.func21, Try.ntmps21
  go_wp2_with fail
  refine (r_clear HH.out p (by omega)).mono ?_
  rintro e w1 ⟨rfl, F1, hq1, hF1, hk1⟩
  have HF := Lib.hid hF1
  have HK := Lib.hid hk1
  generalize hd : decide (p ∈ D.map (·.1)) = d
  have HD := Lib.hid hd
  have hel : (delP D p).length ≤ D.length := by unfold delP; exact List.length_eraseP_le
  generalize hE : delP D p = E at *
  have HE := Lib.hid hE
  obtain ⟨lv, tv, ol, ot, h, hFe⟩ := hq1
  subst hFe
  obtain ⟨c0, c1, f0, f1⟩ := cells2 h.here
  have hrt := h.rt
  have hlt := (Array.getElem?_eq_some_iff.1 h.here).1
  obtain ⟨-, a, c, rfl, hcl, hc, -⟩ := h.rt
  have HR := Lib.hid h
  have HRT := Lib.hid hrt
  clear h hrt hF1 hk1 hd hE HH
  unfold maxLen at hc
  go_upto_block 0 with fail
  go_cut [8] (fun s8 wx => SetCut w1 E p t s8 wx)
  case first =>
    go_wp2_with fail
    go_loop [8] (fun i => ∃ k : Nat, k ≤ E.length ∧ i = .int .i64 k ∧ ∀ x ∈ E.take k, ltB p t x = true) (fun i => E.length - (intOf i).toNat)
    case atStart => exact ⟨0, Nat.zero_le _, rfl, by simp⟩
    case round =>
      obtain ⟨k, hk, rfl, hall⟩ := hrel
      have HA := Lib.hid hall
      clear hall
      have q0 : (0 : Int) ≤ (k : Int) := by omega
      have hfin : (∀ h : k < E.length, ltB p t E[k] = false) → insP E p t = E.take k ++ (p, t) :: E.drop k := fun h => insP_at HA.out h
      have HFIN := Lib.hid hfin
      clear hfin
      by_cases hgo : ∃ h : k < E.length, ltB p t E[k] = true
      · obtain ⟨hklt, hlb⟩ := hgo
        obtain ⟨b, off, rfl, -, g1, g2⟩ := rdT_at HRT.out hklt
        have q1 : (k : Int) < (E.length : Int) := by omega
        have hts : E.take (k + 1) = E.take k ++ [E[k]] := List.take_succ_eq_append_getElem hklt
        have hnx : ∀ x ∈ E.take (k + 1), ltB p t x = true := by
          intro x hx
          rw [hts, List.mem_append] at hx
          rcases hx with hx | hx
          · exact HA.out x hx
          · simp at hx; subst hx; exact hlb
        have HNX := Lib.hid hnx
        clear hnx hts
        generalize E[k] = z at *
        obtain ⟨x, y⟩ := z
        simp only at g1 g2
        unfold ltB at hlb
        simp only [decide_eq_true_eq] at hlb
        by_cases hy : y < t
        · clear hlb
          go_wp2_with fail
          go_round
          case rel => exact ⟨k + 1, by omega, by go_num, HNX.out⟩
          case measure => simp [intOf]; omega
        · obtain ⟨hye, hxp⟩ : y = t ∧ x < p := by omega
          have hyb : (y == t) = true := by simp [hye]
          clear hlb hye
          go_wp2_with fail
          go_round
          case rel => exact ⟨k + 1, by omega, by go_num, HNX.out⟩
          case measure => simp [intOf]; omega
      · have hres := HFIN.out (fun h => by
          cases hb : ltB p t E[k] with
          | false => rfl
          | true => exact absurd ⟨h, hb⟩ hgo)
        have HRES := Lib.hid hres
        clear hres
        have HCUT : Hid (k < E.length → ∃ b off x y, a = some ⟨b, off, none⟩ ∧ w1.cell? ⟨b, off + k * 2, none⟩ = some (.int .i64 x) ∧ w1.cell? ⟨b, off + k * 2 + 1, none⟩ = some (.int .i64 y) ∧ ¬ y < t ∧ ¬ (y = t ∧ x < p)) := by
          intro hklt
          obtain ⟨b, off, e, -, g1, g2⟩ := rdT_at HRT.out hklt
          refine ⟨b, off, _, _, e, g1, g2, fun h => hgo ⟨hklt, ?_⟩, fun h => hgo ⟨hklt, ?_⟩⟩ <;> unfold ltB <;> simp [h]
        clear hgo
        by_cases hklt : k < E.length
        · obtain ⟨b, off, x, y, rfl, g1, g2, hy, hyx⟩ := HCUT.out hklt
          have q1 : (k : Int) < (E.length : Int) := by omega
          by_cases hye : y = t
          · have hyb : (y == t) = true := by simp [hye]
            have hxp : ¬ x < p := fun h => hyx ⟨hye, h⟩
            clear hyx hye
            go_wp2_with fail
            go_meet
            exact ⟨k, hk, rfl, HRES.out, rfl⟩
          · have hyb : (y == t) = false := by simp [hye]
            clear hyx hye
            go_wp2_with fail
            go_meet
            exact ⟨k, hk, rfl, HRES.out, rfl⟩
        · have q1 : ¬ (k : Int) < (E.length : Int) := by omega
          go_wp2_with fail
          go_meet
          exact ⟨k, hk, rfl, HRES.out, rfl⟩
  case rest =>
    obtain ⟨k, hk, rfl, hres, rfl⟩ := hcut
    have HRES := Lib.hid hres
    clear hres
    have q0 : (0 : Int) ≤ (k : Int) := by omega
    have HREST : Hid (∃ v1 v2 o1 o2, (∀ W, (Instr.slice 38 (.slice a E.length c) none (some (.int .i64 (k : Int))) none).run Try.prog W = .ok v1 W) ∧ (∀ W, (Instr.slice 38 (.slice a E.length c) (some (.int .i64 (k : Int))) none none).run Try.prog W = .ok v2 W) ∧ Rd w1 2 v1 k ((E.take k).flatMap encT) o1 ∧ Rd w1 2 v2 (E.length - k) ((E.drop k).flatMap encT) o2) := by
      obtain ⟨v1, o1, s1, r1, -⟩ := HRT.out.cutHi (P := Try.prog) (T := 38) Try.underlying38 (fun _ => by kernel_rfl) k hk
      obtain ⟨v2, o2, s2, r2, -⟩ := HRT.out.cutLo (P := Try.prog) (T := 38) Try.underlying38 (fun _ => by kernel_rfl) k hk
      rw [flat_take] at r1
      rw [flat_drop] at r2
      exact ⟨v1, v2, o1, o2, s1, s2, r1, r2⟩
    go_wp2_with fail
    obtain ⟨v1, v2, o1, o2, s1, s2, hr1, hr2⟩ := HREST.out
    have HR1 := Lib.hid hr1
    have HR2 := Lib.hid hr2
    clear hr1 hr2
    have HKW : Hid (∀ W, Keep [] w1 W → W.cell? ⟨r, 1, none⟩ = some (.slice a E.length c) ∧ W.frozen? ⟨r, 1, none⟩ = false) := by
      intro W hW
      have hb := (hW.block r hlt (by simp)).trans HR.out.here
      exact ⟨(cells2 hb).2.1, (cells2 hb).2.2.2⟩
    have HKWa : Hid (∀ W, Keep [] w1 W → ∀ ob, (W.alloc ob).cell? ⟨r, 1, none⟩ = some (.slice a E.length c)) := fun W hW ob => (HKW.out _ (hW.alloc ob)).1
    have e0 : ∀ ob, (w1.alloc ob).cell? ⟨r, 1, none⟩ = some (.slice a E.length c) := fun ob => HKWa.out _ (Keep.refl [] w1) ob
    have e1 : ∀ ob ob2, ((w1.alloc ob).alloc ob2).cell? ⟨r, 1, none⟩ = some (.slice a E.length c) := fun ob ob2 => HKWa.out _ ((Keep.refl [] w1).alloc ob) ob2
    go_region_law (first
      | (refine step_append_rd _ (by rfl) _ _ 38 38 (by rfl) 42 42 i0 _ 2 16 Try.underlying38 Try.underlying38 HI.out hz0 hz1 hz2 rfl g2 off3 (k + 1) cap3 _ (by rfl) hrow3 v2 (by rfl) (E.length - k) _ o2 (HR2.out.keep0 HKB.out) (encT_one _) (by unfold maxLen; omega) (by omega) ?_; intro g3 off4 cap4 w4 hrow4 hk4 hg4; have hkc := kB2 HKB.out hg2w hk4; have hg3w : w1.heap.size ≤ g3 := (by have := HKB.out.size; rcases hg4 with h | h <;> (try simp at h) <;> omega); obtain ⟨hcc4, hff4⟩ := HKW.out _ hkc; have HKC := Lib.hid hkc; clear hkc)
      | (refine step_append_rd _ (by rfl) _ _ 38 38 (by rfl) 42 42 i0 _ 2 16 Try.underlying38 Try.underlying38 HI.out hz0 hz1 hz2 rfl g off2 k cap2 _ (by rfl) (hrow2.keep ((Keep.refl [] _).alloc _) (by simp)) _ (by rfl) 1 [.int .i64 p, .int .i64 t] _ (rd2_lit w2 _ _ _) (by simp [Value.oneCell']) (by unfold maxLen; omega) (by omega) ?_; intro g2 off3 cap3 w3 hrow3 hk3 hg3; have hkb := kB1 HKA.out hgw hk3; have hg2w : w1.heap.size ≤ g2 := (by have := HKA.out.size; rcases hg3 with h | h <;> (try simp at h) <;> omega); obtain ⟨hcc3, hff3⟩ := HKW.out _ hkb; have HKB := Lib.hid hkb; clear hkb)
      | (refine step_append_rd _ (by rfl) _ _ 38 38 (by rfl) 42 42 i0 _ 2 16 Try.underlying38 Try.underlying38 HI.out hz0 hz1 hz2 rfl g off2 k cap2 _ (by rfl) hrow2 _ (by rfl) 1 [.int .i64 p, .int .i64 t] _ ((rd2_litB w1 _ _ _ _).keep hk2 (by rintro b ⟨⟩; simp)) (by simp [Value.oneCell']) (by unfold maxLen; omega) (by omega) ?_; intro g2 off3 cap3 w3 hrow3 hk3 hg3; have hkb := kB2 HKA.out hgw hk3; have hg2w : w1.heap.size ≤ g2 := (by have := HKA.out.size; rcases hg3 with h | h <;> (try simp at h) <;> omega); obtain ⟨hcc3, hff3⟩ := HKW.out _ hkb; have HKB := Lib.hid hkb; clear hkb)
      | (refine step_append_rd _ (by rfl) _ _ 38 38 (by rfl) 42 42 i0 _ 2 16 Try.underlying38 Try.underlying38 HI.out hz0 hz1 hz2 rfl g off2 k cap2 _ (by rfl) hrow2 _ (by rfl) 1 [.int .i64 p, .int .i64 t] _ (((rd2_lit w1 _ _ _).keep0 (((Keep.refl [] _).alloc _).drew)).keep hk2 (by rintro b ⟨⟩; simp)) (by simp [Value.oneCell']) (by unfold maxLen; omega) (by omega) ?_; intro g2 off3 cap3 w3 hrow3 hk3 hg3; have hkb := kB2 HKA.out hgw hk3; have hg2w : w1.heap.size ≤ g2 := (by have := HKA.out.size; rcases hg3 with h | h <;> (try simp at h) <;> omega); obtain ⟨hcc3, hff3⟩ := HKW.out _ hkb; have HKB := Lib.hid hkb; clear hkb)
      | (refine step_append_rd _ (by rfl) _ _ 38 38 (by rfl) 42 42 i0 _ 2 16 Try.underlying38 Try.underlying38 HI.out hz0 hz1 hz2 rfl (w1.heap.size + 1) 0 0 0 [] (by rfl) (made0B w1 _ _ _) v1 (by rfl) k _ o1 (HR1.out.keep0 (((Keep.refl [] w1).alloc _).alloc _).drew) (encT_one _) (by unfold maxLen; omega) (by omega) ?_; intro g off2 cap2 w2 hrow2 hk2 hg2; simp only [Nat.zero_add, List.nil_append] at hrow2; have hka := kA3 hk2; have hgw : w1.heap.size ≤ g := (by rcases hg2 with h | h <;> (try simp at h) <;> omega); obtain ⟨hcc2, -⟩ := HKW.out _ hka; have hcc2a := HKWa.out _ hka; have HKA := Lib.hid hka; clear hka)
      | (refine step_append_rd _ (by rfl) _ _ 38 38 (by rfl) 42 42 i0 _ 2 16 Try.underlying38 Try.underlying38 HI.out hz0 hz1 hz2 rfl w1.heap.size 0 0 0 [] (by rfl) ((Row.made0 w1 _ _).keep (((Keep.refl [] _).alloc _).drew) (by simp)) v1 (by rfl) k _ o1 (HR1.out.keep0 (((Keep.refl [] w1).alloc _).alloc _).drew) (encT_one _) (by unfold maxLen; omega) (by omega) ?_; intro g off2 cap2 w2 hrow2 hk2 hg2; simp only [Nat.zero_add, List.nil_append] at hrow2; have hka := kA2 hk2; have hgw : w1.heap.size ≤ g := (by rcases hg2 with h | h <;> (try simp at h) <;> omega); obtain ⟨hcc2, -⟩ := HKW.out _ hka; have hcc2a := HKWa.out _ hka; have HKA := Lib.hid hka; clear hka)
      | (refine step_append_rd _ (by rfl) _ _ 38 38 (by rfl) 42 42 i0 _ 2 16 Try.underlying38 Try.underlying38 HI.out hz0 hz1 hz2 rfl w1.heap.size 0 0 0 [] (by rfl) ((Row.made0 w1 _ _).keep (Keep.refl [] _).drew (by simp)) v1 (by rfl) k _ o1 (HR1.out.keep0 ((Keep.refl [] w1).alloc _).drew) (encT_one _) (by unfold maxLen; omega) (by omega) ?_; intro g off2 cap2 w2 hrow2 hk2 hg2; simp only [Nat.zero_add, List.nil_append] at hrow2; have hka := kA1 hk2; have hgw : w1.heap.size ≤ g := (by rcases hg2 with h | h <;> (try simp at h) <;> omega); obtain ⟨hcc2, -⟩ := HKW.out _ hka; have hcc2a := HKWa.out _ hka; have HKA := Lib.hid hka; clear hka)
      | fail)
    all_goals
      obtain ⟨F', g1', g2', g3'⟩ := isR_timers (D' := insP E p t) HR.out HKC.out (g := g3) (v := .slice (some ⟨g3, off4, none⟩) (k + 1 + (E.length - k)) cap4) (n := k + 1 + (E.length - k)) (by rw [HRES.out, List.flatMap_append, List.flatMap_cons]; simpa [encT] using hrow4) (by rw [HRES.out]; simp; omega) hg3w _ rfl
      have G1 := Lib.hid g1'
      have G2 := Lib.hid g2'
      have G3 := Lib.hid g3'
      clear g1' g2' g3'
      go_wp2_with fail
      go_ret
      exact ⟨by rw [HD.out]; rfl, F', (by rw [HE.out]; exact G1.out), fun x hx => (G2.out x hx).elim (HF.out x) (fun h => .inr (Nat.le_trans HK.out.size h)), HK.out.trans G3.out HF.out⟩
end Go.Proofs.Ytphfmbkfcjiciaa
