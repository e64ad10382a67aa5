/- The document's queue (embersref20): Drop. -/
import Derived.Test.YtphfmbkfcjiciaaRef5
namespace Go.Proofs.Ytphfmbkfcjiciaa
open Go.RowKit Go.Emb Go.Shelf Go.Lib Go.Sort

def delI (l : List Int) (p : Int) : List Int := l.eraseP fun x => decide (x = p)
theorem delI_at {l : List Int} {p : Int} {k : Nat} (hk : k < l.length) (h : l[k] = p) (hb : p ∉ l.take k) : delI l p = l.take k ++ l.drop (k + 1) := by
  unfold delI
  conv => lhs; rw [← List.take_append_drop k l, List.drop_eq_getElem_cons hk]
  rw [List.eraseP_append_right _ (fun t ht => by simp; rintro rfl; exact hb ht), List.eraseP_cons_of_pos (by simpa using h)]
theorem delI_none {l : List Int} {p : Int} (h : p ∉ l) : delI l p = l := by
  unfold delI
  rw [List.eraseP_of_forall_not]
  intro t ht
  simp
  rintro rfl
  exact h ht
theorem idxI_some {l : List Int} {p : Int} (h : p ∈ l) : ∃ k, ∃ hk : k < l.length, idxI l p = k ∧ delI l p = l.take k ++ l.drop (k + 1) := by
  cases e : l.findIdx? (fun x => decide (x = p)) with
  | none => rw [List.findIdx?_eq_none_iff] at e; have := e p h; simp at this
  | some i =>
    have hi : idxI l p = i := by unfold idxI; rw [e]
    rw [List.findIdx?_eq_some_iff_getElem] at e
    obtain ⟨hl, hp, hj⟩ := e
    refine ⟨i, hl, hi, delI_at hl (by simpa using hp) ?_⟩
    intro hm
    obtain ⟨j, h1, h2⟩ := List.mem_take_iff_getElem.1 hm
    have := hj j (by omega)
    simp at this
    exact this h2

set_option maxHeartbeats 4000000 in
theorem r_drop {w : World} {r : Nat} {l : List Int} {D : List (Int × Int)} {F : List Nat} (h : IsR w r l D F) (p : Int) (hsz : D.length ≤ 1000000000) (hsl : l.length ≤ 1000000000) :
    Calls Try.prog 25 #[.pointer (some ⟨r, 0, none⟩), .int .i64 p] w (RPost w r (delI l p) (delP D p) F (.bool (decide (p ∈ D.map (·.1)) || decide (p ∈ l)))) := by
  obtain ⟨i0, hi, hz0, hz1, hz2⟩ := info_parts i64_info
  have HH := Lib.hid h
  have HI := Lib.hid hi
  clear h hi
  go_enter Try.func25, Try.ntmps25
  go_wp2_with fail
  refine (r_clear HH.out p hsz).mono ?_
  rintro e w1 ⟨rfl, F1, hq1, hF1, hk1⟩
  have HQ := Lib.hid hq1
  have HF := Lib.hid hF1
  have HK := Lib.hid hk1
  clear hq1 hF1 hk1
  generalize hd : decide (p ∈ D.map (·.1)) = d
  have HD := Lib.hid hd
  clear hd
  go_wp2_with fail
  refine (r_waits HQ.out p hsl).mono ?_
  rintro e w2 ⟨rfl, rfl⟩
  by_cases hin : p ∈ l
  · obtain ⟨k, hklt, hid, hres⟩ := idxI_some hin
    rw [hid]
    have hdec : decide (p ∈ l) = true := by simpa using hin
    have HDEC := Lib.hid hdec
    have HRES := Lib.hid hres
    clear hin hid hres hdec
    have q9 : (0 : Int) ≤ (k : Int) := by omega
    go_wp2_with fail
    obtain ⟨lv, tv, ol, ot, h, hFe⟩ := HQ.out
    subst hFe
    obtain ⟨c0, c1, f0, f1⟩ := cells2 h.here
    have hrl := h.rl
    have hlt := (Array.getElem?_eq_some_iff.1 h.here).1
    obtain ⟨-, a, c, rfl, hcl, hc, hcs⟩ := h.rl
    unfold maxLen at hc
    rcases hcs with ⟨h0, _⟩ | ⟨b, off, rfl, rfl, -⟩
    · omega
    have HR := Lib.hid h
    have HRT := Lib.hid hrl
    clear h hrl
    have q1 : (k : Int) < (l.length : Int) := by omega
    have q2 : (k : Int) ≤ (c : Int) := by omega
    have q3 : (0 : Int) ≤ (k : Int) + 1 := by omega
    have q4 : (k : Int) + 1 ≤ (l.length : Int) := by omega
    have q5 : IntKind.i64.wrap ((k : Int) + 1) = (k : Int) + 1 := IntWalk.i64_in _ (by omega)
    have hsl1 : ∀ W, (Instr.slice 22 (.slice (some ⟨b, off, none⟩) l.length c) (some (.int .i64 ((k : Int) + 1))) none none).run Try.prog W = .ok (.slice (some ⟨b, sliceOff off c (k + 1) 1, none⟩) (l.length - (k + 1)) (c - (k + 1))) W := by
      intro W
      have := run_slice_lo (k := 1) W Try.underlying22 (fun _ => by kernel_rfl) b off l.length c (k + 1) (by omega)
      simpa using this
    obtain ⟨o1, hr1, ho1⟩ := HRT.out.upto k (by omega)
    obtain ⟨o2, hr2, ho2⟩ := HRT.out.from (k + 1) (by omega)
    rw [Nat.mul_one, ← List.map_take] at hr1
    rw [Nat.mul_one, ← List.map_drop] at hr2
    have HO2 : Hid (∀ b', o2 = some b' → b' ∉ [w1.heap.size]) := by
      intro b' hb'
      rcases ho2 with e | e
      · rw [e] at hb'; cases hb'
      · rw [e] at hb'; cases hb'; have := (HR.out.nl b rfl).2; simp; omega
    have HR1 := Lib.hid hr1
    have HR2 := Lib.hid hr2
    clear hr1 hr2 ho1 ho2
    have hnr : r ≠ w1.heap.size := by omega
    have hadr := World.new_ne w1 ⟨r, 0, none⟩ c0
    have HKW : Hid (∀ W, Keep [] w1 W → W.cell? ⟨r, 0, none⟩ = some (.slice (some ⟨b, off, none⟩) l.length c) ∧ W.frozen? ⟨r, 0, none⟩ = false) := by
      intro W hW
      have hb := (hW.block r hlt (by simp)).trans HR.out.here
      exact ⟨(cells2 hb).1, (cells2 hb).2.2.1⟩
    have K1a : ∀ (ob : Obj), (w1.alloc ob).cell? ⟨r, 0, none⟩ = some (.slice (some ⟨b, off, none⟩) l.length c) := fun ob => (HKW.out _ ((Keep.refl [] w1).alloc ob)).1
    have K1b : ∀ (ob : Obj), (w1.alloc ob).frozen? ⟨r, 0, none⟩ = false := fun ob => (HKW.out _ ((Keep.refl [] w1).alloc ob)).2
    go_region_law (first
        | (refine step_append_rd _ (by rfl) _ _ 22 22 (by rfl) 2 2 i0 _ 1 8 Try.underlying22 Try.underlying22 HI.out hz0 hz1 hz2 rfl g off2 k cap2 _ (by rfl) hrow2 (.slice (some ⟨b, sliceOff off c (k + 1) 1, none⟩) (l.length - (k + 1)) (c - (k + 1))) (by rfl) (l.length - (k + 1)) _ o2 ((HR2.out.keep0 (((Keep.refl [] w1).alloc _).drew)).keep hk2 (HO2.out)) (i64_one _) (by unfold maxLen; omega) (by omega) ?_; intro g2 off3 cap3 w3 hrow3 hk3 hg3; have hkb := kB2 HKA.out hgw hk3; have hg2w : w1.heap.size ≤ g2 := (by have := HKA.out.size; rcases hg3 with h | h <;> (try simp at h) <;> omega); obtain ⟨hcc3, hff3⟩ := HKW.out _ hkb; have HKB := Lib.hid hkb; clear hkb)
        | (refine step_append_rd _ (by rfl) _ _ 22 22 (by rfl) 2 2 i0 _ 1 8 Try.underlying22 Try.underlying22 HI.out hz0 hz1 hz2 rfl w1.heap.size 0 0 0 [] (by rfl) ((Row.made0 w1 _ _).keep (Keep.refl [] _).drew (by simp)) (.slice (some ⟨b, off, none⟩) k c) (by rfl) k _ o1 (HR1.out.keep0 (((Keep.refl [] w1).alloc _).drew)) (i64_one _) (by unfold maxLen; omega) (by omega) ?_; intro g off2 cap2 w2 hrow2 hk2 hg2; simp only [Nat.zero_add, List.nil_append] at hrow2; have hka := kA1 hk2; have hgw : w1.heap.size ≤ g := (by rcases hg2 with h | h <;> (try simp at h) <;> omega); obtain ⟨hcc2, hff2⟩ := HKW.out _ hka; have HKA := Lib.hid hka; clear hka)
        | fail)
    all_goals
      obtain ⟨F', g1, g2', g3⟩ := isR_list (l' := delI l p) HR.out HKB.out (g := g2) (v := .slice (some ⟨g2, off3, none⟩) (k + (l.length - (k + 1))) cap3) (n := k + (l.length - (k + 1))) (by rw [HRES.out, List.map_append]; simpa using hrow3) (by rw [HRES.out]; simp; omega) hg2w _ rfl
      have G1 := Lib.hid g1
      have G2 := Lib.hid g2'
      have G3 := Lib.hid g3
      clear g1 g2' g3
      cases d with
      | true =>
        go_wp2_with fail
        go_ret
        exact ⟨by rw [HD.out, HDEC.out]; rfl, F', G1.out, fun x hx => (G2.out x hx).elim (HF.out x) (fun h => .inr (Nat.le_trans HK.out.size h)), HK.out.trans G3.out HF.out⟩
      | false =>
        go_wp2_with fail
        go_ret
        exact ⟨by rw [HD.out, HDEC.out]; rfl, F', G1.out, fun x hx => (G2.out x hx).elim (HF.out x) (fun h => .inr (Nat.le_trans HK.out.size h)), HK.out.trans G3.out HF.out⟩
  · rw [idxI_none hin]
    have hdec : decide (p ∈ l) = false := by simpa using hin
    have hres := delI_none hin
    have HDEC := Lib.hid hdec
    have HRES := Lib.hid hres
    clear hin hres hdec
    cases d with
    | true =>
      go_wp2_with fail
      go_ret
      exact ⟨by rw [HD.out, HDEC.out]; rfl, F1, by rw [HRES.out]; exact HQ.out, HF.out, HK.out⟩
    | false =>
      go_wp2_with fail
      go_ret
      exact ⟨by rw [HD.out, HDEC.out]; rfl, F1, by rw [HRES.out]; exact HQ.out, HF.out, HK.out⟩
end Go.Proofs.Ytphfmbkfcjiciaa
