/- Extents, the document's: plain. -/
import Derived.Test.YtlfhnbdeadiedaaExtR2
namespace Go.Emb.Ext
/-- the last first: what is in P, of the first i -/
structure PlainI (P : Nat → Prop) (i : Nat) (r : List E) : Prop where
  plain : Plain r.reverse
  same : ∀ t : Int, cov r t ↔ 0 ≤ t ∧ t < i ∧ P t.toNat
  bd : ∀ y ∈ r, 0 ≤ y.1 ∧ y.1 + y.2 ≤ i
  len : r.length ≤ i
theorem PlainI.start (P : Nat → Prop) : PlainI P 0 [] := ⟨Plain.nil, fun t => by simp [cov]; omega, by simp, by simp⟩
theorem PlainI.no {P : Nat → Prop} {i : Nat} {r : List E} (h : PlainI P i r) (hp : ¬ P i) : PlainI P (i + 1) r :=
  ⟨h.plain, fun t => by
    rw [h.same]
    constructor
    · rintro ⟨h1, h2, h3⟩; exact ⟨h1, by omega, h3⟩
    · rintro ⟨h1, h2, h3⟩
      refine ⟨h1, ?_, h3⟩
      by_cases e : t = i
      · subst e; exact absurd (by simpa using h3) hp
      · omega, fun y hy => by have := h.bd y hy; omega, by have := h.len; omega⟩
theorem PlainI.same' {P : Nat → Prop} {i : Nat} {r : List E} (h : PlainI P i r) (hp : P i) (t : Int) : (covers ((i : Int), 1) t ∨ cov r t) ↔ 0 ≤ t ∧ t < ((i + 1 : Nat) : Int) ∧ P t.toNat := by
  rw [h.same]
  unfold covers
  simp only
  constructor
  · rintro (⟨h1, h2⟩ | ⟨h1, h2, h3⟩)
    · obtain rfl : t = i := by omega
      exact ⟨by omega, by omega, by simpa using hp⟩
    · exact ⟨h1, by omega, h3⟩
  · rintro ⟨h1, h2, h3⟩
    by_cases e : t = i
    · exact .inl (by omega)
    · exact .inr ⟨h1, by omega, h3⟩
theorem PlainI.new {P : Nat → Prop} {i : Nat} {r : List E} (h : PlainI P i r) (hp : P i) (hl : ∀ y ∈ r.head?, y.1 + y.2 ≠ i) : PlainI P (i + 1) (((i : Int), 1) :: r) := by
  refine ⟨plain_rev_cons.2 ⟨by simp, h.plain, fun z hz => ?_⟩, fun t => by rw [cov_cons]; exact h.same' hp t, fun y hy => ?_, by have := h.len; simp; omega⟩
  · cases r with
    | nil => simp at hz
    | cons y r =>
      have h1 := hl y (by simp)
      have h2 := h.bd y (by simp)
      rcases List.mem_cons.1 hz with rfl | hz
      · simp; omega
      · have h3 := (plain_rev_cons.1 h.plain)
        have := h3.2.2 z hz
        have := h3.1
        simp; omega
  · rcases List.mem_cons.1 hy with rfl | hy
    · simp
    · have := h.bd y hy; omega
theorem PlainI.more {P : Nat → Prop} {i : Nat} {r : List E} {y : E} (h : PlainI P i (y :: r)) (hp : P i) (hl : y.1 + y.2 = i) : PlainI P (i + 1) ((y.1, y.2 + 1) :: r) := by
  have h3 := plain_rev_cons.1 h.plain
  have h4 := h.bd y (by simp)
  refine ⟨plain_rev_cons.2 ⟨by simp; omega, h3.2.1, h3.2.2⟩, fun t => ?_, fun z hz => ?_, by have := h.len; simp at this ⊢; omega⟩
  · rw [← h.same' hp t, cov_cons, cov_cons]
    unfold covers
    simp only
    by_cases hc : cov r t
    · simp [hc]
    · simp only [hc, or_false]; omega
  · rcases List.mem_cons.1 hz with rfl | hz
    · simp; omega
    · have := h.bd z (by simp [hz]); omega
end Go.Emb.Ext
namespace Go.Proofs.Ytlfhnbdeadiedaa
open Go.RowKit Go.Emb Go.Lib Go.Emb.Ext Go.Shelf Go.Sort

def PlainP (w : World) (n : Nat) (xs : List Bool) (is : Bool) (e : Ending) (w' : World) : Prop :=
  ∃ v out, e = .returned v ∧ HasE w' v out ∧ Keep [] w w' ∧ Plain out ∧ (∀ y ∈ out, 0 ≤ y.1 ∧ y.1 + y.2 ≤ n) ∧ (∀ t : Int, cov out t ↔ 0 ≤ t ∧ t < n ∧ xs[t.toNat]? = some is) ∧ out.length ≤ n
def PlainR (w : World) (xs : List Bool) (is : Bool) (k : Nat) (v : Value) (wr : World) : Prop :=
  ∃ r o, PlainI (fun t => xs[t]? = some is) k r ∧ RowE wr v r.reverse o ∧ (∀ b, o = some b → w.heap.size ≤ b) ∧ Keep [] w wr

set_option maxRecDepth 100000 in
set_option maxHeartbeats 2000000 in
theorem plain_any {w : World} {v : Value} {n : Nat} {xs : List Bool} {o : Option Nat} (hr : Rd w 1 v n (xs.map Value.bool) o) (hn : n ≤ 32769) (is : Bool) : Calls Try.prog 34 #[v, .bool is] w (PlainP w n xs is) := by
  obtain ⟨i0, hi, hz0, hz1, hz2⟩ := info_parts ext_info
  have HI := Lib.hid hi
  obtain ⟨hl, a, c, rfl, hcap, hmax, hcells⟩ := hr
  have hxl : xs.length = n := by simpa using hl
  have HCELL := Lib.hid hcells
  have HXL := Lib.hid hxl
  clear hl hcells hi hxl hmax hcap
  go_enter Try.func34, Try.ntmps34
  go_wp2_with fail
  go_loopw [5, 6] (fun u i wr => ∃ (k : Nat) (v : Value), v = u ∧ k ≤ n ∧ i = .int .i64 k ∧ PlainR w xs is k v wr) (fun _ i _ => n - (intOf i).toNat)
  case atStart => exact ⟨0, _, rfl, Nat.zero_le _, rfl, [], none, PlainI.start _, Row.nil _ _ _, by simp, Keep.refl _ _⟩
  case round =>
    obtain ⟨k, v, rfl, hk, rfl, r, o', hP, hrow, hnew, hK⟩ := hrel
    have hrl := hP.len
    have HP := Lib.hid hP
    have HROW := Lib.hid hrow
    have HNEW := Lib.hid hnew
    have HK := Lib.hid hK
    clear hP hrow hnew hK
    by_cases hlt : k < n
    · rcases HCELL.out with ⟨h0, _⟩ | ⟨b, off, rfl, rfl, hcs⟩
      · omega
      have hkx : k < xs.length := by have := HXL.out; omega
      have g0 : w.cell? ⟨b, off + k, none⟩ = some (.bool xs[k]) := by rw [hcs k (by omega), List.getElem?_map, List.getElem?_eq_getElem hkx]; rfl
      have c0 := HK.out.cellOf g0
      have hyes : xs[k] = is → xs[k]? = some is := fun e => by rw [List.getElem?_eq_getElem hkx, e]
      have hnot : xs[k] ≠ is → ¬ xs[k]? = some is := fun e h => by rw [List.getElem?_eq_getElem hkx] at h; exact e (Option.some.inj h)
      have HY := Lib.hid hyes
      have HN := Lib.hid hnot
      clear hcs g0 hyes hnot
      generalize xs[k] = x at *
      have q0 : (0 : Int) ≤ (k : Int) := by omega
      have q1 : (k : Int) < (n : Int) := by omega
      by_cases hx : x = is
      · have hxb0 : True := trivial
        have hxe : (x == is) = true := by simp [hx]
        have hPk := HY.out hx
        have HPK := Lib.hid hPk
        clear hPk hx HY HN
        cases r with
        | nil =>
          obtain ⟨av, cv, rfl⟩ := RowE.slice HROW.out
          simp only [List.reverse_nil, List.length_nil] at *
          go_wp2_with fail
          go_quiet (fail)
          go_wp2_with (at_builtin; refine wpList_append_row _ rfl _ _ 22 22 rfl 36 i0 _ 2 16 Try.underlying22 HI.out hz0 hz1 hz2 rfl _ _ _ o' rfl (Row.keep HROW.out (F := []) (by repeat (first | exact Keep.refl _ _ | refine Keep.drewN ?_ _ | refine Keep.drew ?_ | refine Keep.alloc ?_ _)) (by simp)) _ rfl 1 _ (two_srcB Try.underlying22 _ _ (by first | rfl | simp) _ _ rfl rfl _) (by omega) (by first | (unfold maxLen; omega) | (simp [maxLen] <;> omega)) (by first | omega | (simp <;> omega)) ?_; intro g off3 cap w2 hrow2 hk2 hg2)
          go_roundw
          case rel =>
            refine ⟨k + 1, _, rfl, by omega, by go_num, [((k : Int), 1)], some g, HP.out.new HPK.out (by simp), ?_, ?_, ?_⟩
            · unfold RowE
              simpa [encE] using hrow2
            · rintro b ⟨⟩
              rcases hg2 with h | h
              · exact HNEW.out g h
              · have := HK.out.size
                simp at h
                omega
            · exact (HK.out.trans (G := []) (by repeat (first | exact Keep.refl _ _ | refine Keep.drewN ?_ _ | refine Keep.drew ?_ | refine Keep.alloc ?_ _)) (by simp)).trans hk2 (fun z hz => by
                cases o' with
                | none => simp at hz
                | some b => simp at hz; subst hz; exact .inr (HNEW.out _ rfl))
          case measure => simp [intOf]; omega
        | cons y r =>
          obtain ⟨b2, off2, cv, rfl, rfl, d0, d1, df, hset⟩ := RowE.last HROW.out
          have hyb := HP.out.bd y (by simp)
          have hyp := (plain_rev_cons.1 HP.out.plain).1
          have hm : r.length < 32769 := by simp at hrl; omega
          obtain ⟨y1, y2⟩ := y
          simp only at d0 d1 hyb hyp
          clear hset
          have q2 : (0 : Int) ≤ (r.length : Int) := by omega
          have q3 : (r.length : Int) < (r.length : Int) + 1 := by omega
          by_cases h2 : y1 + y2 = k
          · have hb2 : (y1 + y2 == (k : Int)) = true := by simp [h2]
            have H2 := Lib.hid h2
            clear h2
            go_wp2_with fail
            go_quiet (fail)
            go_wp2_with fail
            go_roundw
            case rel =>
              refine ⟨k + 1, _, rfl, by omega, by go_num, (y1, y2 + 1) :: r, some b2, HP.out.more HPK.out H2.out, ?_, HNEW.out, ?_⟩
              · refine RowE.setLast (y := (y1, y2)) ?_
                exact RowE.keep HROW.out (F := []) (by repeat (first | exact Keep.refl _ _ | refine Keep.drewN ?_ _ | refine Keep.drew ?_ | refine Keep.alloc ?_ _)) (by simp)
              · exact (HK.out.trans (G := []) (by repeat (first | exact Keep.refl _ _ | refine Keep.drewN ?_ _ | refine Keep.drew ?_ | refine Keep.alloc ?_ _)) (by simp)).setCell (p := ⟨b2, off2 + r.length * 2 + 1, none⟩) (.inr (HNEW.out b2 rfl)) _
            case measure => simp [intOf]; omega
          · have hb2 : (y1 + y2 == (k : Int)) = false := by simp [h2]
            have H2 := Lib.hid h2
            clear h2
            go_wp2_with fail
            go_quiet (fail)
            go_wp2_with (at_builtin; refine wpList_append_row _ rfl _ _ 22 22 rfl 36 i0 _ 2 16 Try.underlying22 HI.out hz0 hz1 hz2 rfl _ _ _ (some b2) rfl (Row.keep HROW.out (F := []) (by repeat (first | exact Keep.refl _ _ | refine Keep.drewN ?_ _ | refine Keep.drew ?_ | refine Keep.alloc ?_ _)) (by simp)) _ rfl 1 _ (two_srcB Try.underlying22 _ _ (by first | rfl | simp) _ _ rfl rfl _) (by omega) (by first | (unfold maxLen; omega) | (simp [maxLen] <;> omega)) (by first | omega | (simp <;> omega)) ?_; intro g off3 cap w2 hrow2 hk2 hg2)
            go_roundw
            case rel =>
              refine ⟨k + 1, _, rfl, by omega, by go_num, ((k : Int), 1) :: (y1, y2) :: r, some g, HP.out.new HPK.out (by simpa using H2.out), ?_, ?_, ?_⟩
              · unfold RowE
                simpa [encE] using hrow2
              · rintro b ⟨⟩
                rcases hg2 with h | h
                · exact HNEW.out g h
                · have := HK.out.size
                  simp at h
                  omega
              · exact (HK.out.trans (G := []) (by repeat (first | exact Keep.refl _ _ | refine Keep.drewN ?_ _ | refine Keep.drew ?_ | refine Keep.alloc ?_ _)) (by simp)).trans hk2 (fun z hz => by
                  simp at hz; subst hz; exact .inr (HNEW.out _ rfl))
            case measure => simp [intOf]; omega
      · have hxb0 : True := trivial
        have hxe : (x == is) = false := by simp [hx]
        have hPk := HN.out hx
        have HPK := Lib.hid hPk
        clear hPk hx HY HN
        go_wp2_with fail
        go_roundw
        case rel => exact ⟨k + 1, _, rfl, by omega, by go_num, r, o', HP.out.no HPK.out, HROW.out, HNEW.out, HK.out⟩
        case measure => simp [intOf]; omega
    · obtain rfl : k = n := by omega
      go_wp2_with fail
      go_ret
      refine ⟨v, r.reverse, rfl, RowE.has HROW.out, HK.out, HP.out.plain, fun y hy => HP.out.bd y (by simpa using hy), fun t => ?_, by simpa using hrl⟩
      rw [cov_perm (List.reverse_perm r), HP.out.same]
end Go.Proofs.Ytlfhnbdeadiedaa
