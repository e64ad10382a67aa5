/- The document's queue (embersref20): At, Next. -/
import Derived.Test.YtphfmbkfcjiciaaRef2
namespace Go.Proofs.Ytphfmbkfcjiciaa
open Go.RowKit Go.Emb Go.Shelf Go.Lib Go.Sort

theorem mfind_at {D : List (Int × Int)} {p : Int} {k : Nat} (hk : k < D.length) (h : D[k].1 = p) (hb : p ∉ (D.take k).map (·.1)) : mfind D p = some D[k].2 := by
  induction D generalizing k with
  | nil => simp at hk
  | cons t D ih =>
    cases k with
    | zero => simp at h; simp [mfind, h]
    | succ k =>
      simp at hb
      have hne : ¬ t.1 = p := fun e => hb.1 e.symm
      have := ih (k := k) (by simpa using hk) (by simpa using h) (by simpa using hb.2)
      simp only [mfind, List.find?_cons] at this ⊢
      simp [hne]
      simpa using this
theorem mfind_none {D : List (Int × Int)} {p : Int} (h : p ∉ D.map (·.1)) : mfind D p = none := by
  induction D with
  | nil => simp [mfind]
  | cons t D ih =>
    simp at h
    have hne : ¬ t.1 = p := fun e => h.1 e.symm
    have := ih (by simpa using h.2)
    simp only [mfind, List.find?_cons] at this ⊢
    simp [hne]
    simpa using this

set_option maxHeartbeats 1000000 in
theorem r_at {w : World} {r : Nat} {l : List Int} {D : List (Int × Int)} {F : List Nat} (h : IsR w r l D F) (p : Int) (hsz : D.length ≤ 1000000000) :
    Calls Try.prog 26 #[.pointer (some ⟨r, 0, none⟩), .int .i64 p] w fun e w' => e = .returned (.tuple #[.int .i64 ((mfind D p).getD 0), .bool (mfind D p).isSome]) ∧ w = w' := by
  obtain ⟨lv, tv, ol, ot, h, rfl⟩ := h
  obtain ⟨c0, c1, f0, f1⟩ := cells2 h.here
  obtain ⟨-, a, c, rfl, hcl, hc, hcs⟩ := h.rt
  have HCS := Lib.hid hcs
  clear h hcs
  go_enter Try.func26, Try.ntmps26
  go_wp2_with fail
  go_loop [6] (fun i => ∃ k : Nat, k ≤ D.length ∧ i = .int .i64 k ∧ p ∉ (D.take k).map (·.1)) (fun i => D.length - (intOf i).toNat)
  case atStart => exact ⟨0, Nat.zero_le _, rfl, by simp⟩
  case round =>
    obtain ⟨k, hk, rfl, hno⟩ := hrel
    have HNO := Lib.hid hno
    clear hno
    by_cases hklt : k < D.length
    · rcases HCS.out with ⟨h0, _⟩ | ⟨b, off, rfl, rfl, hcs⟩
      · omega
      obtain ⟨e1, e2⟩ := flat2 D k hklt
      have hcell : w.cell? ⟨b, off + k * 2, none⟩ = some (.int .i64 D[k].1) := by rw [hcs (k * 2) (by omega), e1]
      have hcell2 : w.cell? ⟨b, off + k * 2 + 1, none⟩ = some (.int .i64 D[k].2) := by rw [Nat.add_assoc, hcs (k * 2 + 1) (by omega), e2]
      have hyes : D[k].1 = p → mfind D p = some D[k].2 := fun e => mfind_at hklt e HNO.out
      have hsucc : D[k].1 ≠ p → p ∉ (D.take (k + 1)).map (·.1) := by
        intro h1 h3
        rw [List.take_succ_eq_append_getElem hklt, List.map_append, List.mem_append] at h3
        rcases h3 with h | h
        · exact HNO.out h
        · simp at h; exact h1 h.symm
      have HY := Lib.hid hyes
      have HN := Lib.hid hsucc
      clear hcs hyes hsucc e1 e2
      generalize D[k].1 = x at *
      generalize D[k].2 = y at *
      have q0 : (0 : Int) ≤ (k : Int) := by omega
      have q1 : (k : Int) < (D.length : Int) := by omega
      by_cases hx : x = p
      · have hxb : (x == p) = true := by simp [hx]
        have hres := HY.out hx
        have HRES := Lib.hid hres
        clear hres hx
        go_wp2_with fail
        go_ret2
        exact ⟨by rw [HRES.out]; rfl, rfl⟩
      · have hxb : (x == p) = false := by simp [hx]
        have hres := HN.out hx
        have HRES := Lib.hid hres
        clear hres hx
        go_wp2_with fail
        go_round
        case rel => exact ⟨k + 1, by omega, by go_num, HRES.out⟩
        case measure => simp [intOf]; omega
    · have hno : p ∉ D.map (·.1) := by have := HNO.out; rwa [List.take_of_length_le (by omega)] at this
      have HNO2 := Lib.hid hno
      clear hno
      go_wp2_with fail
      go_ret2
      exact ⟨by rw [mfind_none HNO2.out]; rfl, rfl⟩

theorem i64_one (l : List Int) : ∀ u ∈ l.map (Value.int .i64), u.oneCell' = true := by
  intro u hu
  obtain ⟨x, _, rfl⟩ := List.mem_map.1 hu
  rfl

theorem r_next_none {w : World} {r : Nat} {D : List (Int × Int)} {F : List Nat} (h : IsR w r [] D F) :
    Calls Try.prog 20 #[.pointer (some ⟨r, 0, none⟩)] w fun e w' => e = .returned (.tuple #[.int .i64 0, .bool false]) ∧ w = w' := by
  obtain ⟨lv, tv, ol, ot, h, rfl⟩ := h
  obtain ⟨c0, c1, f0, f1⟩ := cells2 h.here
  obtain ⟨-, a, c, rfl, -, -, -⟩ := h.rl
  clear h
  simp only [List.length_nil] at c0
  go_enter Try.func20, Try.ntmps20
  go_wp2_with fail
  go_ret2
  exact ⟨rfl, rfl⟩

set_option maxHeartbeats 1000000 in
theorem r_next_some {w : World} {r : Nat} {p : Int} {l : List Int} {D : List (Int × Int)} {F : List Nat} (h : IsR w r (p :: l) D F) (hsz : l.length ≤ 1000000000) :
    Calls Try.prog 20 #[.pointer (some ⟨r, 0, none⟩)] w (RPost w r l D F (.tuple #[.int .i64 p, .bool true])) := by
  obtain ⟨lv, tv, ol, ot, h, rfl⟩ := h
  obtain ⟨c0, c1, f0, f1⟩ := cells2 h.here
  obtain ⟨i0, hi, hz0, hz1, hz2⟩ := info_parts i64_info
  have hrl := h.rl
  have hlt := (Array.getElem?_eq_some_iff.1 h.here).1
  obtain ⟨hll, a, c, rfl, hcl, hc, hcs⟩ := h.rl
  rcases hcs with ⟨h0, _⟩ | ⟨b, off, rfl, rfl, hcs⟩
  · simp at h0
  simp only [List.length_cons] at c0 hrl hcl
  have hcell : w.cell? ⟨b, off, none⟩ = some (.int .i64 p) := by have := hcs 0 (by simp); simpa using this
  have hsl : ∀ W, (Instr.slice 22 (.slice (some ⟨b, off, none⟩) (l.length + 1) c) (some (.int .i64 1)) none none).run Try.prog W = .ok (.slice (some ⟨b, sliceOff off c 1 1, none⟩) l.length (c - 1)) W := by
    intro W
    have := run_slice_lo (k := 1) W Try.underlying22 (fun _ => by kernel_rfl) b off (l.length + 1) c 1 (by omega)
    simpa using this
  obtain ⟨o2, hr2, ho2⟩ := hrl.from 1 (by omega)
  have hr2' : Rd w 1 (.slice (some ⟨b, sliceOff off c 1 1, none⟩) l.length (c - 1)) l.length (l.map (Value.int .i64)) o2 := by simpa using hr2
  have HR := Lib.hid h
  have HR2 := Lib.hid hr2'
  have HI := Lib.hid hi
  have e0 : ∀ ob, (w.alloc ob).cell? ⟨r, 0, none⟩ = some (.slice (some ⟨b, off, none⟩) (l.length + 1) c) := fun ob => (((Keep.refl [] w).alloc ob).cell (p := ⟨r, 0, none⟩) hlt (by simp)).trans c0
  clear h hrl hcs hr2 hr2' hi hll
  go_enter Try.func20, Try.ntmps20
  go_wp2_with (at_builtin; refine wpList_append_rd _ rfl _ _ 22 22 rfl 2 2 i0 _ 1 8 Try.underlying22 Try.underlying22 HI.out hz0 hz1 hz2 rfl w.heap.size 0 0 0 [] rfl (Row.made0 w _ _) _ rfl l.length _ o2 (HR2.out.keep0 ((Keep.refl [] w).alloc _)) (i64_one _) (by unfold maxLen; omega) (by omega) ?_; intro g off2 cap2 w2 hrow2 hk2 hg2; simp only [Nat.zero_add, List.nil_append] at hrow2; have hKA : Keep [] w w2 := ((Keep.refl [] w).alloc _).trans hk2 (fun x hx => .inr (by simp at hx; omega)); obtain ⟨d0, d1, df0, df1⟩ := cells2 ((hKA.block r hlt (by simp)).trans HR.out.here))
  go_ret2
  have hgw : w.heap.size ≤ g := by
    rcases hg2 with h | h
    · omega
    · simp at h; omega
  obtain ⟨F', f1, f2, f3⟩ := isR_list (l' := l) HR.out hKA (g := g) (v := .slice (some ⟨g, off2, none⟩) l.length cap2) (n := l.length) hrow2 rfl hgw _ rfl
  exact ⟨rfl, F', f1, f2, f3⟩
end Go.Proofs.Ytphfmbkfcjiciaa
