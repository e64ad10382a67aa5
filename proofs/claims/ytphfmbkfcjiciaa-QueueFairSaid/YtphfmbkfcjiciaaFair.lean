/- QueueFair: the walk. -/
import Derived.Test.YtphfmbkfcjiciaaQueue6
namespace Go.Proofs.Ytphfmbkfcjiciaa.fair
open Go.RowKit Go.Emb Go.Shelf Go.Lib Go.Sort

theorem addAll_mem (l : List Int) (p : Int) : p ∈ addAll l [p] := by
  simp only [addAll, List.foldl_cons, List.foldl_nil, add1]
  split
  · assumption
  · simp

/-- an element of a slice of numbers -/
theorem rd_cell {w : World} {b off n : Nat} {xs : List Int} (h : ∀ i, i < n * 1 → w.cell? ⟨b, off + i, none⟩ = (xs.map (Value.int .i64))[i]?) (hn : n = xs.length) {k : Nat} (hk : k < xs.length) : w.cell? ⟨b, off + k, none⟩ = some (.int .i64 xs[k]) := by
  rw [h k (by omega), List.getElem?_map, List.getElem?_eq_getElem hk]
  rfl

def FairR (w : World) (q : Nat) (W : List Int) (wv : Value) (ow : Option Nat) (i m : Nat) (wr : World) : Prop :=
  ∃ F E, IsQ wr q (W.drop i ++ E) [] F ∧ E.length ≤ m ∧ (∀ b ∈ F, w.heap.size ≤ b) ∧ (∀ b, ow = some b → b ∉ F ∧ b < wr.heap.size) ∧ Rd wr 1 wv W.length (W.map (Value.int .i64)) ow ∧ Keep [] w wr

/-- the queue and the list of who waits -/
theorem fairR_next {w : World} {q : Nat} {W : List Int} {wv : Value} {ow : Option Nat} {i m : Nat} {wr : World} (h : FairR w q W wv ow i m wr) (hi : i < W.length) :
    Calls Try.prog 11 #[.pointer (some ⟨q, 0, none⟩)] wr fun e w' => e = .returned (.tuple #[.int .i64 W[i], .bool true]) ∧ FairR w q W wv ow (i + 1) m w' := by
  obtain ⟨F, E, hq, hE, hF, ho, hrd, hk⟩ := h
  rw [List.drop_eq_getElem_cons hi] at hq
  refine (next_some hq).mono ?_
  rintro e w' ⟨rfl, h1, h3⟩
  exact ⟨rfl, F, E, h1, by omega, hF, fun b hb => ⟨(ho b hb).1, Nat.lt_of_lt_of_le (ho b hb).2 h3.size⟩, hrd.keep h3 (fun b hb => (ho b hb).1), hk.trans h3 (fun x hx => .inr (hF x hx))⟩

theorem FairR.mono {w : World} {q : Nat} {W : List Int} {wv : Value} {ow : Option Nat} {i m m' : Nat} {wr : World} (h : FairR w q W wv ow i m wr) (hm : m ≤ m') : FairR w q W wv ow i m' wr := by
  obtain ⟨F, E, hq, hE, r⟩ := h
  exact ⟨F, E, hq, by omega, r⟩

def SomeN (P : World → Prop) (e : Ending) (w' : World) : Prop := ∃ n : Int, e = .returned (.int .i64 n) ∧ P w'

theorem fairR_ready {w : World} {q : Nat} {W : List Int} {wv : Value} {ow : Option Nat} {i m : Nat} {wr : World} (h : FairR w q W wv ow i m wr) (hW : W.length + m ≤ 1000) (x : Int) (b : Nat) (hb : b = wr.heap.size) (ob : Obj) (hob : ob = .cells #[.int .i64 x] 2) :
    Calls Try.prog 9 #[.pointer (some ⟨q, 0, none⟩), .slice (some ⟨b, 0, none⟩) 1 1] (wr.alloc ob) (SomeN (FairR w q W wv ow i (m + 1))) := by
  subst hb hob
  obtain ⟨F, E, hq, hE, hF, ho, hrd, hk⟩ := h
  have hlt := hq.lt
  refine (ready_any (xs := [x]) (hq.keep ((Keep.refl [] _).alloc _) (by simp)) (rd_lit1 wr _ _) (by rintro b ⟨⟩ hb; exact absurd (hlt _ hb) (Nat.lt_irrefl _)) (by simp; omega)).mono ?_
  rintro e w' ⟨rfl, ⟨F', h1, h2⟩, h3⟩
  have hka : Keep [] w (wr.alloc (.cells #[.int .i64 x] 2)) := hk.alloc _
  obtain ⟨E', hE1, hE2⟩ : ∃ E', addAll (W.drop i ++ E) [x] = W.drop i ++ E' ∧ E'.length ≤ m + 1 := by
    simp only [addAll, List.foldl_cons, List.foldl_nil, add1]
    split
    · exact ⟨E, rfl, by omega⟩
    · exact ⟨E ++ [x], by simp, by simp; omega⟩
  rw [hE1] at h1
  refine ⟨_, rfl, F', E', h1, hE2, ?_, ?_, ?_, hka.trans h3 (fun x hx => .inr (hF x hx))⟩
  · intro b hb
    rcases h2 b hb with h | h
    · exact hF b h
    · have := hka.size; omega
  · intro b hb
    obtain ⟨g1, g2⟩ := ho b hb
    refine ⟨fun hF' => ?_, ?_⟩
    · rcases h2 b hF' with h | h
      · exact g1 h
      · simp at h; omega
    · have := h3.size; simp at this; omega
  · exact (hrd.keep0 ((Keep.refl [] _).alloc _)).keep h3 (fun b hb => (ho b hb).1)

set_option maxRecDepth 100000 in
set_option maxHeartbeats 1000000 in
theorem walk (v0 v1 : Value) (l more : List Int) (who : Int) (o0 o1 : Option Nat) (w : World) (h0 : Rd w 1 v0 l.length (l.map (Value.int .i64)) o0) (h1 : Rd w 1 v1 more.length (more.map (Value.int .i64)) o1) (hb0 : ∀ b, o0 = some b → b < w.heap.size) (hb1 : ∀ b, o1 = some b → b < w.heap.size) :
    Calls Try.prog 3 #[v0, v1, .int .i64 who] w fun e w' => e = .returned (.bool true) ∧ Keep [] w w' := by
  have H0 := Lib.hid h0
  have H1 := Lib.hid h1
  have HB0 := Lib.hid hb0
  have HB1 := Lib.hid hb1
  clear hb0 hb1
  obtain ⟨-, a0, c0, rfl, q1, q2, h3⟩ := h0
  obtain ⟨-, a1, c1, rfl, q3, q4, h4⟩ := h1
  have H3 := Lib.hid h3
  have H4 := Lib.hid h4
  clear h3 h4
  by_cases hl : 150 < l.length
  · have hb : decide ((150 : Int) < (l.length : Int)) = true := by simp; omega
    go_enter Try.func3, Try.ntmps3
    go_wp2_with fail
    refine (live_any _).mono ?_
    rintro e w' ⟨rfl, hk⟩
    go_wp2_with fail
    go_ret
    exact ⟨rfl, hk⟩
  by_cases hm : 150 < more.length
  · have hb : decide ((150 : Int) < (l.length : Int)) = false := by simp; omega
    have hb2 : decide ((150 : Int) < (more.length : Int)) = true := by simp; omega
    go_enter Try.func3, Try.ntmps3
    go_wp2_with fail
    refine (live_any _).mono ?_
    rintro e w' ⟨rfl, hk⟩
    go_wp2_with fail
    go_ret
    exact ⟨rfl, hk⟩
  have hb : decide ((150 : Int) < (l.length : Int)) = false := by simp; omega
  have hb2 : decide ((150 : Int) < (more.length : Int)) = false := by simp; omega
  go_enter Try.func3, Try.ntmps3
  go_wp2_with fail
  refine (new_any _).mono ?_
  rintro e w1 ⟨q, F, rfl, hq, hk, hF⟩
  have hq0 : ∀ b, o0 = some b → b ∉ F := by
    intro b hb hF'
    have h1 := hF b hF'
    have h2 := HB0.out b hb
    omega
  have hcall := ready_any hq (H0.out.keep0 hk) hq0 (by simp; omega)
  have HC := Lib.hid hcall
  have L1 := Lib.hid (show (∀ b ∈ F, w.heap.size ≤ b) ∧ Keep [] w w1 from ⟨hF, hk⟩)
  clear hcall hq0 hq hk hF
  go_wp2_with fail
  refine HC.out.mono ?_
  rintro e w2 ⟨rfl, ⟨F2, hq2, hF2⟩, hk2⟩
  have hle := addAll_le l []
  generalize hW0 : addAll [] l = W0 at *
  have L2 := Lib.hid (show Lives w q W0 [] w2 from Lives.step L1.out.1 L1.out.2 hq2 hF2 hk2)
  clear hq2 hF2 hk2 HC L1 hW0
  go_wp2_with fail
  obtain ⟨F3, hq3, hF3, hk3⟩ := L2.out
  have hlt3 := hq3.lt
  refine (ready_any (xs := [who]) (hq3.keep ((Keep.refl [] _).alloc _) (by simp)) (rd_lit1 w2 _ _) (by rintro b ⟨⟩ hb; exact absurd (hlt3 _ hb) (Nat.lt_irrefl _)) (by simp at hle ⊢; omega)).mono ?_
  rintro e w4 ⟨rfl, ⟨F4, hq4, hF4⟩, hk4⟩
  have hle2 := addAll_le [who] W0
  have hmem := addAll_mem W0 who
  generalize hW : addAll W0 [who] = W at *
  have L4 := Lib.hid (show Lives w q W [] w4 from Lives.step hF3 (hk3.alloc _) hq4 hF4 hk4)
  clear hq3 hF3 hk3 hlt3 hq4 hF4 hk4 L2 hW
  simp at hle hle2
  go_wp2_with fail
  obtain ⟨F5, hq5, hF5, hk5⟩ := L4.out
  refine (waiting_any hq5 (by omega)).mono ?_
  rintro e w5 ⟨wv, ow, rfl, hrow, how, hk6⟩
  obtain ⟨o', hrd, ho'⟩ := hrow.rd
  have hrl := hrow.lt
  have hlt5 := hq5.lt
  have hst : FairR w q W wv o' 0 0 w5 := by
    refine ⟨F5, [], by simpa using hq5.keep hk6 (by simp), Nat.le_refl _, hF5, ?_, by simpa using hrd, hk5.trans hk6 (by simp)⟩
    intro b hb
    rcases ho' with h | h
    · rw [h] at hb; cases hb
    · rw [h] at hb
      exact ⟨fun hF => by have h1 := hlt5 b hF; have h2 := how b hb; omega, hrl b hb⟩
  have hrdc := hrd
  obtain ⟨-, wa, wc, rfl, -, hwc, hwcell⟩ := hrdc
  have HST := Lib.hid hst
  have HW := Lib.hid hwcell
  have HMEM := Lib.hid hmem
  clear hst hwcell hrd ho' hrl hlt5 hq5 hF5 hk5 hk6 how hrow L4 hmem
  have hlenW : (W.map (Value.int .i64)).length = W.length := List.length_map _
  simp only [hlenW] at *
  clear hlenW
  go_wp2_with fail
  go_loop [8] (fun i => ∃ k : Nat, k ≤ W.length ∧ i = .int .i64 k ∧ who ∉ W.take k) (fun i => W.length - (intOf i).toNat)
  case atStart => exact ⟨0, Nat.zero_le _, rfl, by simp⟩
  case round =>
    obtain ⟨k, hk, rfl, hno⟩ := hrel
    have HNO := Lib.hid hno
    clear hno
    by_cases hlt : k < W.length
    · rcases HW.out with ⟨h0, _⟩ | ⟨b, off, rfl, rfl, hcs⟩
      · omega
      have hcell := rd_cell hcs rfl hlt
      have i1 : (k : Int) < (W.length : Int) := by omega
      have i0 : (0 : Int) ≤ (k : Int) := by omega
      have hsucc : who ∉ W.take k → W[k] ≠ who → who ∉ W.take (k + 1) := by
        intro h1 h2 h3
        rw [List.take_succ_eq_append_getElem hlt, List.mem_append] at h3
        rcases h3 with h | h
        · exact h1 h
        · simp at h; exact h2 h.symm
      have HSU := Lib.hid hsucc
      clear hsucc hcs
      generalize W[k] = x at *
      by_cases hx : x = who
      · have hxb : (x != who) = false := by simp [hx]
        have heq : ((k : Int) == (W.length : Int)) = false := by simp; omega
        clear hx
        go_wp2_with fail
        clear hcell hxb heq HSU
        have hkl := hlt
        clear hlt i1 i0
        go_loopw [10] (fun i wr => ∃ j : Nat, j ≤ k + 1 ∧ i = .int .i64 j ∧ FairR w q W (.slice (some ⟨b, off, none⟩) W.length wc) (some b) j j wr) (fun i _ => k + 1 - (intOf i).toNat)
        case atStart => exact ⟨0, Nat.zero_le _, rfl, HST.out⟩
        case round =>
          obtain ⟨j, hj, rfl, hR⟩ := hrel
          have HR := Lib.hid hR
          clear hR HST
          by_cases hlt : j ≤ k
          · have hjW : j < W.length := by omega
            have i0 : (0 : Int) ≤ (j : Int) := by omega
            have i1 : (j : Int) < (W.length : Int) := by omega
            go_wp2_with fail
            refine (fairR_next HR.out hjW).mono ?_
            rintro e w6 ⟨rfl, hR6⟩
            have HR6 := Lib.hid hR6
            obtain ⟨F6, E6, _, _, _, _, hrd6, hk6⟩ := hR6
            have hcell : w6.cell? ⟨b, off + j, none⟩ = some (.int .i64 W[j]) := by
              obtain ⟨_, a', c', hv, _, _, h | ⟨b', off', ha, hb', hcs⟩⟩ := hrd6
              · omega
              · cases hv
                cases ha
                exact rd_cell hcs rfl hjW
            have hmore : ∀ hj : j < more.length, ∃ b1 off1, a1 = some ⟨b1, off1, none⟩ ∧ w6.cell? ⟨b1, off1 + j, none⟩ = some (.int .i64 more[j]) := by
              intro hjm
              rcases H4.out with ⟨h0, _⟩ | ⟨b1, off1, ha, hb1, hcs⟩
              · omega
              · refine ⟨b1, off1, ha, ?_⟩
                rw [hk6.cell (p := ⟨b1, off1 + j, none⟩) (HB1.out b1 hb1) (by simp)]
                exact rd_cell hcs rfl hjm
            have HMO := Lib.hid hmore
            clear hmore hrd6 hk6
            generalize W[j] = x2 at *
            have hxx : (x2 != x2) = false := by simp
            by_cases hjm : j < more.length
            · obtain ⟨b1, off1, rfl, hc1⟩ := HMO.out hjm
              have i2 : (j : Int) < (more.length : Int) := by omega
              clear HMO
              generalize more[j] = y at *
              by_cases hy : y = who
              · have hyb : (y != who) = false := by simp [hy]
                clear hy
                go_wp2_with fail
                go_roundw
                case rel => exact ⟨j + 1, by omega, by go_num, HR6.out.mono (by omega)⟩
                case measure => simp [intOf]; omega
              · have hyb : (y != who) = true := by simp [hy]
                clear hy
                go_wp2_with fail
                refine (fairR_ready HR6.out (by omega) y _ rfl _ rfl).mono ?_
                rintro e w7 ⟨n, rfl, hR7⟩
                have HR7 := Lib.hid hR7
                clear hR7
                go_wp2_with fail
                go_roundw
                case rel => exact ⟨j + 1, by omega, by go_num, HR7.out⟩
                case measure => simp [intOf]; omega
            · have i2 : decide ((j : Int) < (more.length : Int)) = false := by simp; omega
              clear HMO
              go_wp2_with fail
              go_roundw
              case rel => exact ⟨j + 1, by omega, by go_num, HR6.out.mono (by omega)⟩
              case measure => simp [intOf]; omega
          · obtain ⟨F6, E6, _, _, _, _, _, hk6⟩ := HR.out
            have HK6 := Lib.hid hk6
            clear hk6 HR
            go_wp2_with fail
            refine (live_any _).mono ?_
            rintro e w' ⟨rfl, hk⟩
            go_wp2_with fail
            go_ret
            exact ⟨rfl, HK6.out.trans hk (by simp)⟩
      · have hxb : (x != who) = true := by simp [hx]
        have HX := Lib.hid hx
        clear hx
        go_wp2_with fail
        go_round
        case rel => exact ⟨k + 1, by omega, by go_num, HSU.out HNO.out HX.out⟩
        case measure => simp [intOf]; omega
    · exfalso
      apply HNO.out
      rw [List.take_of_length_le (by omega)]
      exact HMEM.out

end Go.Proofs.Ytphfmbkfcjiciaa.fair
