/- The acts: a slice of structs that came in; huge. -/
import Derived.Test.YtphfmbkfcjiciaaQueue6
import Derived.StillTailTactics
namespace Go.Proofs.Ytphfmbkfcjiciaa
open Go.RowKit Go.Emb Go.Shelf Go.Lib Go.Sort

/-- an act, acts it lies: its kind, its list (the slice's value, what it reads acts), its two numbers -/
structure ActV where
  kind : Int
  lv : Value
  l : List Int
  p : Int
  t : Int

/-- the acts that came in -/
def RdActs (w : World) (v : Value) (acts : List ActV) : Prop :=
  ∃ a c, v = .slice a acts.length c ∧ acts.length ≤ c ∧ c ≤ maxLen ∧ (∀ x ∈ acts, (∃ o, Rd w 1 x.lv x.l.length (x.l.map (Value.int .i64)) o ∧ ∀ b, o = some b → b < w.heap.size) ∧ x.l.length * 8 ≤ 140737488355328) ∧
    (acts.length = 0 ∨ ∃ b off, a = some ⟨b, off, none⟩ ∧ b < w.heap.size ∧ ∀ i (hi : i < acts.length),
      w.cell? ⟨b, off + i * 4, none⟩ = some (.int .i64 acts[i].kind) ∧ w.cell? ⟨b, off + i * 4 + 1, none⟩ = some acts[i].lv ∧ w.cell? ⟨b, off + i * 4 + 2, none⟩ = some (.int .i64 acts[i].p) ∧ w.cell? ⟨b, off + i * 4 + 3, none⟩ = some (.int .i64 acts[i].t))

theorem RdActs.keep {w w' : World} {v : Value} {acts : List ActV} (h : RdActs w v acts) (k : Keep [] w w') : RdActs w' v acts := by
  obtain ⟨a, c, rfl, h1, h2, h3, h4⟩ := h
  refine ⟨a, c, rfl, h1, h2, fun x hx => ?_, ?_⟩
  · obtain ⟨⟨o, r1, r2⟩, r3⟩ := h3 x hx
    exact ⟨⟨o, r1.keep0 k, fun b hb => Nat.lt_of_lt_of_le (r2 b hb) k.size⟩, r3⟩
  · rcases h4 with h4 | ⟨b, off, rfl, hb, h4⟩
    · exact .inl h4
    · refine .inr ⟨b, off, rfl, Nat.lt_of_lt_of_le hb k.size, fun i hi => ?_⟩
      obtain ⟨c0, c1, c2, c3⟩ := h4 i hi
      refine ⟨?_, ?_, ?_, ?_⟩
      · rw [k.cell (p := ⟨b, off + i * 4, none⟩) hb (by simp)]; exact c0
      · rw [k.cell (p := ⟨b, off + i * 4 + 1, none⟩) hb (by simp)]; exact c1
      · rw [k.cell (p := ⟨b, off + i * 4 + 2, none⟩) hb (by simp)]; exact c2
      · rw [k.cell (p := ⟨b, off + i * 4 + 3, none⟩) hb (by simp)]; exact c3

def sumL (acts : List ActV) : Nat := (acts.map fun x => x.l.length).sum
theorem sumL_snoc (acts : List ActV) (x : ActV) : sumL (acts ++ [x]) = sumL acts + x.l.length := by simp [sumL]

/-- huge: false only if there are few -/
def HugeP (w : World) (acts : List ActV) (e : Ending) (w' : World) : Prop := ∃ b, e = .returned (.bool b) ∧ (b = false → acts.length ≤ 150 ∧ sumL acts ≤ 1500) ∧ w = w'

theorem sumL_le' {acts : List ActV} {B : Nat} (h : ∀ x ∈ acts, x.l.length ≤ B) (k : Nat) : sumL (acts.take k) ≤ k * B := by
  induction k with
  | zero => simp [sumL]
  | succ k ih =>
    rw [Nat.succ_mul]
    by_cases hk : k < acts.length
    · rw [List.take_succ_eq_append_getElem hk, sumL_snoc]
      have := h acts[k] (List.getElem_mem hk)
      omega
    · rw [List.take_of_length_le (by omega)] at ih ⊢
      omega

theorem sumL_le {w : World} {v : Value} {acts : List ActV} (h : RdActs w v acts) (k : Nat) : sumL (acts.take k) ≤ k * 17592186044416 := by
  obtain ⟨a, c, rfl, h1, h2, h3, h4⟩ := h
  exact sumL_le' (fun x hx => by have := (h3 x hx).2; omega) k

theorem rd_slice {w : World} {k : Nat} {v : Value} {n : Nat} {xs : List Value} {o : Option Nat} (h : Rd w k v n xs o) : ∃ a c, v = .slice a n c := by
  obtain ⟨_, a, c, rfl, _⟩ := h
  exact ⟨a, c, rfl⟩

set_option maxHeartbeats 800000 in
theorem huge_any {w : World} {v : Value} {acts : List ActV} (h : RdActs w v acts) : Calls Try.prog 12 #[v] w (HugeP w acts) := by
  have hsum := fun k => sumL_le h k
  obtain ⟨a, c, rfl, h1, h2, h3, h4⟩ := h
  have H3 := Lib.hid h3
  have H4 := Lib.hid h4
  have HS := Lib.hid hsum
  clear h3 h4 hsum
  unfold maxLen at h2
  go_enter Try.func12, Try.ntmps12
  go_wp2_with fail
  go_loop [3, 4] (fun n i => ∃ k : Nat, k ≤ acts.length ∧ k ≤ 151 ∧ i = .int .i64 k ∧ n = .int .i64 (sumL (acts.take k))) (fun _ i => 151 - (intOf i).toNat)
  case atStart => exact ⟨0, Nat.zero_le _, by omega, rfl, rfl⟩
  case round =>
    obtain ⟨k, hk, hk2, rfl, rfl⟩ := hrel
    have hs1 := HS.out k
    by_cases hlt : k < acts.length
    · have i1 : (k : Int) < (acts.length : Int) := by omega
      by_cases hk3 : k ≤ 150
      · rcases H4.out with h0 | ⟨b, off, rfl, hb, hc⟩
        · omega
        obtain ⟨c0, c1, c2, c3⟩ := hc k hlt
        obtain ⟨⟨o, r1, r2⟩, r3⟩ := H3.out acts[k] (List.getElem_mem hlt)
        obtain ⟨la, lc, hlv⟩ := rd_slice r1
        have hsn : sumL (acts.take (k + 1)) = sumL (acts.take k) + acts[k].l.length := by rw [List.take_succ_eq_append_getElem hlt, sumL_snoc]
        have HSN := Lib.hid hsn
        rw [hlv] at c1
        clear hc c0 c2 c3 r1 r2 hlv hsn
        generalize acts[k].l.length = m at *
        generalize sumL (acts.take k) = s at *
        have i2 : decide ((k : Int) < (acts.length : Int)) = true := by simpa using i1
        go_wp2_with fail
        go_round
        case rel => exact ⟨k + 1, by omega, by omega, by go_num, by rw [HSN.out]; go_num⟩
        case measure => simp [intOf]; omega
      · have i2 : decide ((k : Int) < (acts.length : Int)) = true := by simpa using i1
        have i3 : decide ((150 : Int) < (acts.length : Int)) = true := by simp; omega
        go_wp2_with fail
        go_ret
        exact ⟨true, rfl, by simp, rfl⟩
    · have i2 : decide ((k : Int) < (acts.length : Int)) = false := by simp; omega
      have hkk : acts.take k = acts := List.take_of_length_le (by omega)
      have HKK := Lib.hid hkk
      clear hkk
      by_cases hbig : 150 < acts.length
      · have i3 : decide ((150 : Int) < (acts.length : Int)) = true := by simp; omega
        go_wp2_with fail
        go_ret
        exact ⟨true, rfl, by simp, rfl⟩
      · have i3 : decide ((150 : Int) < (acts.length : Int)) = false := by simp; omega
        generalize hs : sumL (acts.take k) = s at *
        have HSS := Lib.hid hs
        clear hs
        go_wp2_with fail
        go_ret
        refine ⟨decide ((1500 : Int) < (s : Int)), rfl, fun hb => ?_, rfl⟩
        have h5 := HSS.out
        rw [HKK.out] at h5
        simp at hb
        omega

end Go.Proofs.Ytphfmbkfcjiciaa
