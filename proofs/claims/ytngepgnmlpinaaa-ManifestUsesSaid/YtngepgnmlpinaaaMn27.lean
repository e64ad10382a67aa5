/- small. -/
import Derived.Test.YtngepgnmlpinaaaMn26
namespace Go.Proofs.Ytngepgnmlpinaaa
open Go.RowKit Go.Emb Go.Emb.Ext

def sumP (ps : List PlV) : Nat := (ps.map fun x => x.p.pieces.length).sum
theorem sumP_snoc (ps : List PlV) (x : PlV) : sumP (ps ++ [x]) = sumP ps + x.p.pieces.length := by simp [sumP]
theorem sumP_mem {ps : List PlV} {x : PlV} (h : x ∈ ps) : x.p.pieces.length ≤ sumP ps := by
  induction ps with
  | nil => cases h
  | cons y ps ih =>
    have e : sumP (y :: ps) = y.p.pieces.length + sumP ps := by simp [sumP]
    rcases List.mem_cons.1 h with rfl | h
    · omega
    · have := ih h; omega
def SmallP (m : MnV) : Prop := m.places.length ≤ 100 ∧ m.s.size + m.rest.length + sumP m.places ≤ 20000
theorem sumP_bound {ps : List PlV} {k : Nat} (h : ∀ x ∈ ps, x.p.pieces.length * 16 ≤ 140737488355328) (hk : ps.length ≤ k) : sumP ps ≤ k * 8796093022208 := by
  induction ps generalizing k with
  | nil => simp [sumP]
  | cons y ps ih =>
    have e : sumP (y :: ps) = y.p.pieces.length + sumP ps := by simp [sumP]
    obtain ⟨j, rfl⟩ : ∃ j, k = j + 1 := ⟨k - 1, by simp at hk; omega⟩
    have h1 := ih (fun x hx => h x (by simp [hx])) (k := j) (by simp at hk; omega)
    have h2 := h y (by simp)
    rw [e, Nat.add_mul]
    omega
def SmallR (w : World) (m : MnV) (e : Ending) (w' : World) : Prop := ∃ b : Bool, e = .returned (.bool b) ∧ (b = true → SmallP m) ∧ Keep [] w w'
set_option maxRecDepth 100000 in
set_option maxHeartbeats 2000000 in
theorem q_small {w : World} {m : MnV} (h : RdM w.heap.size w m) :
    Calls Try.prog 8 #[aggM m] w (SmallR w m) := by
  obtain ⟨⟨ra, rc, hrv, hr1, hr2⟩, pa, pc, hpv, hp1, hp2⟩ := h.forms
  have hk : Keep [] w (w.alloc (.cells #[.string m.s, .int .i64 m.area.1, .int .i64 m.area.2, m.rv, m.pv] 27)) := (Keep.refl [] w).alloc _
  have hbx := heap_new w (.cells #[.string m.s, .int .i64 m.area.1, .int .i64 m.area.2, m.rv, m.pv] 27)
  have hs := h.1
  have hr := h.2.2.1.2
  have hpl := h.2.2.2
  unfold aggM
  rw [hrv, hpv] at hk hbx ⊢
  obtain ⟨m0, m1, m2, m3, m4⟩ := cells5 hbx
  have HK := Lib.hid hk
  have HPL := Lib.hid hpl
  have HBX := Lib.hid hbx
  have q1 : IntKind.i64.wrap ((m.s.size : Int) + (m.rest.length : Int)) = (m.s.size : Int) + (m.rest.length : Int) := IntWalk.i64_in _ (by omega)
  clear hk hpl h hbx
  go_enter Try.func8, Try.ntmps8
  go_wp2_with fail
  go_loop [3, 4] (fun n i => ∃ k : Nat, k ≤ m.places.length ∧ k ≤ 101 ∧ i = .int .i64 (k : Int) ∧ n = .int .i64 ((m.s.size + m.rest.length + sumP (m.places.take k) : Nat) : Int)) (fun _ i => m.places.length - (intOf i).toNat)
  case atStart => exact ⟨0, Nat.zero_le _, by omega, rfl, by simp [sumP]⟩
  case round =>
    obtain ⟨k, hk, hk2, rfl, rfl⟩ := hrel
    have hb := sumP_bound (ps := m.places.take k) (k := 101) (fun x hx => ((HPL.out.2.1 x (List.mem_of_mem_take hx)).2.2.2.2)) (by rw [List.length_take]; omega)
    have hl2 : m.places.length ≤ 140737488355328 := by have := HPL.out.2.2; omega
    by_cases hlt : k < m.places.length
    · have i1' : (k : Int) < (m.places.length : Int) := by omega
      by_cases h100 : k ≤ 100
      · have i2' : (k : Int) ≤ 100 := by omega
        have hpl2 := HPL.out.keep HK.out (by simp)
        rw [hpv] at hpl2
        obtain ⟨pb, poff, rfl, hpb, g0, g1, g2⟩ := hpl2.at hlt
        have hx3 := (hpl2.2.1 _ (List.getElem_mem hlt)).2.2
        clear hpl2
        obtain ⟨x, hx⟩ : ∃ x, x = m.places[k] := ⟨_, rfl⟩
        rw [← hx] at g0 g1 g2 hx3
        obtain ⟨xa, xc, hxv, hxc1, hxc2⟩ := hx3.slice
        rw [hxv] at g2
        have hsn : sumP (m.places.take (k + 1)) = sumP (m.places.take k) + x.p.pieces.length := by
          rw [List.take_succ_eq_append_getElem hlt, sumP_snoc, ← hx]
        have hxl := hx3.2.2
        obtain ⟨sk, hsk⟩ : ∃ s, s = m.s.size + m.rest.length + sumP (m.places.take k) := ⟨_, rfl⟩
        have hsb : sk ≤ 140737488355328 + 140737488355328 + 101 * 8796093022208 := by rw [hsk]; omega
        have hsn2 : m.s.size + m.rest.length + sumP (m.places.take (k + 1)) = sk + x.p.pieces.length := by rw [hsn, hsk]; omega
        have q2 : IntKind.i64.wrap ((sk : Int) + (x.p.pieces.length : Int)) = ((sk + x.p.pieces.length : Nat) : Int) := (IntWalk.i64_in _ (by omega)).trans (by omega)
        have HSN := Lib.hid hsn2
        have i0' : (0 : Int) ≤ (k : Int) := by omega
        unfold maxLen at hxc2
        rw [← hsk]
        clear hsn hsn2 hx3 hx hsk hb
        go_wp2_with fail
        go_round
        case rel => exact ⟨k + 1, by omega, by omega, by go_num, by rw [HSN.out, Int.natCast_add]⟩
        case measure => simp [intOf]; omega
      · have i2' : ¬ (k : Int) ≤ 100 := by omega
        have i3' : ¬ (m.places.length : Int) ≤ 100 := by omega
        go_wp2_with fail
        go_ret
        exact ⟨false, rfl, by simp, HK.out⟩
    · obtain rfl : k = m.places.length := by omega
      by_cases h100 : m.places.length ≤ 100
      · have i3' : (m.places.length : Int) ≤ 100 := by omega
        rw [List.take_length] at hb ⊢
        obtain ⟨sk, hsk⟩ : ∃ s, s = m.s.size + m.rest.length + sumP m.places := ⟨_, rfl⟩
        rw [← hsk]
        by_cases h2 : sk ≤ 20000
        · have i4' : (sk : Int) ≤ 20000 := by omega
          have hsm : SmallP m := ⟨h100, by omega⟩
          have HS := Lib.hid hsm
          clear hsm hsk hb
          go_wp2_with fail
          go_ret
          exact ⟨_, rfl, fun _ => HS.out, HK.out⟩
        · have i4' : ¬ (sk : Int) ≤ 20000 := by omega
          clear hsk hb
          go_wp2_with fail
          go_ret
          exact ⟨false, by simp [i4'], by simp, HK.out⟩
      · have i3' : ¬ (m.places.length : Int) ≤ 100 := by omega
        go_wp2_with fail
        go_ret
        exact ⟨false, rfl, by simp, HK.out⟩
end Go.Proofs.Ytngepgnmlpinaaa
