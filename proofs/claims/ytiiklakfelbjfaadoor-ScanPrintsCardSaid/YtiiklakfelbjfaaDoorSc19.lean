/- Scanning: the document's Atom, Print at an atom, digits. -/
import Derived.Test.YtiiklakfelbjfaaDoorSc18
namespace Go.Proofs.YtiiklakfelbjfaaDoor
open Go.RowKit Go.Emb

theorem r_atom (s : ByteArray) (w : World) : Calls Tryd.prog 22 #[.string s] w fun e w' => e = .returned (.agg #[.int .i64 2, .int .i64 0, .string s, .slice none 0 0]) ∧ Keep [] w w' := by
  go_enter Tryd.func22, Tryd.ntmps22
  go_wp2_with fail
  try simp only [Exit.inBlock, Exit.then]
  refine bodyPost_ret (results_cell_row (ty := 49) rfl _ _ _ _ _ _ _ rfl (heap_alloc_new w _) Tryd.underlying49 rfl term_size) rfl ?_
  exact ⟨rfl, (Keep.refl [] w).alloc _⟩
set_option maxRecDepth 100000 in
set_option maxHeartbeats 1000000 in
theorem r_printA {w : World} (s : ByteArray) (hs : s.size ≤ 100000) :
    Calls Tryd.prog 21 #[.agg #[.int .i64 2, .int .i64 0, .string s, .slice none 0 0]] w fun e w' => e = .returned (.string ⟨(nameL s.data.toList).toArray⟩) ∧ Keep [] w w' := by
  have hk1 : Keep [] w (w.alloc (.cells #[.int .i64 2, .int .i64 0, .string s, .slice none 0 0] 49)) := (Keep.refl [] w).alloc _
  have hb1 := heap_alloc_new w (.cells #[.int .i64 2, .int .i64 0, .string s, .slice none 0 0] 49)
  have hn := r_name s (w.alloc (.cells #[.int .i64 2, .int .i64 0, .string s, .slice none 0 0] 49)) hs
  have HN := Lib.hid hn
  have HK1 := Lib.hid hk1
  obtain ⟨c0, c1, c2, c3⟩ := cells4 hb1
  clear hb1 hk1 hn
  go_enter Tryd.func21, Tryd.ntmps21
  go_wp2_with fail
  generalize w.alloc (.cells #[.int .i64 2, .int .i64 0, .string s, .slice none 0 0] 49) = w1 at *
  refine HN.out.mono ?_
  rintro e w2 ⟨rfl, hk2⟩
  go_wp2_with fail
  go_ret
  exact ⟨rfl, HK1.out.trans hk2 (by simp)⟩
theorem digitAt_list (d : Nat) : (digitAt d).data.toList = [UInt8.ofNat (48 + d)] := rfl
def NegI (u m : Nat) (S : ByteArray) : Prop := (0 < m → Lib.decDigits u = Lib.decDigits m ++ S.data.toList) ∧ (m = 0 → S.data.toList = Lib.decDigits u) ∧ S.size ≤ 20
theorem NegI.step {u m : Nat} {S : ByteArray} (h : NegI u m S) (hm : 0 < m) (hu : u ≤ 9223372036854775808) : NegI u (m / 10) (digitAt (m % 10) ++ S) := by
  obtain ⟨h1, -, -⟩ := h
  have h2 := h1 hm
  have hl := decDigits_le 20 u (by omega) (by omega)
  have happ : (digitAt (m % 10) ++ S).data.toList = [UInt8.ofNat (48 + m % 10)] ++ S.data.toList := by rw [ByteArray.data_append]; simp [digitAt_list]
  have hsz : (digitAt (m % 10) ++ S).size = 1 + S.size := by rw [ByteArray.size_append]; rfl
  have hsl : S.data.toList.length = S.size := by simp
  by_cases h10 : m < 10
  · have e : Lib.decDigits u = [UInt8.ofNat (48 + m % 10)] ++ S.data.toList := by rw [h2, Lib.decDigits_one h10, Nat.mod_eq_of_lt h10]
    refine ⟨fun h => by omega, fun _ => by rw [happ, e], ?_⟩
    rw [hsz]
    rw [e] at hl
    simp only [List.length_append, List.length_cons, List.length_nil] at hl
    omega
  · have e : Lib.decDigits u = Lib.decDigits (m / 10) ++ ([UInt8.ofNat (48 + m % 10)] ++ S.data.toList) := by
      rw [h2, Lib.decDigits.eq_1 m, dif_neg h10, List.append_assoc]
    refine ⟨fun _ => by rw [happ, e], fun h => by omega, ?_⟩
    rw [hsz]
    rw [e] at hl
    simp only [List.length_append, List.length_cons, List.length_nil] at hl
    omega
set_option maxRecDepth 100000 in
set_option maxHeartbeats 1000000 in
theorem r_digitsD {n : Int} {w : World} (h0 : -9223372036854775808 ≤ n) (h1 : n ≤ 9223372036854775807) : Calls Tryd.prog 20 #[.int .i64 n] w fun e w' => e = .returned (.string ⟨(Lib.itoa n).toArray⟩) ∧ Keep [] w w' := by
  by_cases hn : n < 0
  · obtain ⟨u, hu⟩ : ∃ u : Nat, n = -(u : Int) := ⟨n.natAbs, by omega⟩
    have hu0 : 0 < u := by omega
    have hu1 : u ≤ 9223372036854775808 := by omega
    have hi : Lib.itoa n = 45 :: Lib.decDigits u := by
      unfold Lib.itoa; rw [if_pos hn, hu, Int.natAbs_neg, Int.natAbs_natCast]
    have HI := Lib.hid hi
    have HU := Lib.hid hu
    have hst : NegI u u ⟨#[]⟩ := ⟨fun _ => by simp, fun h => by omega, by simp [ByteArray.size]⟩
    have HST := Lib.hid hst
    clear hi hu hst
    go_enter Tryd.func20, Tryd.ntmps20
    go_wp2_with fail
    go_loop [0, 3] (fun z t => ∃ (m : Nat) (S : ByteArray), z = .int .i64 (-(m : Int)) ∧ m ≤ u ∧ t = .string S ∧ NegI u m S) (fun z _ => (RowKit.intOf z).natAbs)
    case atStart => exact ⟨u, ⟨#[]⟩, by rw [HU.out], Nat.le_refl _, rfl, HST.out⟩
    case round =>
      obtain ⟨m, S, rfl, hmu, rfl, hni⟩ := hrel
      have hS20 := hni.2.2
      by_cases hm : 0 < m
      · have hstep := hni.step hm hu1
        have HSTEP := Lib.hid hstep
        clear hni hstep
        obtain ⟨d, hd⟩ : ∃ d, d = m % 10 := ⟨_, rfl⟩
        rw [← hd] at HSTEP
        have hd10 : d < 10 := by omega
        obtain ⟨z, hz⟩ : ∃ z, z = -(m : Int) := ⟨_, rfl⟩
        obtain ⟨z', hz'⟩ : ∃ z', z' = -((m / 10 : Nat) : Int) := ⟨_, rfl⟩
        have t1 : z.tmod 10 = -(d : Int) := by rw [hz, Int.neg_tmod, hd, Int.tmod_eq_emod_of_nonneg (by omega)]; omega
        have t2 : z.tdiv 10 = z' := by rw [hz, Int.neg_tdiv, hz', Int.tdiv_eq_ediv_of_nonneg (by omega)]; omega
        have z0 : z < 0 := by omega
        have w1 : IntKind.i64.wrap (-(d : Int)) = -(d : Int) := IntWalk.i64_in _ (by omega)
        have w2 : IntKind.i64.wrap (d : Int) = (d : Int) := IntWalk.i64_in _ (by omega)
        have w3 : IntKind.i64.wrap ((d : Int) + 1) = (d : Int) + 1 := IntWalk.i64_in _ (by omega)
        have w4 : IntKind.i64.wrap z' = z' := IntWalk.i64_in _ (by omega)
        have r1 : (0 : Int) ≤ (d : Int) := by omega
        have r2 : (d : Int) + 1 ≤ 10 := by omega
        have r3 : (d : Int) ≤ (d : Int) + 1 := by omega
        have hda := digit_at d hd10
        have hsz1 : (digitAt d).size = 1 := rfl
        have HDA := Lib.hid hda
        have HZ := Lib.hid hz
        have HZ' := Lib.hid hz'
        rw [← hz]
        clear hd hda hz hz'
        go_wp2_with fail
        go_round
        case rel => exact ⟨m / 10, _, by rw [HZ'.out], by omega, rfl, by rw [HDA.out]; exact HSTEP.out⟩
        case measure => rw [HZ.out, HZ'.out]; simp [intOf]; omega
      · obtain rfl : m = 0 := by omega
        have hS := hni.2.1 rfl
        have HS := Lib.hid hS
        clear hni hS
        go_wp2_with fail
        go_ret
        refine ⟨?_, Keep.refl _ _⟩
        rw [HI.out, ← HS.out]
        have e : (⟨#[45]⟩ : ByteArray) ++ S = ⟨(45 :: S.data.toList).toArray⟩ := string_eq (by rw [ByteArray.data_append]; simp)
        rw [← e]; rfl
  · have hi : Lib.itoa n = Lib.itoa n := rfl
    have hcall := r_digits (n := n) (w := w) (by omega) (by omega)
    have HC := Lib.hid hcall
    clear hcall hi
    go_enter Tryd.func20, Tryd.ntmps20
    go_wp2_with fail
    refine HC.out.mono ?_
    rintro e w2 ⟨rfl, hk2⟩
    go_wp2_with fail
    go_ret
    exact ⟨rfl, hk2⟩
end Go.Proofs.YtiiklakfelbjfaaDoor
