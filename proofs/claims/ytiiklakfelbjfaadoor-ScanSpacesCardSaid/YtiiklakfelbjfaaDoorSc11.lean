/- Scanning: ScanSpaces, the walk. Printed by gen-sc11.py. -/
import Derived.Test.YtiiklakfelbjfaaDoorSc10
namespace Go.Proofs.YtiiklakfelbjfaaDoor
open Go.RowKit Go.Emb

def absI (n : Int) : Int := if n < 0 then -(n.tmod 5) else n
theorem p_abs (n : Int) (w : World) (h0 : -9223372036854775808 ≤ n) (h1 : n ≤ 9223372036854775807) : Calls Tryd.prog 9 #[.int .i64 n] w fun e w' => e = .returned (.int .i64 (absI n)) ∧ w = w' := by
  unfold absI
  by_cases h : n < 0
  · have h2 := Int.tmod_lt_of_pos n (show (0 : Int) < 5 by decide)
    have h3 : -5 < n.tmod 5 := by have := Int.lt_tmod_of_pos n (show (0 : Int) < 5 by decide); omega
    have hw1 : IntKind.i64.wrap (n.tmod 5) = n.tmod 5 := IntWalk.i64_in _ (by omega)
    have hw2 : IntKind.i64.wrap (-(n.tmod 5)) = -(n.tmod 5) := IntWalk.i64_in _ (by omega)
    go_enter Tryd.func9, Tryd.ntmps9
    go_wp2_with fail
    go_ret
    exact ⟨rfl, rfl⟩
  · go_enter Tryd.func9, Tryd.ntmps9
    go_wp2_with fail
    go_ret
    exact ⟨rfl, rfl⟩
theorem abs_mod (n : Int) : 0 ≤ (absI n).tmod 5 ∧ (absI n).tmod 5 < 5 := by
  have h : 0 ≤ absI n := by
    unfold absI
    split
    · obtain ⟨m, rfl⟩ : ∃ m, n = -m := ⟨-n, by omega⟩
      rw [Int.neg_tmod]
      have : 0 ≤ m.tmod 5 := Int.tmod_nonneg _ (by omega)
      omega
    · omega
  exact ⟨Int.tmod_nonneg _ h, Int.tmod_lt_of_pos _ (by decide)⟩
def padB : List ByteArray := [⟨#[]⟩, ⟨#[32]⟩, ⟨#[9, 10]⟩, ⟨#[32, 37, 32, 110, 111, 116, 101, 32, 39, 10]⟩, ⟨#[13, 32]⟩]
def padOf (n : Int) : List UInt8 := (padB.getD ((absI n).tmod 5).toNat ByteArray.empty).data.toList
theorem RdI.at {w : World} {a : Option Addr} {n c : Nat} {l : List Int} {o : Option Nat} (h : Rd w 1 (.slice a n c) l.length (l.map (Value.int .i64)) o) {k : Nat} (hk : k < l.length) :
    ∃ b off, a = some ⟨b, off, none⟩ ∧ w.cell? ⟨b, off + k, none⟩ = some (.int .i64 l[k]) := by
  obtain ⟨-, a', c', hv, -, -, h3⟩ := h
  cases hv
  rcases h3 with ⟨h3, -⟩ | ⟨b, off, rfl, -, h3⟩
  · omega
  · exact ⟨b, off, rfl, by rw [h3 k (by omega)]; simp [hk]⟩
theorem pad_cells (w : World) : ∀ j, j < 5 → (w.alloc (.cells #[.string ⟨#[]⟩, .string ⟨#[32]⟩, .string ⟨#[9, 10]⟩, .string ⟨#[32, 37, 32, 110, 111, 116, 101, 32, 39, 10]⟩, .string ⟨#[13, 32]⟩] 9)).cell? ⟨w.heap.size, j, none⟩ = some (.string (padB.getD j ByteArray.empty)) := by
  intro j hj
  have hb := heap_alloc_new w (.cells #[.string ⟨#[]⟩, .string ⟨#[32]⟩, .string ⟨#[9, 10]⟩, .string ⟨#[32, 37, 32, 110, 111, 116, 101, 32, 39, 10]⟩, .string ⟨#[13, 32]⟩] 9)
  match j, hj with
  | 0, _ => exact (Lib.cell_of_heap hb _).trans rfl
  | 1, _ => exact (Lib.cell_of_heap hb _).trans rfl
  | 2, _ => exact (Lib.cell_of_heap hb _).trans rfl
  | 3, _ => exact (Lib.cell_of_heap hb _).trans rfl
  | 4, _ => exact (Lib.cell_of_heap hb _).trans rfl
theorem padB_mem (j : Nat) (h : j < 5) : (padB.getD j ByteArray.empty).data.toList ∈ padL ∧ (padB.getD j ByteArray.empty).size ≤ 10 := by
  match j, h with
  | 0, _ => exact ⟨by decide, by decide⟩
  | 1, _ => exact ⟨by decide, by decide⟩
  | 2, _ => exact ⟨by decide, by decide⟩
  | 3, _ => exact ⟨by decide, by decide⟩
  | 4, _ => exact ⟨by decide, by decide⟩
/-- behind i tokens: the text built, how far -/
def WeaveI (l : List UInt8) (ts : List (Tk × Nat)) (ps : List (List UInt8)) (i : Nat) (T : List UInt8) (f : Nat) : Prop :=
  T ++ weave (l.drop f) f (ts.drop i) (ps.drop i) = weave l 0 ts ps ∧ Placed l.length f (ts.drop i) ∧ f ≤ l.length ∧ i ≤ f ∧ T.length ≤ f + 10 * i
theorem WeaveI.start {l : List UInt8} {ts : List (Tk × Nat)} {ps : List (List UInt8)} (h : scanL l 0 = .ok ts) : WeaveI l ts ps 0 [] 0 := by
  refine ⟨by simp, ?_, Nat.zero_le _, Nat.le_refl _, by simp⟩
  have := scan_placed ts l 0 h
  simpa using this
theorem WeaveI.at {l : List UInt8} {ts : List (Tk × Nat)} {ps : List (List UInt8)} {i f : Nat} {T : List UInt8} (h : WeaveI l ts ps i T f) (hi : i < ts.length) : f ≤ ts[i].2 ∧ 1 ≤ ts[i].1.en ∧ ts[i].2 + ts[i].1.en ≤ l.length := by
  obtain ⟨-, h2, -⟩ := h
  rw [List.drop_eq_getElem_cons hi] at h2
  exact ⟨h2.1, h2.2.1, h2.2.2.1⟩
theorem WeaveI.step {l : List UInt8} {ts : List (Tk × Nat)} {ps : List (List UInt8)} {i f : Nat} {T P : List UInt8} (h : WeaveI l ts ps i T f) (hi : i < ts.length) (hP : (ps.drop i).headD [] = P) (hPl : P.length ≤ 10) :
    WeaveI l ts ps (i + 1) (T ++ (l.drop f).take (ts[i].2 - f) ++ P ++ (l.drop ts[i].2).take ts[i].1.en) (ts[i].2 + ts[i].1.en) := by
  obtain ⟨h3, h4, h5⟩ := h.at hi
  obtain ⟨h1, h2, h6, h7, h8⟩ := h
  rw [List.drop_eq_getElem_cons hi] at h1 h2
  refine ⟨?_, h2.2.2.2, h5, by omega, ?_⟩
  · rw [← h1]
    simp only [weave]
    rw [hP, List.drop_drop, List.drop_drop, show f + (ts[i].2 - f) = ts[i].2 by omega, show f + (ts[i].2 - f + ts[i].1.en) = ts[i].2 + ts[i].1.en by omega]
    rw [List.tail_drop]
    simp only [List.append_assoc]
  · simp only [List.length_append, List.length_take, List.length_drop]
    omega
theorem WeaveI.done {l : List UInt8} {ts : List (Tk × Nat)} {ps : List (List UInt8)} {f : Nat} {T : List UInt8} (h : WeaveI l ts ps ts.length T f) : T ++ l.drop f ++ [32] = weave l 0 ts ps := by
  obtain ⟨h1, -⟩ := h
  rw [List.drop_length] at h1
  rw [← h1]
  simp [weave]
theorem _root_.ByteArray.toList_append2 (a b c : ByteArray) : (a ++ b ++ c).data.toList = a.data.toList ++ b.data.toList ++ c.data.toList := by simp [ByteArray.data_append]
theorem _root_.ByteArray.toList_append3 (a b c d : ByteArray) : (a ++ b ++ c ++ d).data.toList = a.data.toList ++ b.data.toList ++ c.data.toList ++ d.data.toList := by simp [ByteArray.data_append]
theorem cell_keep {w w' : World} {p : Addr} {v : Value} (h : w.cell? p = some v) (k : Keep [] w w') : w'.cell? p = some v := by
  rw [k.cell (World.block_lt_of_cell? _ _ h) (by simp)]; exact h
theorem placed_at {z : Nat} : ∀ (ts : List (Tk × Nat)) (a : Nat), Placed z a ts → ∀ {k : Nat} (hk : k < ts.length), a ≤ ts[k].2 ∧ 1 ≤ ts[k].1.en ∧ ts[k].2 + ts[k].1.en ≤ z
  | (t, p) :: ts, a, h, 0, _ => ⟨h.1, h.2.1, h.2.2.1⟩
  | (t, p) :: ts, a, h, k + 1, hk => by
    have := placed_at ts _ h.2.2.2 (k := k) (by simpa using hk)
    simp only [List.getElem_cons_succ]
    have := h.1
    omega
theorem ext_list (s : ByteArray) (a b : Nat) : (s.extract a b).data.toList = (s.data.toList.drop a).take (b - a) := by
  simp [ByteArray.data_extract]
set_option maxRecDepth 100000 in
set_option maxHeartbeats 4000000 in
theorem spaces_walk {w : World} {s : ByteArray} {pv : Value} {pads : List Int} {po : Option Nat} (he : ErrOk w) (hs : s.size ≤ 140737488355328) (hp : Rd w 1 pv pads.length (pads.map (Value.int .i64)) po) (hpo : ∀ b, po = some b → b < w.heap.size) (hpi : ∀ x ∈ pads, -9223372036854775808 ≤ x ∧ x ≤ 9223372036854775807) :
    Calls Tryd.prog 3 #[.string s, pv] w fun e w' => e = .returned (.bool true) ∧ Keep [] w w' := by
  obtain ⟨pa, pc, rfl, hpc1, hpc2⟩ : ∃ a c, pv = .slice a pads.length c ∧ pads.length ≤ c ∧ c ≤ maxLen := by obtain ⟨-, a, c, h1, h2, h3, -⟩ := hp; exact ⟨a, c, h1, h2, h3⟩
  unfold maxLen at hpc2
  have HE := Lib.hid he
  have HP := Lib.hid hp
  have HPI := Lib.hid hpi
  clear hp he hpi hpo
  by_cases hbig : 1000 < s.size ∨ 2000 < pads.length
  · have hlv := q_live HE.out
    have HLV := Lib.hid hlv
    clear hlv
    by_cases h1 : 1000 < s.size
    · have h1' : (1000 : Int) < (s.size : Int) := by omega
      clear hbig h1
      go_enter Tryd.func3, Tryd.ntmps3
      go_wp2_with fail
      refine HLV.out.mono ?_
      rintro e wl ⟨rfl, hkl⟩
      go_wp2_with fail
      go_ret
      exact ⟨rfl, hkl⟩
    · have h1' : ¬ (1000 : Int) < (s.size : Int) := by omega
      have h2' : (2000 : Int) < (pads.length : Int) := by omega
      clear hbig h1
      go_enter Tryd.func3, Tryd.ntmps3
      go_wp2_with fail
      refine HLV.out.mono ?_
      rintro e wl ⟨rfl, hkl⟩
      go_wp2_with fail
      go_ret
      exact ⟨rfl, hkl⟩
  · have h1' : ¬ (1000 : Int) < (s.size : Int) := by omega
    have h2' : ¬ (2000 : Int) < (pads.length : Int) := by omega
    have h1 : s.size ≤ 1000 := by omega
    have hsc := p_scanS (s := s) HE.out (by omega)
    have HSC := Lib.hid hsc
    clear hbig hsc
    go_enter Tryd.func3, Tryd.ntmps3
    go_wp2_with fail
    refine HSC.out.mono ?_
    rintro e w2 ⟨hres, hk2⟩
    have HK2 := Lib.hid hk2
    have HE2 := Lib.hid (HE.out.keep hk2)
    clear hk2 HSC
    cases hsl : scanL s.data.toList 0 with
    | error p =>
      rw [hsl] at hres
      simp only at hres
      have hpe := (scan_err _ _ (Nat.le_refl _) 0 p.1 p.2 hsl).2.2
      obtain rfl := hres
      obtain ⟨E, hE⟩ : ∃ E, E = p.1 := ⟨_, rfl⟩
      obtain ⟨Z, hZ⟩ : ∃ Z : Int, Z = (p.2 : Nat) := ⟨_, rfl⟩
      rw [← hE] at hpe
      have hne : (E != 0) = true := by rcases hpe with h | h <;> rw [h] <;> rfl
      have hlv := q_live HE2.out
      have HLV := Lib.hid hlv
      clear hlv hpe hsl
      show _
      simp only [← hE, ← hZ]
      clear hE hZ
      go_wp2_with fail
      refine (q_num _ w2).mono ?_
      rintro e w3 ⟨rfl, rfl⟩
      go_wp2_with fail
      refine HLV.out.mono ?_
      rintro e wl ⟨rfl, hkl⟩
      go_wp2_with fail
      go_ret
      exact ⟨rfl, HK2.out.trans hkl (by simp)⟩
    | ok ts =>
      rw [hsl] at hres
      obtain ⟨v, o, rfl, hr, -⟩ := hres
      have hh := hr.has
      obtain ⟨va, vc, rfl⟩ := hh.slice
      have HH := Lib.hid hh
      have HSL := Lib.hid hsl
      have hst := WeaveI.start (ps := pads.map padOf) hsl
      have hsz : s.data.toList.length = s.size := by simp
      have HST := Lib.hid hst
      have HSZ := Lib.hid hsz
      clear hr hh hsl hst hsz
      go_wp2_with fail
      refine (q_num _ w2).mono ?_
      rintro e w3 ⟨rfl, rfl⟩
      go_wp2_with fail
      go_loopw [8, 9, 10] (fun t f i wr => ∃ (k n : Nat) (T : ByteArray), k ≤ ts.length ∧ i = .int .i64 k ∧ f = .int .i64 n ∧ t = .string T ∧ WeaveI s.data.toList ts (pads.map padOf) k T.data.toList n ∧ Keep [] w2 wr) (fun _ _ i _ => ts.length - (RowKit.intOf i).toNat)
      case atStart => exact ⟨0, 0, ⟨#[]⟩, Nat.zero_le _, rfl, rfl, rfl, HST.out, Keep.refl _ _⟩
      case round =>
        clear HST
        obtain ⟨k, n, T, hk, rfl, rfl, rfl, hwi, hkw⟩ := hrel
        have HWI := Lib.hid hwi
        have HKW := Lib.hid hkw
        have hTl : T.data.toList.length = T.size := by simp
        have hb1 := hwi.2.2.1
        have hb2 := hwi.2.2.2.1
        have hb3 := hwi.2.2.2.2
        rw [HSZ.out] at hb1
        rw [hTl] at hb3
        by_cases hlt : k < ts.length
        · have hat := hwi.at hlt
          rw [HSZ.out] at hat
          obtain ⟨vb, voff, rfl, c0, c1, c2, c3, c4⟩ := (HH.out.keep hkw).at hlt
          obtain ⟨p, en, hpp, hen⟩ : ∃ p en, p = ts[k].2 ∧ en = ts[k].1.en := ⟨_, _, rfl, rfl⟩
          rw [← hpp, ← hen] at hat c4
          rw [← hpp] at c3
          have hstep := fun P => hwi.step hlt (P := P)
          simp only [← hpp, ← hen] at hstep
          have HSTEP := Lib.hid hstep
          have HPP := Lib.hid hpp
          have HEN := Lib.hid hen
          have i0 : (0 : Int) ≤ (k : Int) := by omega
          have i1 : (k : Int) < (ts.length : Int) := by omega
          have j0 : (0 : Int) ≤ (n : Int) := by omega
          have j1 : (n : Int) ≤ (p : Int) := by omega
          have j2 : (p : Int) ≤ (s.size : Int) := by omega
          have j3 : (p : Int) ≤ ((p + en : Nat) : Int) := by omega
          have j4 : ((p + en : Nat) : Int) ≤ (s.size : Int) := by omega
          have hx1 : (s.extract n p).size = p - n := by simp; omega
          have hx2 : (s.extract p (p + en)).size = en := by simp; omega
          clear hwi hkw hstep c0 c1 c2 hpp hen
          by_cases hpk : k < pads.length
          · have hpk' : (k : Int) < (pads.length : Int) := by omega
            obtain ⟨qb, qoff, rfl, hq⟩ := RdI.at (HP.out.keep ((HK2.out.trans HKW.out (by simp)).alloc (.cells #[.string ⟨#[]⟩, .string ⟨#[32]⟩, .string ⟨#[9, 10]⟩, .string ⟨#[32, 37, 32, 110, 111, 116, 101, 32, 39, 10]⟩, .string ⟨#[13, 32]⟩] 9)) (by simp)) hpk
            obtain ⟨vb', voff', hvv, d0, d1, d2, d3, d4⟩ := (HH.out.keep (HKW.out.alloc (.cells #[.string ⟨#[]⟩, .string ⟨#[32]⟩, .string ⟨#[9, 10]⟩, .string ⟨#[32, 37, 32, 110, 111, 116, 101, 32, 39, 10]⟩, .string ⟨#[13, 32]⟩] 9))).at hlt
            cases hvv
            rw [← HPP.out, ← HEN.out] at d4
            rw [← HPP.out] at d3
            clear d0 d1 d2
            have hpx := HPI.out _ (List.getElem_mem hpk)
            obtain ⟨x, hx⟩ : ∃ x, x = pads[k] := ⟨_, rfl⟩
            rw [← hx] at hq hpx
            have hmod := abs_mod x
            have hcells := pad_cells wr
            obtain ⟨j, hj⟩ : ∃ j : Nat, j = ((absI x).tmod 5).toNat := ⟨_, rfl⟩
            have hji : (absI x).tmod 5 = (j : Int) := by omega
            have hj5 : j < 5 := by omega
            have hpc := hcells j hj5
            have hpm := padB_mem j hj5
            have hpo : padOf x = (padB.getD j ByteArray.empty).data.toList := by unfold padOf; rw [← hj]
            have hhd : ((pads.map padOf).drop k).headD [] = (padB.getD j ByteArray.empty).data.toList := by
              rw [List.drop_eq_getElem_cons (by simpa using hpk)]
              simp [← hx, hpo]
            have hab := p_abs x (wr.alloc (.cells #[.string ⟨#[]⟩, .string ⟨#[32]⟩, .string ⟨#[9, 10]⟩, .string ⟨#[32, 37, 32, 110, 111, 116, 101, 32, 39, 10]⟩, .string ⟨#[13, 32]⟩] 9)) hpx.1 hpx.2
            obtain ⟨A, hA⟩ : ∃ A, A = absI x := ⟨_, rfl⟩
            rw [← hA] at hab hji
            have hwm : IntKind.i64.wrap (A.tmod 5) = (j : Int) := by rw [hji]; exact IntWalk.i64_in _ (by omega)
            obtain ⟨B, hB⟩ : ∃ B, B = padB.getD j ByteArray.empty := ⟨_, rfl⟩
            rw [← hB] at hpc hpm hhd
            have hsn := HSTEP.out _ hhd (by have : B.data.toList.length = B.size := by simp
                                            omega)
            have HSN := Lib.hid hsn
            have HAB := Lib.hid hab
            have hBs := hpm.2
            have m0 : (0 : Int) ≤ (j : Int) := by omega
            have m1 : (j : Int) < 5 := by omega
            clear hmod hcells hpm hpo hhd hsn hab hA hx hB hj
            go_wp2_with fail
            refine HAB.out.mono ?_
            rintro e w3 ⟨rfl, rfl⟩
            have HK4 := Lib.hid (HKW.out.alloc (.cells #[.string ⟨#[]⟩, .string ⟨#[32]⟩, .string ⟨#[9, 10]⟩, .string ⟨#[32, 37, 32, 110, 111, 116, 101, 32, 39, 10]⟩, .string ⟨#[13, 32]⟩] 9))
            clear HAB
            generalize wr.alloc (.cells #[.string ⟨#[]⟩, .string ⟨#[32]⟩, .string ⟨#[9, 10]⟩, .string ⟨#[32, 37, 32, 110, 111, 116, 101, 32, 39, 10]⟩, .string ⟨#[13, 32]⟩] 9) = w4 at *
            go_wp2_with fail
            go_quiet (fail)
            go_wp2_with fail
            go_roundw
            case rel =>
              refine ⟨k + 1, p + en, _, by omega, by go_num, by go_num, rfl, ?_, HK4.out.drewN _⟩
              have e := HSN.out
              rw [ByteArray.toList_append3, ext_list, ext_list, show p + en - p = en by omega]
              exact e
            case measure => simp [intOf]; omega
          · have hpk' : ¬ (k : Int) < (pads.length : Int) := by omega
            have hhd : ((pads.map padOf).drop k).headD [] = [] := by
              rw [List.drop_eq_nil_of_le (by simp; omega)]; rfl
            have hsn := HSTEP.out _ hhd (by simp)
            have HSN := Lib.hid hsn
            clear hhd hsn
            go_wp2_with fail
            go_quiet (fail)
            go_wp2_with fail
            go_roundw
            case rel =>
              refine ⟨k + 1, p + en, _, by omega, by go_num, by go_num, rfl, ?_, HKW.out.drewN _⟩
              have e := HSN.out
              rw [List.append_nil] at e
              rw [ByteArray.toList_append2, ext_list, ext_list, show p + en - p = en by omega]
              exact e
            case measure => simp [intOf]; omega
        · obtain rfl : k = ts.length := by omega
          have i1 : ¬ (ts.length : Int) < (ts.length : Int) := by omega
          have hdone := hwi.done
          have j0 : (0 : Int) ≤ (n : Int) := by omega
          have j1 : (n : Int) ≤ (s.size : Int) := by omega
          have hx1 : (s.extract n s.size).size = s.size - n := by simp
          obtain ⟨X, hX⟩ : ∃ X, X = T ++ s.extract n s.size ++ ⟨#[32]⟩ := ⟨_, rfl⟩
          have hXl : X.data.toList = weave s.data.toList 0 ts (pads.map padOf) := by
            rw [hX, ByteArray.toList_append2, ext_list, ← hdone, List.take_of_length_le (by rw [List.length_drop, HSZ.out]; omega)]
          have hXs : X.size ≤ 16384 := by
            have h9 : X.size = T.size + (s.size - n) + 1 := by rw [hX, ByteArray.size_append, ByteArray.size_append, hx1]; rfl
            omega
          obtain ⟨ts', hsc', hsim⟩ := scan_weave _ s.data.toList (Nat.le_refl _) 0 0 ts (pads.map padOf) (fun q hq => by
            obtain ⟨x, -, rfl⟩ := List.mem_map.1 hq
            have hm := abs_mod x
            exact (padB_mem _ (by omega)).1) HSL.out
          have hsc2 := p_scanS (s := X) (HE2.out.keep hkw) hXs
          rw [hXl, hsc'] at hsc2
          have HSC2 := Lib.hid hsc2
          have HSIM := Lib.hid hsim
          have HXX := Lib.hid hX
          have HPLC := Lib.hid (scan_placed ts s.data.toList 0 HSL.out)
          clear hsc2 hsim hsc' hXl hdone hwi hkw hX HSL
          go_upto_region 17 with fail
          rw [← HXX.out]
          clear HXX hx1
          go_wp2_with fail
          refine HSC2.out.mono ?_
          rintro e w5 ⟨⟨v', o', rfl, hr', -⟩, hk5⟩
          have hh' := hr'.has
          have hlen : ts'.length = ts.length := by
            have := congrArg List.length HSIM.out
            simpa using this
          obtain ⟨va', vc', rfl⟩ := hh'.slice
          rw [hlen]
          have HH' := Lib.hid hh'
          have HK5 := Lib.hid ((HK2.out.trans HKW.out (by simp)).trans hk5 (by simp))
          have HR5 := Lib.hid (HKW.out.trans hk5 (by simp))
          have HE5 := Lib.hid ((HE2.out.keep HKW.out).keep hk5)
          clear hr' hh' hk5 HSC2
          go_wp2_with fail
          refine (q_num _ w5).mono ?_
          rintro e w6 ⟨rfl, rfl⟩
          go_wp2_with fail
          go_loopw [14] (fun i wr => ∃ k : Nat, k ≤ ts.length ∧ i = .int .i64 k ∧ Keep [] w5 wr) (fun i _ => ts.length - (RowKit.intOf i).toNat)
          case atStart => exact ⟨0, Nat.zero_le _, rfl, Keep.refl _ _⟩
          case round =>
            obtain ⟨k, hk, rfl, hkx⟩ := hrel
            have HKX := Lib.hid hkx
            clear hkx
            by_cases hlt : k < ts.length
            · have i0 : (0 : Int) ≤ (k : Int) := by omega
              have i1 : (k : Int) < (ts.length : Int) := by omega
              obtain ⟨vb, voff, rfl, c0, c1, c2, c3, c4⟩ := (HH.out.keep (HR5.out.trans HKX.out (by simp))).at hlt
              have hlt' : k < ts'.length := by omega
              obtain ⟨ub, uoff, rfl, d0, d1, d2, d3, d4⟩ := (HH'.out.keep HKX.out).at hlt'
              have hsame : ts'[k].1 = ts[k].1 := by
                have h1 := HSIM.out
                have h2 : (ts'.map (·.1))[k]? = (ts.map (·.1))[k]? := by rw [h1]
                rw [List.getElem?_map, List.getElem?_map, List.getElem?_eq_getElem hlt', List.getElem?_eq_getElem hlt] at h2
                simpa using h2
              rw [hsame] at d0 d1 d2 d4
              have hat := placed_at ts 0 HPLC.out hlt
              obtain ⟨p, en, K, N, S, p', hvals⟩ : ∃ (p en : Nat) (K N : Int) (S : ByteArray) (p' : Nat), p = ts[k].2 ∧ en = ts[k].1.en ∧ K = ts[k].1.kind ∧ N = ts[k].1.num ∧ S = ⟨ts[k].1.text.toArray⟩ ∧ p' = ts'[k].2 := ⟨_, _, _, _, _, _, rfl, rfl, rfl, rfl, rfl, rfl⟩
              obtain ⟨e1, e2, e3, e4, e5, e6⟩ := hvals
              rw [← e3] at c0 d0
              rw [← e4] at c1 d1
              rw [← e5] at c2 d2
              rw [← e1] at c3
              rw [← e1, ← e2] at c4
              rw [← e6] at d3
              rw [← e6, ← e2] at d4
              have HC := Lib.hid (And.intro c0 (And.intro c1 (And.intro c2 (And.intro c3 c4))))
              have HD := Lib.hid (And.intro d0 (And.intro d1 (And.intro d2 (And.intro d3 d4))))
              have hen : (en : Int) ≤ 16384 := by rw [← e1, ← e2, HSZ.out] at hat; omega
              have hq1 : IntKind.i64.wrap ((p' : Int) + (en : Int) - (p' : Int)) = (en : Int) := (IntWalk.i64_in _ (by omega)).trans (by omega)
              have hq2 : IntKind.i64.wrap ((p : Int) + (en : Int) - (p : Int)) = (en : Int) := (IntWalk.i64_in _ (by omega)).trans (by omega)
              clear e1 e2 e3 e4 e5 e6 c0 c1 c2 c3 c4 d0 d1 d2 d3 d4 hsame
              go_upto_region 23 with fail
              refine wp_region_held_drew (S := fun w' => Keep [] wr w') (by kernel_rfl) ((Keep.refl [] wr).drew) (fun hHeld => ?_)
              refine wpAnyH_takeL (i := 0) (v := ?vG0) rfl (by kernel_rfl) (by kernel_rfl) (by kernel_rfl) (fun _ _ _ h => h) (Or.inl ⟨by kernel_rfl, ?runG0⟩) hHeld ?_
              case runG0 => (intro w9 hS9; obtain ⟨c0, c1, c2, c3, c4⟩ := (And.intro (cell_keep HC.out.1 hS9) (And.intro (cell_keep HC.out.2.1 hS9) (And.intro (cell_keep HC.out.2.2.1 hS9) (And.intro (cell_keep HC.out.2.2.2.1 hS9) (cell_keep HC.out.2.2.2.2 hS9))))); obtain ⟨d0, d1, d2, d3, d4⟩ := (And.intro (cell_keep HD.out.1 hS9) (And.intro (cell_keep HD.out.2.1 hS9) (And.intro (cell_keep HD.out.2.2.1 hS9) (And.intro (cell_keep HD.out.2.2.2.1 hS9) (cell_keep HD.out.2.2.2.2 hS9))))); go_simp; try exact rfl)
              try simp only [Act.put, List.setIfInBounds_toArray, List.set_cons_zero, List.set_cons_succ]
              refine wpAnyH_takeL (i := 1) (v := ?vG1) rfl (by kernel_rfl) (by kernel_rfl) (by kernel_rfl) (fun _ _ _ h => h) (Or.inl ⟨by kernel_rfl, ?runG1⟩) hHeld ?_
              case runG1 => (intro w9 hS9; obtain ⟨c0, c1, c2, c3, c4⟩ := (And.intro (cell_keep HC.out.1 hS9) (And.intro (cell_keep HC.out.2.1 hS9) (And.intro (cell_keep HC.out.2.2.1 hS9) (And.intro (cell_keep HC.out.2.2.2.1 hS9) (cell_keep HC.out.2.2.2.2 hS9))))); obtain ⟨d0, d1, d2, d3, d4⟩ := (And.intro (cell_keep HD.out.1 hS9) (And.intro (cell_keep HD.out.2.1 hS9) (And.intro (cell_keep HD.out.2.2.1 hS9) (And.intro (cell_keep HD.out.2.2.2.1 hS9) (cell_keep HD.out.2.2.2.2 hS9))))); go_simp; try exact rfl)
              try simp only [Act.put, List.setIfInBounds_toArray, List.set_cons_zero, List.set_cons_succ]
              refine wpAnyH_takeL (i := 2) (v := ?vG2) rfl (by kernel_rfl) (by kernel_rfl) (by kernel_rfl) (fun _ _ _ h => h) (Or.inl ⟨by kernel_rfl, ?runG2⟩) hHeld ?_
              case runG2 => (intro w9 hS9; obtain ⟨c0, c1, c2, c3, c4⟩ := (And.intro (cell_keep HC.out.1 hS9) (And.intro (cell_keep HC.out.2.1 hS9) (And.intro (cell_keep HC.out.2.2.1 hS9) (And.intro (cell_keep HC.out.2.2.2.1 hS9) (cell_keep HC.out.2.2.2.2 hS9))))); obtain ⟨d0, d1, d2, d3, d4⟩ := (And.intro (cell_keep HD.out.1 hS9) (And.intro (cell_keep HD.out.2.1 hS9) (And.intro (cell_keep HD.out.2.2.1 hS9) (And.intro (cell_keep HD.out.2.2.2.1 hS9) (cell_keep HD.out.2.2.2.2 hS9))))); go_simp; try exact rfl)
              try simp only [Act.put, List.setIfInBounds_toArray, List.set_cons_zero, List.set_cons_succ]
              refine wpAnyH_takeL (i := 3) (v := ?vG3) rfl (by kernel_rfl) (by kernel_rfl) (by kernel_rfl) (fun _ _ _ h => h) (Or.inl ⟨by kernel_rfl, ?runG3⟩) hHeld ?_
              case runG3 => (intro w9 hS9; obtain ⟨c0, c1, c2, c3, c4⟩ := (And.intro (cell_keep HC.out.1 hS9) (And.intro (cell_keep HC.out.2.1 hS9) (And.intro (cell_keep HC.out.2.2.1 hS9) (And.intro (cell_keep HC.out.2.2.2.1 hS9) (cell_keep HC.out.2.2.2.2 hS9))))); obtain ⟨d0, d1, d2, d3, d4⟩ := (And.intro (cell_keep HD.out.1 hS9) (And.intro (cell_keep HD.out.2.1 hS9) (And.intro (cell_keep HD.out.2.2.1 hS9) (And.intro (cell_keep HD.out.2.2.2.1 hS9) (cell_keep HD.out.2.2.2.2 hS9))))); go_simp; try exact rfl)
              try simp only [Act.put, List.setIfInBounds_toArray, List.set_cons_zero, List.set_cons_succ]
              refine wpAnyH_takeL (i := 4) (v := ?vG4) rfl (by kernel_rfl) (by kernel_rfl) (by kernel_rfl) (fun _ _ _ h => h) (Or.inl ⟨by kernel_rfl, ?runG4⟩) hHeld ?_
              case runG4 => (intro w9 hS9; obtain ⟨c0, c1, c2, c3, c4⟩ := (And.intro (cell_keep HC.out.1 hS9) (And.intro (cell_keep HC.out.2.1 hS9) (And.intro (cell_keep HC.out.2.2.1 hS9) (And.intro (cell_keep HC.out.2.2.2.1 hS9) (cell_keep HC.out.2.2.2.2 hS9))))); obtain ⟨d0, d1, d2, d3, d4⟩ := (And.intro (cell_keep HD.out.1 hS9) (And.intro (cell_keep HD.out.2.1 hS9) (And.intro (cell_keep HD.out.2.2.1 hS9) (And.intro (cell_keep HD.out.2.2.2.1 hS9) (cell_keep HD.out.2.2.2.2 hS9))))); go_simp; try exact rfl)
              try simp only [Act.put, List.setIfInBounds_toArray, List.set_cons_zero, List.set_cons_succ]
              refine wpAnyH_takeL (i := 5) (v := ?vG5) rfl (by kernel_rfl) (by kernel_rfl) (by kernel_rfl) (fun _ _ _ h => h) (Or.inl ⟨by kernel_rfl, ?runG5⟩) hHeld ?_
              case runG5 => (intro w9 hS9; obtain ⟨c0, c1, c2, c3, c4⟩ := (And.intro (cell_keep HC.out.1 hS9) (And.intro (cell_keep HC.out.2.1 hS9) (And.intro (cell_keep HC.out.2.2.1 hS9) (And.intro (cell_keep HC.out.2.2.2.1 hS9) (cell_keep HC.out.2.2.2.2 hS9))))); obtain ⟨d0, d1, d2, d3, d4⟩ := (And.intro (cell_keep HD.out.1 hS9) (And.intro (cell_keep HD.out.2.1 hS9) (And.intro (cell_keep HD.out.2.2.1 hS9) (And.intro (cell_keep HD.out.2.2.2.1 hS9) (cell_keep HD.out.2.2.2.2 hS9))))); go_simp; try exact rfl)
              try simp only [Act.put, List.setIfInBounds_toArray, List.set_cons_zero, List.set_cons_succ]
              refine wpAnyH_takeL (i := 6) (v := ?vG6) rfl (by kernel_rfl) (by kernel_rfl) (by kernel_rfl) (fun _ _ _ h => h) (Or.inl ⟨by kernel_rfl, ?runG6⟩) hHeld ?_
              case runG6 => (intro w9 hS9; obtain ⟨c0, c1, c2, c3, c4⟩ := (And.intro (cell_keep HC.out.1 hS9) (And.intro (cell_keep HC.out.2.1 hS9) (And.intro (cell_keep HC.out.2.2.1 hS9) (And.intro (cell_keep HC.out.2.2.2.1 hS9) (cell_keep HC.out.2.2.2.2 hS9))))); obtain ⟨d0, d1, d2, d3, d4⟩ := (And.intro (cell_keep HD.out.1 hS9) (And.intro (cell_keep HD.out.2.1 hS9) (And.intro (cell_keep HD.out.2.2.1 hS9) (And.intro (cell_keep HD.out.2.2.2.1 hS9) (cell_keep HD.out.2.2.2.2 hS9))))); go_simp; try exact rfl)
              try simp only [Act.put, List.setIfInBounds_toArray, List.set_cons_zero, List.set_cons_succ]
              refine wpAnyH_takeL (i := 7) (v := ?vG7) rfl (by kernel_rfl) (by kernel_rfl) (by kernel_rfl) (fun _ _ _ h => h) (Or.inl ⟨by kernel_rfl, ?runG7⟩) hHeld ?_
              case runG7 => (intro w9 hS9; obtain ⟨c0, c1, c2, c3, c4⟩ := (And.intro (cell_keep HC.out.1 hS9) (And.intro (cell_keep HC.out.2.1 hS9) (And.intro (cell_keep HC.out.2.2.1 hS9) (And.intro (cell_keep HC.out.2.2.2.1 hS9) (cell_keep HC.out.2.2.2.2 hS9))))); obtain ⟨d0, d1, d2, d3, d4⟩ := (And.intro (cell_keep HD.out.1 hS9) (And.intro (cell_keep HD.out.2.1 hS9) (And.intro (cell_keep HD.out.2.2.1 hS9) (And.intro (cell_keep HD.out.2.2.2.1 hS9) (cell_keep HD.out.2.2.2.2 hS9))))); go_simp; try exact rfl)
              try simp only [Act.put, List.setIfInBounds_toArray, List.set_cons_zero, List.set_cons_succ]
              refine wpAnyH_takeL (i := 8) (v := ?vG8) rfl (by kernel_rfl) (by kernel_rfl) (by kernel_rfl) (fun _ _ _ h => h) (Or.inl ⟨by kernel_rfl, ?runG8⟩) hHeld ?_
              case runG8 => (intro w9 hS9; obtain ⟨c0, c1, c2, c3, c4⟩ := (And.intro (cell_keep HC.out.1 hS9) (And.intro (cell_keep HC.out.2.1 hS9) (And.intro (cell_keep HC.out.2.2.1 hS9) (And.intro (cell_keep HC.out.2.2.2.1 hS9) (cell_keep HC.out.2.2.2.2 hS9))))); obtain ⟨d0, d1, d2, d3, d4⟩ := (And.intro (cell_keep HD.out.1 hS9) (And.intro (cell_keep HD.out.2.1 hS9) (And.intro (cell_keep HD.out.2.2.1 hS9) (And.intro (cell_keep HD.out.2.2.2.1 hS9) (cell_keep HD.out.2.2.2.2 hS9))))); go_simp; try exact rfl)
              try simp only [Act.put, List.setIfInBounds_toArray, List.set_cons_zero, List.set_cons_succ]
              refine wpAnyH_takeL (i := 9) (v := ?vG9) rfl (by kernel_rfl) (by kernel_rfl) (by kernel_rfl) (fun _ _ _ h => h) (Or.inl ⟨by kernel_rfl, ?runG9⟩) hHeld ?_
              case runG9 => (intro w9 hS9; obtain ⟨c0, c1, c2, c3, c4⟩ := (And.intro (cell_keep HC.out.1 hS9) (And.intro (cell_keep HC.out.2.1 hS9) (And.intro (cell_keep HC.out.2.2.1 hS9) (And.intro (cell_keep HC.out.2.2.2.1 hS9) (cell_keep HC.out.2.2.2.2 hS9))))); obtain ⟨d0, d1, d2, d3, d4⟩ := (And.intro (cell_keep HD.out.1 hS9) (And.intro (cell_keep HD.out.2.1 hS9) (And.intro (cell_keep HD.out.2.2.1 hS9) (And.intro (cell_keep HD.out.2.2.2.1 hS9) (cell_keep HD.out.2.2.2.2 hS9))))); go_simp; try exact rfl)
              try simp only [Act.put, List.setIfInBounds_toArray, List.set_cons_zero, List.set_cons_succ]
              refine wpAnyH_takeL (i := 10) (v := .bool false) rfl (by kernel_rfl) (by kernel_rfl) (by kernel_rfl) (fun _ _ _ h => h) (Or.inl ⟨by kernel_rfl, ?runG10⟩) hHeld ?_
              case runG10 => (intro w9 hS9; obtain ⟨c0, c1, c2, c3, c4⟩ := (And.intro (cell_keep HC.out.1 hS9) (And.intro (cell_keep HC.out.2.1 hS9) (And.intro (cell_keep HC.out.2.2.1 hS9) (And.intro (cell_keep HC.out.2.2.2.1 hS9) (cell_keep HC.out.2.2.2.2 hS9))))); obtain ⟨d0, d1, d2, d3, d4⟩ := (And.intro (cell_keep HD.out.1 hS9) (And.intro (cell_keep HD.out.2.1 hS9) (And.intro (cell_keep HD.out.2.2.1 hS9) (And.intro (cell_keep HD.out.2.2.2.1 hS9) (cell_keep HD.out.2.2.2.2 hS9))))); go_simp; first | done | exact rfl | (simp [*]; done) | (simp; omega))
              try simp only [Act.put, List.setIfInBounds_toArray, List.set_cons_zero, List.set_cons_succ]
              refine wpAnyH_takeL (i := 11) (v := ?vG11) rfl (by kernel_rfl) (by kernel_rfl) (by kernel_rfl) (fun _ _ _ h => h) (Or.inl ⟨by kernel_rfl, ?runG11⟩) hHeld ?_
              case runG11 => (intro w9 hS9; obtain ⟨c0, c1, c2, c3, c4⟩ := (And.intro (cell_keep HC.out.1 hS9) (And.intro (cell_keep HC.out.2.1 hS9) (And.intro (cell_keep HC.out.2.2.1 hS9) (And.intro (cell_keep HC.out.2.2.2.1 hS9) (cell_keep HC.out.2.2.2.2 hS9))))); obtain ⟨d0, d1, d2, d3, d4⟩ := (And.intro (cell_keep HD.out.1 hS9) (And.intro (cell_keep HD.out.2.1 hS9) (And.intro (cell_keep HD.out.2.2.1 hS9) (And.intro (cell_keep HD.out.2.2.2.1 hS9) (cell_keep HD.out.2.2.2.2 hS9))))); go_simp; try exact rfl)
              try simp only [Act.put, List.setIfInBounds_toArray, List.set_cons_zero, List.set_cons_succ]
              refine wpAnyH_takeL (i := 12) (v := ?vG12) rfl (by kernel_rfl) (by kernel_rfl) (by kernel_rfl) (fun _ _ _ h => h) (Or.inl ⟨by kernel_rfl, ?runG12⟩) hHeld ?_
              case runG12 => (intro w9 hS9; obtain ⟨c0, c1, c2, c3, c4⟩ := (And.intro (cell_keep HC.out.1 hS9) (And.intro (cell_keep HC.out.2.1 hS9) (And.intro (cell_keep HC.out.2.2.1 hS9) (And.intro (cell_keep HC.out.2.2.2.1 hS9) (cell_keep HC.out.2.2.2.2 hS9))))); obtain ⟨d0, d1, d2, d3, d4⟩ := (And.intro (cell_keep HD.out.1 hS9) (And.intro (cell_keep HD.out.2.1 hS9) (And.intro (cell_keep HD.out.2.2.1 hS9) (And.intro (cell_keep HD.out.2.2.2.1 hS9) (cell_keep HD.out.2.2.2.2 hS9))))); go_simp; try exact rfl)
              try simp only [Act.put, List.setIfInBounds_toArray, List.set_cons_zero, List.set_cons_succ]
              refine wpAnyH_takeL (i := 13) (v := ?vG13) rfl (by kernel_rfl) (by kernel_rfl) (by kernel_rfl) (fun _ _ _ h => h) (Or.inl ⟨by kernel_rfl, ?runG13⟩) hHeld ?_
              case runG13 => (intro w9 hS9; obtain ⟨c0, c1, c2, c3, c4⟩ := (And.intro (cell_keep HC.out.1 hS9) (And.intro (cell_keep HC.out.2.1 hS9) (And.intro (cell_keep HC.out.2.2.1 hS9) (And.intro (cell_keep HC.out.2.2.2.1 hS9) (cell_keep HC.out.2.2.2.2 hS9))))); obtain ⟨d0, d1, d2, d3, d4⟩ := (And.intro (cell_keep HD.out.1 hS9) (And.intro (cell_keep HD.out.2.1 hS9) (And.intro (cell_keep HD.out.2.2.1 hS9) (And.intro (cell_keep HD.out.2.2.2.1 hS9) (cell_keep HD.out.2.2.2.2 hS9))))); go_simp; try exact rfl)
              try simp only [Act.put, List.setIfInBounds_toArray, List.set_cons_zero, List.set_cons_succ]
              refine wpAnyH_takeL (i := 14) (v := ?vG14) rfl (by kernel_rfl) (by kernel_rfl) (by kernel_rfl) (fun _ _ _ h => h) (Or.inl ⟨by kernel_rfl, ?runG14⟩) hHeld ?_
              case runG14 => (intro w9 hS9; obtain ⟨c0, c1, c2, c3, c4⟩ := (And.intro (cell_keep HC.out.1 hS9) (And.intro (cell_keep HC.out.2.1 hS9) (And.intro (cell_keep HC.out.2.2.1 hS9) (And.intro (cell_keep HC.out.2.2.2.1 hS9) (cell_keep HC.out.2.2.2.2 hS9))))); obtain ⟨d0, d1, d2, d3, d4⟩ := (And.intro (cell_keep HD.out.1 hS9) (And.intro (cell_keep HD.out.2.1 hS9) (And.intro (cell_keep HD.out.2.2.1 hS9) (And.intro (cell_keep HD.out.2.2.2.1 hS9) (cell_keep HD.out.2.2.2.2 hS9))))); go_simp; try exact rfl)
              try simp only [Act.put, List.setIfInBounds_toArray, List.set_cons_zero, List.set_cons_succ]
              refine wpAnyH_takeL (i := 15) (v := ?vG15) rfl (by kernel_rfl) (by kernel_rfl) (by kernel_rfl) (fun _ _ _ h => h) (Or.inl ⟨by kernel_rfl, ?runG15⟩) hHeld ?_
              case runG15 => (intro w9 hS9; obtain ⟨c0, c1, c2, c3, c4⟩ := (And.intro (cell_keep HC.out.1 hS9) (And.intro (cell_keep HC.out.2.1 hS9) (And.intro (cell_keep HC.out.2.2.1 hS9) (And.intro (cell_keep HC.out.2.2.2.1 hS9) (cell_keep HC.out.2.2.2.2 hS9))))); obtain ⟨d0, d1, d2, d3, d4⟩ := (And.intro (cell_keep HD.out.1 hS9) (And.intro (cell_keep HD.out.2.1 hS9) (And.intro (cell_keep HD.out.2.2.1 hS9) (And.intro (cell_keep HD.out.2.2.2.1 hS9) (cell_keep HD.out.2.2.2.2 hS9))))); go_simp; try exact rfl)
              try simp only [Act.put, List.setIfInBounds_toArray, List.set_cons_zero, List.set_cons_succ]
              refine wpAnyH_takeL (i := 16) (v := ?vG16) rfl (by kernel_rfl) (by kernel_rfl) (by kernel_rfl) (fun _ _ _ h => h) (Or.inl ⟨by kernel_rfl, ?runG16⟩) hHeld ?_
              case runG16 => (intro w9 hS9; obtain ⟨c0, c1, c2, c3, c4⟩ := (And.intro (cell_keep HC.out.1 hS9) (And.intro (cell_keep HC.out.2.1 hS9) (And.intro (cell_keep HC.out.2.2.1 hS9) (And.intro (cell_keep HC.out.2.2.2.1 hS9) (cell_keep HC.out.2.2.2.2 hS9))))); obtain ⟨d0, d1, d2, d3, d4⟩ := (And.intro (cell_keep HD.out.1 hS9) (And.intro (cell_keep HD.out.2.1 hS9) (And.intro (cell_keep HD.out.2.2.1 hS9) (And.intro (cell_keep HD.out.2.2.2.1 hS9) (cell_keep HD.out.2.2.2.2 hS9))))); go_simp; try exact rfl)
              try simp only [Act.put, List.setIfInBounds_toArray, List.set_cons_zero, List.set_cons_succ]
              refine wpAnyH_takeL (i := 17) (v := ?vG17) rfl (by kernel_rfl) (by kernel_rfl) (by kernel_rfl) (fun _ _ _ h => h) (Or.inl ⟨by kernel_rfl, ?runG17⟩) hHeld ?_
              case runG17 => (intro w9 hS9; obtain ⟨c0, c1, c2, c3, c4⟩ := (And.intro (cell_keep HC.out.1 hS9) (And.intro (cell_keep HC.out.2.1 hS9) (And.intro (cell_keep HC.out.2.2.1 hS9) (And.intro (cell_keep HC.out.2.2.2.1 hS9) (cell_keep HC.out.2.2.2.2 hS9))))); obtain ⟨d0, d1, d2, d3, d4⟩ := (And.intro (cell_keep HD.out.1 hS9) (And.intro (cell_keep HD.out.2.1 hS9) (And.intro (cell_keep HD.out.2.2.1 hS9) (And.intro (cell_keep HD.out.2.2.2.1 hS9) (cell_keep HD.out.2.2.2.2 hS9))))); go_simp; try exact rfl)
              try simp only [Act.put, List.setIfInBounds_toArray, List.set_cons_zero, List.set_cons_succ]
              refine wpAnyH_takeL (i := 18) (v := ?vG18) rfl (by kernel_rfl) (by kernel_rfl) (by kernel_rfl) (fun _ _ _ h => h) (Or.inl ⟨by kernel_rfl, ?runG18⟩) hHeld ?_
              case runG18 => (intro w9 hS9; obtain ⟨c0, c1, c2, c3, c4⟩ := (And.intro (cell_keep HC.out.1 hS9) (And.intro (cell_keep HC.out.2.1 hS9) (And.intro (cell_keep HC.out.2.2.1 hS9) (And.intro (cell_keep HC.out.2.2.2.1 hS9) (cell_keep HC.out.2.2.2.2 hS9))))); obtain ⟨d0, d1, d2, d3, d4⟩ := (And.intro (cell_keep HD.out.1 hS9) (And.intro (cell_keep HD.out.2.1 hS9) (And.intro (cell_keep HD.out.2.2.1 hS9) (And.intro (cell_keep HD.out.2.2.2.1 hS9) (cell_keep HD.out.2.2.2.2 hS9))))); go_simp; try exact rfl)
              try simp only [Act.put, List.setIfInBounds_toArray, List.set_cons_zero, List.set_cons_succ]
              refine wpAnyH_takeL (i := 19) (v := ?vG19) rfl (by kernel_rfl) (by kernel_rfl) (by kernel_rfl) (fun _ _ _ h => h) (Or.inl ⟨by kernel_rfl, ?runG19⟩) hHeld ?_
              case runG19 => (intro w9 hS9; obtain ⟨c0, c1, c2, c3, c4⟩ := (And.intro (cell_keep HC.out.1 hS9) (And.intro (cell_keep HC.out.2.1 hS9) (And.intro (cell_keep HC.out.2.2.1 hS9) (And.intro (cell_keep HC.out.2.2.2.1 hS9) (cell_keep HC.out.2.2.2.2 hS9))))); obtain ⟨d0, d1, d2, d3, d4⟩ := (And.intro (cell_keep HD.out.1 hS9) (And.intro (cell_keep HD.out.2.1 hS9) (And.intro (cell_keep HD.out.2.2.1 hS9) (And.intro (cell_keep HD.out.2.2.2.1 hS9) (cell_keep HD.out.2.2.2.2 hS9))))); go_simp; try exact rfl)
              try simp only [Act.put, List.setIfInBounds_toArray, List.set_cons_zero, List.set_cons_succ]
              refine wpAnyH_takeL (i := 20) (v := ?vG20) rfl (by kernel_rfl) (by kernel_rfl) (by kernel_rfl) (fun _ _ _ h => h) (Or.inl ⟨by kernel_rfl, ?runG20⟩) hHeld ?_
              case runG20 => (intro w9 hS9; obtain ⟨c0, c1, c2, c3, c4⟩ := (And.intro (cell_keep HC.out.1 hS9) (And.intro (cell_keep HC.out.2.1 hS9) (And.intro (cell_keep HC.out.2.2.1 hS9) (And.intro (cell_keep HC.out.2.2.2.1 hS9) (cell_keep HC.out.2.2.2.2 hS9))))); obtain ⟨d0, d1, d2, d3, d4⟩ := (And.intro (cell_keep HD.out.1 hS9) (And.intro (cell_keep HD.out.2.1 hS9) (And.intro (cell_keep HD.out.2.2.1 hS9) (And.intro (cell_keep HD.out.2.2.2.1 hS9) (cell_keep HD.out.2.2.2.2 hS9))))); go_simp; try exact rfl)
              try simp only [Act.put, List.setIfInBounds_toArray, List.set_cons_zero, List.set_cons_succ]
              refine wpAnyH_takeL (i := 21) (v := ?vG21) rfl (by kernel_rfl) (by kernel_rfl) (by kernel_rfl) (fun _ _ _ h => h) (Or.inl ⟨by kernel_rfl, ?runG21⟩) hHeld ?_
              case runG21 => (intro w9 hS9; obtain ⟨c0, c1, c2, c3, c4⟩ := (And.intro (cell_keep HC.out.1 hS9) (And.intro (cell_keep HC.out.2.1 hS9) (And.intro (cell_keep HC.out.2.2.1 hS9) (And.intro (cell_keep HC.out.2.2.2.1 hS9) (cell_keep HC.out.2.2.2.2 hS9))))); obtain ⟨d0, d1, d2, d3, d4⟩ := (And.intro (cell_keep HD.out.1 hS9) (And.intro (cell_keep HD.out.2.1 hS9) (And.intro (cell_keep HD.out.2.2.1 hS9) (And.intro (cell_keep HD.out.2.2.2.1 hS9) (cell_keep HD.out.2.2.2.2 hS9))))); go_simp; try exact rfl)
              try simp only [Act.put, List.setIfInBounds_toArray, List.set_cons_zero, List.set_cons_succ]
              refine wpAnyH_takeL (i := 22) (v := .bool false) rfl (by kernel_rfl) (by kernel_rfl) (by kernel_rfl) (fun _ _ _ h => h) (Or.inl ⟨by kernel_rfl, ?runG22⟩) hHeld ?_
              case runG22 => (intro w9 hS9; obtain ⟨c0, c1, c2, c3, c4⟩ := (And.intro (cell_keep HC.out.1 hS9) (And.intro (cell_keep HC.out.2.1 hS9) (And.intro (cell_keep HC.out.2.2.1 hS9) (And.intro (cell_keep HC.out.2.2.2.1 hS9) (cell_keep HC.out.2.2.2.2 hS9))))); obtain ⟨d0, d1, d2, d3, d4⟩ := (And.intro (cell_keep HD.out.1 hS9) (And.intro (cell_keep HD.out.2.1 hS9) (And.intro (cell_keep HD.out.2.2.1 hS9) (And.intro (cell_keep HD.out.2.2.2.1 hS9) (cell_keep HD.out.2.2.2.2 hS9))))); go_simp; first | done | exact rfl | (simp [*]; done) | (simp; omega))
              try simp only [Act.put, List.setIfInBounds_toArray, List.set_cons_zero, List.set_cons_succ]
              refine wpAnyH_takeL (i := 23) (v := .bool false) rfl (by kernel_rfl) (by kernel_rfl) (by kernel_rfl) (fun _ _ _ h => h) (Or.inl ⟨by kernel_rfl, ?runG23⟩) hHeld ?_
              case runG23 => (intro w9 hS9; obtain ⟨c0, c1, c2, c3, c4⟩ := (And.intro (cell_keep HC.out.1 hS9) (And.intro (cell_keep HC.out.2.1 hS9) (And.intro (cell_keep HC.out.2.2.1 hS9) (And.intro (cell_keep HC.out.2.2.2.1 hS9) (cell_keep HC.out.2.2.2.2 hS9))))); obtain ⟨d0, d1, d2, d3, d4⟩ := (And.intro (cell_keep HD.out.1 hS9) (And.intro (cell_keep HD.out.2.1 hS9) (And.intro (cell_keep HD.out.2.2.1 hS9) (And.intro (cell_keep HD.out.2.2.2.1 hS9) (cell_keep HD.out.2.2.2.2 hS9))))); go_simp; first | done | exact rfl | (simp [*]; done) | (simp; omega))
              try simp only [Act.put, List.setIfInBounds_toArray, List.set_cons_zero, List.set_cons_succ]
              refine wpAnyH_takeL (i := 24) (v := ?vG24) rfl (by kernel_rfl) (by kernel_rfl) (by kernel_rfl) (fun _ _ _ h => h) (Or.inl ⟨by kernel_rfl, ?runG24⟩) hHeld ?_
              case runG24 => (intro w9 hS9; obtain ⟨c0, c1, c2, c3, c4⟩ := (And.intro (cell_keep HC.out.1 hS9) (And.intro (cell_keep HC.out.2.1 hS9) (And.intro (cell_keep HC.out.2.2.1 hS9) (And.intro (cell_keep HC.out.2.2.2.1 hS9) (cell_keep HC.out.2.2.2.2 hS9))))); obtain ⟨d0, d1, d2, d3, d4⟩ := (And.intro (cell_keep HD.out.1 hS9) (And.intro (cell_keep HD.out.2.1 hS9) (And.intro (cell_keep HD.out.2.2.1 hS9) (And.intro (cell_keep HD.out.2.2.2.1 hS9) (cell_keep HD.out.2.2.2.2 hS9))))); go_simp; try exact rfl)
              try simp only [Act.put, List.setIfInBounds_toArray, List.set_cons_zero, List.set_cons_succ]
              refine wpAnyH_takeL (i := 25) (v := ?vG25) rfl (by kernel_rfl) (by kernel_rfl) (by kernel_rfl) (fun _ _ _ h => h) (Or.inl ⟨by kernel_rfl, ?runG25⟩) hHeld ?_
              case runG25 => (intro w9 hS9; obtain ⟨c0, c1, c2, c3, c4⟩ := (And.intro (cell_keep HC.out.1 hS9) (And.intro (cell_keep HC.out.2.1 hS9) (And.intro (cell_keep HC.out.2.2.1 hS9) (And.intro (cell_keep HC.out.2.2.2.1 hS9) (cell_keep HC.out.2.2.2.2 hS9))))); obtain ⟨d0, d1, d2, d3, d4⟩ := (And.intro (cell_keep HD.out.1 hS9) (And.intro (cell_keep HD.out.2.1 hS9) (And.intro (cell_keep HD.out.2.2.1 hS9) (And.intro (cell_keep HD.out.2.2.2.1 hS9) (cell_keep HD.out.2.2.2.2 hS9))))); go_simp; try exact rfl)
              try simp only [Act.put, List.setIfInBounds_toArray, List.set_cons_zero, List.set_cons_succ]
              refine wpAnyH_takeL (i := 26) (v := ?vG26) rfl (by kernel_rfl) (by kernel_rfl) (by kernel_rfl) (fun _ _ _ h => h) (Or.inl ⟨by kernel_rfl, ?runG26⟩) hHeld ?_
              case runG26 => (intro w9 hS9; obtain ⟨c0, c1, c2, c3, c4⟩ := (And.intro (cell_keep HC.out.1 hS9) (And.intro (cell_keep HC.out.2.1 hS9) (And.intro (cell_keep HC.out.2.2.1 hS9) (And.intro (cell_keep HC.out.2.2.2.1 hS9) (cell_keep HC.out.2.2.2.2 hS9))))); obtain ⟨d0, d1, d2, d3, d4⟩ := (And.intro (cell_keep HD.out.1 hS9) (And.intro (cell_keep HD.out.2.1 hS9) (And.intro (cell_keep HD.out.2.2.1 hS9) (And.intro (cell_keep HD.out.2.2.2.1 hS9) (cell_keep HD.out.2.2.2.2 hS9))))); go_simp; try exact rfl)
              try simp only [Act.put, List.setIfInBounds_toArray, List.set_cons_zero, List.set_cons_succ]
              refine wpAnyH_takeL (i := 27) (v := ?vG27) rfl (by kernel_rfl) (by kernel_rfl) (by kernel_rfl) (fun _ _ _ h => h) (Or.inl ⟨by kernel_rfl, ?runG27⟩) hHeld ?_
              case runG27 => (intro w9 hS9; obtain ⟨c0, c1, c2, c3, c4⟩ := (And.intro (cell_keep HC.out.1 hS9) (And.intro (cell_keep HC.out.2.1 hS9) (And.intro (cell_keep HC.out.2.2.1 hS9) (And.intro (cell_keep HC.out.2.2.2.1 hS9) (cell_keep HC.out.2.2.2.2 hS9))))); obtain ⟨d0, d1, d2, d3, d4⟩ := (And.intro (cell_keep HD.out.1 hS9) (And.intro (cell_keep HD.out.2.1 hS9) (And.intro (cell_keep HD.out.2.2.1 hS9) (And.intro (cell_keep HD.out.2.2.2.1 hS9) (cell_keep HD.out.2.2.2.2 hS9))))); go_simp; try exact rfl)
              try simp only [Act.put, List.setIfInBounds_toArray, List.set_cons_zero, List.set_cons_succ]
              refine wpAnyH_takeL (i := 28) (v := ?vG28) rfl (by kernel_rfl) (by kernel_rfl) (by kernel_rfl) (fun _ _ _ h => h) (Or.inl ⟨by kernel_rfl, ?runG28⟩) hHeld ?_
              case runG28 => (intro w9 hS9; obtain ⟨c0, c1, c2, c3, c4⟩ := (And.intro (cell_keep HC.out.1 hS9) (And.intro (cell_keep HC.out.2.1 hS9) (And.intro (cell_keep HC.out.2.2.1 hS9) (And.intro (cell_keep HC.out.2.2.2.1 hS9) (cell_keep HC.out.2.2.2.2 hS9))))); obtain ⟨d0, d1, d2, d3, d4⟩ := (And.intro (cell_keep HD.out.1 hS9) (And.intro (cell_keep HD.out.2.1 hS9) (And.intro (cell_keep HD.out.2.2.1 hS9) (And.intro (cell_keep HD.out.2.2.2.1 hS9) (cell_keep HD.out.2.2.2.2 hS9))))); go_simp; try exact rfl)
              try simp only [Act.put, List.setIfInBounds_toArray, List.set_cons_zero, List.set_cons_succ]
              refine wpAnyH_takeL (i := 29) (v := ?vG29) rfl (by kernel_rfl) (by kernel_rfl) (by kernel_rfl) (fun _ _ _ h => h) (Or.inl ⟨by kernel_rfl, ?runG29⟩) hHeld ?_
              case runG29 => (intro w9 hS9; obtain ⟨c0, c1, c2, c3, c4⟩ := (And.intro (cell_keep HC.out.1 hS9) (And.intro (cell_keep HC.out.2.1 hS9) (And.intro (cell_keep HC.out.2.2.1 hS9) (And.intro (cell_keep HC.out.2.2.2.1 hS9) (cell_keep HC.out.2.2.2.2 hS9))))); obtain ⟨d0, d1, d2, d3, d4⟩ := (And.intro (cell_keep HD.out.1 hS9) (And.intro (cell_keep HD.out.2.1 hS9) (And.intro (cell_keep HD.out.2.2.1 hS9) (And.intro (cell_keep HD.out.2.2.2.1 hS9) (cell_keep HD.out.2.2.2.2 hS9))))); go_simp; try exact rfl)
              try simp only [Act.put, List.setIfInBounds_toArray, List.set_cons_zero, List.set_cons_succ]
              refine wpAnyH_takeL (i := 30) (v := ?vG30) rfl (by kernel_rfl) (by kernel_rfl) (by kernel_rfl) (fun _ _ _ h => h) (Or.inl ⟨by kernel_rfl, ?runG30⟩) hHeld ?_
              case runG30 => (intro w9 hS9; obtain ⟨c0, c1, c2, c3, c4⟩ := (And.intro (cell_keep HC.out.1 hS9) (And.intro (cell_keep HC.out.2.1 hS9) (And.intro (cell_keep HC.out.2.2.1 hS9) (And.intro (cell_keep HC.out.2.2.2.1 hS9) (cell_keep HC.out.2.2.2.2 hS9))))); obtain ⟨d0, d1, d2, d3, d4⟩ := (And.intro (cell_keep HD.out.1 hS9) (And.intro (cell_keep HD.out.2.1 hS9) (And.intro (cell_keep HD.out.2.2.1 hS9) (And.intro (cell_keep HD.out.2.2.2.1 hS9) (cell_keep HD.out.2.2.2.2 hS9))))); go_simp; try exact rfl)
              try simp only [Act.put, List.setIfInBounds_toArray, List.set_cons_zero, List.set_cons_succ]
              refine wpAnyH_takeL (i := 31) (v := ?vG31) rfl (by kernel_rfl) (by kernel_rfl) (by kernel_rfl) (fun _ _ _ h => h) (Or.inl ⟨by kernel_rfl, ?runG31⟩) hHeld ?_
              case runG31 => (intro w9 hS9; obtain ⟨c0, c1, c2, c3, c4⟩ := (And.intro (cell_keep HC.out.1 hS9) (And.intro (cell_keep HC.out.2.1 hS9) (And.intro (cell_keep HC.out.2.2.1 hS9) (And.intro (cell_keep HC.out.2.2.2.1 hS9) (cell_keep HC.out.2.2.2.2 hS9))))); obtain ⟨d0, d1, d2, d3, d4⟩ := (And.intro (cell_keep HD.out.1 hS9) (And.intro (cell_keep HD.out.2.1 hS9) (And.intro (cell_keep HD.out.2.2.1 hS9) (And.intro (cell_keep HD.out.2.2.2.1 hS9) (cell_keep HD.out.2.2.2.2 hS9))))); go_simp; try exact rfl)
              try simp only [Act.put, List.setIfInBounds_toArray, List.set_cons_zero, List.set_cons_succ]
              refine wpAnyH_takeL (i := 32) (v := ?vG32) rfl (by kernel_rfl) (by kernel_rfl) (by kernel_rfl) (fun _ _ _ h => h) (Or.inl ⟨by kernel_rfl, ?runG32⟩) hHeld ?_
              case runG32 => (intro w9 hS9; obtain ⟨c0, c1, c2, c3, c4⟩ := (And.intro (cell_keep HC.out.1 hS9) (And.intro (cell_keep HC.out.2.1 hS9) (And.intro (cell_keep HC.out.2.2.1 hS9) (And.intro (cell_keep HC.out.2.2.2.1 hS9) (cell_keep HC.out.2.2.2.2 hS9))))); obtain ⟨d0, d1, d2, d3, d4⟩ := (And.intro (cell_keep HD.out.1 hS9) (And.intro (cell_keep HD.out.2.1 hS9) (And.intro (cell_keep HD.out.2.2.1 hS9) (And.intro (cell_keep HD.out.2.2.2.1 hS9) (cell_keep HD.out.2.2.2.2 hS9))))); go_simp; try exact rfl)
              try simp only [Act.put, List.setIfInBounds_toArray, List.set_cons_zero, List.set_cons_succ]
              refine wpAnyH_takeL (i := 33) (v := ?vG33) rfl (by kernel_rfl) (by kernel_rfl) (by kernel_rfl) (fun _ _ _ h => h) (Or.inl ⟨by kernel_rfl, ?runG33⟩) hHeld ?_
              case runG33 => (intro w9 hS9; obtain ⟨c0, c1, c2, c3, c4⟩ := (And.intro (cell_keep HC.out.1 hS9) (And.intro (cell_keep HC.out.2.1 hS9) (And.intro (cell_keep HC.out.2.2.1 hS9) (And.intro (cell_keep HC.out.2.2.2.1 hS9) (cell_keep HC.out.2.2.2.2 hS9))))); obtain ⟨d0, d1, d2, d3, d4⟩ := (And.intro (cell_keep HD.out.1 hS9) (And.intro (cell_keep HD.out.2.1 hS9) (And.intro (cell_keep HD.out.2.2.1 hS9) (And.intro (cell_keep HD.out.2.2.2.1 hS9) (cell_keep HD.out.2.2.2.2 hS9))))); go_simp; try exact rfl)
              try simp only [Act.put, List.setIfInBounds_toArray, List.set_cons_zero, List.set_cons_succ]
              refine wpAnyH_takeL (i := 34) (v := ?vG34) rfl (by kernel_rfl) (by kernel_rfl) (by kernel_rfl) (fun _ _ _ h => h) (Or.inl ⟨by kernel_rfl, ?runG34⟩) hHeld ?_
              case runG34 => (intro w9 hS9; obtain ⟨c0, c1, c2, c3, c4⟩ := (And.intro (cell_keep HC.out.1 hS9) (And.intro (cell_keep HC.out.2.1 hS9) (And.intro (cell_keep HC.out.2.2.1 hS9) (And.intro (cell_keep HC.out.2.2.2.1 hS9) (cell_keep HC.out.2.2.2.2 hS9))))); obtain ⟨d0, d1, d2, d3, d4⟩ := (And.intro (cell_keep HD.out.1 hS9) (And.intro (cell_keep HD.out.2.1 hS9) (And.intro (cell_keep HD.out.2.2.1 hS9) (And.intro (cell_keep HD.out.2.2.2.1 hS9) (cell_keep HD.out.2.2.2.2 hS9))))); go_simp; try exact rfl)
              try simp only [Act.put, List.setIfInBounds_toArray, List.set_cons_zero, List.set_cons_succ]
              refine wpAnyH_takeL (i := 35) (v := .bool false) rfl (by kernel_rfl) (by kernel_rfl) (by kernel_rfl) (fun _ _ _ h => h) (Or.inl ⟨by kernel_rfl, ?runG35⟩) hHeld ?_
              case runG35 => (intro w9 hS9; obtain ⟨c0, c1, c2, c3, c4⟩ := (And.intro (cell_keep HC.out.1 hS9) (And.intro (cell_keep HC.out.2.1 hS9) (And.intro (cell_keep HC.out.2.2.1 hS9) (And.intro (cell_keep HC.out.2.2.2.1 hS9) (cell_keep HC.out.2.2.2.2 hS9))))); obtain ⟨d0, d1, d2, d3, d4⟩ := (And.intro (cell_keep HD.out.1 hS9) (And.intro (cell_keep HD.out.2.1 hS9) (And.intro (cell_keep HD.out.2.2.1 hS9) (And.intro (cell_keep HD.out.2.2.2.1 hS9) (cell_keep HD.out.2.2.2.2 hS9))))); go_simp; first | done | exact rfl | (simp [*]; done) | (simp; omega))
              try simp only [Act.put, List.setIfInBounds_toArray, List.set_cons_zero, List.set_cons_succ]
              refine wpAnyH_takeL (i := 36) (v := .bool false) rfl (by kernel_rfl) (by kernel_rfl) (by kernel_rfl) (fun _ _ _ h => h) (Or.inl ⟨by kernel_rfl, ?runG36⟩) hHeld ?_
              case runG36 => (intro w9 hS9; obtain ⟨c0, c1, c2, c3, c4⟩ := (And.intro (cell_keep HC.out.1 hS9) (And.intro (cell_keep HC.out.2.1 hS9) (And.intro (cell_keep HC.out.2.2.1 hS9) (And.intro (cell_keep HC.out.2.2.2.1 hS9) (cell_keep HC.out.2.2.2.2 hS9))))); obtain ⟨d0, d1, d2, d3, d4⟩ := (And.intro (cell_keep HD.out.1 hS9) (And.intro (cell_keep HD.out.2.1 hS9) (And.intro (cell_keep HD.out.2.2.1 hS9) (And.intro (cell_keep HD.out.2.2.2.1 hS9) (cell_keep HD.out.2.2.2.2 hS9))))); go_simp; first | done | exact rfl | (simp [*]; done) | (simp; omega))
              try simp only [Act.put, List.setIfInBounds_toArray, List.set_cons_zero, List.set_cons_succ]
              refine wpAnyH_takeL (i := 37) (v := ?vG37) rfl (by kernel_rfl) (by kernel_rfl) (by kernel_rfl) (fun _ _ _ h => h) (Or.inl ⟨by kernel_rfl, ?runG37⟩) hHeld ?_
              case runG37 => (intro w9 hS9; obtain ⟨c0, c1, c2, c3, c4⟩ := (And.intro (cell_keep HC.out.1 hS9) (And.intro (cell_keep HC.out.2.1 hS9) (And.intro (cell_keep HC.out.2.2.1 hS9) (And.intro (cell_keep HC.out.2.2.2.1 hS9) (cell_keep HC.out.2.2.2.2 hS9))))); obtain ⟨d0, d1, d2, d3, d4⟩ := (And.intro (cell_keep HD.out.1 hS9) (And.intro (cell_keep HD.out.2.1 hS9) (And.intro (cell_keep HD.out.2.2.1 hS9) (And.intro (cell_keep HD.out.2.2.2.1 hS9) (cell_keep HD.out.2.2.2.2 hS9))))); go_simp; try exact rfl)
              try simp only [Act.put, List.setIfInBounds_toArray, List.set_cons_zero, List.set_cons_succ]
              refine wpAnyH_takeL (i := 38) (v := ?vG38) rfl (by kernel_rfl) (by kernel_rfl) (by kernel_rfl) (fun _ _ _ h => h) (Or.inl ⟨by kernel_rfl, ?runG38⟩) hHeld ?_
              case runG38 => (intro w9 hS9; obtain ⟨c0, c1, c2, c3, c4⟩ := (And.intro (cell_keep HC.out.1 hS9) (And.intro (cell_keep HC.out.2.1 hS9) (And.intro (cell_keep HC.out.2.2.1 hS9) (And.intro (cell_keep HC.out.2.2.2.1 hS9) (cell_keep HC.out.2.2.2.2 hS9))))); obtain ⟨d0, d1, d2, d3, d4⟩ := (And.intro (cell_keep HD.out.1 hS9) (And.intro (cell_keep HD.out.2.1 hS9) (And.intro (cell_keep HD.out.2.2.1 hS9) (And.intro (cell_keep HD.out.2.2.2.1 hS9) (cell_keep HD.out.2.2.2.2 hS9))))); go_simp; try exact rfl)
              try simp only [Act.put, List.setIfInBounds_toArray, List.set_cons_zero, List.set_cons_succ]
              refine wpAnyH_takeL (i := 39) (v := ?vG39) rfl (by kernel_rfl) (by kernel_rfl) (by kernel_rfl) (fun _ _ _ h => h) (Or.inl ⟨by kernel_rfl, ?runG39⟩) hHeld ?_
              case runG39 => (intro w9 hS9; obtain ⟨c0, c1, c2, c3, c4⟩ := (And.intro (cell_keep HC.out.1 hS9) (And.intro (cell_keep HC.out.2.1 hS9) (And.intro (cell_keep HC.out.2.2.1 hS9) (And.intro (cell_keep HC.out.2.2.2.1 hS9) (cell_keep HC.out.2.2.2.2 hS9))))); obtain ⟨d0, d1, d2, d3, d4⟩ := (And.intro (cell_keep HD.out.1 hS9) (And.intro (cell_keep HD.out.2.1 hS9) (And.intro (cell_keep HD.out.2.2.1 hS9) (And.intro (cell_keep HD.out.2.2.2.1 hS9) (cell_keep HD.out.2.2.2.2 hS9))))); go_simp; try exact rfl)
              try simp only [Act.put, List.setIfInBounds_toArray, List.set_cons_zero, List.set_cons_succ]
              refine wpAnyH_takeL (i := 40) (v := ?vG40) rfl (by kernel_rfl) (by kernel_rfl) (by kernel_rfl) (fun _ _ _ h => h) (Or.inl ⟨by kernel_rfl, ?runG40⟩) hHeld ?_
              case runG40 => (intro w9 hS9; obtain ⟨c0, c1, c2, c3, c4⟩ := (And.intro (cell_keep HC.out.1 hS9) (And.intro (cell_keep HC.out.2.1 hS9) (And.intro (cell_keep HC.out.2.2.1 hS9) (And.intro (cell_keep HC.out.2.2.2.1 hS9) (cell_keep HC.out.2.2.2.2 hS9))))); obtain ⟨d0, d1, d2, d3, d4⟩ := (And.intro (cell_keep HD.out.1 hS9) (And.intro (cell_keep HD.out.2.1 hS9) (And.intro (cell_keep HD.out.2.2.1 hS9) (And.intro (cell_keep HD.out.2.2.2.1 hS9) (cell_keep HD.out.2.2.2.2 hS9))))); go_simp; try exact rfl)
              try simp only [Act.put, List.setIfInBounds_toArray, List.set_cons_zero, List.set_cons_succ]
              refine wpAnyH_takeL (i := 41) (v := ?vG41) rfl (by kernel_rfl) (by kernel_rfl) (by kernel_rfl) (fun _ _ _ h => h) (Or.inl ⟨by kernel_rfl, ?runG41⟩) hHeld ?_
              case runG41 => (intro w9 hS9; obtain ⟨c0, c1, c2, c3, c4⟩ := (And.intro (cell_keep HC.out.1 hS9) (And.intro (cell_keep HC.out.2.1 hS9) (And.intro (cell_keep HC.out.2.2.1 hS9) (And.intro (cell_keep HC.out.2.2.2.1 hS9) (cell_keep HC.out.2.2.2.2 hS9))))); obtain ⟨d0, d1, d2, d3, d4⟩ := (And.intro (cell_keep HD.out.1 hS9) (And.intro (cell_keep HD.out.2.1 hS9) (And.intro (cell_keep HD.out.2.2.1 hS9) (And.intro (cell_keep HD.out.2.2.2.1 hS9) (cell_keep HD.out.2.2.2.2 hS9))))); go_simp; try exact rfl)
              try simp only [Act.put, List.setIfInBounds_toArray, List.set_cons_zero, List.set_cons_succ]
              refine wpAnyH_takeL (i := 42) (v := ?vG42) rfl (by kernel_rfl) (by kernel_rfl) (by kernel_rfl) (fun _ _ _ h => h) (Or.inl ⟨by kernel_rfl, ?runG42⟩) hHeld ?_
              case runG42 => (intro w9 hS9; obtain ⟨c0, c1, c2, c3, c4⟩ := (And.intro (cell_keep HC.out.1 hS9) (And.intro (cell_keep HC.out.2.1 hS9) (And.intro (cell_keep HC.out.2.2.1 hS9) (And.intro (cell_keep HC.out.2.2.2.1 hS9) (cell_keep HC.out.2.2.2.2 hS9))))); obtain ⟨d0, d1, d2, d3, d4⟩ := (And.intro (cell_keep HD.out.1 hS9) (And.intro (cell_keep HD.out.2.1 hS9) (And.intro (cell_keep HD.out.2.2.1 hS9) (And.intro (cell_keep HD.out.2.2.2.1 hS9) (cell_keep HD.out.2.2.2.2 hS9))))); go_simp; try exact rfl)
              try simp only [Act.put, List.setIfInBounds_toArray, List.set_cons_zero, List.set_cons_succ]
              refine wpAnyH_takeL (i := 43) (v := ?vG43) rfl (by kernel_rfl) (by kernel_rfl) (by kernel_rfl) (fun _ _ _ h => h) (Or.inl ⟨by kernel_rfl, ?runG43⟩) hHeld ?_
              case runG43 => (intro w9 hS9; obtain ⟨c0, c1, c2, c3, c4⟩ := (And.intro (cell_keep HC.out.1 hS9) (And.intro (cell_keep HC.out.2.1 hS9) (And.intro (cell_keep HC.out.2.2.1 hS9) (And.intro (cell_keep HC.out.2.2.2.1 hS9) (cell_keep HC.out.2.2.2.2 hS9))))); obtain ⟨d0, d1, d2, d3, d4⟩ := (And.intro (cell_keep HD.out.1 hS9) (And.intro (cell_keep HD.out.2.1 hS9) (And.intro (cell_keep HD.out.2.2.1 hS9) (And.intro (cell_keep HD.out.2.2.2.1 hS9) (cell_keep HD.out.2.2.2.2 hS9))))); go_simp; try exact rfl)
              try simp only [Act.put, List.setIfInBounds_toArray, List.set_cons_zero, List.set_cons_succ]
              refine wpAnyH_takeL (i := 44) (v := ?vG44) rfl (by kernel_rfl) (by kernel_rfl) (by kernel_rfl) (fun _ _ _ h => h) (Or.inl ⟨by kernel_rfl, ?runG44⟩) hHeld ?_
              case runG44 => (intro w9 hS9; obtain ⟨c0, c1, c2, c3, c4⟩ := (And.intro (cell_keep HC.out.1 hS9) (And.intro (cell_keep HC.out.2.1 hS9) (And.intro (cell_keep HC.out.2.2.1 hS9) (And.intro (cell_keep HC.out.2.2.2.1 hS9) (cell_keep HC.out.2.2.2.2 hS9))))); obtain ⟨d0, d1, d2, d3, d4⟩ := (And.intro (cell_keep HD.out.1 hS9) (And.intro (cell_keep HD.out.2.1 hS9) (And.intro (cell_keep HD.out.2.2.1 hS9) (And.intro (cell_keep HD.out.2.2.2.1 hS9) (cell_keep HD.out.2.2.2.2 hS9))))); go_simp; try exact rfl)
              try simp only [Act.put, List.setIfInBounds_toArray, List.set_cons_zero, List.set_cons_succ]
              refine wpAnyH_takeL (i := 45) (v := ?vG45) rfl (by kernel_rfl) (by kernel_rfl) (by kernel_rfl) (fun _ _ _ h => h) (Or.inl ⟨by kernel_rfl, ?runG45⟩) hHeld ?_
              case runG45 => (intro w9 hS9; obtain ⟨c0, c1, c2, c3, c4⟩ := (And.intro (cell_keep HC.out.1 hS9) (And.intro (cell_keep HC.out.2.1 hS9) (And.intro (cell_keep HC.out.2.2.1 hS9) (And.intro (cell_keep HC.out.2.2.2.1 hS9) (cell_keep HC.out.2.2.2.2 hS9))))); obtain ⟨d0, d1, d2, d3, d4⟩ := (And.intro (cell_keep HD.out.1 hS9) (And.intro (cell_keep HD.out.2.1 hS9) (And.intro (cell_keep HD.out.2.2.1 hS9) (And.intro (cell_keep HD.out.2.2.2.1 hS9) (cell_keep HD.out.2.2.2.2 hS9))))); go_simp; try exact rfl)
              try simp only [Act.put, List.setIfInBounds_toArray, List.set_cons_zero, List.set_cons_succ]
              refine wpAnyH_takeL (i := 46) (v := ?vG46) rfl (by kernel_rfl) (by kernel_rfl) (by kernel_rfl) (fun _ _ _ h => h) (Or.inl ⟨by kernel_rfl, ?runG46⟩) hHeld ?_
              case runG46 => (intro w9 hS9; obtain ⟨c0, c1, c2, c3, c4⟩ := (And.intro (cell_keep HC.out.1 hS9) (And.intro (cell_keep HC.out.2.1 hS9) (And.intro (cell_keep HC.out.2.2.1 hS9) (And.intro (cell_keep HC.out.2.2.2.1 hS9) (cell_keep HC.out.2.2.2.2 hS9))))); obtain ⟨d0, d1, d2, d3, d4⟩ := (And.intro (cell_keep HD.out.1 hS9) (And.intro (cell_keep HD.out.2.1 hS9) (And.intro (cell_keep HD.out.2.2.1 hS9) (And.intro (cell_keep HD.out.2.2.2.1 hS9) (cell_keep HD.out.2.2.2.2 hS9))))); go_simp; try exact rfl)
              try simp only [Act.put, List.setIfInBounds_toArray, List.set_cons_zero, List.set_cons_succ]
              refine wpAnyH_takeL (i := 47) (v := ?vG47) rfl (by kernel_rfl) (by kernel_rfl) (by kernel_rfl) (fun _ _ _ h => h) (Or.inl ⟨by kernel_rfl, ?runG47⟩) hHeld ?_
              case runG47 => (intro w9 hS9; obtain ⟨c0, c1, c2, c3, c4⟩ := (And.intro (cell_keep HC.out.1 hS9) (And.intro (cell_keep HC.out.2.1 hS9) (And.intro (cell_keep HC.out.2.2.1 hS9) (And.intro (cell_keep HC.out.2.2.2.1 hS9) (cell_keep HC.out.2.2.2.2 hS9))))); obtain ⟨d0, d1, d2, d3, d4⟩ := (And.intro (cell_keep HD.out.1 hS9) (And.intro (cell_keep HD.out.2.1 hS9) (And.intro (cell_keep HD.out.2.2.1 hS9) (And.intro (cell_keep HD.out.2.2.2.1 hS9) (cell_keep HD.out.2.2.2.2 hS9))))); go_simp; try exact rfl)
              try simp only [Act.put, List.setIfInBounds_toArray, List.set_cons_zero, List.set_cons_succ]
              refine wpAnyH_takeL (i := 48) (v := .int .i64 en) rfl (by kernel_rfl) (by kernel_rfl) (by kernel_rfl) (fun _ _ _ h => h) (Or.inl ⟨by kernel_rfl, ?runG48⟩) hHeld ?_
              case runG48 => (intro w9 hS9; obtain ⟨c0, c1, c2, c3, c4⟩ := (And.intro (cell_keep HC.out.1 hS9) (And.intro (cell_keep HC.out.2.1 hS9) (And.intro (cell_keep HC.out.2.2.1 hS9) (And.intro (cell_keep HC.out.2.2.2.1 hS9) (cell_keep HC.out.2.2.2.2 hS9))))); obtain ⟨d0, d1, d2, d3, d4⟩ := (And.intro (cell_keep HD.out.1 hS9) (And.intro (cell_keep HD.out.2.1 hS9) (And.intro (cell_keep HD.out.2.2.1 hS9) (And.intro (cell_keep HD.out.2.2.2.1 hS9) (cell_keep HD.out.2.2.2.2 hS9))))); go_simp; first | done | exact hq1 | exact hq2)
              try simp only [Act.put, List.setIfInBounds_toArray, List.set_cons_zero, List.set_cons_succ]
              refine wpAnyH_takeL (i := 49) (v := ?vG49) rfl (by kernel_rfl) (by kernel_rfl) (by kernel_rfl) (fun _ _ _ h => h) (Or.inl ⟨by kernel_rfl, ?runG49⟩) hHeld ?_
              case runG49 => (intro w9 hS9; obtain ⟨c0, c1, c2, c3, c4⟩ := (And.intro (cell_keep HC.out.1 hS9) (And.intro (cell_keep HC.out.2.1 hS9) (And.intro (cell_keep HC.out.2.2.1 hS9) (And.intro (cell_keep HC.out.2.2.2.1 hS9) (cell_keep HC.out.2.2.2.2 hS9))))); obtain ⟨d0, d1, d2, d3, d4⟩ := (And.intro (cell_keep HD.out.1 hS9) (And.intro (cell_keep HD.out.2.1 hS9) (And.intro (cell_keep HD.out.2.2.1 hS9) (And.intro (cell_keep HD.out.2.2.2.1 hS9) (cell_keep HD.out.2.2.2.2 hS9))))); go_simp; try exact rfl)
              try simp only [Act.put, List.setIfInBounds_toArray, List.set_cons_zero, List.set_cons_succ]
              refine wpAnyH_takeL (i := 50) (v := ?vG50) rfl (by kernel_rfl) (by kernel_rfl) (by kernel_rfl) (fun _ _ _ h => h) (Or.inl ⟨by kernel_rfl, ?runG50⟩) hHeld ?_
              case runG50 => (intro w9 hS9; obtain ⟨c0, c1, c2, c3, c4⟩ := (And.intro (cell_keep HC.out.1 hS9) (And.intro (cell_keep HC.out.2.1 hS9) (And.intro (cell_keep HC.out.2.2.1 hS9) (And.intro (cell_keep HC.out.2.2.2.1 hS9) (cell_keep HC.out.2.2.2.2 hS9))))); obtain ⟨d0, d1, d2, d3, d4⟩ := (And.intro (cell_keep HD.out.1 hS9) (And.intro (cell_keep HD.out.2.1 hS9) (And.intro (cell_keep HD.out.2.2.1 hS9) (And.intro (cell_keep HD.out.2.2.2.1 hS9) (cell_keep HD.out.2.2.2.2 hS9))))); go_simp; try exact rfl)
              try simp only [Act.put, List.setIfInBounds_toArray, List.set_cons_zero, List.set_cons_succ]
              refine wpAnyH_takeL (i := 51) (v := ?vG51) rfl (by kernel_rfl) (by kernel_rfl) (by kernel_rfl) (fun _ _ _ h => h) (Or.inl ⟨by kernel_rfl, ?runG51⟩) hHeld ?_
              case runG51 => (intro w9 hS9; obtain ⟨c0, c1, c2, c3, c4⟩ := (And.intro (cell_keep HC.out.1 hS9) (And.intro (cell_keep HC.out.2.1 hS9) (And.intro (cell_keep HC.out.2.2.1 hS9) (And.intro (cell_keep HC.out.2.2.2.1 hS9) (cell_keep HC.out.2.2.2.2 hS9))))); obtain ⟨d0, d1, d2, d3, d4⟩ := (And.intro (cell_keep HD.out.1 hS9) (And.intro (cell_keep HD.out.2.1 hS9) (And.intro (cell_keep HD.out.2.2.1 hS9) (And.intro (cell_keep HD.out.2.2.2.1 hS9) (cell_keep HD.out.2.2.2.2 hS9))))); go_simp; try exact rfl)
              try simp only [Act.put, List.setIfInBounds_toArray, List.set_cons_zero, List.set_cons_succ]
              refine wpAnyH_takeL (i := 52) (v := ?vG52) rfl (by kernel_rfl) (by kernel_rfl) (by kernel_rfl) (fun _ _ _ h => h) (Or.inl ⟨by kernel_rfl, ?runG52⟩) hHeld ?_
              case runG52 => (intro w9 hS9; obtain ⟨c0, c1, c2, c3, c4⟩ := (And.intro (cell_keep HC.out.1 hS9) (And.intro (cell_keep HC.out.2.1 hS9) (And.intro (cell_keep HC.out.2.2.1 hS9) (And.intro (cell_keep HC.out.2.2.2.1 hS9) (cell_keep HC.out.2.2.2.2 hS9))))); obtain ⟨d0, d1, d2, d3, d4⟩ := (And.intro (cell_keep HD.out.1 hS9) (And.intro (cell_keep HD.out.2.1 hS9) (And.intro (cell_keep HD.out.2.2.1 hS9) (And.intro (cell_keep HD.out.2.2.2.1 hS9) (cell_keep HD.out.2.2.2.2 hS9))))); go_simp; try exact rfl)
              try simp only [Act.put, List.setIfInBounds_toArray, List.set_cons_zero, List.set_cons_succ]
              refine wpAnyH_takeL (i := 53) (v := ?vG53) rfl (by kernel_rfl) (by kernel_rfl) (by kernel_rfl) (fun _ _ _ h => h) (Or.inl ⟨by kernel_rfl, ?runG53⟩) hHeld ?_
              case runG53 => (intro w9 hS9; obtain ⟨c0, c1, c2, c3, c4⟩ := (And.intro (cell_keep HC.out.1 hS9) (And.intro (cell_keep HC.out.2.1 hS9) (And.intro (cell_keep HC.out.2.2.1 hS9) (And.intro (cell_keep HC.out.2.2.2.1 hS9) (cell_keep HC.out.2.2.2.2 hS9))))); obtain ⟨d0, d1, d2, d3, d4⟩ := (And.intro (cell_keep HD.out.1 hS9) (And.intro (cell_keep HD.out.2.1 hS9) (And.intro (cell_keep HD.out.2.2.1 hS9) (And.intro (cell_keep HD.out.2.2.2.1 hS9) (cell_keep HD.out.2.2.2.2 hS9))))); go_simp; try exact rfl)
              try simp only [Act.put, List.setIfInBounds_toArray, List.set_cons_zero, List.set_cons_succ]
              refine wpAnyH_takeL (i := 54) (v := ?vG54) rfl (by kernel_rfl) (by kernel_rfl) (by kernel_rfl) (fun _ _ _ h => h) (Or.inl ⟨by kernel_rfl, ?runG54⟩) hHeld ?_
              case runG54 => (intro w9 hS9; obtain ⟨c0, c1, c2, c3, c4⟩ := (And.intro (cell_keep HC.out.1 hS9) (And.intro (cell_keep HC.out.2.1 hS9) (And.intro (cell_keep HC.out.2.2.1 hS9) (And.intro (cell_keep HC.out.2.2.2.1 hS9) (cell_keep HC.out.2.2.2.2 hS9))))); obtain ⟨d0, d1, d2, d3, d4⟩ := (And.intro (cell_keep HD.out.1 hS9) (And.intro (cell_keep HD.out.2.1 hS9) (And.intro (cell_keep HD.out.2.2.1 hS9) (And.intro (cell_keep HD.out.2.2.2.1 hS9) (cell_keep HD.out.2.2.2.2 hS9))))); go_simp; try exact rfl)
              try simp only [Act.put, List.setIfInBounds_toArray, List.set_cons_zero, List.set_cons_succ]
              refine wpAnyH_takeL (i := 55) (v := ?vG55) rfl (by kernel_rfl) (by kernel_rfl) (by kernel_rfl) (fun _ _ _ h => h) (Or.inl ⟨by kernel_rfl, ?runG55⟩) hHeld ?_
              case runG55 => (intro w9 hS9; obtain ⟨c0, c1, c2, c3, c4⟩ := (And.intro (cell_keep HC.out.1 hS9) (And.intro (cell_keep HC.out.2.1 hS9) (And.intro (cell_keep HC.out.2.2.1 hS9) (And.intro (cell_keep HC.out.2.2.2.1 hS9) (cell_keep HC.out.2.2.2.2 hS9))))); obtain ⟨d0, d1, d2, d3, d4⟩ := (And.intro (cell_keep HD.out.1 hS9) (And.intro (cell_keep HD.out.2.1 hS9) (And.intro (cell_keep HD.out.2.2.1 hS9) (And.intro (cell_keep HD.out.2.2.2.1 hS9) (cell_keep HD.out.2.2.2.2 hS9))))); go_simp; try exact rfl)
              try simp only [Act.put, List.setIfInBounds_toArray, List.set_cons_zero, List.set_cons_succ]
              refine wpAnyH_takeL (i := 56) (v := ?vG56) rfl (by kernel_rfl) (by kernel_rfl) (by kernel_rfl) (fun _ _ _ h => h) (Or.inl ⟨by kernel_rfl, ?runG56⟩) hHeld ?_
              case runG56 => (intro w9 hS9; obtain ⟨c0, c1, c2, c3, c4⟩ := (And.intro (cell_keep HC.out.1 hS9) (And.intro (cell_keep HC.out.2.1 hS9) (And.intro (cell_keep HC.out.2.2.1 hS9) (And.intro (cell_keep HC.out.2.2.2.1 hS9) (cell_keep HC.out.2.2.2.2 hS9))))); obtain ⟨d0, d1, d2, d3, d4⟩ := (And.intro (cell_keep HD.out.1 hS9) (And.intro (cell_keep HD.out.2.1 hS9) (And.intro (cell_keep HD.out.2.2.1 hS9) (And.intro (cell_keep HD.out.2.2.2.1 hS9) (cell_keep HD.out.2.2.2.2 hS9))))); go_simp; try exact rfl)
              try simp only [Act.put, List.setIfInBounds_toArray, List.set_cons_zero, List.set_cons_succ]
              refine wpAnyH_takeL (i := 57) (v := ?vG57) rfl (by kernel_rfl) (by kernel_rfl) (by kernel_rfl) (fun _ _ _ h => h) (Or.inl ⟨by kernel_rfl, ?runG57⟩) hHeld ?_
              case runG57 => (intro w9 hS9; obtain ⟨c0, c1, c2, c3, c4⟩ := (And.intro (cell_keep HC.out.1 hS9) (And.intro (cell_keep HC.out.2.1 hS9) (And.intro (cell_keep HC.out.2.2.1 hS9) (And.intro (cell_keep HC.out.2.2.2.1 hS9) (cell_keep HC.out.2.2.2.2 hS9))))); obtain ⟨d0, d1, d2, d3, d4⟩ := (And.intro (cell_keep HD.out.1 hS9) (And.intro (cell_keep HD.out.2.1 hS9) (And.intro (cell_keep HD.out.2.2.1 hS9) (And.intro (cell_keep HD.out.2.2.2.1 hS9) (cell_keep HD.out.2.2.2.2 hS9))))); go_simp; try exact rfl)
              try simp only [Act.put, List.setIfInBounds_toArray, List.set_cons_zero, List.set_cons_succ]
              refine wpAnyH_takeL (i := 58) (v := ?vG58) rfl (by kernel_rfl) (by kernel_rfl) (by kernel_rfl) (fun _ _ _ h => h) (Or.inl ⟨by kernel_rfl, ?runG58⟩) hHeld ?_
              case runG58 => (intro w9 hS9; obtain ⟨c0, c1, c2, c3, c4⟩ := (And.intro (cell_keep HC.out.1 hS9) (And.intro (cell_keep HC.out.2.1 hS9) (And.intro (cell_keep HC.out.2.2.1 hS9) (And.intro (cell_keep HC.out.2.2.2.1 hS9) (cell_keep HC.out.2.2.2.2 hS9))))); obtain ⟨d0, d1, d2, d3, d4⟩ := (And.intro (cell_keep HD.out.1 hS9) (And.intro (cell_keep HD.out.2.1 hS9) (And.intro (cell_keep HD.out.2.2.1 hS9) (And.intro (cell_keep HD.out.2.2.2.1 hS9) (cell_keep HD.out.2.2.2.2 hS9))))); go_simp; try exact rfl)
              try simp only [Act.put, List.setIfInBounds_toArray, List.set_cons_zero, List.set_cons_succ]
              refine wpAnyH_takeL (i := 59) (v := .int .i64 en) rfl (by kernel_rfl) (by kernel_rfl) (by kernel_rfl) (fun _ _ _ h => h) (Or.inl ⟨by kernel_rfl, ?runG59⟩) hHeld ?_
              case runG59 => (intro w9 hS9; obtain ⟨c0, c1, c2, c3, c4⟩ := (And.intro (cell_keep HC.out.1 hS9) (And.intro (cell_keep HC.out.2.1 hS9) (And.intro (cell_keep HC.out.2.2.1 hS9) (And.intro (cell_keep HC.out.2.2.2.1 hS9) (cell_keep HC.out.2.2.2.2 hS9))))); obtain ⟨d0, d1, d2, d3, d4⟩ := (And.intro (cell_keep HD.out.1 hS9) (And.intro (cell_keep HD.out.2.1 hS9) (And.intro (cell_keep HD.out.2.2.1 hS9) (And.intro (cell_keep HD.out.2.2.2.1 hS9) (cell_keep HD.out.2.2.2.2 hS9))))); go_simp; first | done | exact hq1 | exact hq2)
              try simp only [Act.put, List.setIfInBounds_toArray, List.set_cons_zero, List.set_cons_succ]
              refine wpAnyH_takeL (i := 60) (v := .bool false) rfl (by kernel_rfl) (by kernel_rfl) (by kernel_rfl) (fun _ _ _ h => h) (Or.inl ⟨by kernel_rfl, ?runG60⟩) hHeld ?_
              case runG60 => (intro w9 hS9; obtain ⟨c0, c1, c2, c3, c4⟩ := (And.intro (cell_keep HC.out.1 hS9) (And.intro (cell_keep HC.out.2.1 hS9) (And.intro (cell_keep HC.out.2.2.1 hS9) (And.intro (cell_keep HC.out.2.2.2.1 hS9) (cell_keep HC.out.2.2.2.2 hS9))))); obtain ⟨d0, d1, d2, d3, d4⟩ := (And.intro (cell_keep HD.out.1 hS9) (And.intro (cell_keep HD.out.2.1 hS9) (And.intro (cell_keep HD.out.2.2.1 hS9) (And.intro (cell_keep HD.out.2.2.2.1 hS9) (cell_keep HD.out.2.2.2.2 hS9))))); go_simp; first | done | exact rfl | (simp [*]; done) | (simp; omega))
              try simp only [Act.put, List.setIfInBounds_toArray, List.set_cons_zero, List.set_cons_succ]
              refine wpAnyH_takeL (i := 61) (v := .bool false) rfl (by kernel_rfl) (by kernel_rfl) (by kernel_rfl) (fun _ _ _ h => h) (Or.inl ⟨by kernel_rfl, ?runG61⟩) hHeld ?_
              case runG61 => (intro w9 hS9; obtain ⟨c0, c1, c2, c3, c4⟩ := (And.intro (cell_keep HC.out.1 hS9) (And.intro (cell_keep HC.out.2.1 hS9) (And.intro (cell_keep HC.out.2.2.1 hS9) (And.intro (cell_keep HC.out.2.2.2.1 hS9) (cell_keep HC.out.2.2.2.2 hS9))))); obtain ⟨d0, d1, d2, d3, d4⟩ := (And.intro (cell_keep HD.out.1 hS9) (And.intro (cell_keep HD.out.2.1 hS9) (And.intro (cell_keep HD.out.2.2.1 hS9) (And.intro (cell_keep HD.out.2.2.2.1 hS9) (cell_keep HD.out.2.2.2.2 hS9))))); go_simp; first | done | exact rfl | (simp [*]; done) | (simp; omega))
              try simp only [Act.put, List.setIfInBounds_toArray, List.set_cons_zero, List.set_cons_succ]
              refine wpAnyH_done (by kernel_rfl) ?_ _
              clear hHeld
              go_wp2_with fail
              go_roundw
              case rel => exact ⟨k + 1, by omega, by go_num, HKX.out.drew⟩
              case measure => simp [intOf]; omega
            · obtain rfl : k = ts.length := by omega
              have i1 : ¬ (ts.length : Int) < (ts.length : Int) := by omega
              have hlv := q_live (HE5.out.keep HKX.out)
              have HLV := Lib.hid hlv
              clear hlv
              go_wp2_with fail
              refine HLV.out.mono ?_
              rintro e wl ⟨rfl, hkl⟩
              go_wp2_with fail
              go_ret
              exact ⟨rfl, (HK5.out.trans HKX.out (by simp)).trans hkl (by simp)⟩
end Go.Proofs.YtiiklakfelbjfaaDoor
