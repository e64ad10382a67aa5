/- Scanning: ScanBack, the walk. Printed by gen-sc15.py. -/
import Derived.Test.YtiiklakfelbjfaaDoorSc14
namespace Go.Proofs.YtiiklakfelbjfaaDoor
open Go.RowKit Go.Emb

theorem cell_keepB {w w' : World} {p : Addr} {v : Value} (h : w.cell? p = some v) (k : Keep [] w w') : w'.cell? p = some v := by
  rw [k.cell (World.block_lt_of_cell? _ _ h) (by simp)]; exact h
theorem placedB_at {z : Nat} : ∀ (ts : List (Tk × Nat)) (a : Nat), Placed z a ts → ∀ {k : Nat} (hk : k < ts.length), a ≤ ts[k].2 ∧ 1 ≤ ts[k].1.en ∧ ts[k].2 + ts[k].1.en ≤ z
  | (t, p) :: ts, a, h, 0, _ => ⟨h.1, h.2.1, h.2.2.1⟩
  | (t, p) :: ts, a, h, k + 1, hk => by
    have := placedB_at ts _ h.2.2.2 (k := k) (by simpa using hk)
    simp only [List.getElem_cons_succ]
    have := h.1
    omega
theorem placedB_next {z : Nat} : ∀ (ts : List (Tk × Nat)) (a : Nat), Placed z a ts → ∀ {k : Nat} (hk : k + 1 < ts.length), ts[k].2 + ts[k].1.en ≤ ts[k + 1].2
  | (t, p) :: ts, a, h, 0, hk => by
    have := placedB_at ts _ h.2.2.2 (k := 0) (by simpa using hk)
    simp only [List.getElem_cons_zero, List.getElem_cons_succ]
    omega
  | (t, p) :: ts, a, h, k + 1, hk => by
    have := placedB_next ts _ h.2.2.2 (k := k) (by simpa using hk)
    simpa using this
theorem placedB_prev {z a : Nat} {ts : List (Tk × Nat)} (h : Placed z a ts) {k : Nat} (hk : k < ts.length) (h1 : 1 ≤ k) (hk' : k - 1 < ts.length) : ts[k - 1].2 + ts[k - 1].1.en ≤ ts[k].2 := by
  obtain ⟨j, rfl⟩ : ∃ j, k = j + 1 := ⟨k - 1, by omega⟩
  exact placedB_next ts a h hk
theorem placedB_len {z : Nat} : ∀ (ts : List (Tk × Nat)) (a : Nat), Placed z a ts → a ≤ z → ts.length + a ≤ z
  | [], a, _, h => by simpa using h
  | (t, p) :: ts, a, h, _ => by
    have := placedB_len ts _ h.2.2.2 h.2.2.1
    have h1 := h.1
    have h2 := h.2.1
    simp only [List.length_cons]
    omega
theorem tok_bounds {t : Tk} (h : TokOk t) : (-9223372036854775808 ≤ t.num ∧ t.num ≤ 9223372036854775807) ∧ t.text.length ≤ 255 ∧ (printTk t).length ≤ 1100 := by
  obtain ⟨kind, num, text, en⟩ := t
  unfold TokOk at h
  unfold printTk
  simp only at h ⊢
  rcases h with ⟨rfl, rfl, n, rfl, hn⟩ | ⟨rfl, ⟨rfl, h1, h2⟩ | ⟨rfl, h1, h2, c, r, rfl, hg⟩ | ⟨rfl, hw⟩ | ⟨rfl, ⟨c, rfl, hc⟩ | ⟨c, d, rfl, hc⟩⟩⟩
  · refine ⟨by omega, by simp, ?_⟩
    rw [if_pos rfl]
    have hi : Lib.itoa (n : Int) = Lib.decDigits n := by unfold Lib.itoa; rw [if_neg (by omega)]; simp
    rw [hi]
    have := decDigits_le 20 n (by omega) (by omega)
    omega
  · refine ⟨by omega, h2, ?_⟩
    rw [if_neg (by decide), if_pos rfl]
    unfold nameL
    split
    · omega
    · unfold quoteL
      have := flatEsc_le text
      simp only [List.length_cons, List.length_append, List.length_nil]
      omega
  · exact ⟨by omega, h1, by rw [if_neg (by decide), if_neg (by decide)]; omega⟩
  · have hall : ∀ s ∈ wordsS, s.length ≤ 255 := by decide
    have := hall text (List.contains_iff_mem.1 hw)
    exact ⟨by omega, this, by rw [if_neg (by decide), if_neg (by decide)]; omega⟩
  · exact ⟨by omega, by simp, by rw [if_neg (by decide), if_neg (by decide)]; simp⟩
  · exact ⟨by omega, by simp, by rw [if_neg (by decide), if_neg (by decide)]; simp⟩
theorem joinS_len (b : Nat) : ∀ xs : List (List UInt8), (∀ x ∈ xs, x.length ≤ b) → (joinS xs).length ≤ xs.length * (b + 1)
  | [], _ => by simp [joinS]
  | [x], h => by have := h x (by simp); simp only [joinS, List.length_cons, List.length_nil]; omega
  | x :: y :: r, h => by
    have h1 := joinS_len b (y :: r) (fun z hz => h z (List.mem_cons_of_mem _ hz))
    have h2 := h x (by simp)
    simp only [joinS, List.length_append, List.length_cons] at h1 ⊢
    have e : (r.length + 1 + 1) * (b + 1) = (r.length + 1) * (b + 1) + (b + 1) := by rw [Nat.add_mul _ 1]; omega
    omega
/-- scan.Print at tokens that Scan makes -/
theorem p_sprintT {w : World} {B : Nat} {v : Value} {ts : List (Tk × Nat)} (ht : TabOk B w) (hg : HasK w v ts) (hl : ts.length ≤ 100000) (hok : ∀ x ∈ ts, TokOk x.1) :
    Calls Tryd.prog 10 #[v] w fun e w' => (∃ X : ByteArray, e = .returned (.string X) ∧ X.data.toList = printL (ts.map (·.1)) ∧ X.size ≤ 1000000000) ∧ Keep [] w w' := by
  have e1 : (ts.map toG).map printG = (ts.map (·.1)).map printTk := by
    rw [List.map_map, List.map_map]
    exact List.map_congr_left (fun x _ => printG_toG x)
  have hjl := joinS_len 1100 ((ts.map (·.1)).map printTk) (fun x hx => by
    obtain ⟨t, ht, rfl⟩ := List.mem_map.1 hx
    obtain ⟨y, hy, rfl⟩ := List.mem_map.1 ht
    exact (tok_bounds (hok y hy)).2.2)
  simp only [List.length_map] at hjl
  refine (p_sprint ht hg.gen (by simpa using (by omega : ts.length ≤ 1000000)) (fun x hx => ?_) (fun x hx => ?_) (by rw [e1]; omega)).mono (fun e w' h => ?_)
  · obtain ⟨y, hy, rfl⟩ := List.mem_map.1 hx
    exact (tok_bounds (hok y hy)).1
  · obtain ⟨y, hy, rfl⟩ := List.mem_map.1 hx
    have := (tok_bounds (hok y hy)).2.1
    show (ByteArray.mk y.1.text.toArray).size ≤ 100000
    have e : (ByteArray.mk y.1.text.toArray).size = y.1.text.length := by simp [ByteArray.size]
    omega
  · obtain ⟨⟨X, h1, h2⟩, h3⟩ := h
    rw [e1] at h2
    refine ⟨⟨X, h1, h2, ?_⟩, h3⟩
    have : X.data.toList.length = X.size := by simp
    rw [h2] at this
    omega
set_option maxRecDepth 100000 in
set_option maxHeartbeats 4000000 in
theorem back_walk {w : World} {s : ByteArray} (ht : TabOk w.heap.size w) (he : ErrOk w) (hs : s.size ≤ 140737488355328) :
    Calls Tryd.prog 5 #[.string s] w fun e w' => e = .returned (.bool true) ∧ Keep [] w w' := by
  have HE := Lib.hid he
  have HT := Lib.hid ht
  clear he ht
  by_cases hbig : 4000 < s.size
  · have hlv := q_live HE.out
    have HLV := Lib.hid hlv
    have h1' : (4000 : Int) < (s.size : Int) := by omega
    clear hlv hbig
    go_enter Tryd.func5, Tryd.ntmps5
    go_wp2_with fail
    refine HLV.out.mono ?_
    rintro e wl ⟨rfl, hkl⟩
    go_wp2_with fail
    go_ret
    exact ⟨rfl, hkl⟩
  · have h1' : ¬ (4000 : Int) < (s.size : Int) := by omega
    have h1 : s.size ≤ 4000 := by omega
    have hsc := p_scanS (s := s) HE.out (by omega)
    have HSC := Lib.hid hsc
    have hsz : s.data.toList.length = s.size := by simp
    have HSZ := Lib.hid hsz
    clear hbig hsc hsz
    go_enter Tryd.func5, Tryd.ntmps5
    go_wp2_with fail
    refine HSC.out.mono ?_
    rintro e w2 ⟨hres, hk2⟩
    have HK2 := Lib.hid hk2
    have HE2 := Lib.hid (HE.out.keep hk2)
    have HT2 := Lib.hid (HT.out.keep0 hk2)
    clear hk2 HSC
    cases hsl : scanL s.data.toList 0 with
    | error p =>
      rw [hsl] at hres
      simp only at hres
      have hpe := scan_err _ _ (Nat.le_refl _) 0 p.1 p.2 hsl
      rw [HSZ.out] at hpe
      obtain rfl := hres
      obtain ⟨E, hE⟩ : ∃ E, E = p.1 := ⟨_, rfl⟩
      obtain ⟨Z, hZ⟩ : ∃ Z : Int, Z = (p.2 : Nat) := ⟨_, rfl⟩
      have z0 : 0 ≤ Z := by omega
      have z1 : Z ≤ (s.size : Int) := by omega
      rw [← hE] at hpe
      have hne : (E != 0) = true := by rcases hpe.2.2 with h | h <;> rw [h] <;> rfl
      have hlv := q_live HE2.out
      have HLV := Lib.hid hlv
      clear hlv hpe hsl
      show _
      simp only [← hE, ← hZ]
      clear hE hZ
      go_wp2_with fail
      refine (q_num _ w2).mono ?_
      rintro e w3 ⟨rfl, rfl⟩
      go_wp2_with fail
      refine HLV.out.mono ?_
      rintro e wl ⟨rfl, hkl⟩
      go_wp2_with fail
      go_ret
      exact ⟨rfl, HK2.out.trans hkl (by simp)⟩
    | ok ts =>
      rw [hsl] at hres
      obtain ⟨v, o, rfl, hr, -⟩ := hres
      have hh := hr.has
      obtain ⟨va, vc, rfl⟩ := hh.slice
      have HH := Lib.hid hh
      have hpl := scan_placed ts s.data.toList 0 hsl
      rw [Nat.zero_add, HSZ.out] at hpl
      have hll := placedB_len ts 0 hpl (Nat.zero_le _)
      have HPL := Lib.hid hpl
      have HOK := Lib.hid (scan_ok ts _ _ hsl)
      clear hr hh hsl hpl
      go_wp2_with fail
      refine (q_num _ w2).mono ?_
      rintro e w3 ⟨rfl, rfl⟩
      go_wp2_with fail
      go_loopw [6] (fun i wr => ∃ k : Nat, k ≤ ts.length ∧ i = .int .i64 k ∧ Keep [] w2 wr) (fun i _ => ts.length - (RowKit.intOf i).toNat)
      case atStart => exact ⟨0, Nat.zero_le _, rfl, Keep.refl _ _⟩
      case round =>
        obtain ⟨k, hk, rfl, hkw⟩ := hrel
        have HKW := Lib.hid hkw
        clear hkw
        by_cases hlt : k < ts.length
        · have q0 : (0 : Int) ≤ (k : Int) := by omega
          have q1 : (k : Int) < (ts.length : Int) := by omega
          obtain ⟨vb, voff, rfl, c0, c1, c2, c3, c4⟩ := (HH.out.keep HKW.out).at hlt
          have hlt' : k - 1 < ts.length := by omega
          obtain ⟨vb', voff', hvv, b0, b1, b2, b3, b4⟩ := (HH.out.keep HKW.out).at hlt'
          cases hvv
          have hat := placedB_at ts 0 HPL.out hlt
          have hpv := fun h1 => placedB_prev HPL.out hlt h1 hlt'
          obtain ⟨p, en, p', en', e1, e2, e3, e4⟩ : ∃ p en p' en' : Nat, p = ts[k].2 ∧ en = ts[k].1.en ∧ p' = ts[k - 1].2 ∧ en' = ts[k - 1].1.en := ⟨_, _, _, _, rfl, rfl, rfl, rfl⟩
          rw [← e1, ← e2] at hat c4
          rw [← e1] at c3
          rw [← e3, ← e4] at b4
          simp only [← e1, ← e3, ← e4] at hpv
          clear c0 c1 c2 b0 b1 b2 b3 e1 e2 e3 e4
          have g1 : ¬ (p : Int) < 0 := by omega
          have g2 : ¬ (p : Int) + (en : Int) ≤ (p : Int) := by omega
          have g3 : ¬ (s.size : Int) < (p : Int) + (en : Int) := by omega
          have g2' : ¬ ((p + en : Nat) : Int) ≤ (p : Int) := by omega
          have g3' : ¬ (s.size : Int) < ((p + en : Nat) : Int) := by omega
          have HC := Lib.hid (And.intro c3 (And.intro c4 b4))
          by_cases hk0 : k = 0
          · subst hk0
            have x3 := c3
            have x4 := c4
            simp only [Nat.zero_mul, Nat.add_zero] at x3 x4
            have HX := Lib.hid (And.intro x3 x4)
            clear c3 c4 b4 x3 x4 hpv
            go_upto_region 9 with fail
            refine wp_region_held_drew (S := fun w' => Keep [] wr w') (by kernel_rfl) ((Keep.refl [] wr).drew) (fun hHeld => ?_)
            refine wpAnyH_takeL (i := 0) (v := ?vZ0) rfl (by kernel_rfl) (by kernel_rfl) (by kernel_rfl) (fun _ _ _ h => h) (Or.inl ⟨by kernel_rfl, ?runZ0⟩) hHeld ?_
            case runZ0 => (intro w9 hS9; obtain ⟨c3, c4⟩ := (And.intro (cell_keepB HX.out.1 hS9) (cell_keepB HX.out.2 hS9)); go_simp; try exact rfl)
            try simp only [Act.put, List.setIfInBounds_toArray, List.set_cons_zero, List.set_cons_succ]
            refine wpAnyH_takeL (i := 1) (v := ?vZ1) rfl (by kernel_rfl) (by kernel_rfl) (by kernel_rfl) (fun _ _ _ h => h) (Or.inl ⟨by kernel_rfl, ?runZ1⟩) hHeld ?_
            case runZ1 => (intro w9 hS9; obtain ⟨c3, c4⟩ := (And.intro (cell_keepB HX.out.1 hS9) (cell_keepB HX.out.2 hS9)); go_simp; try exact rfl)
            try simp only [Act.put, List.setIfInBounds_toArray, List.set_cons_zero, List.set_cons_succ]
            refine wpAnyH_takeL (i := 2) (v := ?vZ2) rfl (by kernel_rfl) (by kernel_rfl) (by kernel_rfl) (fun _ _ _ h => h) (Or.inl ⟨by kernel_rfl, ?runZ2⟩) hHeld ?_
            case runZ2 => (intro w9 hS9; obtain ⟨c3, c4⟩ := (And.intro (cell_keepB HX.out.1 hS9) (cell_keepB HX.out.2 hS9)); go_simp; try exact rfl)
            try simp only [Act.put, List.setIfInBounds_toArray, List.set_cons_zero, List.set_cons_succ]
            refine wpAnyH_takeL (i := 3) (v := ?vZ3) rfl (by kernel_rfl) (by kernel_rfl) (by kernel_rfl) (fun _ _ _ h => h) (Or.inl ⟨by kernel_rfl, ?runZ3⟩) hHeld ?_
            case runZ3 => (intro w9 hS9; obtain ⟨c3, c4⟩ := (And.intro (cell_keepB HX.out.1 hS9) (cell_keepB HX.out.2 hS9)); go_simp; try exact rfl)
            try simp only [Act.put, List.setIfInBounds_toArray, List.set_cons_zero, List.set_cons_succ]
            refine wpAnyH_takeL (i := 4) (v := ?vZ4) rfl (by kernel_rfl) (by kernel_rfl) (by kernel_rfl) (fun _ _ _ h => h) (Or.inl ⟨by kernel_rfl, ?runZ4⟩) hHeld ?_
            case runZ4 => (intro w9 hS9; obtain ⟨c3, c4⟩ := (And.intro (cell_keepB HX.out.1 hS9) (cell_keepB HX.out.2 hS9)); go_simp; try exact rfl)
            try simp only [Act.put, List.setIfInBounds_toArray, List.set_cons_zero, List.set_cons_succ]
            refine wpAnyH_takeL (i := 5) (v := .bool false) rfl (by kernel_rfl) (by kernel_rfl) (by kernel_rfl) (fun _ _ _ h => h) (Or.inl ⟨by kernel_rfl, ?runZ5⟩) hHeld ?_
            case runZ5 => (intro w9 hS9; obtain ⟨c3, c4⟩ := (And.intro (cell_keepB HX.out.1 hS9) (cell_keepB HX.out.2 hS9)); go_simp; first | done | exact rfl | omega | (simp [*]; done) | (simp; omega))
            try simp only [Act.put, List.setIfInBounds_toArray, List.set_cons_zero, List.set_cons_succ]
            refine wpAnyH_takeL (i := 6) (v := ?vZ6) rfl (by kernel_rfl) (by kernel_rfl) (by kernel_rfl) (fun _ _ _ h => h) (Or.inl ⟨by kernel_rfl, ?runZ6⟩) hHeld ?_
            case runZ6 => (intro w9 hS9; obtain ⟨c3, c4⟩ := (And.intro (cell_keepB HX.out.1 hS9) (cell_keepB HX.out.2 hS9)); go_simp; try exact rfl)
            try simp only [Act.put, List.setIfInBounds_toArray, List.set_cons_zero, List.set_cons_succ]
            refine wpAnyH_takeL (i := 7) (v := ?vZ7) rfl (by kernel_rfl) (by kernel_rfl) (by kernel_rfl) (fun _ _ _ h => h) (Or.inl ⟨by kernel_rfl, ?runZ7⟩) hHeld ?_
            case runZ7 => (intro w9 hS9; obtain ⟨c3, c4⟩ := (And.intro (cell_keepB HX.out.1 hS9) (cell_keepB HX.out.2 hS9)); go_simp; try exact rfl)
            try simp only [Act.put, List.setIfInBounds_toArray, List.set_cons_zero, List.set_cons_succ]
            refine wpAnyH_takeL (i := 8) (v := ?vZ8) rfl (by kernel_rfl) (by kernel_rfl) (by kernel_rfl) (fun _ _ _ h => h) (Or.inl ⟨by kernel_rfl, ?runZ8⟩) hHeld ?_
            case runZ8 => (intro w9 hS9; obtain ⟨c3, c4⟩ := (And.intro (cell_keepB HX.out.1 hS9) (cell_keepB HX.out.2 hS9)); go_simp; try exact rfl)
            try simp only [Act.put, List.setIfInBounds_toArray, List.set_cons_zero, List.set_cons_succ]
            refine wpAnyH_takeL (i := 9) (v := ?vZ9) rfl (by kernel_rfl) (by kernel_rfl) (by kernel_rfl) (fun _ _ _ h => h) (Or.inl ⟨by kernel_rfl, ?runZ9⟩) hHeld ?_
            case runZ9 => (intro w9 hS9; obtain ⟨c3, c4⟩ := (And.intro (cell_keepB HX.out.1 hS9) (cell_keepB HX.out.2 hS9)); go_simp; try exact rfl)
            try simp only [Act.put, List.setIfInBounds_toArray, List.set_cons_zero, List.set_cons_succ]
            refine wpAnyH_takeL (i := 10) (v := ?vZ10) rfl (by kernel_rfl) (by kernel_rfl) (by kernel_rfl) (fun _ _ _ h => h) (Or.inl ⟨by kernel_rfl, ?runZ10⟩) hHeld ?_
            case runZ10 => (intro w9 hS9; obtain ⟨c3, c4⟩ := (And.intro (cell_keepB HX.out.1 hS9) (cell_keepB HX.out.2 hS9)); go_simp; try exact rfl)
            try simp only [Act.put, List.setIfInBounds_toArray, List.set_cons_zero, List.set_cons_succ]
            refine wpAnyH_takeL (i := 11) (v := ?vZ11) rfl (by kernel_rfl) (by kernel_rfl) (by kernel_rfl) (fun _ _ _ h => h) (Or.inl ⟨by kernel_rfl, ?runZ11⟩) hHeld ?_
            case runZ11 => (intro w9 hS9; obtain ⟨c3, c4⟩ := (And.intro (cell_keepB HX.out.1 hS9) (cell_keepB HX.out.2 hS9)); go_simp; try exact rfl)
            try simp only [Act.put, List.setIfInBounds_toArray, List.set_cons_zero, List.set_cons_succ]
            refine wpAnyH_takeL (i := 12) (v := ?vZ12) rfl (by kernel_rfl) (by kernel_rfl) (by kernel_rfl) (fun _ _ _ h => h) (Or.inl ⟨by kernel_rfl, ?runZ12⟩) hHeld ?_
            case runZ12 => (intro w9 hS9; obtain ⟨c3, c4⟩ := (And.intro (cell_keepB HX.out.1 hS9) (cell_keepB HX.out.2 hS9)); go_simp; try exact rfl)
            try simp only [Act.put, List.setIfInBounds_toArray, List.set_cons_zero, List.set_cons_succ]
            refine wpAnyH_takeL (i := 13) (v := ?vZ13) rfl (by kernel_rfl) (by kernel_rfl) (by kernel_rfl) (fun _ _ _ h => h) (Or.inl ⟨by kernel_rfl, ?runZ13⟩) hHeld ?_
            case runZ13 => (intro w9 hS9; obtain ⟨c3, c4⟩ := (And.intro (cell_keepB HX.out.1 hS9) (cell_keepB HX.out.2 hS9)); go_simp; try exact rfl)
            try simp only [Act.put, List.setIfInBounds_toArray, List.set_cons_zero, List.set_cons_succ]
            refine wpAnyH_takeL (i := 14) (v := ?vZ14) rfl (by kernel_rfl) (by kernel_rfl) (by kernel_rfl) (fun _ _ _ h => h) (Or.inl ⟨by kernel_rfl, ?runZ14⟩) hHeld ?_
            case runZ14 => (intro w9 hS9; obtain ⟨c3, c4⟩ := (And.intro (cell_keepB HX.out.1 hS9) (cell_keepB HX.out.2 hS9)); go_simp; try exact rfl)
            try simp only [Act.put, List.setIfInBounds_toArray, List.set_cons_zero, List.set_cons_succ]
            refine wpAnyH_takeL (i := 15) (v := ?vZ15) rfl (by kernel_rfl) (by kernel_rfl) (by kernel_rfl) (fun _ _ _ h => h) (Or.inl ⟨by kernel_rfl, ?runZ15⟩) hHeld ?_
            case runZ15 => (intro w9 hS9; obtain ⟨c3, c4⟩ := (And.intro (cell_keepB HX.out.1 hS9) (cell_keepB HX.out.2 hS9)); go_simp; try exact rfl)
            try simp only [Act.put, List.setIfInBounds_toArray, List.set_cons_zero, List.set_cons_succ]
            refine wpAnyH_takeL (i := 16) (v := ?vZ16) rfl (by kernel_rfl) (by kernel_rfl) (by kernel_rfl) (fun _ _ _ h => h) (Or.inl ⟨by kernel_rfl, ?runZ16⟩) hHeld ?_
            case runZ16 => (intro w9 hS9; obtain ⟨c3, c4⟩ := (And.intro (cell_keepB HX.out.1 hS9) (cell_keepB HX.out.2 hS9)); go_simp; try exact rfl)
            try simp only [Act.put, List.setIfInBounds_toArray, List.set_cons_zero, List.set_cons_succ]
            refine wpAnyH_takeL (i := 17) (v := .bool false) rfl (by kernel_rfl) (by kernel_rfl) (by kernel_rfl) (fun _ _ _ h => h) (Or.inl ⟨by kernel_rfl, ?runZ17⟩) hHeld ?_
            case runZ17 => (intro w9 hS9; obtain ⟨c3, c4⟩ := (And.intro (cell_keepB HX.out.1 hS9) (cell_keepB HX.out.2 hS9)); go_simp; first | done | exact rfl | omega | (simp [*]; done) | (simp; omega))
            try simp only [Act.put, List.setIfInBounds_toArray, List.set_cons_zero, List.set_cons_succ]
            refine wpAnyH_takeL (i := 18) (v := .bool false) rfl (by kernel_rfl) (by kernel_rfl) (by kernel_rfl) (fun _ _ _ h => h) (Or.inl ⟨by kernel_rfl, ?runZ18⟩) hHeld ?_
            case runZ18 => (intro w9 hS9; obtain ⟨c3, c4⟩ := (And.intro (cell_keepB HX.out.1 hS9) (cell_keepB HX.out.2 hS9)); go_simp; first | done | exact rfl | omega | (simp [*]; done) | (simp; omega))
            try simp only [Act.put, List.setIfInBounds_toArray, List.set_cons_zero, List.set_cons_succ]
            refine wpAnyH_takeL (i := 19) (v := ?vZ19) rfl (by kernel_rfl) (by kernel_rfl) (by kernel_rfl) (fun _ _ _ h => h) (Or.inl ⟨by kernel_rfl, ?runZ19⟩) hHeld ?_
            case runZ19 => (intro w9 hS9; obtain ⟨c3, c4⟩ := (And.intro (cell_keepB HX.out.1 hS9) (cell_keepB HX.out.2 hS9)); go_simp; try exact rfl)
            try simp only [Act.put, List.setIfInBounds_toArray, List.set_cons_zero, List.set_cons_succ]
            refine wpAnyH_takeL (i := 20) (v := ?vZ20) rfl (by kernel_rfl) (by kernel_rfl) (by kernel_rfl) (fun _ _ _ h => h) (Or.inl ⟨by kernel_rfl, ?runZ20⟩) hHeld ?_
            case runZ20 => (intro w9 hS9; obtain ⟨c3, c4⟩ := (And.intro (cell_keepB HX.out.1 hS9) (cell_keepB HX.out.2 hS9)); go_simp; try exact rfl)
            try simp only [Act.put, List.setIfInBounds_toArray, List.set_cons_zero, List.set_cons_succ]
            refine wpAnyH_takeL (i := 21) (v := ?vZ21) rfl (by kernel_rfl) (by kernel_rfl) (by kernel_rfl) (fun _ _ _ h => h) (Or.inl ⟨by kernel_rfl, ?runZ21⟩) hHeld ?_
            case runZ21 => (intro w9 hS9; obtain ⟨c3, c4⟩ := (And.intro (cell_keepB HX.out.1 hS9) (cell_keepB HX.out.2 hS9)); go_simp; try exact rfl)
            try simp only [Act.put, List.setIfInBounds_toArray, List.set_cons_zero, List.set_cons_succ]
            refine wpAnyH_takeL (i := 22) (v := ?vZ22) rfl (by kernel_rfl) (by kernel_rfl) (by kernel_rfl) (fun _ _ _ h => h) (Or.inl ⟨by kernel_rfl, ?runZ22⟩) hHeld ?_
            case runZ22 => (intro w9 hS9; obtain ⟨c3, c4⟩ := (And.intro (cell_keepB HX.out.1 hS9) (cell_keepB HX.out.2 hS9)); go_simp; try exact rfl)
            try simp only [Act.put, List.setIfInBounds_toArray, List.set_cons_zero, List.set_cons_succ]
            refine wpAnyH_takeL (i := 23) (v := ?vZ23) rfl (by kernel_rfl) (by kernel_rfl) (by kernel_rfl) (fun _ _ _ h => h) (Or.inl ⟨by kernel_rfl, ?runZ23⟩) hHeld ?_
            case runZ23 => (intro w9 hS9; obtain ⟨c3, c4⟩ := (And.intro (cell_keepB HX.out.1 hS9) (cell_keepB HX.out.2 hS9)); go_simp; try exact rfl)
            try simp only [Act.put, List.setIfInBounds_toArray, List.set_cons_zero, List.set_cons_succ]
            refine wpAnyH_takeL (i := 24) (v := ?vZ24) rfl (by kernel_rfl) (by kernel_rfl) (by kernel_rfl) (fun _ _ _ h => h) (Or.inl ⟨by kernel_rfl, ?runZ24⟩) hHeld ?_
            case runZ24 => (intro w9 hS9; obtain ⟨c3, c4⟩ := (And.intro (cell_keepB HX.out.1 hS9) (cell_keepB HX.out.2 hS9)); go_simp; try exact rfl)
            try simp only [Act.put, List.setIfInBounds_toArray, List.set_cons_zero, List.set_cons_succ]
            refine wpAnyH_takeL (i := 25) (v := ?vZ25) rfl (by kernel_rfl) (by kernel_rfl) (by kernel_rfl) (fun _ _ _ h => h) (Or.inl ⟨by kernel_rfl, ?runZ25⟩) hHeld ?_
            case runZ25 => (intro w9 hS9; obtain ⟨c3, c4⟩ := (And.intro (cell_keepB HX.out.1 hS9) (cell_keepB HX.out.2 hS9)); go_simp; try exact rfl)
            try simp only [Act.put, List.setIfInBounds_toArray, List.set_cons_zero, List.set_cons_succ]
            refine wpAnyH_takeL (i := 26) (v := ?vZ26) rfl (by kernel_rfl) (by kernel_rfl) (by kernel_rfl) (fun _ _ _ h => h) (Or.inl ⟨by kernel_rfl, ?runZ26⟩) hHeld ?_
            case runZ26 => (intro w9 hS9; obtain ⟨c3, c4⟩ := (And.intro (cell_keepB HX.out.1 hS9) (cell_keepB HX.out.2 hS9)); go_simp; try exact rfl)
            try simp only [Act.put, List.setIfInBounds_toArray, List.set_cons_zero, List.set_cons_succ]
            refine wpAnyH_takeL (i := 27) (v := .bool false) rfl (by kernel_rfl) (by kernel_rfl) (by kernel_rfl) (fun _ _ _ h => h) (Or.inl ⟨by kernel_rfl, ?runZ27⟩) hHeld ?_
            case runZ27 => (intro w9 hS9; obtain ⟨c3, c4⟩ := (And.intro (cell_keepB HX.out.1 hS9) (cell_keepB HX.out.2 hS9)); go_simp; first | done | exact rfl | omega | (simp [*]; done) | (simp; omega))
            try simp only [Act.put, List.setIfInBounds_toArray, List.set_cons_zero, List.set_cons_succ]
            refine wpAnyH_takeL (i := 28) (v := .bool false) rfl (by kernel_rfl) (by kernel_rfl) (by kernel_rfl) (fun _ _ _ h => h) (Or.inl ⟨by kernel_rfl, ?runZ28⟩) hHeld ?_
            case runZ28 => (intro w9 hS9; obtain ⟨c3, c4⟩ := (And.intro (cell_keepB HX.out.1 hS9) (cell_keepB HX.out.2 hS9)); go_simp; first | done | exact rfl | omega | (simp [*]; done) | (simp; omega))
            try simp only [Act.put, List.setIfInBounds_toArray, List.set_cons_zero, List.set_cons_succ]
            refine wpAnyH_takeL (i := 29) (v := ?vZ29) rfl (by kernel_rfl) (by kernel_rfl) (by kernel_rfl) (fun _ _ _ h => h) (Or.inl ⟨by kernel_rfl, ?runZ29⟩) hHeld ?_
            case runZ29 => (intro w9 hS9; obtain ⟨c3, c4⟩ := (And.intro (cell_keepB HX.out.1 hS9) (cell_keepB HX.out.2 hS9)); go_simp; try exact rfl)
            try simp only [Act.put, List.setIfInBounds_toArray, List.set_cons_zero, List.set_cons_succ]
            refine wpAnyH_takeL (i := 30) (v := ?vZ30) rfl (by kernel_rfl) (by kernel_rfl) (by kernel_rfl) (fun _ _ _ h => h) (Or.inl ⟨by kernel_rfl, ?runZ30⟩) hHeld ?_
            case runZ30 => (intro w9 hS9; obtain ⟨c3, c4⟩ := (And.intro (cell_keepB HX.out.1 hS9) (cell_keepB HX.out.2 hS9)); go_simp; try exact rfl)
            try simp only [Act.put, List.setIfInBounds_toArray, List.set_cons_zero, List.set_cons_succ]
            refine wpAnyH_takeL (i := 31) (v := .bool false) rfl (by kernel_rfl) (by kernel_rfl) (by kernel_rfl) (fun _ _ _ h => h) (Or.inl ⟨by kernel_rfl, ?runZ31⟩) hHeld ?_
            case runZ31 => (intro w9 hS9; obtain ⟨c3, c4⟩ := (And.intro (cell_keepB HX.out.1 hS9) (cell_keepB HX.out.2 hS9)); go_simp; first | done | exact rfl | omega | (simp [*]; done) | (simp; omega))
            try simp only [Act.put, List.setIfInBounds_toArray, List.set_cons_zero, List.set_cons_succ]
            refine wpAnyH_takeL (i := 32) (v := ?vZ32) rfl (by kernel_rfl) (by kernel_rfl) (by kernel_rfl) (fun _ _ _ h => h) (Or.inl ⟨by kernel_rfl, ?runZ32⟩) hHeld ?_
            case runZ32 => (intro w9 hS9; obtain ⟨c3, c4⟩ := (And.intro (cell_keepB HX.out.1 hS9) (cell_keepB HX.out.2 hS9)); go_simp; try exact rfl)
            try simp only [Act.put, List.setIfInBounds_toArray, List.set_cons_zero, List.set_cons_succ]
            refine wpAnyH_takeL (i := 33) (v := undef) rfl (by kernel_rfl) (by kernel_rfl) (by kernel_rfl) (fun _ _ _ h => h) (Or.inr ⟨by kernel_rfl, rfl⟩) hHeld ?_
            try simp only [Act.put, List.setIfInBounds_toArray, List.set_cons_zero, List.set_cons_succ]
            refine wpAnyH_takeL (i := 34) (v := undef) rfl (by kernel_rfl) (by kernel_rfl) (by kernel_rfl) (fun _ _ _ h => h) (Or.inr ⟨by kernel_rfl, rfl⟩) hHeld ?_
            try simp only [Act.put, List.setIfInBounds_toArray, List.set_cons_zero, List.set_cons_succ]
            refine wpAnyH_takeL (i := 35) (v := undef) rfl (by kernel_rfl) (by kernel_rfl) (by kernel_rfl) (fun _ _ _ h => h) (Or.inr ⟨by kernel_rfl, rfl⟩) hHeld ?_
            try simp only [Act.put, List.setIfInBounds_toArray, List.set_cons_zero, List.set_cons_succ]
            refine wpAnyH_takeL (i := 36) (v := undef) rfl (by kernel_rfl) (by kernel_rfl) (by kernel_rfl) (fun _ _ _ h => h) (Or.inr ⟨by kernel_rfl, rfl⟩) hHeld ?_
            try simp only [Act.put, List.setIfInBounds_toArray, List.set_cons_zero, List.set_cons_succ]
            refine wpAnyH_takeL (i := 37) (v := undef) rfl (by kernel_rfl) (by kernel_rfl) (by kernel_rfl) (fun _ _ _ h => h) (Or.inr ⟨by kernel_rfl, rfl⟩) hHeld ?_
            try simp only [Act.put, List.setIfInBounds_toArray, List.set_cons_zero, List.set_cons_succ]
            refine wpAnyH_takeL (i := 38) (v := undef) rfl (by kernel_rfl) (by kernel_rfl) (by kernel_rfl) (fun _ _ _ h => h) (Or.inr ⟨by kernel_rfl, rfl⟩) hHeld ?_
            try simp only [Act.put, List.setIfInBounds_toArray, List.set_cons_zero, List.set_cons_succ]
            refine wpAnyH_takeL (i := 39) (v := undef) rfl (by kernel_rfl) (by kernel_rfl) (by kernel_rfl) (fun _ _ _ h => h) (Or.inr ⟨by kernel_rfl, rfl⟩) hHeld ?_
            try simp only [Act.put, List.setIfInBounds_toArray, List.set_cons_zero, List.set_cons_succ]
            refine wpAnyH_takeL (i := 40) (v := undef) rfl (by kernel_rfl) (by kernel_rfl) (by kernel_rfl) (fun _ _ _ h => h) (Or.inr ⟨by kernel_rfl, rfl⟩) hHeld ?_
            try simp only [Act.put, List.setIfInBounds_toArray, List.set_cons_zero, List.set_cons_succ]
            refine wpAnyH_takeL (i := 41) (v := undef) rfl (by kernel_rfl) (by kernel_rfl) (by kernel_rfl) (fun _ _ _ h => h) (Or.inr ⟨by kernel_rfl, rfl⟩) hHeld ?_
            try simp only [Act.put, List.setIfInBounds_toArray, List.set_cons_zero, List.set_cons_succ]
            refine wpAnyH_takeL (i := 42) (v := undef) rfl (by kernel_rfl) (by kernel_rfl) (by kernel_rfl) (fun _ _ _ h => h) (Or.inr ⟨by kernel_rfl, rfl⟩) hHeld ?_
            try simp only [Act.put, List.setIfInBounds_toArray, List.set_cons_zero, List.set_cons_succ]
            refine wpAnyH_takeL (i := 43) (v := undef) rfl (by kernel_rfl) (by kernel_rfl) (by kernel_rfl) (fun _ _ _ h => h) (Or.inr ⟨by kernel_rfl, rfl⟩) hHeld ?_
            try simp only [Act.put, List.setIfInBounds_toArray, List.set_cons_zero, List.set_cons_succ]
            refine wpAnyH_takeL (i := 44) (v := undef) rfl (by kernel_rfl) (by kernel_rfl) (by kernel_rfl) (fun _ _ _ h => h) (Or.inr ⟨by kernel_rfl, rfl⟩) hHeld ?_
            try simp only [Act.put, List.setIfInBounds_toArray, List.set_cons_zero, List.set_cons_succ]
            refine wpAnyH_takeL (i := 45) (v := .bool false) rfl (by kernel_rfl) (by kernel_rfl) (by kernel_rfl) (fun _ _ _ h => h) (Or.inl ⟨by kernel_rfl, ?runZ45⟩) hHeld ?_
            case runZ45 => (intro w9 hS9; obtain ⟨c3, c4⟩ := (And.intro (cell_keepB HX.out.1 hS9) (cell_keepB HX.out.2 hS9)); go_simp; first | done | exact rfl | omega | (simp [*]; done) | (simp; omega))
            try simp only [Act.put, List.setIfInBounds_toArray, List.set_cons_zero, List.set_cons_succ]
            refine wpAnyH_takeL (i := 46) (v := .bool false) rfl (by kernel_rfl) (by kernel_rfl) (by kernel_rfl) (fun _ _ _ h => h) (Or.inl ⟨by kernel_rfl, ?runZ46⟩) hHeld ?_
            case runZ46 => (intro w9 hS9; obtain ⟨c3, c4⟩ := (And.intro (cell_keepB HX.out.1 hS9) (cell_keepB HX.out.2 hS9)); go_simp; first | done | exact rfl | omega | (simp [*]; done) | (simp; omega))
            try simp only [Act.put, List.setIfInBounds_toArray, List.set_cons_zero, List.set_cons_succ]
            refine wpAnyH_done (by kernel_rfl) ?_ _
            clear hHeld
            go_wp2_with fail
            go_roundw
            case rel => exact ⟨1, by omega, by go_num, HKW.out.drew⟩
            case measure => simp [intOf]; omega
          · have hkp := hpv (by omega)
            have g4 : ¬ (p : Int) < (p' : Int) + (en' : Int) := by omega
            have g4' : ¬ (p : Int) < ((p' + en' : Nat) : Int) := by omega
            have g5 : (0 : Int) < (k : Int) := by omega
            have g6 : IntKind.i64.wrap ((k : Int) - 1) = ((k - 1 : Nat) : Int) := (IntWalk.i64_in _ (by omega)).trans (by omega)
            clear c3 c4 b4 hpv
            go_upto_region 9 with fail
            refine wp_region_held_drew (S := fun w' => Keep [] wr w') (by kernel_rfl) ((Keep.refl [] wr).drew) (fun hHeld => ?_)
            refine wpAnyH_takeL (i := 0) (v := ?vP0) rfl (by kernel_rfl) (by kernel_rfl) (by kernel_rfl) (fun _ _ _ h => h) (Or.inl ⟨by kernel_rfl, ?runP0⟩) hHeld ?_
            case runP0 => (intro w9 hS9; obtain ⟨c3, c4, b4⟩ := (And.intro (cell_keepB HC.out.1 hS9) (And.intro (cell_keepB HC.out.2.1 hS9) (cell_keepB HC.out.2.2 hS9))); go_simp; try exact rfl)
            try simp only [Act.put, List.setIfInBounds_toArray, List.set_cons_zero, List.set_cons_succ]
            refine wpAnyH_takeL (i := 1) (v := ?vP1) rfl (by kernel_rfl) (by kernel_rfl) (by kernel_rfl) (fun _ _ _ h => h) (Or.inl ⟨by kernel_rfl, ?runP1⟩) hHeld ?_
            case runP1 => (intro w9 hS9; obtain ⟨c3, c4, b4⟩ := (And.intro (cell_keepB HC.out.1 hS9) (And.intro (cell_keepB HC.out.2.1 hS9) (cell_keepB HC.out.2.2 hS9))); go_simp; try exact rfl)
            try simp only [Act.put, List.setIfInBounds_toArray, List.set_cons_zero, List.set_cons_succ]
            refine wpAnyH_takeL (i := 2) (v := ?vP2) rfl (by kernel_rfl) (by kernel_rfl) (by kernel_rfl) (fun _ _ _ h => h) (Or.inl ⟨by kernel_rfl, ?runP2⟩) hHeld ?_
            case runP2 => (intro w9 hS9; obtain ⟨c3, c4, b4⟩ := (And.intro (cell_keepB HC.out.1 hS9) (And.intro (cell_keepB HC.out.2.1 hS9) (cell_keepB HC.out.2.2 hS9))); go_simp; try exact rfl)
            try simp only [Act.put, List.setIfInBounds_toArray, List.set_cons_zero, List.set_cons_succ]
            refine wpAnyH_takeL (i := 3) (v := ?vP3) rfl (by kernel_rfl) (by kernel_rfl) (by kernel_rfl) (fun _ _ _ h => h) (Or.inl ⟨by kernel_rfl, ?runP3⟩) hHeld ?_
            case runP3 => (intro w9 hS9; obtain ⟨c3, c4, b4⟩ := (And.intro (cell_keepB HC.out.1 hS9) (And.intro (cell_keepB HC.out.2.1 hS9) (cell_keepB HC.out.2.2 hS9))); go_simp; try exact rfl)
            try simp only [Act.put, List.setIfInBounds_toArray, List.set_cons_zero, List.set_cons_succ]
            refine wpAnyH_takeL (i := 4) (v := ?vP4) rfl (by kernel_rfl) (by kernel_rfl) (by kernel_rfl) (fun _ _ _ h => h) (Or.inl ⟨by kernel_rfl, ?runP4⟩) hHeld ?_
            case runP4 => (intro w9 hS9; obtain ⟨c3, c4, b4⟩ := (And.intro (cell_keepB HC.out.1 hS9) (And.intro (cell_keepB HC.out.2.1 hS9) (cell_keepB HC.out.2.2 hS9))); go_simp; try exact rfl)
            try simp only [Act.put, List.setIfInBounds_toArray, List.set_cons_zero, List.set_cons_succ]
            refine wpAnyH_takeL (i := 5) (v := .bool false) rfl (by kernel_rfl) (by kernel_rfl) (by kernel_rfl) (fun _ _ _ h => h) (Or.inl ⟨by kernel_rfl, ?runP5⟩) hHeld ?_
            case runP5 => (intro w9 hS9; obtain ⟨c3, c4, b4⟩ := (And.intro (cell_keepB HC.out.1 hS9) (And.intro (cell_keepB HC.out.2.1 hS9) (cell_keepB HC.out.2.2 hS9))); go_simp; first | done | exact rfl | omega | (simp [*]; done) | (simp; omega))
            try simp only [Act.put, List.setIfInBounds_toArray, List.set_cons_zero, List.set_cons_succ]
            refine wpAnyH_takeL (i := 6) (v := ?vP6) rfl (by kernel_rfl) (by kernel_rfl) (by kernel_rfl) (fun _ _ _ h => h) (Or.inl ⟨by kernel_rfl, ?runP6⟩) hHeld ?_
            case runP6 => (intro w9 hS9; obtain ⟨c3, c4, b4⟩ := (And.intro (cell_keepB HC.out.1 hS9) (And.intro (cell_keepB HC.out.2.1 hS9) (cell_keepB HC.out.2.2 hS9))); go_simp; try exact rfl)
            try simp only [Act.put, List.setIfInBounds_toArray, List.set_cons_zero, List.set_cons_succ]
            refine wpAnyH_takeL (i := 7) (v := ?vP7) rfl (by kernel_rfl) (by kernel_rfl) (by kernel_rfl) (fun _ _ _ h => h) (Or.inl ⟨by kernel_rfl, ?runP7⟩) hHeld ?_
            case runP7 => (intro w9 hS9; obtain ⟨c3, c4, b4⟩ := (And.intro (cell_keepB HC.out.1 hS9) (And.intro (cell_keepB HC.out.2.1 hS9) (cell_keepB HC.out.2.2 hS9))); go_simp; try exact rfl)
            try simp only [Act.put, List.setIfInBounds_toArray, List.set_cons_zero, List.set_cons_succ]
            refine wpAnyH_takeL (i := 8) (v := ?vP8) rfl (by kernel_rfl) (by kernel_rfl) (by kernel_rfl) (fun _ _ _ h => h) (Or.inl ⟨by kernel_rfl, ?runP8⟩) hHeld ?_
            case runP8 => (intro w9 hS9; obtain ⟨c3, c4, b4⟩ := (And.intro (cell_keepB HC.out.1 hS9) (And.intro (cell_keepB HC.out.2.1 hS9) (cell_keepB HC.out.2.2 hS9))); go_simp; try exact rfl)
            try simp only [Act.put, List.setIfInBounds_toArray, List.set_cons_zero, List.set_cons_succ]
            refine wpAnyH_takeL (i := 9) (v := ?vP9) rfl (by kernel_rfl) (by kernel_rfl) (by kernel_rfl) (fun _ _ _ h => h) (Or.inl ⟨by kernel_rfl, ?runP9⟩) hHeld ?_
            case runP9 => (intro w9 hS9; obtain ⟨c3, c4, b4⟩ := (And.intro (cell_keepB HC.out.1 hS9) (And.intro (cell_keepB HC.out.2.1 hS9) (cell_keepB HC.out.2.2 hS9))); go_simp; try exact rfl)
            try simp only [Act.put, List.setIfInBounds_toArray, List.set_cons_zero, List.set_cons_succ]
            refine wpAnyH_takeL (i := 10) (v := ?vP10) rfl (by kernel_rfl) (by kernel_rfl) (by kernel_rfl) (fun _ _ _ h => h) (Or.inl ⟨by kernel_rfl, ?runP10⟩) hHeld ?_
            case runP10 => (intro w9 hS9; obtain ⟨c3, c4, b4⟩ := (And.intro (cell_keepB HC.out.1 hS9) (And.intro (cell_keepB HC.out.2.1 hS9) (cell_keepB HC.out.2.2 hS9))); go_simp; try exact rfl)
            try simp only [Act.put, List.setIfInBounds_toArray, List.set_cons_zero, List.set_cons_succ]
            refine wpAnyH_takeL (i := 11) (v := ?vP11) rfl (by kernel_rfl) (by kernel_rfl) (by kernel_rfl) (fun _ _ _ h => h) (Or.inl ⟨by kernel_rfl, ?runP11⟩) hHeld ?_
            case runP11 => (intro w9 hS9; obtain ⟨c3, c4, b4⟩ := (And.intro (cell_keepB HC.out.1 hS9) (And.intro (cell_keepB HC.out.2.1 hS9) (cell_keepB HC.out.2.2 hS9))); go_simp; try exact rfl)
            try simp only [Act.put, List.setIfInBounds_toArray, List.set_cons_zero, List.set_cons_succ]
            refine wpAnyH_takeL (i := 12) (v := ?vP12) rfl (by kernel_rfl) (by kernel_rfl) (by kernel_rfl) (fun _ _ _ h => h) (Or.inl ⟨by kernel_rfl, ?runP12⟩) hHeld ?_
            case runP12 => (intro w9 hS9; obtain ⟨c3, c4, b4⟩ := (And.intro (cell_keepB HC.out.1 hS9) (And.intro (cell_keepB HC.out.2.1 hS9) (cell_keepB HC.out.2.2 hS9))); go_simp; try exact rfl)
            try simp only [Act.put, List.setIfInBounds_toArray, List.set_cons_zero, List.set_cons_succ]
            refine wpAnyH_takeL (i := 13) (v := ?vP13) rfl (by kernel_rfl) (by kernel_rfl) (by kernel_rfl) (fun _ _ _ h => h) (Or.inl ⟨by kernel_rfl, ?runP13⟩) hHeld ?_
            case runP13 => (intro w9 hS9; obtain ⟨c3, c4, b4⟩ := (And.intro (cell_keepB HC.out.1 hS9) (And.intro (cell_keepB HC.out.2.1 hS9) (cell_keepB HC.out.2.2 hS9))); go_simp; try exact rfl)
            try simp only [Act.put, List.setIfInBounds_toArray, List.set_cons_zero, List.set_cons_succ]
            refine wpAnyH_takeL (i := 14) (v := ?vP14) rfl (by kernel_rfl) (by kernel_rfl) (by kernel_rfl) (fun _ _ _ h => h) (Or.inl ⟨by kernel_rfl, ?runP14⟩) hHeld ?_
            case runP14 => (intro w9 hS9; obtain ⟨c3, c4, b4⟩ := (And.intro (cell_keepB HC.out.1 hS9) (And.intro (cell_keepB HC.out.2.1 hS9) (cell_keepB HC.out.2.2 hS9))); go_simp; try exact rfl)
            try simp only [Act.put, List.setIfInBounds_toArray, List.set_cons_zero, List.set_cons_succ]
            refine wpAnyH_takeL (i := 15) (v := ?vP15) rfl (by kernel_rfl) (by kernel_rfl) (by kernel_rfl) (fun _ _ _ h => h) (Or.inl ⟨by kernel_rfl, ?runP15⟩) hHeld ?_
            case runP15 => (intro w9 hS9; obtain ⟨c3, c4, b4⟩ := (And.intro (cell_keepB HC.out.1 hS9) (And.intro (cell_keepB HC.out.2.1 hS9) (cell_keepB HC.out.2.2 hS9))); go_simp; try exact rfl)
            try simp only [Act.put, List.setIfInBounds_toArray, List.set_cons_zero, List.set_cons_succ]
            refine wpAnyH_takeL (i := 16) (v := ?vP16) rfl (by kernel_rfl) (by kernel_rfl) (by kernel_rfl) (fun _ _ _ h => h) (Or.inl ⟨by kernel_rfl, ?runP16⟩) hHeld ?_
            case runP16 => (intro w9 hS9; obtain ⟨c3, c4, b4⟩ := (And.intro (cell_keepB HC.out.1 hS9) (And.intro (cell_keepB HC.out.2.1 hS9) (cell_keepB HC.out.2.2 hS9))); go_simp; try exact rfl)
            try simp only [Act.put, List.setIfInBounds_toArray, List.set_cons_zero, List.set_cons_succ]
            refine wpAnyH_takeL (i := 17) (v := .bool false) rfl (by kernel_rfl) (by kernel_rfl) (by kernel_rfl) (fun _ _ _ h => h) (Or.inl ⟨by kernel_rfl, ?runP17⟩) hHeld ?_
            case runP17 => (intro w9 hS9; obtain ⟨c3, c4, b4⟩ := (And.intro (cell_keepB HC.out.1 hS9) (And.intro (cell_keepB HC.out.2.1 hS9) (cell_keepB HC.out.2.2 hS9))); go_simp; first | done | exact rfl | omega | (simp [*]; done) | (simp; omega))
            try simp only [Act.put, List.setIfInBounds_toArray, List.set_cons_zero, List.set_cons_succ]
            refine wpAnyH_takeL (i := 18) (v := .bool false) rfl (by kernel_rfl) (by kernel_rfl) (by kernel_rfl) (fun _ _ _ h => h) (Or.inl ⟨by kernel_rfl, ?runP18⟩) hHeld ?_
            case runP18 => (intro w9 hS9; obtain ⟨c3, c4, b4⟩ := (And.intro (cell_keepB HC.out.1 hS9) (And.intro (cell_keepB HC.out.2.1 hS9) (cell_keepB HC.out.2.2 hS9))); go_simp; first | done | exact rfl | omega | (simp [*]; done) | (simp; omega))
            try simp only [Act.put, List.setIfInBounds_toArray, List.set_cons_zero, List.set_cons_succ]
            refine wpAnyH_takeL (i := 19) (v := ?vP19) rfl (by kernel_rfl) (by kernel_rfl) (by kernel_rfl) (fun _ _ _ h => h) (Or.inl ⟨by kernel_rfl, ?runP19⟩) hHeld ?_
            case runP19 => (intro w9 hS9; obtain ⟨c3, c4, b4⟩ := (And.intro (cell_keepB HC.out.1 hS9) (And.intro (cell_keepB HC.out.2.1 hS9) (cell_keepB HC.out.2.2 hS9))); go_simp; try exact rfl)
            try simp only [Act.put, List.setIfInBounds_toArray, List.set_cons_zero, List.set_cons_succ]
            refine wpAnyH_takeL (i := 20) (v := ?vP20) rfl (by kernel_rfl) (by kernel_rfl) (by kernel_rfl) (fun _ _ _ h => h) (Or.inl ⟨by kernel_rfl, ?runP20⟩) hHeld ?_
            case runP20 => (intro w9 hS9; obtain ⟨c3, c4, b4⟩ := (And.intro (cell_keepB HC.out.1 hS9) (And.intro (cell_keepB HC.out.2.1 hS9) (cell_keepB HC.out.2.2 hS9))); go_simp; try exact rfl)
            try simp only [Act.put, List.setIfInBounds_toArray, List.set_cons_zero, List.set_cons_succ]
            refine wpAnyH_takeL (i := 21) (v := ?vP21) rfl (by kernel_rfl) (by kernel_rfl) (by kernel_rfl) (fun _ _ _ h => h) (Or.inl ⟨by kernel_rfl, ?runP21⟩) hHeld ?_
            case runP21 => (intro w9 hS9; obtain ⟨c3, c4, b4⟩ := (And.intro (cell_keepB HC.out.1 hS9) (And.intro (cell_keepB HC.out.2.1 hS9) (cell_keepB HC.out.2.2 hS9))); go_simp; try exact rfl)
            try simp only [Act.put, List.setIfInBounds_toArray, List.set_cons_zero, List.set_cons_succ]
            refine wpAnyH_takeL (i := 22) (v := ?vP22) rfl (by kernel_rfl) (by kernel_rfl) (by kernel_rfl) (fun _ _ _ h => h) (Or.inl ⟨by kernel_rfl, ?runP22⟩) hHeld ?_
            case runP22 => (intro w9 hS9; obtain ⟨c3, c4, b4⟩ := (And.intro (cell_keepB HC.out.1 hS9) (And.intro (cell_keepB HC.out.2.1 hS9) (cell_keepB HC.out.2.2 hS9))); go_simp; try exact rfl)
            try simp only [Act.put, List.setIfInBounds_toArray, List.set_cons_zero, List.set_cons_succ]
            refine wpAnyH_takeL (i := 23) (v := ?vP23) rfl (by kernel_rfl) (by kernel_rfl) (by kernel_rfl) (fun _ _ _ h => h) (Or.inl ⟨by kernel_rfl, ?runP23⟩) hHeld ?_
            case runP23 => (intro w9 hS9; obtain ⟨c3, c4, b4⟩ := (And.intro (cell_keepB HC.out.1 hS9) (And.intro (cell_keepB HC.out.2.1 hS9) (cell_keepB HC.out.2.2 hS9))); go_simp; try exact rfl)
            try simp only [Act.put, List.setIfInBounds_toArray, List.set_cons_zero, List.set_cons_succ]
            refine wpAnyH_takeL (i := 24) (v := ?vP24) rfl (by kernel_rfl) (by kernel_rfl) (by kernel_rfl) (fun _ _ _ h => h) (Or.inl ⟨by kernel_rfl, ?runP24⟩) hHeld ?_
            case runP24 => (intro w9 hS9; obtain ⟨c3, c4, b4⟩ := (And.intro (cell_keepB HC.out.1 hS9) (And.intro (cell_keepB HC.out.2.1 hS9) (cell_keepB HC.out.2.2 hS9))); go_simp; try exact rfl)
            try simp only [Act.put, List.setIfInBounds_toArray, List.set_cons_zero, List.set_cons_succ]
            refine wpAnyH_takeL (i := 25) (v := ?vP25) rfl (by kernel_rfl) (by kernel_rfl) (by kernel_rfl) (fun _ _ _ h => h) (Or.inl ⟨by kernel_rfl, ?runP25⟩) hHeld ?_
            case runP25 => (intro w9 hS9; obtain ⟨c3, c4, b4⟩ := (And.intro (cell_keepB HC.out.1 hS9) (And.intro (cell_keepB HC.out.2.1 hS9) (cell_keepB HC.out.2.2 hS9))); go_simp; try exact rfl)
            try simp only [Act.put, List.setIfInBounds_toArray, List.set_cons_zero, List.set_cons_succ]
            refine wpAnyH_takeL (i := 26) (v := ?vP26) rfl (by kernel_rfl) (by kernel_rfl) (by kernel_rfl) (fun _ _ _ h => h) (Or.inl ⟨by kernel_rfl, ?runP26⟩) hHeld ?_
            case runP26 => (intro w9 hS9; obtain ⟨c3, c4, b4⟩ := (And.intro (cell_keepB HC.out.1 hS9) (And.intro (cell_keepB HC.out.2.1 hS9) (cell_keepB HC.out.2.2 hS9))); go_simp; try exact rfl)
            try simp only [Act.put, List.setIfInBounds_toArray, List.set_cons_zero, List.set_cons_succ]
            refine wpAnyH_takeL (i := 27) (v := .bool false) rfl (by kernel_rfl) (by kernel_rfl) (by kernel_rfl) (fun _ _ _ h => h) (Or.inl ⟨by kernel_rfl, ?runP27⟩) hHeld ?_
            case runP27 => (intro w9 hS9; obtain ⟨c3, c4, b4⟩ := (And.intro (cell_keepB HC.out.1 hS9) (And.intro (cell_keepB HC.out.2.1 hS9) (cell_keepB HC.out.2.2 hS9))); go_simp; first | done | exact rfl | omega | (simp [*]; done) | (simp; omega))
            try simp only [Act.put, List.setIfInBounds_toArray, List.set_cons_zero, List.set_cons_succ]
            refine wpAnyH_takeL (i := 28) (v := .bool false) rfl (by kernel_rfl) (by kernel_rfl) (by kernel_rfl) (fun _ _ _ h => h) (Or.inl ⟨by kernel_rfl, ?runP28⟩) hHeld ?_
            case runP28 => (intro w9 hS9; obtain ⟨c3, c4, b4⟩ := (And.intro (cell_keepB HC.out.1 hS9) (And.intro (cell_keepB HC.out.2.1 hS9) (cell_keepB HC.out.2.2 hS9))); go_simp; first | done | exact rfl | omega | (simp [*]; done) | (simp; omega))
            try simp only [Act.put, List.setIfInBounds_toArray, List.set_cons_zero, List.set_cons_succ]
            refine wpAnyH_takeL (i := 29) (v := ?vP29) rfl (by kernel_rfl) (by kernel_rfl) (by kernel_rfl) (fun _ _ _ h => h) (Or.inl ⟨by kernel_rfl, ?runP29⟩) hHeld ?_
            case runP29 => (intro w9 hS9; obtain ⟨c3, c4, b4⟩ := (And.intro (cell_keepB HC.out.1 hS9) (And.intro (cell_keepB HC.out.2.1 hS9) (cell_keepB HC.out.2.2 hS9))); go_simp; try exact rfl)
            try simp only [Act.put, List.setIfInBounds_toArray, List.set_cons_zero, List.set_cons_succ]
            refine wpAnyH_takeL (i := 30) (v := ?vP30) rfl (by kernel_rfl) (by kernel_rfl) (by kernel_rfl) (fun _ _ _ h => h) (Or.inl ⟨by kernel_rfl, ?runP30⟩) hHeld ?_
            case runP30 => (intro w9 hS9; obtain ⟨c3, c4, b4⟩ := (And.intro (cell_keepB HC.out.1 hS9) (And.intro (cell_keepB HC.out.2.1 hS9) (cell_keepB HC.out.2.2 hS9))); go_simp; try exact rfl)
            try simp only [Act.put, List.setIfInBounds_toArray, List.set_cons_zero, List.set_cons_succ]
            refine wpAnyH_takeL (i := 31) (v := .bool true) rfl (by kernel_rfl) (by kernel_rfl) (by kernel_rfl) (fun _ _ _ h => h) (Or.inl ⟨by kernel_rfl, ?runP31⟩) hHeld ?_
            case runP31 => (intro w9 hS9; obtain ⟨c3, c4, b4⟩ := (And.intro (cell_keepB HC.out.1 hS9) (And.intro (cell_keepB HC.out.2.1 hS9) (cell_keepB HC.out.2.2 hS9))); go_simp; first | done | exact rfl | omega | (simp [*]; done) | (simp; omega))
            try simp only [Act.put, List.setIfInBounds_toArray, List.set_cons_zero, List.set_cons_succ]
            refine wpAnyH_takeL (i := 32) (v := ?vP32) rfl (by kernel_rfl) (by kernel_rfl) (by kernel_rfl) (fun _ _ _ h => h) (Or.inl ⟨by kernel_rfl, ?runP32⟩) hHeld ?_
            case runP32 => (intro w9 hS9; obtain ⟨c3, c4, b4⟩ := (And.intro (cell_keepB HC.out.1 hS9) (And.intro (cell_keepB HC.out.2.1 hS9) (cell_keepB HC.out.2.2 hS9))); go_simp; try exact rfl)
            try simp only [Act.put, List.setIfInBounds_toArray, List.set_cons_zero, List.set_cons_succ]
            refine wpAnyH_takeL (i := 33) (v := ?vP33) rfl (by kernel_rfl) (by kernel_rfl) (by kernel_rfl) (fun _ _ _ h => h) (Or.inl ⟨by kernel_rfl, ?runP33⟩) hHeld ?_
            case runP33 => (intro w9 hS9; obtain ⟨c3, c4, b4⟩ := (And.intro (cell_keepB HC.out.1 hS9) (And.intro (cell_keepB HC.out.2.1 hS9) (cell_keepB HC.out.2.2 hS9))); go_simp; try exact rfl)
            try simp only [Act.put, List.setIfInBounds_toArray, List.set_cons_zero, List.set_cons_succ]
            refine wpAnyH_takeL (i := 34) (v := ?vP34) rfl (by kernel_rfl) (by kernel_rfl) (by kernel_rfl) (fun _ _ _ h => h) (Or.inl ⟨by kernel_rfl, ?runP34⟩) hHeld ?_
            case runP34 => (intro w9 hS9; obtain ⟨c3, c4, b4⟩ := (And.intro (cell_keepB HC.out.1 hS9) (And.intro (cell_keepB HC.out.2.1 hS9) (cell_keepB HC.out.2.2 hS9))); go_simp; try exact rfl)
            try simp only [Act.put, List.setIfInBounds_toArray, List.set_cons_zero, List.set_cons_succ]
            refine wpAnyH_takeL (i := 35) (v := ?vP35) rfl (by kernel_rfl) (by kernel_rfl) (by kernel_rfl) (fun _ _ _ h => h) (Or.inl ⟨by kernel_rfl, ?runP35⟩) hHeld ?_
            case runP35 => (intro w9 hS9; obtain ⟨c3, c4, b4⟩ := (And.intro (cell_keepB HC.out.1 hS9) (And.intro (cell_keepB HC.out.2.1 hS9) (cell_keepB HC.out.2.2 hS9))); go_simp; try exact rfl)
            try simp only [Act.put, List.setIfInBounds_toArray, List.set_cons_zero, List.set_cons_succ]
            refine wpAnyH_takeL (i := 36) (v := ?vP36) rfl (by kernel_rfl) (by kernel_rfl) (by kernel_rfl) (fun _ _ _ h => h) (Or.inl ⟨by kernel_rfl, ?runP36⟩) hHeld ?_
            case runP36 => (intro w9 hS9; obtain ⟨c3, c4, b4⟩ := (And.intro (cell_keepB HC.out.1 hS9) (And.intro (cell_keepB HC.out.2.1 hS9) (cell_keepB HC.out.2.2 hS9))); go_simp; try exact rfl)
            try simp only [Act.put, List.setIfInBounds_toArray, List.set_cons_zero, List.set_cons_succ]
            refine wpAnyH_takeL (i := 37) (v := ?vP37) rfl (by kernel_rfl) (by kernel_rfl) (by kernel_rfl) (fun _ _ _ h => h) (Or.inl ⟨by kernel_rfl, ?runP37⟩) hHeld ?_
            case runP37 => (intro w9 hS9; obtain ⟨c3, c4, b4⟩ := (And.intro (cell_keepB HC.out.1 hS9) (And.intro (cell_keepB HC.out.2.1 hS9) (cell_keepB HC.out.2.2 hS9))); go_simp; try exact rfl)
            try simp only [Act.put, List.setIfInBounds_toArray, List.set_cons_zero, List.set_cons_succ]
            refine wpAnyH_takeL (i := 38) (v := ?vP38) rfl (by kernel_rfl) (by kernel_rfl) (by kernel_rfl) (fun _ _ _ h => h) (Or.inl ⟨by kernel_rfl, ?runP38⟩) hHeld ?_
            case runP38 => (intro w9 hS9; obtain ⟨c3, c4, b4⟩ := (And.intro (cell_keepB HC.out.1 hS9) (And.intro (cell_keepB HC.out.2.1 hS9) (cell_keepB HC.out.2.2 hS9))); go_simp; try exact rfl)
            try simp only [Act.put, List.setIfInBounds_toArray, List.set_cons_zero, List.set_cons_succ]
            refine wpAnyH_takeL (i := 39) (v := ?vP39) rfl (by kernel_rfl) (by kernel_rfl) (by kernel_rfl) (fun _ _ _ h => h) (Or.inl ⟨by kernel_rfl, ?runP39⟩) hHeld ?_
            case runP39 => (intro w9 hS9; obtain ⟨c3, c4, b4⟩ := (And.intro (cell_keepB HC.out.1 hS9) (And.intro (cell_keepB HC.out.2.1 hS9) (cell_keepB HC.out.2.2 hS9))); go_simp; try exact rfl)
            try simp only [Act.put, List.setIfInBounds_toArray, List.set_cons_zero, List.set_cons_succ]
            refine wpAnyH_takeL (i := 40) (v := ?vP40) rfl (by kernel_rfl) (by kernel_rfl) (by kernel_rfl) (fun _ _ _ h => h) (Or.inl ⟨by kernel_rfl, ?runP40⟩) hHeld ?_
            case runP40 => (intro w9 hS9; obtain ⟨c3, c4, b4⟩ := (And.intro (cell_keepB HC.out.1 hS9) (And.intro (cell_keepB HC.out.2.1 hS9) (cell_keepB HC.out.2.2 hS9))); go_simp; try exact rfl)
            try simp only [Act.put, List.setIfInBounds_toArray, List.set_cons_zero, List.set_cons_succ]
            refine wpAnyH_takeL (i := 41) (v := ?vP41) rfl (by kernel_rfl) (by kernel_rfl) (by kernel_rfl) (fun _ _ _ h => h) (Or.inl ⟨by kernel_rfl, ?runP41⟩) hHeld ?_
            case runP41 => (intro w9 hS9; obtain ⟨c3, c4, b4⟩ := (And.intro (cell_keepB HC.out.1 hS9) (And.intro (cell_keepB HC.out.2.1 hS9) (cell_keepB HC.out.2.2 hS9))); go_simp; try exact rfl)
            try simp only [Act.put, List.setIfInBounds_toArray, List.set_cons_zero, List.set_cons_succ]
            refine wpAnyH_takeL (i := 42) (v := ?vP42) rfl (by kernel_rfl) (by kernel_rfl) (by kernel_rfl) (fun _ _ _ h => h) (Or.inl ⟨by kernel_rfl, ?runP42⟩) hHeld ?_
            case runP42 => (intro w9 hS9; obtain ⟨c3, c4, b4⟩ := (And.intro (cell_keepB HC.out.1 hS9) (And.intro (cell_keepB HC.out.2.1 hS9) (cell_keepB HC.out.2.2 hS9))); go_simp; try exact rfl)
            try simp only [Act.put, List.setIfInBounds_toArray, List.set_cons_zero, List.set_cons_succ]
            refine wpAnyH_takeL (i := 43) (v := ?vP43) rfl (by kernel_rfl) (by kernel_rfl) (by kernel_rfl) (fun _ _ _ h => h) (Or.inl ⟨by kernel_rfl, ?runP43⟩) hHeld ?_
            case runP43 => (intro w9 hS9; obtain ⟨c3, c4, b4⟩ := (And.intro (cell_keepB HC.out.1 hS9) (And.intro (cell_keepB HC.out.2.1 hS9) (cell_keepB HC.out.2.2 hS9))); go_simp; try exact rfl)
            try simp only [Act.put, List.setIfInBounds_toArray, List.set_cons_zero, List.set_cons_succ]
            refine wpAnyH_takeL (i := 44) (v := .bool false) rfl (by kernel_rfl) (by kernel_rfl) (by kernel_rfl) (fun _ _ _ h => h) (Or.inl ⟨by kernel_rfl, ?runP44⟩) hHeld ?_
            case runP44 => (intro w9 hS9; obtain ⟨c3, c4, b4⟩ := (And.intro (cell_keepB HC.out.1 hS9) (And.intro (cell_keepB HC.out.2.1 hS9) (cell_keepB HC.out.2.2 hS9))); go_simp; first | done | exact rfl | omega | (simp [*]; done) | (simp; omega))
            try simp only [Act.put, List.setIfInBounds_toArray, List.set_cons_zero, List.set_cons_succ]
            refine wpAnyH_takeL (i := 45) (v := .bool false) rfl (by kernel_rfl) (by kernel_rfl) (by kernel_rfl) (fun _ _ _ h => h) (Or.inl ⟨by kernel_rfl, ?runP45⟩) hHeld ?_
            case runP45 => (intro w9 hS9; obtain ⟨c3, c4, b4⟩ := (And.intro (cell_keepB HC.out.1 hS9) (And.intro (cell_keepB HC.out.2.1 hS9) (cell_keepB HC.out.2.2 hS9))); go_simp; first | done | exact rfl | omega | (simp [*]; done) | (simp; omega))
            try simp only [Act.put, List.setIfInBounds_toArray, List.set_cons_zero, List.set_cons_succ]
            refine wpAnyH_takeL (i := 46) (v := .bool false) rfl (by kernel_rfl) (by kernel_rfl) (by kernel_rfl) (fun _ _ _ h => h) (Or.inl ⟨by kernel_rfl, ?runP46⟩) hHeld ?_
            case runP46 => (intro w9 hS9; obtain ⟨c3, c4, b4⟩ := (And.intro (cell_keepB HC.out.1 hS9) (And.intro (cell_keepB HC.out.2.1 hS9) (cell_keepB HC.out.2.2 hS9))); go_simp; first | done | exact rfl | omega | (simp [*]; done) | (simp; omega))
            try simp only [Act.put, List.setIfInBounds_toArray, List.set_cons_zero, List.set_cons_succ]
            refine wpAnyH_done (by kernel_rfl) ?_ _
            clear hHeld
            go_wp2_with fail
            go_roundw
            case rel => exact ⟨k + 1, by omega, by go_num, HKW.out.drew⟩
            case measure => simp [intOf]; omega
        · obtain rfl : k = ts.length := by omega
          have q1 : ¬ (ts.length : Int) < (ts.length : Int) := by omega
          have hpr := p_sprintT (HT2.out.keep0 HKW.out) (HH.out.keep HKW.out) (by omega) HOK.out
          have HPR := Lib.hid hpr
          clear hpr
          go_wp2_with fail
          refine HPR.out.mono ?_
          rintro e w3 ⟨⟨X, rfl, hX, hXs⟩, hk3⟩
          have HK3 := Lib.hid (HKW.out.trans hk3 (by simp))
          have HE3 := Lib.hid (HE2.out.keep (HKW.out.trans hk3 (by simp)))
          have HT3 := Lib.hid (HT2.out.keep0 (HKW.out.trans hk3 (by simp)))
          have HX := Lib.hid hX
          clear hX hk3 HPR HKW
          by_cases hbig : 16384 < X.size
          · have hbig' : (16384 : Int) < (X.size : Int) := by omega
            have hlv := q_live HE3.out
            have HLV := Lib.hid hlv
            clear hlv hbig
            go_wp2_with fail
            refine HLV.out.mono ?_
            rintro e wl ⟨rfl, hkl⟩
            go_wp2_with fail
            go_ret
            exact ⟨rfl, (HK2.out.trans HK3.out (by simp)).trans hkl (by simp)⟩
          · have hbig' : ¬ (16384 : Int) < (X.size : Int) := by omega
            obtain ⟨ts', hsc', hsim⟩ := scan_print (ts.map (·.1)) 0 (fun t ht => by
              obtain ⟨y, hy, rfl⟩ := List.mem_map.1 ht
              exact HOK.out y hy)
            have hsc2 := p_scanS (s := X) HE3.out (by omega)
            rw [HX.out, hsc'] at hsc2
            have HSC2 := Lib.hid hsc2
            have HSIM := Lib.hid hsim
            have HOK' := Lib.hid (scan_ok ts' _ _ hsc')
            clear hsc2 hsim hsc' hbig
            go_wp2_with fail
            refine HSC2.out.mono ?_
            rintro e w5 ⟨⟨v', o', rfl, hr', -⟩, hk5⟩
            have hh' := hr'.has
            have hlen : ts'.length = ts.length := by
              have := congrArg List.length HSIM.out
              simpa using this
            obtain ⟨va', vc', rfl⟩ := hh'.slice
            rw [hlen]
            have HH' := Lib.hid hh'
            have HK5 := Lib.hid ((HK2.out.trans HK3.out (by simp)).trans hk5 (by simp))
            have HR5 := Lib.hid (HK3.out.trans hk5 (by simp))
            have HE5 := Lib.hid (HE3.out.keep hk5)
            have HT5 := Lib.hid (HT3.out.keep0 hk5)
            clear hr' hh' hk5 HSC2
            go_wp2_with fail
            refine (q_num _ w5).mono ?_
            rintro e w6 ⟨rfl, rfl⟩
            go_wp2_with fail
            go_loopw [11] (fun i wr => ∃ k : Nat, k ≤ ts.length ∧ i = .int .i64 k ∧ Keep [] w5 wr) (fun i _ => ts.length - (RowKit.intOf i).toNat)
            case atStart => exact ⟨0, Nat.zero_le _, rfl, Keep.refl _ _⟩
            case round =>
              obtain ⟨k, hk, rfl, hkx⟩ := hrel
              have HKX := Lib.hid hkx
              clear hkx
              by_cases hlt : k < ts.length
              · have i0 : (0 : Int) ≤ (k : Int) := by omega
                have i1 : (k : Int) < (ts.length : Int) := by omega
                obtain ⟨vb, voff, rfl, c0, c1, c2, -, -⟩ := (HH.out.keep (HR5.out.trans HKX.out (by simp))).at hlt
                have hlt' : k < ts'.length := by omega
                obtain ⟨ub, uoff, rfl, d0, d1, d2, -, -⟩ := (HH'.out.keep HKX.out).at hlt'
                have hsame : core ts'[k].1 = core ts[k].1 := by
                  have h1 := HSIM.out
                  rw [List.map_map] at h1
                  have h2 : (ts'.map (fun x => core x.1))[k]? = (ts.map (core ∘ fun x => x.1))[k]? := by rw [h1]
                  rw [List.getElem?_map, List.getElem?_map, List.getElem?_eq_getElem hlt', List.getElem?_eq_getElem hlt] at h2
                  simpa using h2
                unfold core at hsame
                simp only [Prod.mk.injEq] at hsame
                rw [hsame.1] at d0
                rw [hsame.2.1] at d1
                rw [hsame.2.2] at d2
                obtain ⟨K, N, S, e3, e4, e5⟩ : ∃ (K N : Int) (S : ByteArray), K = ts[k].1.kind ∧ N = ts[k].1.num ∧ S = ⟨ts[k].1.text.toArray⟩ := ⟨_, _, _, rfl, rfl, rfl⟩
                rw [← e3] at c0 d0
                rw [← e4] at c1 d1
                rw [← e5] at c2 d2
                have HC := Lib.hid (And.intro c0 (And.intro c1 c2))
                have HD := Lib.hid (And.intro d0 (And.intro d1 d2))
                clear e3 e4 e5 c0 c1 c2 d0 d1 d2 hsame
                go_upto_region 20 with fail
                refine wp_region_held_drew (S := fun w' => Keep [] wr w') (by kernel_rfl) ((Keep.refl [] wr).drew) (fun hHeld => ?_)
                refine wpAnyH_takeL (i := 0) (v := ?vG0) rfl (by kernel_rfl) (by kernel_rfl) (by kernel_rfl) (fun _ _ _ h => h) (Or.inl ⟨by kernel_rfl, ?runG0⟩) hHeld ?_
                case runG0 => (intro w9 hS9; obtain ⟨c0, c1, c2⟩ := (And.intro (cell_keepB HC.out.1 hS9) (And.intro (cell_keepB HC.out.2.1 hS9) (cell_keepB HC.out.2.2 hS9))); obtain ⟨d0, d1, d2⟩ := (And.intro (cell_keepB HD.out.1 hS9) (And.intro (cell_keepB HD.out.2.1 hS9) (cell_keepB HD.out.2.2 hS9))); go_simp; try exact rfl)
                try simp only [Act.put, List.setIfInBounds_toArray, List.set_cons_zero, List.set_cons_succ]
                refine wpAnyH_takeL (i := 1) (v := ?vG1) rfl (by kernel_rfl) (by kernel_rfl) (by kernel_rfl) (fun _ _ _ h => h) (Or.inl ⟨by kernel_rfl, ?runG1⟩) hHeld ?_
                case runG1 => (intro w9 hS9; obtain ⟨c0, c1, c2⟩ := (And.intro (cell_keepB HC.out.1 hS9) (And.intro (cell_keepB HC.out.2.1 hS9) (cell_keepB HC.out.2.2 hS9))); obtain ⟨d0, d1, d2⟩ := (And.intro (cell_keepB HD.out.1 hS9) (And.intro (cell_keepB HD.out.2.1 hS9) (cell_keepB HD.out.2.2 hS9))); go_simp; try exact rfl)
                try simp only [Act.put, List.setIfInBounds_toArray, List.set_cons_zero, List.set_cons_succ]
                refine wpAnyH_takeL (i := 2) (v := ?vG2) rfl (by kernel_rfl) (by kernel_rfl) (by kernel_rfl) (fun _ _ _ h => h) (Or.inl ⟨by kernel_rfl, ?runG2⟩) hHeld ?_
                case runG2 => (intro w9 hS9; obtain ⟨c0, c1, c2⟩ := (And.intro (cell_keepB HC.out.1 hS9) (And.intro (cell_keepB HC.out.2.1 hS9) (cell_keepB HC.out.2.2 hS9))); obtain ⟨d0, d1, d2⟩ := (And.intro (cell_keepB HD.out.1 hS9) (And.intro (cell_keepB HD.out.2.1 hS9) (cell_keepB HD.out.2.2 hS9))); go_simp; try exact rfl)
                try simp only [Act.put, List.setIfInBounds_toArray, List.set_cons_zero, List.set_cons_succ]
                refine wpAnyH_takeL (i := 3) (v := ?vG3) rfl (by kernel_rfl) (by kernel_rfl) (by kernel_rfl) (fun _ _ _ h => h) (Or.inl ⟨by kernel_rfl, ?runG3⟩) hHeld ?_
                case runG3 => (intro w9 hS9; obtain ⟨c0, c1, c2⟩ := (And.intro (cell_keepB HC.out.1 hS9) (And.intro (cell_keepB HC.out.2.1 hS9) (cell_keepB HC.out.2.2 hS9))); obtain ⟨d0, d1, d2⟩ := (And.intro (cell_keepB HD.out.1 hS9) (And.intro (cell_keepB HD.out.2.1 hS9) (cell_keepB HD.out.2.2 hS9))); go_simp; try exact rfl)
                try simp only [Act.put, List.setIfInBounds_toArray, List.set_cons_zero, List.set_cons_succ]
                refine wpAnyH_takeL (i := 4) (v := ?vG4) rfl (by kernel_rfl) (by kernel_rfl) (by kernel_rfl) (fun _ _ _ h => h) (Or.inl ⟨by kernel_rfl, ?runG4⟩) hHeld ?_
                case runG4 => (intro w9 hS9; obtain ⟨c0, c1, c2⟩ := (And.intro (cell_keepB HC.out.1 hS9) (And.intro (cell_keepB HC.out.2.1 hS9) (cell_keepB HC.out.2.2 hS9))); obtain ⟨d0, d1, d2⟩ := (And.intro (cell_keepB HD.out.1 hS9) (And.intro (cell_keepB HD.out.2.1 hS9) (cell_keepB HD.out.2.2 hS9))); go_simp; try exact rfl)
                try simp only [Act.put, List.setIfInBounds_toArray, List.set_cons_zero, List.set_cons_succ]
                refine wpAnyH_takeL (i := 5) (v := ?vG5) rfl (by kernel_rfl) (by kernel_rfl) (by kernel_rfl) (fun _ _ _ h => h) (Or.inl ⟨by kernel_rfl, ?runG5⟩) hHeld ?_
                case runG5 => (intro w9 hS9; obtain ⟨c0, c1, c2⟩ := (And.intro (cell_keepB HC.out.1 hS9) (And.intro (cell_keepB HC.out.2.1 hS9) (cell_keepB HC.out.2.2 hS9))); obtain ⟨d0, d1, d2⟩ := (And.intro (cell_keepB HD.out.1 hS9) (And.intro (cell_keepB HD.out.2.1 hS9) (cell_keepB HD.out.2.2 hS9))); go_simp; try exact rfl)
                try simp only [Act.put, List.setIfInBounds_toArray, List.set_cons_zero, List.set_cons_succ]
                refine wpAnyH_takeL (i := 6) (v := ?vG6) rfl (by kernel_rfl) (by kernel_rfl) (by kernel_rfl) (fun _ _ _ h => h) (Or.inl ⟨by kernel_rfl, ?runG6⟩) hHeld ?_
                case runG6 => (intro w9 hS9; obtain ⟨c0, c1, c2⟩ := (And.intro (cell_keepB HC.out.1 hS9) (And.intro (cell_keepB HC.out.2.1 hS9) (cell_keepB HC.out.2.2 hS9))); obtain ⟨d0, d1, d2⟩ := (And.intro (cell_keepB HD.out.1 hS9) (And.intro (cell_keepB HD.out.2.1 hS9) (cell_keepB HD.out.2.2 hS9))); go_simp; try exact rfl)
                try simp only [Act.put, List.setIfInBounds_toArray, List.set_cons_zero, List.set_cons_succ]
                refine wpAnyH_takeL (i := 7) (v := ?vG7) rfl (by kernel_rfl) (by kernel_rfl) (by kernel_rfl) (fun _ _ _ h => h) (Or.inl ⟨by kernel_rfl, ?runG7⟩) hHeld ?_
                case runG7 => (intro w9 hS9; obtain ⟨c0, c1, c2⟩ := (And.intro (cell_keepB HC.out.1 hS9) (And.intro (cell_keepB HC.out.2.1 hS9) (cell_keepB HC.out.2.2 hS9))); obtain ⟨d0, d1, d2⟩ := (And.intro (cell_keepB HD.out.1 hS9) (And.intro (cell_keepB HD.out.2.1 hS9) (cell_keepB HD.out.2.2 hS9))); go_simp; try exact rfl)
                try simp only [Act.put, List.setIfInBounds_toArray, List.set_cons_zero, List.set_cons_succ]
                refine wpAnyH_takeL (i := 8) (v := ?vG8) rfl (by kernel_rfl) (by kernel_rfl) (by kernel_rfl) (fun _ _ _ h => h) (Or.inl ⟨by kernel_rfl, ?runG8⟩) hHeld ?_
                case runG8 => (intro w9 hS9; obtain ⟨c0, c1, c2⟩ := (And.intro (cell_keepB HC.out.1 hS9) (And.intro (cell_keepB HC.out.2.1 hS9) (cell_keepB HC.out.2.2 hS9))); obtain ⟨d0, d1, d2⟩ := (And.intro (cell_keepB HD.out.1 hS9) (And.intro (cell_keepB HD.out.2.1 hS9) (cell_keepB HD.out.2.2 hS9))); go_simp; try exact rfl)
                try simp only [Act.put, List.setIfInBounds_toArray, List.set_cons_zero, List.set_cons_succ]
                refine wpAnyH_takeL (i := 9) (v := ?vG9) rfl (by kernel_rfl) (by kernel_rfl) (by kernel_rfl) (fun _ _ _ h => h) (Or.inl ⟨by kernel_rfl, ?runG9⟩) hHeld ?_
                case runG9 => (intro w9 hS9; obtain ⟨c0, c1, c2⟩ := (And.intro (cell_keepB HC.out.1 hS9) (And.intro (cell_keepB HC.out.2.1 hS9) (cell_keepB HC.out.2.2 hS9))); obtain ⟨d0, d1, d2⟩ := (And.intro (cell_keepB HD.out.1 hS9) (And.intro (cell_keepB HD.out.2.1 hS9) (cell_keepB HD.out.2.2 hS9))); go_simp; try exact rfl)
                try simp only [Act.put, List.setIfInBounds_toArray, List.set_cons_zero, List.set_cons_succ]
                refine wpAnyH_takeL (i := 10) (v := .bool false) rfl (by kernel_rfl) (by kernel_rfl) (by kernel_rfl) (fun _ _ _ h => h) (Or.inl ⟨by kernel_rfl, ?runG10⟩) hHeld ?_
                case runG10 => (intro w9 hS9; obtain ⟨c0, c1, c2⟩ := (And.intro (cell_keepB HC.out.1 hS9) (And.intro (cell_keepB HC.out.2.1 hS9) (cell_keepB HC.out.2.2 hS9))); obtain ⟨d0, d1, d2⟩ := (And.intro (cell_keepB HD.out.1 hS9) (And.intro (cell_keepB HD.out.2.1 hS9) (cell_keepB HD.out.2.2 hS9))); go_simp; first | done | exact rfl | (simp [*]; done) | (simp; omega))
                try simp only [Act.put, List.setIfInBounds_toArray, List.set_cons_zero, List.set_cons_succ]
                refine wpAnyH_takeL (i := 11) (v := ?vG11) rfl (by kernel_rfl) (by kernel_rfl) (by kernel_rfl) (fun _ _ _ h => h) (Or.inl ⟨by kernel_rfl, ?runG11⟩) hHeld ?_
                case runG11 => (intro w9 hS9; obtain ⟨c0, c1, c2⟩ := (And.intro (cell_keepB HC.out.1 hS9) (And.intro (cell_keepB HC.out.2.1 hS9) (cell_keepB HC.out.2.2 hS9))); obtain ⟨d0, d1, d2⟩ := (And.intro (cell_keepB HD.out.1 hS9) (And.intro (cell_keepB HD.out.2.1 hS9) (cell_keepB HD.out.2.2 hS9))); go_simp; try exact rfl)
                try simp only [Act.put, List.setIfInBounds_toArray, List.set_cons_zero, List.set_cons_succ]
                refine wpAnyH_takeL (i := 12) (v := ?vG12) rfl (by kernel_rfl) (by kernel_rfl) (by kernel_rfl) (fun _ _ _ h => h) (Or.inl ⟨by kernel_rfl, ?runG12⟩) hHeld ?_
                case runG12 => (intro w9 hS9; obtain ⟨c0, c1, c2⟩ := (And.intro (cell_keepB HC.out.1 hS9) (And.intro (cell_keepB HC.out.2.1 hS9) (cell_keepB HC.out.2.2 hS9))); obtain ⟨d0, d1, d2⟩ := (And.intro (cell_keepB HD.out.1 hS9) (And.intro (cell_keepB HD.out.2.1 hS9) (cell_keepB HD.out.2.2 hS9))); go_simp; try exact rfl)
                try simp only [Act.put, List.setIfInBounds_toArray, List.set_cons_zero, List.set_cons_succ]
                refine wpAnyH_takeL (i := 13) (v := ?vG13) rfl (by kernel_rfl) (by kernel_rfl) (by kernel_rfl) (fun _ _ _ h => h) (Or.inl ⟨by kernel_rfl, ?runG13⟩) hHeld ?_
                case runG13 => (intro w9 hS9; obtain ⟨c0, c1, c2⟩ := (And.intro (cell_keepB HC.out.1 hS9) (And.intro (cell_keepB HC.out.2.1 hS9) (cell_keepB HC.out.2.2 hS9))); obtain ⟨d0, d1, d2⟩ := (And.intro (cell_keepB HD.out.1 hS9) (And.intro (cell_keepB HD.out.2.1 hS9) (cell_keepB HD.out.2.2 hS9))); go_simp; try exact rfl)
                try simp only [Act.put, List.setIfInBounds_toArray, List.set_cons_zero, List.set_cons_succ]
                refine wpAnyH_takeL (i := 14) (v := ?vG14) rfl (by kernel_rfl) (by kernel_rfl) (by kernel_rfl) (fun _ _ _ h => h) (Or.inl ⟨by kernel_rfl, ?runG14⟩) hHeld ?_
                case runG14 => (intro w9 hS9; obtain ⟨c0, c1, c2⟩ := (And.intro (cell_keepB HC.out.1 hS9) (And.intro (cell_keepB HC.out.2.1 hS9) (cell_keepB HC.out.2.2 hS9))); obtain ⟨d0, d1, d2⟩ := (And.intro (cell_keepB HD.out.1 hS9) (And.intro (cell_keepB HD.out.2.1 hS9) (cell_keepB HD.out.2.2 hS9))); go_simp; try exact rfl)
                try simp only [Act.put, List.setIfInBounds_toArray, List.set_cons_zero, List.set_cons_succ]
                refine wpAnyH_takeL (i := 15) (v := ?vG15) rfl (by kernel_rfl) (by kernel_rfl) (by kernel_rfl) (fun _ _ _ h => h) (Or.inl ⟨by kernel_rfl, ?runG15⟩) hHeld ?_
                case runG15 => (intro w9 hS9; obtain ⟨c0, c1, c2⟩ := (And.intro (cell_keepB HC.out.1 hS9) (And.intro (cell_keepB HC.out.2.1 hS9) (cell_keepB HC.out.2.2 hS9))); obtain ⟨d0, d1, d2⟩ := (And.intro (cell_keepB HD.out.1 hS9) (And.intro (cell_keepB HD.out.2.1 hS9) (cell_keepB HD.out.2.2 hS9))); go_simp; try exact rfl)
                try simp only [Act.put, List.setIfInBounds_toArray, List.set_cons_zero, List.set_cons_succ]
                refine wpAnyH_takeL (i := 16) (v := ?vG16) rfl (by kernel_rfl) (by kernel_rfl) (by kernel_rfl) (fun _ _ _ h => h) (Or.inl ⟨by kernel_rfl, ?runG16⟩) hHeld ?_
                case runG16 => (intro w9 hS9; obtain ⟨c0, c1, c2⟩ := (And.intro (cell_keepB HC.out.1 hS9) (And.intro (cell_keepB HC.out.2.1 hS9) (cell_keepB HC.out.2.2 hS9))); obtain ⟨d0, d1, d2⟩ := (And.intro (cell_keepB HD.out.1 hS9) (And.intro (cell_keepB HD.out.2.1 hS9) (cell_keepB HD.out.2.2 hS9))); go_simp; try exact rfl)
                try simp only [Act.put, List.setIfInBounds_toArray, List.set_cons_zero, List.set_cons_succ]
                refine wpAnyH_takeL (i := 17) (v := ?vG17) rfl (by kernel_rfl) (by kernel_rfl) (by kernel_rfl) (fun _ _ _ h => h) (Or.inl ⟨by kernel_rfl, ?runG17⟩) hHeld ?_
                case runG17 => (intro w9 hS9; obtain ⟨c0, c1, c2⟩ := (And.intro (cell_keepB HC.out.1 hS9) (And.intro (cell_keepB HC.out.2.1 hS9) (cell_keepB HC.out.2.2 hS9))); obtain ⟨d0, d1, d2⟩ := (And.intro (cell_keepB HD.out.1 hS9) (And.intro (cell_keepB HD.out.2.1 hS9) (cell_keepB HD.out.2.2 hS9))); go_simp; try exact rfl)
                try simp only [Act.put, List.setIfInBounds_toArray, List.set_cons_zero, List.set_cons_succ]
                refine wpAnyH_takeL (i := 18) (v := ?vG18) rfl (by kernel_rfl) (by kernel_rfl) (by kernel_rfl) (fun _ _ _ h => h) (Or.inl ⟨by kernel_rfl, ?runG18⟩) hHeld ?_
                case runG18 => (intro w9 hS9; obtain ⟨c0, c1, c2⟩ := (And.intro (cell_keepB HC.out.1 hS9) (And.intro (cell_keepB HC.out.2.1 hS9) (cell_keepB HC.out.2.2 hS9))); obtain ⟨d0, d1, d2⟩ := (And.intro (cell_keepB HD.out.1 hS9) (And.intro (cell_keepB HD.out.2.1 hS9) (cell_keepB HD.out.2.2 hS9))); go_simp; try exact rfl)
                try simp only [Act.put, List.setIfInBounds_toArray, List.set_cons_zero, List.set_cons_succ]
                refine wpAnyH_takeL (i := 19) (v := ?vG19) rfl (by kernel_rfl) (by kernel_rfl) (by kernel_rfl) (fun _ _ _ h => h) (Or.inl ⟨by kernel_rfl, ?runG19⟩) hHeld ?_
                case runG19 => (intro w9 hS9; obtain ⟨c0, c1, c2⟩ := (And.intro (cell_keepB HC.out.1 hS9) (And.intro (cell_keepB HC.out.2.1 hS9) (cell_keepB HC.out.2.2 hS9))); obtain ⟨d0, d1, d2⟩ := (And.intro (cell_keepB HD.out.1 hS9) (And.intro (cell_keepB HD.out.2.1 hS9) (cell_keepB HD.out.2.2 hS9))); go_simp; try exact rfl)
                try simp only [Act.put, List.setIfInBounds_toArray, List.set_cons_zero, List.set_cons_succ]
                refine wpAnyH_takeL (i := 20) (v := ?vG20) rfl (by kernel_rfl) (by kernel_rfl) (by kernel_rfl) (fun _ _ _ h => h) (Or.inl ⟨by kernel_rfl, ?runG20⟩) hHeld ?_
                case runG20 => (intro w9 hS9; obtain ⟨c0, c1, c2⟩ := (And.intro (cell_keepB HC.out.1 hS9) (And.intro (cell_keepB HC.out.2.1 hS9) (cell_keepB HC.out.2.2 hS9))); obtain ⟨d0, d1, d2⟩ := (And.intro (cell_keepB HD.out.1 hS9) (And.intro (cell_keepB HD.out.2.1 hS9) (cell_keepB HD.out.2.2 hS9))); go_simp; try exact rfl)
                try simp only [Act.put, List.setIfInBounds_toArray, List.set_cons_zero, List.set_cons_succ]
                refine wpAnyH_takeL (i := 21) (v := ?vG21) rfl (by kernel_rfl) (by kernel_rfl) (by kernel_rfl) (fun _ _ _ h => h) (Or.inl ⟨by kernel_rfl, ?runG21⟩) hHeld ?_
                case runG21 => (intro w9 hS9; obtain ⟨c0, c1, c2⟩ := (And.intro (cell_keepB HC.out.1 hS9) (And.intro (cell_keepB HC.out.2.1 hS9) (cell_keepB HC.out.2.2 hS9))); obtain ⟨d0, d1, d2⟩ := (And.intro (cell_keepB HD.out.1 hS9) (And.intro (cell_keepB HD.out.2.1 hS9) (cell_keepB HD.out.2.2 hS9))); go_simp; try exact rfl)
                try simp only [Act.put, List.setIfInBounds_toArray, List.set_cons_zero, List.set_cons_succ]
                refine wpAnyH_takeL (i := 22) (v := .bool false) rfl (by kernel_rfl) (by kernel_rfl) (by kernel_rfl) (fun _ _ _ h => h) (Or.inl ⟨by kernel_rfl, ?runG22⟩) hHeld ?_
                case runG22 => (intro w9 hS9; obtain ⟨c0, c1, c2⟩ := (And.intro (cell_keepB HC.out.1 hS9) (And.intro (cell_keepB HC.out.2.1 hS9) (cell_keepB HC.out.2.2 hS9))); obtain ⟨d0, d1, d2⟩ := (And.intro (cell_keepB HD.out.1 hS9) (And.intro (cell_keepB HD.out.2.1 hS9) (cell_keepB HD.out.2.2 hS9))); go_simp; first | done | exact rfl | (simp [*]; done) | (simp; omega))
                try simp only [Act.put, List.setIfInBounds_toArray, List.set_cons_zero, List.set_cons_succ]
                refine wpAnyH_takeL (i := 23) (v := .bool false) rfl (by kernel_rfl) (by kernel_rfl) (by kernel_rfl) (fun _ _ _ h => h) (Or.inl ⟨by kernel_rfl, ?runG23⟩) hHeld ?_
                case runG23 => (intro w9 hS9; obtain ⟨c0, c1, c2⟩ := (And.intro (cell_keepB HC.out.1 hS9) (And.intro (cell_keepB HC.out.2.1 hS9) (cell_keepB HC.out.2.2 hS9))); obtain ⟨d0, d1, d2⟩ := (And.intro (cell_keepB HD.out.1 hS9) (And.intro (cell_keepB HD.out.2.1 hS9) (cell_keepB HD.out.2.2 hS9))); go_simp; first | done | exact rfl | (simp [*]; done) | (simp; omega))
                try simp only [Act.put, List.setIfInBounds_toArray, List.set_cons_zero, List.set_cons_succ]
                refine wpAnyH_takeL (i := 24) (v := ?vG24) rfl (by kernel_rfl) (by kernel_rfl) (by kernel_rfl) (fun _ _ _ h => h) (Or.inl ⟨by kernel_rfl, ?runG24⟩) hHeld ?_
                case runG24 => (intro w9 hS9; obtain ⟨c0, c1, c2⟩ := (And.intro (cell_keepB HC.out.1 hS9) (And.intro (cell_keepB HC.out.2.1 hS9) (cell_keepB HC.out.2.2 hS9))); obtain ⟨d0, d1, d2⟩ := (And.intro (cell_keepB HD.out.1 hS9) (And.intro (cell_keepB HD.out.2.1 hS9) (cell_keepB HD.out.2.2 hS9))); go_simp; try exact rfl)
                try simp only [Act.put, List.setIfInBounds_toArray, List.set_cons_zero, List.set_cons_succ]
                refine wpAnyH_takeL (i := 25) (v := ?vG25) rfl (by kernel_rfl) (by kernel_rfl) (by kernel_rfl) (fun _ _ _ h => h) (Or.inl ⟨by kernel_rfl, ?runG25⟩) hHeld ?_
                case runG25 => (intro w9 hS9; obtain ⟨c0, c1, c2⟩ := (And.intro (cell_keepB HC.out.1 hS9) (And.intro (cell_keepB HC.out.2.1 hS9) (cell_keepB HC.out.2.2 hS9))); obtain ⟨d0, d1, d2⟩ := (And.intro (cell_keepB HD.out.1 hS9) (And.intro (cell_keepB HD.out.2.1 hS9) (cell_keepB HD.out.2.2 hS9))); go_simp; try exact rfl)
                try simp only [Act.put, List.setIfInBounds_toArray, List.set_cons_zero, List.set_cons_succ]
                refine wpAnyH_takeL (i := 26) (v := ?vG26) rfl (by kernel_rfl) (by kernel_rfl) (by kernel_rfl) (fun _ _ _ h => h) (Or.inl ⟨by kernel_rfl, ?runG26⟩) hHeld ?_
                case runG26 => (intro w9 hS9; obtain ⟨c0, c1, c2⟩ := (And.intro (cell_keepB HC.out.1 hS9) (And.intro (cell_keepB HC.out.2.1 hS9) (cell_keepB HC.out.2.2 hS9))); obtain ⟨d0, d1, d2⟩ := (And.intro (cell_keepB HD.out.1 hS9) (And.intro (cell_keepB HD.out.2.1 hS9) (cell_keepB HD.out.2.2 hS9))); go_simp; try exact rfl)
                try simp only [Act.put, List.setIfInBounds_toArray, List.set_cons_zero, List.set_cons_succ]
                refine wpAnyH_takeL (i := 27) (v := ?vG27) rfl (by kernel_rfl) (by kernel_rfl) (by kernel_rfl) (fun _ _ _ h => h) (Or.inl ⟨by kernel_rfl, ?runG27⟩) hHeld ?_
                case runG27 => (intro w9 hS9; obtain ⟨c0, c1, c2⟩ := (And.intro (cell_keepB HC.out.1 hS9) (And.intro (cell_keepB HC.out.2.1 hS9) (cell_keepB HC.out.2.2 hS9))); obtain ⟨d0, d1, d2⟩ := (And.intro (cell_keepB HD.out.1 hS9) (And.intro (cell_keepB HD.out.2.1 hS9) (cell_keepB HD.out.2.2 hS9))); go_simp; try exact rfl)
                try simp only [Act.put, List.setIfInBounds_toArray, List.set_cons_zero, List.set_cons_succ]
                refine wpAnyH_takeL (i := 28) (v := ?vG28) rfl (by kernel_rfl) (by kernel_rfl) (by kernel_rfl) (fun _ _ _ h => h) (Or.inl ⟨by kernel_rfl, ?runG28⟩) hHeld ?_
                case runG28 => (intro w9 hS9; obtain ⟨c0, c1, c2⟩ := (And.intro (cell_keepB HC.out.1 hS9) (And.intro (cell_keepB HC.out.2.1 hS9) (cell_keepB HC.out.2.2 hS9))); obtain ⟨d0, d1, d2⟩ := (And.intro (cell_keepB HD.out.1 hS9) (And.intro (cell_keepB HD.out.2.1 hS9) (cell_keepB HD.out.2.2 hS9))); go_simp; try exact rfl)
                try simp only [Act.put, List.setIfInBounds_toArray, List.set_cons_zero, List.set_cons_succ]
                refine wpAnyH_takeL (i := 29) (v := ?vG29) rfl (by kernel_rfl) (by kernel_rfl) (by kernel_rfl) (fun _ _ _ h => h) (Or.inl ⟨by kernel_rfl, ?runG29⟩) hHeld ?_
                case runG29 => (intro w9 hS9; obtain ⟨c0, c1, c2⟩ := (And.intro (cell_keepB HC.out.1 hS9) (And.intro (cell_keepB HC.out.2.1 hS9) (cell_keepB HC.out.2.2 hS9))); obtain ⟨d0, d1, d2⟩ := (And.intro (cell_keepB HD.out.1 hS9) (And.intro (cell_keepB HD.out.2.1 hS9) (cell_keepB HD.out.2.2 hS9))); go_simp; try exact rfl)
                try simp only [Act.put, List.setIfInBounds_toArray, List.set_cons_zero, List.set_cons_succ]
                refine wpAnyH_takeL (i := 30) (v := ?vG30) rfl (by kernel_rfl) (by kernel_rfl) (by kernel_rfl) (fun _ _ _ h => h) (Or.inl ⟨by kernel_rfl, ?runG30⟩) hHeld ?_
                case runG30 => (intro w9 hS9; obtain ⟨c0, c1, c2⟩ := (And.intro (cell_keepB HC.out.1 hS9) (And.intro (cell_keepB HC.out.2.1 hS9) (cell_keepB HC.out.2.2 hS9))); obtain ⟨d0, d1, d2⟩ := (And.intro (cell_keepB HD.out.1 hS9) (And.intro (cell_keepB HD.out.2.1 hS9) (cell_keepB HD.out.2.2 hS9))); go_simp; try exact rfl)
                try simp only [Act.put, List.setIfInBounds_toArray, List.set_cons_zero, List.set_cons_succ]
                refine wpAnyH_takeL (i := 31) (v := ?vG31) rfl (by kernel_rfl) (by kernel_rfl) (by kernel_rfl) (fun _ _ _ h => h) (Or.inl ⟨by kernel_rfl, ?runG31⟩) hHeld ?_
                case runG31 => (intro w9 hS9; obtain ⟨c0, c1, c2⟩ := (And.intro (cell_keepB HC.out.1 hS9) (And.intro (cell_keepB HC.out.2.1 hS9) (cell_keepB HC.out.2.2 hS9))); obtain ⟨d0, d1, d2⟩ := (And.intro (cell_keepB HD.out.1 hS9) (And.intro (cell_keepB HD.out.2.1 hS9) (cell_keepB HD.out.2.2 hS9))); go_simp; try exact rfl)
                try simp only [Act.put, List.setIfInBounds_toArray, List.set_cons_zero, List.set_cons_succ]
                refine wpAnyH_takeL (i := 32) (v := ?vG32) rfl (by kernel_rfl) (by kernel_rfl) (by kernel_rfl) (fun _ _ _ h => h) (Or.inl ⟨by kernel_rfl, ?runG32⟩) hHeld ?_
                case runG32 => (intro w9 hS9; obtain ⟨c0, c1, c2⟩ := (And.intro (cell_keepB HC.out.1 hS9) (And.intro (cell_keepB HC.out.2.1 hS9) (cell_keepB HC.out.2.2 hS9))); obtain ⟨d0, d1, d2⟩ := (And.intro (cell_keepB HD.out.1 hS9) (And.intro (cell_keepB HD.out.2.1 hS9) (cell_keepB HD.out.2.2 hS9))); go_simp; try exact rfl)
                try simp only [Act.put, List.setIfInBounds_toArray, List.set_cons_zero, List.set_cons_succ]
                refine wpAnyH_takeL (i := 33) (v := ?vG33) rfl (by kernel_rfl) (by kernel_rfl) (by kernel_rfl) (fun _ _ _ h => h) (Or.inl ⟨by kernel_rfl, ?runG33⟩) hHeld ?_
                case runG33 => (intro w9 hS9; obtain ⟨c0, c1, c2⟩ := (And.intro (cell_keepB HC.out.1 hS9) (And.intro (cell_keepB HC.out.2.1 hS9) (cell_keepB HC.out.2.2 hS9))); obtain ⟨d0, d1, d2⟩ := (And.intro (cell_keepB HD.out.1 hS9) (And.intro (cell_keepB HD.out.2.1 hS9) (cell_keepB HD.out.2.2 hS9))); go_simp; try exact rfl)
                try simp only [Act.put, List.setIfInBounds_toArray, List.set_cons_zero, List.set_cons_succ]
                refine wpAnyH_takeL (i := 34) (v := ?vG34) rfl (by kernel_rfl) (by kernel_rfl) (by kernel_rfl) (fun _ _ _ h => h) (Or.inl ⟨by kernel_rfl, ?runG34⟩) hHeld ?_
                case runG34 => (intro w9 hS9; obtain ⟨c0, c1, c2⟩ := (And.intro (cell_keepB HC.out.1 hS9) (And.intro (cell_keepB HC.out.2.1 hS9) (cell_keepB HC.out.2.2 hS9))); obtain ⟨d0, d1, d2⟩ := (And.intro (cell_keepB HD.out.1 hS9) (And.intro (cell_keepB HD.out.2.1 hS9) (cell_keepB HD.out.2.2 hS9))); go_simp; try exact rfl)
                try simp only [Act.put, List.setIfInBounds_toArray, List.set_cons_zero, List.set_cons_succ]
                refine wpAnyH_takeL (i := 35) (v := .bool false) rfl (by kernel_rfl) (by kernel_rfl) (by kernel_rfl) (fun _ _ _ h => h) (Or.inl ⟨by kernel_rfl, ?runG35⟩) hHeld ?_
                case runG35 => (intro w9 hS9; obtain ⟨c0, c1, c2⟩ := (And.intro (cell_keepB HC.out.1 hS9) (And.intro (cell_keepB HC.out.2.1 hS9) (cell_keepB HC.out.2.2 hS9))); obtain ⟨d0, d1, d2⟩ := (And.intro (cell_keepB HD.out.1 hS9) (And.intro (cell_keepB HD.out.2.1 hS9) (cell_keepB HD.out.2.2 hS9))); go_simp; first | done | exact rfl | (simp [*]; done) | (simp; omega))
                try simp only [Act.put, List.setIfInBounds_toArray, List.set_cons_zero, List.set_cons_succ]
                refine wpAnyH_takeL (i := 36) (v := .bool false) rfl (by kernel_rfl) (by kernel_rfl) (by kernel_rfl) (fun _ _ _ h => h) (Or.inl ⟨by kernel_rfl, ?runG36⟩) hHeld ?_
                case runG36 => (intro w9 hS9; obtain ⟨c0, c1, c2⟩ := (And.intro (cell_keepB HC.out.1 hS9) (And.intro (cell_keepB HC.out.2.1 hS9) (cell_keepB HC.out.2.2 hS9))); obtain ⟨d0, d1, d2⟩ := (And.intro (cell_keepB HD.out.1 hS9) (And.intro (cell_keepB HD.out.2.1 hS9) (cell_keepB HD.out.2.2 hS9))); go_simp; first | done | exact rfl | (simp [*]; done) | (simp; omega))
                try simp only [Act.put, List.setIfInBounds_toArray, List.set_cons_zero, List.set_cons_succ]
                refine wpAnyH_done (by kernel_rfl) ?_ _
                clear hHeld
                go_wp2_with fail
                go_roundw
                case rel => exact ⟨k + 1, by omega, by go_num, HKX.out.drew⟩
                case measure => simp [intOf]; omega
              · obtain rfl : k = ts.length := by omega
                have i1 : ¬ (ts.length : Int) < (ts.length : Int) := by omega
                have hpr := p_sprintT (HT5.out.keep0 HKX.out) (HH'.out.keep HKX.out) (by omega) HOK'.out
                rw [hlen] at hpr
                have HPR := Lib.hid hpr
                have hpl : printL (ts'.map (·.1)) = printL (ts.map (·.1)) := by
                  have hcore : ∀ t : Tk, printTk t = (fun c : Int × Int × List UInt8 => if c.1 = 1 then Lib.itoa c.2.1 else if c.1 = 2 then nameL c.2.2 else c.2.2) (core t) := fun t => rfl
                  have e : ∀ l : List Tk, l.map printTk = (l.map core).map (fun c : Int × Int × List UInt8 => if c.1 = 1 then Lib.itoa c.2.1 else if c.1 = 2 then nameL c.2.2 else c.2.2) := fun l => by
                    rw [List.map_map]; exact List.map_congr_left (fun t _ => hcore t)
                  unfold printL
                  rw [e, e, ← HSIM.out, show (ts'.map (·.1)).map core = ts'.map (fun x => core x.1) from by rw [List.map_map]; rfl]
                have HPP := Lib.hid hpl
                clear hpr hpl
                go_wp2_with fail
                refine HPR.out.mono ?_
                rintro e w7 ⟨⟨Y, rfl, hY, -⟩, hk7⟩
                obtain rfl : Y = X := by
                  rw [string_eq (hY.trans HPP.out), string_eq HX.out]
                have hlv := q_live ((HE5.out.keep HKX.out).keep hk7)
                have HLV := Lib.hid hlv
                have HK7 := Lib.hid ((HK5.out.trans HKX.out (by simp)).trans hk7 (by simp))
                clear hlv hY hk7 HPR
                go_wp2_with fail
                refine HLV.out.mono ?_
                rintro e wl ⟨rfl, hkl⟩
                go_wp2_with fail
                go_ret
                exact ⟨rfl, HK7.out.trans hkl (by simp)⟩
end Go.Proofs.YtiiklakfelbjfaaDoor
