/- Scanning: Print (the program's). Printed by gen-sc14.py. -/
import Derived.Test.YtiiklakfelbjfaaDoorSc13
namespace Go.Proofs.YtiiklakfelbjfaaDoor
open Go.RowKit Go.Emb

theorem nameL_ne (l : List UInt8) : nameL l ≠ [] := by
  unfold nameL
  by_cases h : bareL l = true
  · rw [if_pos h]
    rintro rfl
    simp [bareL] at h
  · rw [if_neg h]; simp [quoteL]
set_option maxRecDepth 100000 in
set_option maxHeartbeats 1000000 in
theorem p_printA {w : World} {B : Nat} (s : ByteArray) (ht : TabOk B w) (hs : s.size ≤ 100000) :
    Calls Tryd.prog 17 #[.agg #[.int .i64 2, .int .i64 0, .string s, .slice none 0 0]] w fun e w' => e = .returned (.string ⟨(nameL s.data.toList).toArray⟩) ∧ Keep [] w w' := by
  have hcall := fun ob => p_writeA (w := (w.alloc ob).alloc (.cells #[.pointer none, .slice none 0 0] 64)) (B := B) (b := w.heap.size + 1) (bs := []) (F := [w.heap.size + 1]) (by have := isB_new (w.alloc ob); simpa using this) s (ht.keep0 (((Keep.refl [] w).alloc ob).alloc _)) hs (by simp)
  have HC := Lib.hid hcall
  clear hcall
  go_enter Tryd.func17, Tryd.ntmps17
  go_wp2_with fail
  refine (HC.out _).mono ?_
  rintro e w2 ⟨rfl, F', hb2, hf2, hk2⟩
  have hcall2 := b_text hb2 (by simpa using nameL_ne s.data.toList)
  have HC2 := Lib.hid hcall2
  have hkk : Keep [] w w2 := (((Keep.refl [] w).alloc _).alloc _).trans hk2 (by simp)
  have HK := Lib.hid hkk
  have HF := Lib.hid hf2
  clear hcall2 hb2 hkk hk2 hf2
  go_wp2_with fail
  refine HC2.out.mono ?_
  rintro e w3 ⟨rfl, hk3⟩
  go_wp2_with fail
  go_ret
  refine ⟨rfl, HK.out.trans hk3 (fun x hx => ?_)⟩
  right
  rcases HF.out x hx with h | h
  · simp at h; omega
  · simp at h; omega
/-- a token as it lies -/
structure TkG where
  k : Int
  n : Int
  S : ByteArray
  a : Int
  z : Int
def encG (x : TkG) : List Value := [.int .i64 x.k, .int .i64 x.n, .string x.S, .int .i64 x.a, .int .i64 x.z]
def HasG (w : World) (v : Value) (gs : List TkG) : Prop := ∃ o, Rd w 5 v gs.length (gs.flatMap encG) o ∧ ∀ b, o = some b → b < w.heap.size
theorem HasG.keep {w w' : World} {v : Value} {gs : List TkG} (h : HasG w v gs) (k : Keep [] w w') : HasG w' v gs := by
  obtain ⟨o, h1, h2⟩ := h
  exact ⟨o, h1.keep k (by simp), fun b hb => Nat.lt_of_lt_of_le (h2 b hb) k.size⟩
theorem HasG.slice {w : World} {v : Value} {gs : List TkG} (h : HasG w v gs) : ∃ a c, v = .slice a gs.length c ∧ gs.length ≤ c ∧ c ≤ maxLen := by
  obtain ⟨o, ⟨-, a, c, h1, h2, h3, -⟩, -⟩ := h
  exact ⟨a, c, h1, h2, h3⟩
theorem HasG.at {w : World} {a : Option Addr} {c n : Nat} {gs : List TkG} (h : HasG w (.slice a n c) gs) {k : Nat} (hk : k < gs.length) :
    ∃ b off, a = some ⟨b, off, none⟩ ∧ w.cell? ⟨b, off + k * 5, none⟩ = some (.int .i64 gs[k].k) ∧ w.cell? ⟨b, off + k * 5 + 1, none⟩ = some (.int .i64 gs[k].n) ∧ w.cell? ⟨b, off + k * 5 + 2, none⟩ = some (.string gs[k].S) ∧
      w.cell? ⟨b, off + k * 5 + 3, none⟩ = some (.int .i64 gs[k].a) ∧ w.cell? ⟨b, off + k * 5 + 4, none⟩ = some (.int .i64 gs[k].z) := by
  obtain ⟨o, h1, -⟩ := h
  obtain ⟨b, off, rfl, rfl, h3⟩ := rd_at (m := 5) (fun _ => rfl) h1 hk (by omega)
  exact ⟨b, off, rfl, by simpa [encG] using h3 0 (by omega), by simpa [encG, Nat.add_assoc] using h3 1 (by omega), by simpa [encG, Nat.add_assoc] using h3 2 (by omega), by simpa [encG, Nat.add_assoc] using h3 3 (by omega), by simpa [encG, Nat.add_assoc] using h3 4 (by omega)⟩
def toG (x : Tk × Nat) : TkG := ⟨x.1.kind, x.1.num, ⟨x.1.text.toArray⟩, (x.2 : Nat), (x.2 + x.1.en : Nat)⟩
theorem HasK.gen {w : World} {v : Value} {ts : List (Tk × Nat)} (h : HasK w v ts) : HasG w v (ts.map toG) := by
  obtain ⟨o, h1, h2⟩ := h
  refine ⟨o, ?_, h2⟩
  have e : (ts.map toG).flatMap encG = ts.flatMap encT := by rw [List.flatMap_map]; rfl
  rw [e, List.length_map]
  exact h1
/-- a token's text -/
def printG (g : TkG) : List UInt8 := if g.k = 1 then Lib.itoa g.n else if g.k = 2 then nameL g.S.data.toList else g.S.data.toList
theorem printG_toG (x : Tk × Nat) : printG (toG x) = printTk x.1 := by unfold printG printTk toG; simp
def prB (g : TkG) : ByteArray := ⟨(printG g).toArray⟩
theorem join_eq : ∀ xs : List (List UInt8), Lib.join xs [32] = joinS xs
  | [] => rfl
  | [x] => Lib.join_one x [32]
  | x :: y :: r => by
    have := join_eq (y :: r)
    rw [Lib.join_cons] at this ⊢
    simp only [joinS]
    rw [← this]
    simp [Lib.joinTail]
theorem str_info : (Tryd.prog.info? 9).map (fun i => (i.zero, i.size, i.bytes)) = some (some (.string ⟨#[]⟩), 1, 16) := by kernel_rfl
def PrintI (w : World) (gs : List TkG) (k : Nat) (v : Value) (wr : World) : Prop :=
  ∃ o, Row wr 9 1 v k (((gs.take k).map prB).map Value.string) o ∧ (∀ b, o = some b → w.heap.size ≤ b) ∧ Keep [] w wr
theorem PrintI.push {w w1 w2 : World} {gs : List TkG} {k g off cap : Nat} {o : Option Nat} {S : ByteArray} (hk : k < gs.length) (ho : ∀ b, o = some b → w.heap.size ≤ b) (hkw : Keep [] w w1)
    (hr : Row w2 9 1 (.slice (some ⟨g, off, none⟩) (k + 1) cap) (k + 1) (((gs.take k).map prB).map Value.string ++ [Value.string S]) (some g)) (hk2 : Keep o.toList w1 w2) (hg : o = some g ∨ w1.heap.size ≤ g) (hS : S.data.toList = printG gs[k]) :
    PrintI w gs (k + 1) (.slice (some ⟨g, off, none⟩) (k + 1) cap) w2 := by
  refine ⟨some g, ?_, ?_, hkw.trans hk2 (fun x hx => .inr ?_)⟩
  · have e : ((gs.take (k + 1)).map prB).map Value.string = ((gs.take k).map prB).map Value.string ++ [Value.string S] := by
      rw [List.take_succ_eq_append_getElem hk, List.map_append, List.map_append]
      have : S = prB gs[k] := by unfold prB; rw [← hS]
      rw [this]; first | done | rfl
    rw [e]; exact hr
  · rintro b ⟨⟩
    rcases hg with h | h
    · exact ho _ h
    · have := hkw.size; omega
  · cases o with
    | none => simp at hx
    | some y => simp at hx; subst hx; exact ho _ rfl
set_option maxRecDepth 100000 in
set_option maxHeartbeats 4000000 in
theorem p_sprint {w : World} {B : Nat} {v : Value} {gs : List TkG} (ht : TabOk B w) (hg : HasG w v gs) (hl : gs.length ≤ 1000000) (hi64 : ∀ x ∈ gs, -9223372036854775808 ≤ x.n ∧ x.n ≤ 9223372036854775807) (hsz : ∀ x ∈ gs, x.S.size ≤ 100000) (hlen : (joinS (gs.map printG)).length ≤ 140737488355328) :
    Calls Tryd.prog 10 #[v] w fun e w' => (∃ X : ByteArray, e = .returned (.string X) ∧ X.data.toList = joinS (gs.map printG)) ∧ Keep [] w w' := by
  obtain ⟨va, vc, rfl, hv1, hv2⟩ := hg.slice
  unfold maxLen at hv2
  obtain ⟨i0, hi, hz0, hz1, hz2⟩ := info_parts str_info
  have HI := Lib.hid hi
  have HG := Lib.hid hg
  have HT := Lib.hid ht
  have HI64 := Lib.hid hi64
  have HSZ := Lib.hid hsz
  have HLEN := Lib.hid hlen
  clear hg ht hi hi64 hsz hlen
  go_enter Tryd.func10, Tryd.ntmps10
  go_wp2_with fail
  go_loopw [3, 8] (fun v i wr => ∃ k : Nat, k ≤ gs.length ∧ i = .int .i64 k ∧ PrintI w gs k v wr) (fun _ i _ => gs.length - (RowKit.intOf i).toNat)
  case atStart => exact ⟨0, Nat.zero_le _, rfl, none, Row.nil _ _ _, by simp, Keep.refl _ _⟩
  case round =>
    obtain ⟨k, hk, rfl, o, hrow, ho, hkw⟩ := hrel
    have HROW := Lib.hid hrow
    have HO := Lib.hid ho
    have HKW := Lib.hid hkw
    clear hrow ho hkw
    by_cases hlt : k < gs.length
    · have q0 : (0 : Int) ≤ (k : Int) := by omega
      have q1 : (k : Int) < (gs.length : Int) := by omega
      obtain ⟨vb, voff, rfl, c0, c1, c2, c3, c4⟩ := (HG.out.keep HKW.out).at hlt
      have hin := HI64.out _ (List.getElem_mem hlt)
      have hss := HSZ.out _ (List.getElem_mem hlt)
      obtain ⟨g, hgg⟩ : ∃ g, g = gs[k] := ⟨_, rfl⟩
      rw [← hgg] at c0 c1 c2 c3 c4 hin hss
      have HGG := Lib.hid hgg
      clear hgg
      obtain ⟨gk, gn, gS, ga, gz⟩ := g
      simp only at c0 c1 c2 c3 c4 hin hss
      have hk5 : Keep [] wr (wr.alloc (.cells #[.int .i64 gk, .int .i64 gn, .string gS, .int .i64 ga, .int .i64 gz] 30)) := (Keep.refl [] wr).alloc _
      have HK5 := Lib.hid (HKW.out.trans hk5 (by simp))
      have hb5 := heap_alloc_new wr (.cells #[.int .i64 gk, .int .i64 gn, .string gS, .int .i64 ga, .int .i64 gz] 30)
      have HR5 := Lib.hid (Row.keep HROW.out hk5 (by simp))
      have HT5 := Lib.hid ((HT.out.keep0 HKW.out).keep0 hk5)
      have HB5 := Lib.hid hb5
      obtain ⟨⟨e0, e1, e2, e3, e4⟩, -⟩ := cells5b hb5
      obtain ⟨ra, rc, hrv⟩ : ∃ ra rc, u3 = .slice ra k rc := by
        obtain ⟨-, ⟨-, h, hn⟩ | ⟨_, _, _, _, -, h, -⟩⟩ := HROW.out
        · exact ⟨none, 0, by rw [h, hn]⟩
        · exact ⟨_, _, h⟩
      subst hrv
      clear hb5 hk5
      by_cases h1 : gk = 1
      · subst h1
        have hfm := fmt_any HT5.out gn hin.1 hin.2
        have HFM := Lib.hid hfm
        clear hfm
        go_wp2_with fail
        generalize wr.alloc _ = w5 at *
        refine HFM.out.mono ?_
        rintro e w6 ⟨rfl, hk6⟩
        obtain ⟨X, hX⟩ : ∃ X : ByteArray, X = ⟨(Lib.itoa gn).toArray⟩ := ⟨_, rfl⟩
        rw [← hX]
        have hXS : X.data.toList = printG gs[k] := by rw [← HGG.out, hX]; rfl
        have HK6 := Lib.hid (HK5.out.trans hk6 (by simp))
        have hr6 := Row.keep HR5.out hk6 (by simp)
        have hb6 := blkk HB5.out hk6
        obtain ⟨⟨d0, d1, d2, d3, d4⟩, -⟩ := cells5b hb6
        clear hX hk6 e0 e1 e2 e3 e4 c0 c1 c2 c3 c4
        have t1 := src_blk (P := Tryd.prog) (k := 1) Tryd.underlying31 (heap_alloc_new w6 (.cells #[.string X] 9)) rfl (by intro u hu; simp at hu; subst hu; rfl)
        have t2 := Row.keep hr6 ((Keep.refl [] w6).alloc (.cells #[.string X] 9)) (by simp)
        have T1 := Lib.hid t1
        have T2 := Lib.hid t2
        have HXS := Lib.hid hXS
        clear t1 t2 hr6 hXS
        go_wp2_with (at_builtin; refine wpList_append_row _ rfl _ _ 31 31 rfl 9 i0 (.string ⟨#[]⟩) 1 16 Tryd.underlying31 HI.out hz0 hz1 hz2 rfl _ k _ o rfl T2.out _ rfl 1 _ T1.out (by omega) (by first | (unfold maxLen; omega) | (simp [maxLen] <;> omega)) (by omega) ?_)
        intro g off cap w9 hr9 hk9 hg9
        have hpush := PrintI.push hlt HO.out HK6.out (by simpa using hr9) (((Keep.refl o.toList w6).alloc _).trans hk9 (fun b hb => .inl hb)) (by rcases hg9 with h | h; (· exact .inl h); exact .inr (by first | omega | (simp at h; omega))) HXS.out
        have HPUSH := Lib.hid hpush
        clear hr9 hk9 hg9 hpush T1 T2
        go_wp2_with fail
        go_roundw
        case rel => exact ⟨k + 1, by omega, by go_num, HPUSH.out⟩
        case measure => simp [intOf]; omega
      · have h1' : (gk == 1) = false := beq_eq_false_iff_ne.2 h1
        by_cases h2 : gk = 2
        · subst h2
          have hpa := p_printA gS HT5.out hss
          have HPA := Lib.hid hpa
          clear hpa
          go_wp2_with fail
          generalize wr.alloc _ = w5 at *
          refine (p_atom gS w5).mono ?_
          rintro e w5' ⟨rfl, hk5'⟩
          have hpa := p_printA gS (HT5.out.keep0 hk5') hss
          have HPA := Lib.hid hpa
          have HK5' := Lib.hid hk5'
          clear hpa hk5'
          go_wp2_with fail
          refine HPA.out.mono ?_
          rintro e w6 ⟨rfl, hk6'⟩
          have hk6 := HK5'.out.trans hk6' (by simp)
          obtain ⟨X, hX⟩ : ∃ X : ByteArray, X = ⟨(nameL gS.data.toList).toArray⟩ := ⟨_, rfl⟩
          rw [← hX]
          have hXS : X.data.toList = printG gs[k] := by rw [← HGG.out, hX]; rfl
          have HK6 := Lib.hid (HK5.out.trans hk6 (by simp))
          have hr6 := Row.keep HR5.out hk6 (by simp)
          have hb6 := blkk HB5.out hk6
          obtain ⟨⟨d0, d1, d2, d3, d4⟩, -⟩ := cells5b hb6
          clear hX hk6 hk6' e0 e1 e2 e3 e4 c0 c1 c2 c3 c4
          have t1 := src_blk (P := Tryd.prog) (k := 1) Tryd.underlying31 (heap_alloc_new w6 (.cells #[.string X] 9)) rfl (by intro u hu; simp at hu; subst hu; rfl)
          have t2 := Row.keep hr6 ((Keep.refl [] w6).alloc (.cells #[.string X] 9)) (by simp)
          have T1 := Lib.hid t1
          have T2 := Lib.hid t2
          have HXS := Lib.hid hXS
          clear t1 t2 hr6 hXS
          go_wp2_with (at_builtin; refine wpList_append_row _ rfl _ _ 31 31 rfl 9 i0 (.string ⟨#[]⟩) 1 16 Tryd.underlying31 HI.out hz0 hz1 hz2 rfl _ k _ o rfl T2.out _ rfl 1 _ T1.out (by omega) (by first | (unfold maxLen; omega) | (simp [maxLen] <;> omega)) (by omega) ?_)
          intro g off cap w9 hr9 hk9 hg9
          have hpush := PrintI.push hlt HO.out HK6.out (by simpa using hr9) (((Keep.refl o.toList w6).alloc _).trans hk9 (fun b hb => .inl hb)) (by rcases hg9 with h | h; (· exact .inl h); exact .inr (by first | omega | (simp at h; omega))) HXS.out
          have HPUSH := Lib.hid hpush
          clear hr9 hk9 hg9 hpush T1 T2
          go_wp2_with fail
          go_roundw
          case rel => exact ⟨k + 1, by omega, by go_num, HPUSH.out⟩
          case measure => simp [intOf]; omega
        · have h2' : (gk == 2) = false := beq_eq_false_iff_ne.2 h2
          go_upto_region 6 with fail
          generalize wr.alloc _ = w6 at *
          have hXS : gS.data.toList = printG gs[k] := by rw [← HGG.out]; unfold printG; simp only; rw [if_neg h1, if_neg h2]
          have HK6 := Lib.hid HK5.out
          have hr6 := HR5.out
          clear c0 c1 c2 c3 c4
          have t1 := src_blk (P := Tryd.prog) (k := 1) Tryd.underlying31 (heap_alloc_new w6 (.cells #[.string gS] 9)) rfl (by intro u hu; simp at hu; subst hu; rfl)
          have t2 := Row.keep hr6 ((Keep.refl [] w6).alloc (.cells #[.string gS] 9)) (by simp)
          have T1 := Lib.hid t1
          have T2 := Lib.hid t2
          have HXS := Lib.hid hXS
          clear t1 t2 hr6 hXS
          go_wp2_with (at_builtin; refine wpList_append_row _ rfl _ _ 31 31 rfl 9 i0 (.string ⟨#[]⟩) 1 16 Tryd.underlying31 HI.out hz0 hz1 hz2 rfl _ k _ o rfl T2.out _ rfl 1 _ T1.out (by omega) (by first | (unfold maxLen; omega) | (simp [maxLen] <;> omega)) (by omega) ?_)
          intro g off cap w9 hr9 hk9 hg9
          have hpush := PrintI.push hlt HO.out HK6.out (by simpa using hr9) (((Keep.refl o.toList w6).alloc _).trans hk9 (fun b hb => .inl hb)) (by rcases hg9 with h | h; (· exact .inl h); exact .inr (by first | omega | (simp at h; omega))) HXS.out
          have HPUSH := Lib.hid hpush
          clear hr9 hk9 hg9 hpush T1 T2
          go_wp2_with fail
          go_roundw
          case rel => exact ⟨k + 1, by omega, by go_num, HPUSH.out⟩
          case measure => simp [intOf]; omega
    · obtain rfl : k = gs.length := by omega
      have q1 : ¬ (gs.length : Int) < (gs.length : Int) := by omega
      have hrow := HROW.out
      rw [List.take_length] at hrow
      by_cases h0 : gs = []
      · subst h0
        obtain ⟨ra, rc, hrv⟩ : ∃ ra rc, u3 = .slice ra 0 rc := by
          obtain ⟨-, ⟨-, h, hn⟩ | ⟨_, _, _, _, -, h, -⟩⟩ := hrow
          · exact ⟨none, 0, h⟩
          · exact ⟨_, _, h⟩
        subst hrv
        clear hrow
        go_wp2_with fail
        refine (Tryd.strings_Join_none ra rc ⟨#[32]⟩ wr).mono ?_
        rintro e w6 ⟨rfl, rfl⟩
        go_wp2_with fail
        go_ret
        exact ⟨⟨_, rfl, rfl⟩, HKW.out⟩
      · obtain ⟨-, ⟨-, -, hn⟩ | ⟨b, off, cap, cs, -, hv, hb, hcap, hmax, hcs, hcell⟩⟩ := hrow
        · exact absurd (List.length_eq_zero_iff.1 hn) h0
        · subst hv
          have hxl : (gs.map prB).length = gs.length := by simp
          have hml : (gs.map prB).map (·.data.toList) = gs.map printG := by rw [List.map_map]; rfl
          have hj := Tryd.strings_Join b off cap (gs.map prB) ⟨#[32]⟩ wr (fun j x hx => by
            have hj : j < gs.length := by rw [← hxl]; exact (List.getElem?_eq_some_iff.1 hx).1
            have h1 := hcell j (by omega)
            simp only [World.cell?, hb]
            rw [h1, List.getElem?_map, hx]; rfl) (Array.getElem?_eq_some_iff.1 hb).1 (by rw [hxl]; omega) (by rw [hxl]; exact hcap) (by rw [hml]; show (Lib.join _ [32]).length ≤ _; rw [join_eq]; exact HLEN.out)
          rw [hxl, hml] at hj
          have HJ := Lib.hid hj
          clear hj hcell hb hcap hmax hcs hml
          go_wp2_with fail
          refine HJ.out.mono ?_
          rintro e w6 ⟨rfl, hbl⟩
          go_wp2_with fail
          go_ret
          exact ⟨⟨_, rfl, (join_eq _)⟩, HKW.out.trans (Keep.of_below (F := []) hbl) (by simp)⟩
end Go.Proofs.YtiiklakfelbjfaaDoor
