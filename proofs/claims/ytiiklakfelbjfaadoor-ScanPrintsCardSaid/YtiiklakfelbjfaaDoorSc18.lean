/- Terms: the document's name (the text Tm21 for the scan seat). -/
import Derived.Test.YtiiklakfelbjfaaDoorSc17
import Derived.Laws.IdiomStrings
namespace Go.Proofs.YtiiklakfelbjfaaDoor
open Go.RowKit Go.Emb

theorem _root_.Go.Emb.Rd.ofBlock {w : World} {b E n k : Nat} {xs : List Value} (hb : w.heap[b]? = some (.cells xs.toArray E)) (hl : xs.length = n * k) (hn : n ≤ maxLen) : Rd w k (.slice (some ⟨b, 0, none⟩) n n) n xs (some b) :=
  ⟨hl, _, _, rfl, Nat.le_refl _, hn, .inr ⟨b, 0, rfl, rfl, fun i hi => by simp [World.cell?, hb]⟩⟩
/-- a row of bytes that is owned; its block, if any, lies at or behind B -/
def RowB (B : Nat) (w : World) (v : Value) (bs : List UInt8) : Prop := ∃ o, Row w 5 1 v bs.length (Lib.byteCells bs) o ∧ ∀ b, o = some b → B ≤ b
theorem RowB.lit (w : World) (c : UInt8) (n : Int) (hn : (c.toNat : Int) = n) : RowB w.heap.size (w.alloc (.cells #[.int .u8 n] 5)) (.slice (some ⟨w.heap.size, 0, none⟩) 1 1) [c] := by
  subst hn
  refine ⟨some w.heap.size, ⟨rfl, .inr ⟨w.heap.size, 0, 1, _, rfl, rfl, heap_alloc_new _ _, Nat.le_refl _, by simp [maxLen], by simp, ?_⟩⟩, fun b hb => by cases hb; omega⟩
  intro i hi
  obtain rfl : i = 0 := by simpa using hi
  rfl
theorem byteCells_snoc (a b : List UInt8) : Lib.byteCells a ++ Lib.byteCells b = Lib.byteCells (a ++ b) := by simp [Lib.byteCells]
/-- what an append of bytes leaves -/
theorem RowB.next {B : Nat} {w0 w w2 : World} {bs news : List UInt8} {m : Nat} {cs : List Value} {o : Option Nat} {g off cap : Nat} (hm : news.length = m) (hcs : Lib.byteCells news = cs) (hB : ∀ b, o = some b → B ≤ b) (hw0 : Keep [] w0 w) (hBw : B ≤ w.heap.size) (hB0 : w0.heap.size ≤ B)
    (hr : Row w2 5 1 (.slice (some ⟨g, off, none⟩) (bs.length + m) cap) (bs.length + m) (Lib.byteCells bs ++ cs) (some g)) (hk : Keep o.toList w w2) (hg : o = some g ∨ w.heap.size ≤ g) :
    RowB B w2 (.slice (some ⟨g, off, none⟩) (bs.length + m) cap) (bs ++ news) ∧ Keep [] w0 w2 := by
  subst hm hcs
  refine ⟨⟨some g, by rw [List.length_append, ← byteCells_snoc]; exact hr, fun b hb => ?_⟩, hw0.trans hk (fun x hx => ?_)⟩
  · cases hb
    rcases hg with h | h
    · exact hB g h
    · omega
  · right
    cases o with
    | none => cases hx
    | some y => simp at hx; subst hx; have := hB x rfl; omega
theorem nameS_snoc (s : List UInt8) (k : Nat) (h : k < s.length) : 39 :: (s.take (k + 1)).flatMap escL = (39 :: (s.take k).flatMap escL) ++ escL s[k] := by
  rw [List.take_succ_eq_append_getElem h, List.flatMap_append]; simp
theorem flatEscL_le2 (l : List UInt8) (k : Nat) : ((l.take k).flatMap escL).length ≤ 4 * l.length := by
  have h1 := flatEscL_le (l.take k)
  have h2 : (l.take k).length ≤ l.length := by rw [List.length_take]; omega
  omega
theorem RowB.text {P : Program} {B : Nat} {w : World} {v : Value} {bs : List UInt8} {src e : TypeId} (h : RowB B w v bs) (hb : 0 < bs.length) (hs : P.underlying src = some (.slice e)) (he : P.underlying e = some (.int .u8)) : ∀ dst, P.underlying dst = some .string → (convert src dst v).run P w = .ok (.string ⟨bs.toArray⟩) w := by
  obtain ⟨o, hr, -⟩ := h
  obtain ⟨o', hrd, -⟩ := hr.rd
  obtain ⟨hl, a, c, rfl, h1, h2, h3⟩ := hrd
  intro dst hd
  rcases h3 with ⟨h, -⟩ | ⟨b, off, rfl, -, hc⟩
  · omega
  · refine run_convert_bytes_back w src dst e _ c bs hs he hd (fun j hj => ?_)
    have := hc j (by omega)
    rw [show (⟨b, off, none⟩ : Addr).add j = ⟨b, off + j, none⟩ from by simp [Addr.add], this]
    simp [Lib.byteCells, List.getElem?_eq_getElem hj]
theorem RowB.keep {B : Nat} {F : List Nat} {w w' : World} {v : Value} {bs : List UInt8} (h : RowB B w v bs) (hk : Keep F w w') (hF : ∀ b ∈ F, b < B) : RowB B w' v bs := by
  obtain ⟨o, hr, ho⟩ := h
  exact ⟨o, hr.keep hk (fun b hb hm => by have := ho b hb; have := hF b hm; omega), ho⟩
theorem RowB.form {B : Nat} {w : World} {v : Value} {bs : List UInt8} (h : RowB B w v bs) (hb : 0 < bs.length) : ∃ b off cap, v = .slice (some ⟨b, off, none⟩) bs.length cap ∧ Row w 5 1 v bs.length (Lib.byteCells bs) (some b) ∧ B ≤ b := by
  obtain ⟨o, hr, ho⟩ := h
  obtain ⟨hl, ⟨-, -, h0⟩ | ⟨b, off, cap, cs, rfl, rfl, hh⟩⟩ := id hr
  · omega
  · exact ⟨b, off, cap, rfl, hr, ho b rfl⟩
theorem hex_get (i : Nat) (h : i < 16) (h' : i < (⟨#[48, 49, 50, 51, 52, 53, 54, 55, 56, 57, 97, 98, 99, 100, 101, 102]⟩ : ByteArray).size) : (⟨#[48, 49, 50, 51, 52, 53, 54, 55, 56, 57, 97, 98, 99, 100, 101, 102]⟩ : ByteArray)[i]'h' = hexL.getD i 0 := by
  rw [← index_at _ i h']
  simp only [List.getD_eq_getElem?_getD, List.getElem?_eq_getElem (show i < hexL.length from h), Option.getD_some]
set_option maxHeartbeats 2000000 in
set_option maxRecDepth 100000 in
theorem r_name (s : ByteArray) (w : World) (hs : s.size ≤ 100000) : Calls Tryd.prog 34 #[.string s] w fun e w' => e = .returned (.string ⟨(nameL s.data.toList).toArray⟩) ∧ Keep [] w w' := by
  have hcall := r_bare s w (by omega)
  have hname : nameL s.data.toList = if bareL s.data.toList then s.data.toList else 39 :: (s.data.toList.flatMap escL ++ [39]) := rfl
  have HN := Lib.hid hname
  have HC := Lib.hid hcall
  obtain ⟨i0, hi, hz0, hz1, hz2⟩ := info_parts byte_info
  have HI := Lib.hid hi
  clear hcall hname hi
  generalize bareL s.data.toList = bb at *
  cases bb with
  | true =>
    go_enter Tryd.func34, Tryd.ntmps34
    go_wp2_with fail
    refine HC.out.mono ?_
    rintro e w1 ⟨rfl, hk1⟩
    have HK := Lib.hid hk1
    clear hk1
    go_wp2_with fail
    go_ret
    exact ⟨by rw [HN.out]; rfl, HK.out⟩
  | false =>
    obtain ⟨res, hres⟩ : ∃ x, x = nameL s.data.toList := ⟨_, rfl⟩
    rw [← hres] at HN
    rw [← hres]
    clear hres
    go_enter Tryd.func34, Tryd.ntmps34
    go_wp2_with fail
    refine HC.out.mono ?_
    rintro e w1 ⟨rfl, hk1⟩
    have HK := Lib.hid hk1
    have hrow := RowB.lit w1 39 39 rfl
    have HROW := Lib.hid hrow
    have HKA := Lib.hid ((Keep.refl [] w1).alloc (.cells #[.int .u8 39] 5))
    clear hk1 hrow HC
    go_wp2_with fail
    generalize w1.alloc (.cells #[.int .u8 39] 5) = W0 at *
    go_loopw [3, 4, 5] (fun b i _ wr => ∃ k : Nat, k ≤ s.size ∧ i = .int .i64 k ∧ RowB w1.heap.size wr b (39 :: (s.data.toList.take k).flatMap escL) ∧ Keep [] w1 wr) (fun _ i _ _ => s.size - (RowKit.intOf i).toNat)
    case atStart => exact ⟨0, Nat.zero_le _, rfl, HROW.out, HKA.out⟩
    case round =>
      obtain ⟨k, hk, rfl, hrow, hkw⟩ := hrel
      have HR := Lib.hid hrow
      have HKW := Lib.hid hkw
      clear hrow hkw HROW HKA
      by_cases hlt : k < s.size
      · have i0' : (0 : Int) ≤ (k : Int) := by omega
        have i1' : (k : Int) < (s.size : Int) := by omega
        have hle := flatEscL_le2 s.data.toList k
        rw [show s.data.toList.length = s.size from by simp] at hle
        obtain ⟨c, hcc⟩ : ∃ c, c = s[k] := ⟨_, rfl⟩
        have hsn := nameS_snoc s.data.toList k (by simpa using hlt)
        rw [index_at s k hlt, ← hcc] at hsn
        have HSN := Lib.hid hsn
        have HCC := Lib.hid hcc
        have c0 : (0 : Int) ≤ (c.toNat : Int) := by omega
        have c1 : (c.toNat : Int) ≤ 255 := by have := c.toNat_lt; omega
        obtain ⟨lk, hlk⟩ : ∃ x, x = 39 :: (s.data.toList.take k).flatMap escL := ⟨_, rfl⟩
        have hll : lk.length ≤ 500000 := by rw [hlk, List.length_cons]; omega
        have hlp : 0 < lk.length := by rw [hlk, List.length_cons]; omega
        rw [← hlk] at HR HSN
        clear hcc hsn hle hlk
        obtain ⟨rb, roff, rcap, hbv, hro, hrb⟩ := HR.out.form hlp
        have ho : ∀ b, some rb = some b → w1.heap.size ≤ b := fun b hb => by cases hb; exact hrb
        subst hbv
        have HRO := Lib.hid hro
        have HO := Lib.hid ho
        clear hro ho hrb hlp HR
        by_cases h1 : c = 39 ∨ c = 92
        · have hesc : escL c = [92, c] := by unfold escL; rw [if_pos h1]
          rw [hesc] at HSN
          by_cases q1 : (c.toNat : Int) = 39
          · have q1' : ((c.toNat : Int) == 39) = true := by simpa using q1
            clear h1 q1 hesc
            go_upto_region 9 with fail
            rw [← HCC.out]
            go_wp2_with (at_builtin; refine wpList_append_row _ rfl _ _ 62 62 rfl 5 i0 (.int .u8 0) 1 1 Tryd.underlying62 HI.out hz0 hz1 hz2 rfl _ _ _ (some rb) rfl (HRO.out.keep (F := []) ((Keep.refl [] _).alloc _) (by simp)) _ rfl 2 [.int .u8 92, .int .u8 c.toNat] (Src.ofSlice _ Tryd.underlying62 ⟨wr.heap.size, 0, none⟩ 2 2 [.int .u8 92, .int .u8 c.toNat] rfl ?c11 ?c21) (by omega) ?c31 ?c41 ?_)
            try case c11 =>
              intro j u hj
              match j, hj with
              | 0, hj => simp at hj; subst hj; simp [Addr.add]
              | 1, hj => simp at hj; subst hj; simp [Addr.add]
            try case c21 => first | rfl | (intro u hu; simp at hu; (try rcases hu with rfl | rfl) <;> (try subst hu) <;> rfl)
            try case c31 => unfold maxLen; omega
            try case c41 => omega
            intro g off cap w2 hr2 hk2 hg2
            obtain ⟨n1, n2⟩ := RowB.next (news := [92, c]) rfl rfl HO.out (HKW.out.alloc _) (by have := HKW.out.size; simp; omega) (Nat.le_refl _) hr2 hk2 (by simpa using hg2)
            rw [← HSN.out] at n1
            have HN1 := Lib.hid n1
            have HN2 := Lib.hid n2
            clear n1 n2 hr2 hk2 hg2
            go_wp2_with fail
            go_roundw
            case rel => exact ⟨k + 1, by omega, by go_num, HN1.out, HN2.out⟩
            case measure => simp [RowKit.intOf]; omega
          · have q2 : (c.toNat : Int) = 92 := by
              rcases h1 with rfl | rfl
              · exact absurd rfl q1
              · rfl
            have q1' : ((c.toNat : Int) == 39) = false := by simpa using q1
            have q2' : ((c.toNat : Int) == 92) = true := by simpa using q2
            clear h1 q1 q2 hesc
            go_upto_region 9 with fail
            rw [← HCC.out]
            go_wp2_with (at_builtin; refine wpList_append_row _ rfl _ _ 62 62 rfl 5 i0 (.int .u8 0) 1 1 Tryd.underlying62 HI.out hz0 hz1 hz2 rfl _ _ _ (some rb) rfl (HRO.out.keep (F := []) ((Keep.refl [] _).alloc _) (by simp)) _ rfl 2 [.int .u8 92, .int .u8 c.toNat] (Src.ofSlice _ Tryd.underlying62 ⟨wr.heap.size, 0, none⟩ 2 2 [.int .u8 92, .int .u8 c.toNat] rfl ?c12 ?c22) (by omega) ?c32 ?c42 ?_)
            try case c12 =>
              intro j u hj
              match j, hj with
              | 0, hj => simp at hj; subst hj; simp [Addr.add]
              | 1, hj => simp at hj; subst hj; simp [Addr.add]
            try case c22 => first | rfl | (intro u hu; simp at hu; (try rcases hu with rfl | rfl) <;> (try subst hu) <;> rfl)
            try case c32 => unfold maxLen; omega
            try case c42 => omega
            intro g off cap w2 hr2 hk2 hg2
            obtain ⟨n1, n2⟩ := RowB.next (news := [92, c]) rfl rfl HO.out (HKW.out.alloc _) (by have := HKW.out.size; simp; omega) (Nat.le_refl _) hr2 hk2 (by simpa using hg2)
            rw [← HSN.out] at n1
            have HN1 := Lib.hid n1
            have HN2 := Lib.hid n2
            clear n1 n2 hr2 hk2 hg2
            go_wp2_with fail
            go_roundw
            case rel => exact ⟨k + 1, by omega, by go_num, HN1.out, HN2.out⟩
            case measure => simp [RowKit.intOf]; omega
        · have q1 : ((c.toNat : Int) == 39) = false := by
            simp only [beq_eq_false_iff_ne, ne_eq]
            intro h; apply h1; left; apply UInt8.toNat.inj; simp; omega
          have q2 : ((c.toNat : Int) == 92) = false := by
            simp only [beq_eq_false_iff_ne, ne_eq]
            intro h; apply h1; right; apply UInt8.toNat.inj; simp; omega
          by_cases h2 : c < 32 ∨ 126 < c
          · have hesc : escL c = [92, 120, hexL.getD (c.toNat / 16) 0, hexL.getD (c.toNat % 16) 0] := by unfold escL; rw [if_neg h1, if_pos h2]
            rw [hesc] at HSN
            have hxa : ∀ h', (⟨#[48, 49, 50, 51, 52, 53, 54, 55, 56, 57, 97, 98, 99, 100, 101, 102]⟩ : ByteArray)[((c.toNat : Int) / 16).toNat]'h' = hexL.getD (c.toNat / 16) 0 := fun h' => by
              rw [hex_get _ (by omega) h', show ((c.toNat : Int) / 16).toNat = c.toNat / 16 from by omega]
            have hxb : ∀ h', (⟨#[48, 49, 50, 51, 52, 53, 54, 55, 56, 57, 97, 98, 99, 100, 101, 102]⟩ : ByteArray)[((c.toNat : Int) % 16).toNat]'h' = hexL.getD (c.toNat % 16) 0 := fun h' => by
              rw [hex_get _ (by omega) h', show ((c.toNat : Int) % 16).toNat = c.toNat % 16 from by omega]
            generalize hexL.getD (c.toNat / 16) 0 = x1 at *
            generalize hexL.getD (c.toNat % 16) 0 = x2 at *
            have HXA := Lib.hid hxa
            have HXB := Lib.hid hxb
            clear hxa hxb
            have w1 : IntKind.u8.wrap ((c.toNat : Int) / 16) = (c.toNat : Int) / 16 := IntWalk.u8_in _ (by omega)
            have w2 : IntKind.u8.wrap ((c.toNat : Int) % 16) = (c.toNat : Int) % 16 := IntWalk.u8_in _ (by omega)
            have t1 : (c.toNat : Int).tdiv 16 = (c.toNat : Int) / 16 := Int.tdiv_eq_ediv_of_nonneg (by omega)
            have t2 : (c.toNat : Int).tmod 16 = (c.toNat : Int) % 16 := Int.tmod_eq_emod_of_nonneg (by omega)
            have r0 : (0 : Int) ≤ (c.toNat : Int) / 16 := by omega
            have r1 : (c.toNat : Int) / 16 < 16 := by omega
            have r2 : (0 : Int) ≤ (c.toNat : Int) % 16 := by omega
            have r3 : (c.toNat : Int) % 16 < 16 := by omega
            have q34 : ((c.toNat : Int) < 32) ∨ (¬ (c.toNat : Int) < 32 ∧ (126 : Int) < (c.toNat : Int)) := by
              rcases h2 with h | h <;> rw [UInt8.lt_iff_toNat_lt] at h <;> simp at h <;> omega
            clear h1 h2 hesc
            rcases q34 with q3 | ⟨q3, q4⟩
            · go_upto_region 9 with fail
              rw [← HCC.out]
              go_upto_region 12 with fail
              go_wp2_with fail
              refine wp_region_held_drew (S := fun w' => Keep [rb] wr w') (by kernel_rfl) ((Keep.refl [rb] wr).drew) (fun hHeld => ?_)
              refine wpAnyH_takeL (i := 0) (v := ?vA0) rfl (by kernel_rfl) (by kernel_rfl) (by kernel_rfl) (fun _ _ _ h => h) (Or.inl ⟨by kernel_rfl, ?runA0⟩) hHeld ?_
              case runA0 => (intro w9 hS9; go_simp; try exact rfl)
              try simp only [Act.put, List.setIfInBounds_toArray, List.set_cons_zero, List.set_cons_succ]
              refine wpAnyH_takeL (i := 1) (v := ?vA1) rfl (by kernel_rfl) (by kernel_rfl) (by kernel_rfl) (fun _ _ _ h => h) (Or.inl ⟨by kernel_rfl, ?runA1⟩) hHeld ?_
              case runA1 => (intro w9 hS9; go_simp; try exact rfl)
              try simp only [Act.put, List.setIfInBounds_toArray, List.set_cons_zero, List.set_cons_succ]
              refine wpAnyH_takeL (i := 2) (v := .int .u8 ((c.toNat : Int) / 16)) rfl (by kernel_rfl) (by kernel_rfl) (by kernel_rfl) (fun _ _ _ h => h) (Or.inl ⟨by kernel_rfl, ?runA2⟩) hHeld ?_
              case runA2 => (intro w9 hS9; go_simp; first | done | exact rfl | (simp [*]; done) | (simp; omega))
              try simp only [Act.put, List.setIfInBounds_toArray, List.set_cons_zero, List.set_cons_succ]
              refine wpAnyH_takeL (i := 3) (v := .int .u8 x1.toNat) rfl (by kernel_rfl) (by kernel_rfl) (by kernel_rfl) (fun _ _ _ h => h) (Or.inl ⟨by kernel_rfl, ?runA3⟩) hHeld ?_
              case runA3 => (intro w9 hS9; go_simp; first | exact HXA.out _ | exact congrArg UInt8.toNat (HXA.out _) | exact congrArg (fun x : UInt8 => (x.toNat : Int)) (HXA.out _))
              try simp only [Act.put, List.setIfInBounds_toArray, List.set_cons_zero, List.set_cons_succ]
              refine wpAnyH_takeL (i := 4) (v := ?vA4) rfl (by kernel_rfl) (by kernel_rfl) (by kernel_rfl) (fun _ _ _ h => h) (Or.inl ⟨by kernel_rfl, ?runA4⟩) hHeld ?_
              case runA4 => (intro w9 hS9; go_simp; try exact rfl)
              try simp only [Act.put, List.setIfInBounds_toArray, List.set_cons_zero, List.set_cons_succ]
              refine wpAnyH_takeL (i := 5) (v := .int .u8 ((c.toNat : Int) % 16)) rfl (by kernel_rfl) (by kernel_rfl) (by kernel_rfl) (fun _ _ _ h => h) (Or.inl ⟨by kernel_rfl, ?runA5⟩) hHeld ?_
              case runA5 => (intro w9 hS9; go_simp; first | done | exact rfl | (simp [*]; done) | (simp; omega))
              try simp only [Act.put, List.setIfInBounds_toArray, List.set_cons_zero, List.set_cons_succ]
              refine wpAnyH_takeL (i := 6) (v := .int .u8 x2.toNat) rfl (by kernel_rfl) (by kernel_rfl) (by kernel_rfl) (fun _ _ _ h => h) (Or.inl ⟨by kernel_rfl, ?runA6⟩) hHeld ?_
              case runA6 => (intro w9 hS9; go_simp; first | exact HXB.out _ | exact congrArg UInt8.toNat (HXB.out _) | exact congrArg (fun x : UInt8 => (x.toNat : Int)) (HXB.out _))
              try simp only [Act.put, List.setIfInBounds_toArray, List.set_cons_zero, List.set_cons_succ]
              refine wpAnyH_ready (rs := [7]) (by kernel_rfl) (by simp) ?_
              refine AllReadyH.consL rfl (fun K hK => ?_) AllReadyH.nil
              go_simp
              have hAL : Keep [rb] wr ((wr.alloc (.cells #[.int .u8 92, .int .u8 120, .int .u8 x1.toNat, .int .u8 x2.toNat] 5)).drew) := ((Keep.refl [rb] wr).alloc _).drew
              have hA0 : Keep [] wr ((wr.alloc (.cells #[.int .u8 92, .int .u8 120, .int .u8 x1.toNat, .int .u8 x2.toNat] 5)).drew) := ((Keep.refl [] wr).alloc _).drew
              have hSB : (wr.alloc (.cells #[.int .u8 92, .int .u8 120, .int .u8 x1.toNat, .int .u8 x2.toNat] 5)).drew.heap[wr.heap.size]? = some (.cells #[.int .u8 92, .int .u8 120, .int .u8 x1.toNat, .int .u8 x2.toNat] 5) := heap_alloc_new wr _
              have hSZ : wr.heap.size ≤ (wr.alloc (.cells #[.int .u8 92, .int .u8 120, .int .u8 x1.toNat, .int .u8 x2.toNat] 5)).drew.heap.size := hA0.size
              refine hK.out _ _ hAL (fun hHeld => ?_)
              clear hK K
              try simp only [Act.put, List.setIfInBounds_toArray, List.set_cons_zero, List.set_cons_succ]
              generalize (wr.alloc (.cells #[.int .u8 92, .int .u8 120, .int .u8 x1.toNat, .int .u8 x2.toNat] 5)).drew = wq at *
              refine wpAnyH_ready (rs := [8]) (by kernel_rfl) (by simp) ?_
              refine AllReadyH.consL rfl (fun K hK => ?_) AllReadyH.nil
              refine step_append_w _ (by rfl) _ _ 62 62 (by rfl) 5 5 i0 _ 1 1 Tryd.underlying62 Tryd.underlying62 HI.out hz0 hz1 hz2 rfl rb roff lk.length rcap (Lib.byteCells lk) (by rfl) (HRO.out.keep hA0 (by simp)) (.slice (some ⟨wr.heap.size, 0, none⟩) 4 4) (by rfl) 4 [.int .u8 92, .int .u8 120, .int .u8 x1.toNat, .int .u8 x2.toNat] (some wr.heap.size) (Rd.ofBlock hSB rfl (by simp [maxLen])) (by intro u hu; simp at hu; rcases hu with rfl | rfl | rfl | rfl <;> rfl) (by unfold maxLen; omega) (by omega) ?_
              intro g off cap w2 hr2 hk2 hg2
              obtain ⟨n1, n2⟩ := RowB.next (news := [92, 120, x1, x2]) (o := some rb) rfl rfl HO.out (HKW.out.trans hA0 (by simp)) (by have := HKW.out.size; omega) (Nat.le_refl _) hr2 hk2 (by rcases hg2 with h | h; exact .inl (by rw [h]); exact .inr h)
              rw [← HSN.out] at n1
              have HN1 := Lib.hid n1
              have HN2 := Lib.hid n2
              refine hK.out _ _ (hAL.trans hk2 (fun x hx => .inl hx)) (fun hHeld => ?_)
              clear hK K n1 n2 hr2 hk2 hg2 hA0 hAL hSB hSZ
              try simp only [Act.put, List.setIfInBounds_toArray, List.set_cons_zero, List.set_cons_succ]
              refine wpAnyH_ready (rs := [9]) (by kernel_rfl) (by simp) ?_
              refine AllReadyH.consL rfl (fun K hK => ?_) AllReadyH.nil
              go_simp
              refine hK.out _ _ hHeld (fun hHeld => ?_)
              clear hK K
              try simp only [Act.put, List.setIfInBounds_toArray, List.set_cons_zero, List.set_cons_succ]
              refine wpAnyH_done (by kernel_rfl) ?_ _
              go_wp2_with fail
              go_roundw
              case rel => exact ⟨k + 1, by omega, by go_num, HN1.out, HN2.out⟩
              case measure => simp [RowKit.intOf]; omega
            · go_upto_region 9 with fail
              rw [← HCC.out]
              go_upto_region 12 with fail
              go_wp2_with fail
              refine wp_region_held_drew (S := fun w' => Keep [rb] wr w') (by kernel_rfl) ((Keep.refl [rb] wr).drew) (fun hHeld => ?_)
              refine wpAnyH_takeL (i := 0) (v := ?vB0) rfl (by kernel_rfl) (by kernel_rfl) (by kernel_rfl) (fun _ _ _ h => h) (Or.inl ⟨by kernel_rfl, ?runB0⟩) hHeld ?_
              case runB0 => (intro w9 hS9; go_simp; try exact rfl)
              try simp only [Act.put, List.setIfInBounds_toArray, List.set_cons_zero, List.set_cons_succ]
              refine wpAnyH_takeL (i := 1) (v := ?vB1) rfl (by kernel_rfl) (by kernel_rfl) (by kernel_rfl) (fun _ _ _ h => h) (Or.inl ⟨by kernel_rfl, ?runB1⟩) hHeld ?_
              case runB1 => (intro w9 hS9; go_simp; try exact rfl)
              try simp only [Act.put, List.setIfInBounds_toArray, List.set_cons_zero, List.set_cons_succ]
              refine wpAnyH_takeL (i := 2) (v := .int .u8 ((c.toNat : Int) / 16)) rfl (by kernel_rfl) (by kernel_rfl) (by kernel_rfl) (fun _ _ _ h => h) (Or.inl ⟨by kernel_rfl, ?runB2⟩) hHeld ?_
              case runB2 => (intro w9 hS9; go_simp; first | done | exact rfl | (simp [*]; done) | (simp; omega))
              try simp only [Act.put, List.setIfInBounds_toArray, List.set_cons_zero, List.set_cons_succ]
              refine wpAnyH_takeL (i := 3) (v := .int .u8 x1.toNat) rfl (by kernel_rfl) (by kernel_rfl) (by kernel_rfl) (fun _ _ _ h => h) (Or.inl ⟨by kernel_rfl, ?runB3⟩) hHeld ?_
              case runB3 => (intro w9 hS9; go_simp; first | exact HXA.out _ | exact congrArg UInt8.toNat (HXA.out _) | exact congrArg (fun x : UInt8 => (x.toNat : Int)) (HXA.out _))
              try simp only [Act.put, List.setIfInBounds_toArray, List.set_cons_zero, List.set_cons_succ]
              refine wpAnyH_takeL (i := 4) (v := ?vB4) rfl (by kernel_rfl) (by kernel_rfl) (by kernel_rfl) (fun _ _ _ h => h) (Or.inl ⟨by kernel_rfl, ?runB4⟩) hHeld ?_
              case runB4 => (intro w9 hS9; go_simp; try exact rfl)
              try simp only [Act.put, List.setIfInBounds_toArray, List.set_cons_zero, List.set_cons_succ]
              refine wpAnyH_takeL (i := 5) (v := .int .u8 ((c.toNat : Int) % 16)) rfl (by kernel_rfl) (by kernel_rfl) (by kernel_rfl) (fun _ _ _ h => h) (Or.inl ⟨by kernel_rfl, ?runB5⟩) hHeld ?_
              case runB5 => (intro w9 hS9; go_simp; first | done | exact rfl | (simp [*]; done) | (simp; omega))
              try simp only [Act.put, List.setIfInBounds_toArray, List.set_cons_zero, List.set_cons_succ]
              refine wpAnyH_takeL (i := 6) (v := .int .u8 x2.toNat) rfl (by kernel_rfl) (by kernel_rfl) (by kernel_rfl) (fun _ _ _ h => h) (Or.inl ⟨by kernel_rfl, ?runB6⟩) hHeld ?_
              case runB6 => (intro w9 hS9; go_simp; first | exact HXB.out _ | exact congrArg UInt8.toNat (HXB.out _) | exact congrArg (fun x : UInt8 => (x.toNat : Int)) (HXB.out _))
              try simp only [Act.put, List.setIfInBounds_toArray, List.set_cons_zero, List.set_cons_succ]
              refine wpAnyH_ready (rs := [7]) (by kernel_rfl) (by simp) ?_
              refine AllReadyH.consL rfl (fun K hK => ?_) AllReadyH.nil
              go_simp
              have hAL : Keep [rb] wr ((wr.alloc (.cells #[.int .u8 92, .int .u8 120, .int .u8 x1.toNat, .int .u8 x2.toNat] 5)).drew) := ((Keep.refl [rb] wr).alloc _).drew
              have hA0 : Keep [] wr ((wr.alloc (.cells #[.int .u8 92, .int .u8 120, .int .u8 x1.toNat, .int .u8 x2.toNat] 5)).drew) := ((Keep.refl [] wr).alloc _).drew
              have hSB : (wr.alloc (.cells #[.int .u8 92, .int .u8 120, .int .u8 x1.toNat, .int .u8 x2.toNat] 5)).drew.heap[wr.heap.size]? = some (.cells #[.int .u8 92, .int .u8 120, .int .u8 x1.toNat, .int .u8 x2.toNat] 5) := heap_alloc_new wr _
              have hSZ : wr.heap.size ≤ (wr.alloc (.cells #[.int .u8 92, .int .u8 120, .int .u8 x1.toNat, .int .u8 x2.toNat] 5)).drew.heap.size := hA0.size
              refine hK.out _ _ hAL (fun hHeld => ?_)
              clear hK K
              try simp only [Act.put, List.setIfInBounds_toArray, List.set_cons_zero, List.set_cons_succ]
              generalize (wr.alloc (.cells #[.int .u8 92, .int .u8 120, .int .u8 x1.toNat, .int .u8 x2.toNat] 5)).drew = wq at *
              refine wpAnyH_ready (rs := [8]) (by kernel_rfl) (by simp) ?_
              refine AllReadyH.consL rfl (fun K hK => ?_) AllReadyH.nil
              refine step_append_w _ (by rfl) _ _ 62 62 (by rfl) 5 5 i0 _ 1 1 Tryd.underlying62 Tryd.underlying62 HI.out hz0 hz1 hz2 rfl rb roff lk.length rcap (Lib.byteCells lk) (by rfl) (HRO.out.keep hA0 (by simp)) (.slice (some ⟨wr.heap.size, 0, none⟩) 4 4) (by rfl) 4 [.int .u8 92, .int .u8 120, .int .u8 x1.toNat, .int .u8 x2.toNat] (some wr.heap.size) (Rd.ofBlock hSB rfl (by simp [maxLen])) (by intro u hu; simp at hu; rcases hu with rfl | rfl | rfl | rfl <;> rfl) (by unfold maxLen; omega) (by omega) ?_
              intro g off cap w2 hr2 hk2 hg2
              obtain ⟨n1, n2⟩ := RowB.next (news := [92, 120, x1, x2]) (o := some rb) rfl rfl HO.out (HKW.out.trans hA0 (by simp)) (by have := HKW.out.size; omega) (Nat.le_refl _) hr2 hk2 (by rcases hg2 with h | h; exact .inl (by rw [h]); exact .inr h)
              rw [← HSN.out] at n1
              have HN1 := Lib.hid n1
              have HN2 := Lib.hid n2
              refine hK.out _ _ (hAL.trans hk2 (fun x hx => .inl hx)) (fun hHeld => ?_)
              clear hK K n1 n2 hr2 hk2 hg2 hA0 hAL hSB hSZ
              try simp only [Act.put, List.setIfInBounds_toArray, List.set_cons_zero, List.set_cons_succ]
              refine wpAnyH_ready (rs := [9]) (by kernel_rfl) (by simp) ?_
              refine AllReadyH.consL rfl (fun K hK => ?_) AllReadyH.nil
              go_simp
              refine hK.out _ _ hHeld (fun hHeld => ?_)
              clear hK K
              try simp only [Act.put, List.setIfInBounds_toArray, List.set_cons_zero, List.set_cons_succ]
              refine wpAnyH_done (by kernel_rfl) ?_ _
              go_wp2_with fail
              go_roundw
              case rel => exact ⟨k + 1, by omega, by go_num, HN1.out, HN2.out⟩
              case measure => simp [RowKit.intOf]; omega
          · have hesc : escL c = [c] := by unfold escL; rw [if_neg h1, if_neg h2]
            rw [hesc] at HSN
            have q3 : ¬ (c.toNat : Int) < 32 := by intro h; apply h2; left; rw [UInt8.lt_iff_toNat_lt]; simp; omega
            have q4 : ¬ (126 : Int) < (c.toNat : Int) := by intro h; apply h2; right; rw [UInt8.lt_iff_toNat_lt]; simp; omega
            clear h1 h2 hesc
            go_upto_region 9 with fail
            rw [← HCC.out]
            go_wp2_with (at_builtin; refine wpList_append_row _ rfl _ _ 62 62 rfl 5 i0 (.int .u8 0) 1 1 Tryd.underlying62 HI.out hz0 hz1 hz2 rfl _ _ _ (some rb) rfl (HRO.out.keep (F := []) ((Keep.refl [] _).alloc _) (by simp)) _ rfl 1 [.int .u8 c.toNat] (Src.ofSlice _ Tryd.underlying62 ⟨wr.heap.size, 0, none⟩ 1 1 [.int .u8 c.toNat] rfl ?c13 ?c23) (by omega) ?c33 ?c43 ?_)
            try case c13 =>
              intro j u hj
              match j, hj with
              | 0, hj => simp at hj; subst hj; simp [Addr.add]
            try case c23 => first | rfl | (intro u hu; simp at hu; (try rcases hu with rfl | rfl) <;> (try subst hu) <;> rfl)
            try case c33 => unfold maxLen; omega
            try case c43 => omega
            intro g off cap w2 hr2 hk2 hg2
            obtain ⟨n1, n2⟩ := RowB.next (news := [c]) rfl rfl HO.out (HKW.out.alloc _) (by have := HKW.out.size; simp; omega) (Nat.le_refl _) hr2 hk2 (by simpa using hg2)
            rw [← HSN.out] at n1
            have HN1 := Lib.hid n1
            have HN2 := Lib.hid n2
            clear n1 n2 hr2 hk2 hg2
            go_wp2_with fail
            go_roundw
            case rel => exact ⟨k + 1, by omega, by go_num, HN1.out, HN2.out⟩
            case measure => simp [RowKit.intOf]; omega
      · obtain rfl : k = s.size := by omega
        rw [List.take_of_length_le (by simp)] at HR
        have hle : (s.data.toList.flatMap escL).length ≤ 400000 := by
          have := flatEscL_le s.data.toList
          rw [show s.data.toList.length = s.size from by simp] at this
          omega
        have hres : res = (39 :: s.data.toList.flatMap escL) ++ [39] := HN.out
        obtain ⟨lk, hlk⟩ : ∃ x, x = 39 :: s.data.toList.flatMap escL := ⟨_, rfl⟩
        have hll : lk.length ≤ 500000 := by rw [hlk, List.length_cons]; omega
        have hlp : 0 < lk.length := by rw [hlk, List.length_cons]; omega
        rw [← hlk] at HR hres
        have HRES := Lib.hid hres
        clear hres hle hlk
        obtain ⟨rb, roff, rcap, hbv, hro, hrb⟩ := HR.out.form hlp
        have ho : ∀ b, some rb = some b → w1.heap.size ≤ b := fun b hb => by cases hb; exact hrb
        subst hbv
        have HRO := Lib.hid hro
        have HO := Lib.hid ho
        clear hro ho hrb hlp HR
        go_wp2_with (at_builtin; refine wpList_append_row _ rfl _ _ 62 62 rfl 5 i0 (.int .u8 0) 1 1 Tryd.underlying62 HI.out hz0 hz1 hz2 rfl _ _ _ (some rb) rfl (HRO.out.keep (F := []) ((Keep.refl [] _).alloc _) (by simp)) _ rfl 1 [.int .u8 39] (Src.ofSlice _ Tryd.underlying62 ⟨wr.heap.size, 0, none⟩ 1 1 [.int .u8 39] rfl ?c19 ?c29) (by omega) ?c39 ?c49 ?_)
        try case c19 =>
          intro j u hj
          match j, hj with
          | 0, hj => simp at hj; subst hj; simp [Addr.add]
        try case c29 => first | rfl | (intro u hu; simp at hu; subst hu; rfl)
        try case c39 => unfold maxLen; omega
        try case c49 => omega
        intro g off cap w2 hr2 hk2 hg2
        obtain ⟨n1, n2⟩ := RowB.next (news := [39]) rfl rfl HO.out (HKW.out.alloc _) (by have := HKW.out.size; simp; omega) (Nat.le_refl _) hr2 hk2 (by simpa using hg2)
        have hcv := n1.text (by simp) Tryd.underlying62 Tryd.underlying5 9 Tryd.underlying9
        rw [← HRES.out, List.length_singleton] at hcv
        have HN2 := Lib.hid n2
        clear n1 n2 hr2 hk2 hg2
        go_wp2_with fail
        go_ret
        exact ⟨rfl, HK.out.trans HN2.out (by simp)⟩
end Go.Proofs.YtiiklakfelbjfaaDoor
