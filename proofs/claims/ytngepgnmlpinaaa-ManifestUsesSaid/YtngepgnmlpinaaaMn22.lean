/- The document's Get. Printed by gen-mn22.py. -/
import Derived.Test.YtngepgnmlpinaaaMn21
namespace Go.Proofs.Ytngepgnmlpinaaa
open Go.RowKit Go.Emb

structure GR (w0 : World) (av : List Nat) (w : World) (q zb : Nat) (bs : List UInt8) (v : Value) (bo : Option Nat) (st : Option (List UInt8)) : Prop where
  tape : TSt 67 w q bs v bo st
  zbx : w.heap[zb]? = some (.cells #[.string ⟨#[]⟩, .int .i64 0, .int .i64 0, .slice none 0 0, .slice none 0 0] 27)
  hav : av = [q, zb] ++ bo.toList
  nq : zb ≠ q ∧ bo ≠ some q
  qB : w0.heap.size ≤ q
  lt : ∀ b ∈ av, b < w.heap.size
  keep : Keep [] w0 w
theorem GR.turn {w0 w w' : World} {av : List Nat} {q zb : Nat} {bs : List UInt8} {v : Value} {bo : Option Nat} {st st' : Option (List UInt8)} (h : GR w0 av w q zb bs v bo st) (hk : Keep [q] w w') (ht : TSt 67 w' q bs v bo st') : GR w0 av w' q zb bs v bo st' :=
  ⟨ht, blk_keep h.zbx hk (by simpa using h.nq.1), h.hav, h.nq, h.qB, fun b hb => Nat.lt_of_lt_of_le (h.lt b hb) hk.size, h.keep.trans hk (fun b hb => by simp at hb; subst hb; exact .inr h.qB)⟩
theorem GR.next {w0 w w' : World} {av : List Nat} {q zb : Nat} {bs : List UInt8} {v : Value} {bo : Option Nat} {st : Option (List UInt8)} {F : List Nat} (h : GR w0 av w q zb bs v bo st) (hk : Keep F w w') (hF : ∀ b ∈ F, b ∉ av ∧ w0.heap.size ≤ b) : GR w0 av w' q zb bs v bo st :=
  ⟨h.tape.keep hk (fun hm => (hF _ hm).1 (by rw [h.hav]; simp)) (fun b hb hm => (hF _ hm).1 (by rw [h.hav, hb]; simp)), blk_keep h.zbx hk (fun hm => (hF _ hm).1 (by rw [h.hav]; simp)), h.hav, h.nq, h.qB, fun b hb => Nat.lt_of_lt_of_le (h.lt b hb) hk.size, h.keep.trans hk (fun b hb => .inr (hF b hb).2)⟩
theorem GR.qav {w0 w : World} {av : List Nat} {q zb : Nat} {bs : List UInt8} {v : Value} {bo : Option Nat} {st : Option (List UInt8)} (h : GR w0 av w q zb bs v bo st) : q ∈ av := by rw [h.hav]; simp
/-- the tape's fault, for the loops' conditions -/
theorem GR.fault {w0 w : World} {av : List Nat} {q zb : Nat} {bs : List UInt8} {v : Value} {bo : Option Nat} {st : Option (List UInt8)} (h : GR w0 av w q zb bs v bo st) : ∃ fa : Int, w.cell? ⟨q, 2, none⟩ = some (.int .i64 fa) ∧ (st = none ∧ (fa == 0) = false ∨ st ≠ none ∧ fa = 0) := by
  obtain ⟨pos, fa, sp, ht, hs⟩ := h.tape
  refine ⟨fa, (cells4 ht.blk).2.2.1, ?_⟩
  rcases hs with ⟨h1, h2, -⟩ | ⟨h1, -, h2⟩
  · exact .inl ⟨h1, by simp [h2]⟩
  · exact .inr ⟨by rw [h2]; simp, h1⟩
theorem piece_laidR {w0 w w3 w4 w5 w6 : World} {av : List Nat} {q zb pb mb : Nat} {bs : List UInt8} {v : Value} {bo : Option Nat} {st st' : Option (List UInt8)} {xo ro po : Option Nat} {p : Plc} {xv xv' : Value} {x : MnV} {y : Int × Int} {g : Nat}
    (hG : GR w0 av w q zb bs v bo st) (hP : PSep av w0.heap.size w pb xo p xv) (hM : MSep (pb :: (xo.toList ++ av)) w0.heap.size w mb ro po x)
    (ht : TSt 67 w3 q bs v bo st') (h3 : Keep [q] w w3) (h4 : Keep [] w3 w4) (h5 : Keep xo.toList w4 w5) (hg : xo = some g ∨ w4.heap.size ≤ g) (hrow : Row w5 23 2 xv' (p.pieces ++ [y]).length ((p.pieces ++ [y]).flatMap encX) (some g))
    (h6 : Keep [pb] w5 w6) (hb : w6.heap[pb]? = some (.cells #[.int .i64 p.pid, .int .i64 p.len, xv'] 43)) :
    GR w0 av w6 q zb bs v bo st' ∧ ∃ xo' xv', PSep av w0.heap.size w6 pb xo' { p with pieces := p.pieces ++ [y] } xv' ∧ MSep (pb :: (xo'.toList ++ av)) w0.heap.size w6 mb ro po x := by
  have hG3 := hG.turn h3 ht
  have hqx : ∀ b, xo = some b → b ∉ av ∧ w0.heap.size ≤ b := fun b hb => ⟨(hP.xon b hb).2.1, (hP.xon b hb).1⟩
  have hP4 : PSep av w0.heap.size w4 pb xo p xv := (hP.keep h3 (fun b hb => .inl (by simp at hb; rw [hb]; exact hG.qav))).keep h4 (fun b hb => by cases hb)
  have hM4 : MSep (pb :: (xo.toList ++ av)) w0.heap.size w4 mb ro po x := (hM.keep h3 (fun b hb => .inl (by simp at hb; rw [hb]; simp [hG.qav]))).keep h4 (fun b hb => by cases hb)
  have hG4 := hG3.next h4 (fun b hb => by cases hb)
  have hM4' := hM4.turn (bv := g :: pb :: (xo.toList ++ av)) (fun b hb => by
    rcases List.mem_cons.1 hb with rfl | hb
    · rcases hg with h | h
      · exact .inl (by simp [h])
      · exact .inr h
    · exact .inl hb)
  have hM6 := (hM4'.keep h5 (fun b hb => .inl (by simp at hb; simp [hb]))).keep h6 (fun b hb => .inl (by simp at hb; simp [hb]))
  refine ⟨(hG4.next h5 (fun b hb => by simp at hb; exact hqx b hb)).next h6 (fun b hb => by simp at hb; subst hb; exact ⟨hP.pbn, hP.pbB⟩), some g, xv', ?_, hM6.turn (fun b hb => .inl ?_)⟩
  · exact hP4.more hG4.keep.size hrow (hg.imp (fun h => h.symm) (fun h b hb => by cases hb; exact h)) hG4.lt h6 hb
  · simp at hb ⊢
    rcases hb with h | h | h
    · simp [h]
    · simp [h]
    · simp [h]
theorem man_new {w : World} {B : Nat} {av : List Nat} (s : ByteArray) (hlt : ∀ b ∈ av, b < w.heap.size) (hB : B ≤ w.heap.size) : MSep av B (w.alloc (.cells #[.string s, .int .i64 0, .int .i64 0, .slice none 0 0, .slice none 0 0] 27)) w.heap.size none none ⟨s, (0, 0), .slice none 0 0, [], .slice none 0 0, []⟩ :=
  ⟨heap_new w _, ⟨rfl, none, 0, rfl, Nat.le_refl _, by simp [maxLen], .inl ⟨rfl, rfl⟩⟩, Row.nil _ _ _, fun y hy => by simp at hy, fun hm => by have := hlt _ hm; omega, hB, fun b hb => (nomatch hb), fun b hb => (nomatch hb)⟩
def PlacesR (w0 : World) (av : List Nat) (q zb : Nat) (bs : List UInt8) (v : Value) (bo : Option Nat) (mb : Nat) (ro : Option Nat) (x : MnV) (st : Option (List UInt8)) (ps : List Plc) (w : World) : Prop :=
  GR w0 av w q zb bs v bo st ∧ ∃ po pv xs, xs.map (·.p) = ps ∧ MSep av w0.heap.size w mb ro po { x with pv := pv, places := xs }
def PieceR (w0 : World) (av : List Nat) (q zb : Nat) (bs : List UInt8) (v : Value) (bo : Option Nat) (pb mb : Nat) (ro po : Option Nat) (x : MnV) (a b : Int) (st : Option (List UInt8)) (es : List (Int × Int)) (w : World) : Prop :=
  GR w0 av w q zb bs v bo st ∧ ∃ xo xv, PSep av w0.heap.size w pb xo ⟨a, b, es⟩ xv ∧ MSep (pb :: (xo.toList ++ av)) w0.heap.size w mb ro po x
set_option maxRecDepth 100000 in
set_option maxHeartbeats 4000000 in
theorem r_get {w : World} {v : Value} {bs : List UInt8} {o : Option Nat} (h : Rd w 1 v bs.length (Lib.byteCells bs) o) (hsz : bs.length ≤ 100000000) :
    Calls Try.prog 11 #[v] w (GetP w bs) := by
  obtain ⟨i0, hi, hz0, hz1, hz2⟩ := info_parts plc_info
  obtain ⟨j0, hj, hy0, hy1, hy2⟩ := info_parts exti_info
  have HI := Lib.hid hi
  have HJ := Lib.hid hj
  obtain ⟨-, va, vc, rfl, hc1, hc2, -⟩ := id h
  unfold maxLen at hc2
  have hk1 : Keep [] w (w.alloc (.cells #[.string ⟨#[]⟩, .int .i64 0, .int .i64 0, .slice none 0 0, .slice none 0 0] 27)) := (Keep.refl [] w).alloc _
  have hopen := r_new (h.keep hk1 (by simp)) (by omega)
  have HO := Lib.hid hopen
  have HK1 := Lib.hid hk1
  have HS1 : Hid ((w.alloc (.cells #[.string ⟨#[]⟩, .int .i64 0, .int .i64 0, .slice none 0 0, .slice none 0 0] 27)).heap.size = w.heap.size + 1) := Lib.hid (size_alloc _ _)
  have HMB := Lib.hid (heap_new w (.cells #[.string ⟨#[]⟩, .int .i64 0, .int .i64 0, .slice none 0 0, .slice none 0 0] 27))
  clear hopen h hi hj
  go_enter Try.func11, Try.ntmps11
  go_wp2_with fail
  generalize w.alloc (.cells #[.string ⟨#[]⟩, .int .i64 0, .int .i64 0, .slice none 0 0, .slice none 0 0] 27) = w1 at *
  refine HO.out.mono ?_
  rintro e w2 ⟨q, tv, bo, rfl, ht2, hq2, hb2, hbl2, hk2⟩
  have hqlt : q < w2.heap.size := by
    obtain ⟨pos, fa, sp, ht, -⟩ := ht2
    exact (Array.getElem?_eq_some_iff.1 ht.blk).1
  have hbq : bo ≠ some q := fun h => by
    obtain ⟨pos, fa, sp, ht, -⟩ := ht2
    exact ht.ne q h rfl
  have hs1 := HS1.out
  have hG2 : GR w ([q, w.heap.size] ++ bo.toList) w2 q w.heap.size bs tv bo (some bs) := ⟨ht2, blk_keep HMB.out hk2 (by simp), rfl, ⟨by omega, hbq⟩, by omega, fun b hb => by
    simp at hb
    rcases hb with rfl | rfl | hb
    · exact hqlt
    · have := hk2.size; omega
    · exact hbl2 b hb, HK1.out.trans hk2 (by simp)⟩
  obtain ⟨av, hav⟩ : ∃ a, a = [q, w.heap.size] ++ bo.toList := ⟨_, rfl⟩
  rw [← hav] at hG2
  have hqa := hG2.qav
  have htx := r_ttext hG2.tape
  have HG2 := Lib.hid hG2
  have HTX := Lib.hid htx
  clear hG2 htx ht2 hq2 hb2 hk2 hbl2 hqlt hbq hav hs1
  go_wp2_with fail
  refine HTX.out.mono ?_
  rintro e w3 ⟨rfl, ht3, hk3⟩
  have hG3 := HG2.out.turn hk3 ht3
  have HG3 := Lib.hid hG3
  clear hG3 ht3 hk3 HG2 HTX
  obtain ⟨S1, hS1⟩ : ∃ s, s = oStr (some bs) := ⟨_, rfl⟩
  rw [← hS1] at HG3
  rw [← hS1]
  have HSE1 := Lib.hid hS1
  clear hS1
  go_wp2_with fail
  have hk4 : Keep [] w3 (w3.alloc (.cells #[.string ⟨S1.1.toArray⟩, .int .i64 0, .int .i64 0, .slice none 0 0, .slice none 0 0] 27)) := (Keep.refl [] w3).alloc _
  have hM4 := man_new (B := w.heap.size) ⟨S1.1.toArray⟩ HG3.out.lt HG3.out.keep.size
  have hG4 := HG3.out.next hk4 (fun b hb => by cases hb)
  have hint := r_tint hG4.tape
  have HG4 := Lib.hid hG4
  have HM4 := Lib.hid hM4
  have HIN := Lib.hid hint
  clear hk4 hM4 hG4 hint
  generalize w3.alloc (.cells #[.string ⟨S1.1.toArray⟩, .int .i64 0, .int .i64 0, .slice none 0 0, .slice none 0 0] 27) = w4 at *
  obtain ⟨mb, hmb⟩ : ∃ m, m = w3.heap.size := ⟨_, rfl⟩
  rw [← hmb] at HM4
  rw [← hmb]
  have hmbB : w.heap.size ≤ mb := HM4.out.mbB
  clear hmb HG3
  refine HIN.out.mono ?_
  rintro e w5 ⟨rfl, ht5, hk5⟩
  have hG5 := HG4.out.turn hk5 ht5
  have hM5 := HM4.out.keep hk5 (fun b hb => .inl (by simp at hb; subst hb; exact hqa))
  have hint := r_tint hG5.tape
  have HG5 := Lib.hid hG5
  have HM5 := Lib.hid hM5
  have HIN2 := Lib.hid hint
  clear hk5 hM5 hG5 hint ht5 HIN HG4 HM4
  go_wp2_with fail
  refine HIN2.out.mono ?_
  rintro e w6 ⟨rfl, ht6, hk6⟩
  have hX : oExt S1.2 = (((oInt S1.2).1, (oInt (oInt S1.2).2).1), (oInt (oInt S1.2).2).2) := rfl
  obtain ⟨X, hXX⟩ : ∃ x, x = oExt S1.2 := ⟨_, rfl⟩
  rw [← hXX] at hX
  have HXX := Lib.hid hXX
  have hx1 : (oInt S1.2).1 = X.1.1 := by rw [hX]
  have hx2 : (oInt (oInt S1.2).2).1 = X.1.2 := by rw [hX]
  have hx3 : (oInt (oInt S1.2).2).2 = X.2 := by rw [hX]
  rw [hx1, hx2]
  rw [hx3] at ht6
  have hG6 := HG5.out.turn hk6 ht6
  have hM6 := HM5.out.keep hk6 (fun b hb => .inl (by simp at hb; subst hb; exact hqa))
  clear hx1 hx2 hx3 hX hXX HIN2 HG5 HM5 hk6 ht6
  obtain ⟨m0, m1, m2, m3, m4, mf⟩ := hM6.cells
  have mf1 := mf 1
  have mf2 := mf 2
  simp only at m0 m1 m2 m3 m4
  have hk7 : Keep [mb] w6 ((w6.setCell ⟨mb, 1, none⟩ (.int .i64 X.1.1)).setCell ⟨mb, 2, none⟩ (.int .i64 X.1.2)) := ((Keep.refl _ w6).setCell (.inl (by simp)) _).setCell (.inl (by simp)) _
  have hb7 := heap_setCell_at (i := 2) (heap_setCell_at (i := 1) hM6.box (.int .i64 X.1.1)) (.int .i64 X.1.2)
  have hM7 := hM6.store (ar := X.1) (s' := ⟨S1.1.toArray⟩) hk7 (by simpa using hb7)
  have hG7 := hG6.next hk7 (fun b hb => by simp at hb; subst hb; exact ⟨hM6.mbn, hM6.mbB⟩)
  have htx := r_ttext hG7.tape
  have HG7 := Lib.hid hG7
  have HM7 := Lib.hid hM7
  have HTX := Lib.hid htx
  clear hk7 hb7 hM7 hG7 htx hM6 hG6 mf
  go_wp2_with fail
  generalize (w6.setCell ⟨mb, 1, none⟩ (.int .i64 X.1.1)).setCell ⟨mb, 2, none⟩ (.int .i64 X.1.2) = w7 at *
  refine HTX.out.mono ?_
  rintro e w9 ⟨rfl, ht9, hk9⟩
  clear m0 m1 m2 m3 m4 mf1 mf2 HTX
  obtain ⟨S3, hS3⟩ : ∃ s, s = oStr X.2 := ⟨_, rfl⟩
  rw [← hS3] at ht9
  rw [← hS3]
  have hG9 := HG7.out.turn hk9 ht9
  have hM9 := HM7.out.keep hk9 (fun b hb => .inl (by simp at hb; subst hb; exact hqa))
  have hl3 : S3.1.length ≤ 1000000000 := by
    have := oStr_le X.2 bs.length (fun l hl => by
      have h1 : oExt S1.2 = X := HXX.out.symm
      rw [← h1] at hl
      obtain ⟨l2, h2, h3⟩ := oExt_le hl
      rw [HSE1.out] at h2
      have := oStr_rest h2
      omega)
    rw [hS3]; omega
  obtain ⟨cc, w10, hcr, hrd9, hk10, hs10⟩ := conv_bytes (P := Try.prog) w9 9 24 5 ⟨S3.1.toArray⟩ Try.underlying9 Try.underlying24 Try.underlying5 (by show S3.1.toArray.size ≤ _; simpa using hl3)
  have hcr2 : (convert 9 24 (.string ⟨S3.1.toArray⟩)).run Try.prog w9 = .ok (.slice (some ⟨w9.heap.size, 0, none⟩) S3.1.length cc) w10 := hcr
  have hrd9' : Rd w10 1 (.slice (some ⟨w9.heap.size, 0, none⟩) S3.1.length cc) S3.1.length (Lib.byteCells S3.1) (some w9.heap.size) := hrd9
  have HS3 := Lib.hid hS3
  have hG10 := hG9.next hk10 (fun b hb => by cases hb)
  have hM10 := hM9.keep hk10 (fun b hb => by cases hb)
  obtain ⟨m0, m1, m2, m3, m4, mf⟩ := hM10.cells
  have mf3 := mf 3
  simp only at m0 m1 m2 m3 m4
  have hk11 : Keep [mb] w10 (w10.setCell ⟨mb, 3, none⟩ (.slice (some ⟨w9.heap.size, 0, none⟩) S3.1.length cc)) := (Keep.refl _ w10).setCell (.inl (by simp)) _
  have hb11 := heap_setCell_at (i := 3) hM10.box (.slice (some ⟨w9.heap.size, 0, none⟩) S3.1.length cc)
  have hM11 := hM10.setRest (rv' := (.slice (some ⟨w9.heap.size, 0, none⟩) S3.1.length cc)) (rest' := S3.1) (ro' := some w9.heap.size) hk11 (by simpa using hb11) hrd9' (fun b hb => by
    cases hb
    have hlt9 := hM9.lt
    refine ⟨hG9.keep.size, by omega, fun hm => ?_, by omega, by simp⟩
    have := hG9.lt _ hm; omega)
  have hG11 := hG10.next hk11 (fun b hb => by simp at hb; subst hb; exact ⟨hM10.mbn, hM10.mbB⟩)
  have hun := r_tuint hG11.tape
  have HG11 := Lib.hid hG11
  have HM11 := Lib.hid (show MSep av w.heap.size (w10.setCell ⟨mb, 3, none⟩ (.slice (some ⟨w9.heap.size, 0, none⟩) S3.1.length cc)) mb (some w9.heap.size) none ⟨⟨S1.1.toArray⟩, X.1, (.slice (some ⟨w9.heap.size, 0, none⟩) S3.1.length cc), S3.1, .slice none 0 0, []⟩ from hM11)
  have HUN := Lib.hid hun
  have HCR := Lib.hid hcr2
  clear hcr hrd9 hrd9' hk9 ht9 hk10 hs10 hG9 hM9 hG10 hM10 hk11 hb11 hM11 hG11 hun hS3 hcr2 mf HG7 HM7 HK1 HS1 HMB HO
  go_wp2_with fail
  rw [HCR.out]
  simp only [Result.andThen]
  rw [Oper.upon_value]
  clear HCR
  go_wp2_with fail
  refine HUN.out.mono ?_
  rintro e w12 ⟨rfl, ht12, hk12⟩
  obtain ⟨x0, hx0⟩ : ∃ x0 : MnV, x0 = ⟨⟨S1.1.toArray⟩, X.1, (.slice (some ⟨w9.heap.size, 0, none⟩) S3.1.length cc), S3.1, .slice none 0 0, []⟩ := ⟨_, rfl⟩
  obtain ⟨N, hN⟩ : ∃ n, n = oNum false S3.2 := ⟨_, rfl⟩
  rw [← hN] at ht12
  rw [← hN]
  have hNlt : N.1 < 18446744073709551616 := by rw [hN]; exact oNum_lt false S3.2
  obtain ⟨R, hR⟩ : ∃ R, R = oMany gPlc N.1 N.2.2 := ⟨_, rfl⟩
  have hman : oMan bs = (⟨S1.1, X.1, S3.1, R.1⟩, R.2) := by rw [hR, hN, HS3.out, HXX.out, HSE1.out]; rfl
  have hlen : lenO N.2.2 ≤ bs.length + 1 := by
    obtain ⟨pos, fa, sp, ht, ⟨h, -⟩ | ⟨-, -, h⟩⟩ := ht12
    · rw [h]; simp [lenO]
    · rw [h]; simp [lenO]
  have hst := ManyAt.start gPlc N.1 N.2.2 hlen
  rw [← hR] at hst
  have hG12 := HG11.out.turn hk12 ht12
  have hM12 := HM11.out.keep hk12 (fun b hb => .inl (by simp at hb; subst hb; exact hqa))
  rw [← hx0] at hM12
  have HMAN := Lib.hid (show oMan bs = (⟨x0.s.data.toList, x0.area, x0.rest, R.1⟩, R.2) from by rw [hman, hx0])
  have HX0 := Lib.hid (show x0.places = [] ∧ x0.pv = .slice none 0 0 from by rw [hx0]; exact ⟨rfl, rfl⟩)
  have hpi : PlacesR w av q w.heap.size bs tv bo mb (some w9.heap.size) x0 N.2.2 [] w12 := ⟨hG12, none, .slice none 0 0, [], rfl, by
    have h1 := HX0.out
    obtain ⟨s', ar', rv', rest', pv', pl'⟩ := x0
    simp only at h1
    obtain ⟨rfl, rfl⟩ := h1
    exact hM12⟩
  have HPI := Lib.hid hpi
  have HST := Lib.hid hst
  clear hx0 hN hR hman hlen hst hG12 hM12 hpi hk12 ht12 HUN HG11 HM11 HSE1 HXX HS3 m0 m1 m2 m3 m4 mf3 hl3
  generalize (some w9.heap.size) = ro at *
  go_wp2_with fail
  go_loopw [7] (fun i wr => ∃ (m k : Nat) (st : Option (List UInt8)) (ps : List Plc), m + k = N.1 ∧ i = .int .u64 (k : Int) ∧ ManyAt gPlc R bs.length m st ps ∧ PlacesR w av q w.heap.size bs tv bo mb ro x0 st ps wr) (fun i _ => N.1 - (intOf i).toNat)
  case atStart => exact ⟨N.1, 0, N.2.2, [], by omega, rfl, HST.out, HPI.out⟩
  case round =>
    obtain ⟨m, k, st, ps, hmk, rfl, hma, hG, po, pv, xs, hxs, hM⟩ := hrel
    have HMA := Lib.hid hma
    have HG := Lib.hid hG
    have HM := Lib.hid hM
    have HXS := Lib.hid hxs
    clear hma hG hM hxs HPI HST
    obtain ⟨fa, cf, hfa⟩ := HG.out.fault
    by_cases hm0 : m = 0
    · have hlt : ¬ ((k : Int) < (N.1 : Int)) := by omega
      have hdone := HMA.out.done (.inl hm0)
      clear HMA hfa hm0
      have hdn := r_done HG.out.tape
      have HDN := Lib.hid hdn
      have HDO := Lib.hid hdone
      clear hdn hdone
      go_wp2_with fail
      refine HDN.out.mono ?_
      rintro e w13 ⟨E, rfl, hE, hE1, hE2, hk13⟩
      have hG13 := HG.out.next hk13 (fun b hb => by cases hb)
      have hM13 := HM.out.keep hk13 (fun b hb => by cases hb)
      obtain ⟨pa, pn, pc, hpv⟩ : ∃ xa xn xc, pv = .slice xa xn xc := by
        obtain ⟨-, ⟨-, h, -⟩ | ⟨_, _, _, _, -, h, -⟩⟩ := hM13.row <;> exact ⟨_, _, _, h⟩
      obtain ⟨-, ra, rc, hrv, -, -, -⟩ := id hM13.rest
      obtain ⟨m0, m1, m2, m3, m4, mf⟩ := hM13.cells
      have hzb := hG13.zbx
      have z0 : w13.cell? ⟨w.heap.size, 0, none⟩ = some (.string ⟨#[]⟩) := by simp [World.cell?, hzb]
      have z1 : w13.cell? ⟨w.heap.size, 1, none⟩ = some (.int .i64 0) := by simp [World.cell?, hzb]
      have z2 : w13.cell? ⟨w.heap.size, 2, none⟩ = some (.int .i64 0) := by simp [World.cell?, hzb]
      have z3 : w13.cell? ⟨w.heap.size, 3, none⟩ = some (.slice none 0 0) := by simp [World.cell?, hzb]
      have z4 : w13.cell? ⟨w.heap.size, 4, none⟩ = some (.slice none 0 0) := by simp [World.cell?, hzb]
      have f0 : w13.frozen? ⟨w.heap.size, 0, none⟩ = false := by simp [World.frozen?, hzb]
      have f1 : w13.frozen? ⟨w.heap.size, 1, none⟩ = false := by simp [World.frozen?, hzb]
      have f2 : w13.frozen? ⟨w.heap.size, 2, none⟩ = false := by simp [World.frozen?, hzb]
      have f3 : w13.frozen? ⟨w.heap.size, 3, none⟩ = false := by simp [World.frozen?, hzb]
      have f4 : w13.frozen? ⟨w.heap.size, 4, none⟩ = false := by simp [World.frozen?, hzb]
      simp only at m0 m1 m2 m3 m4 hrv
      subst hpv
      rw [hrv] at m3
      have HG13 := Lib.hid hG13
      have HM13 := Lib.hid hM13
      have HE13 := Lib.hid hE
      have HRV := Lib.hid hrv
      have hzav : w.heap.size ∈ av := by rw [hG13.hav]; simp
      clear hG13 hM13 mf hE hk13 HDN HG HM hrv hzb
      by_cases h0 : E = 0
      · subst h0
        have hst := HE13.out.1 rfl
        have hif : (oMan bs).2 = some [] := by rw [HMAN.out, HDO.out]; exact hst
        have hpm := pMan_oMan bs
        rw [if_pos hif] at hpm
        obtain ⟨hb1, hb2⟩ := pMan_inv hpm
        have HB := Lib.hid (And.intro hif (And.intro hb1 hb2))
        clear hif hb1 hb2 hpm hst
        go_wp2_with fail
        have hk14 : Keep [w.heap.size] w13 (((((w13.setCell ⟨w.heap.size, 0, none⟩ (.string x0.s)).setCell ⟨w.heap.size, 1, none⟩ (.int .i64 x0.area.1)).setCell ⟨w.heap.size, 2, none⟩ (.int .i64 x0.area.2)).setCell ⟨w.heap.size, 3, none⟩ (.slice ra x0.rest.length rc)).setCell ⟨w.heap.size, 4, none⟩ (.slice pa pn pc)) := (((((Keep.refl _ w13).setCell (.inl (by simp)) _).setCell (.inl (by simp)) _).setCell (.inl (by simp)) _).setCell (.inl (by simp)) _).setCell (.inl (by simp)) _
        have hb14 : (((((w13.setCell ⟨w.heap.size, 0, none⟩ (.string x0.s)).setCell ⟨w.heap.size, 1, none⟩ (.int .i64 x0.area.1)).setCell ⟨w.heap.size, 2, none⟩ (.int .i64 x0.area.2)).setCell ⟨w.heap.size, 3, none⟩ (.slice ra x0.rest.length rc)).setCell ⟨w.heap.size, 4, none⟩ (.slice pa pn pc)).heap[w.heap.size]? = some (.cells #[(.string x0.s), (.int .i64 x0.area.1), (.int .i64 x0.area.2), (.slice ra x0.rest.length rc), (.slice pa pn pc)] 27) := by simpa using heap_setCell_at (i := 4) (heap_setCell_at (i := 3) (heap_setCell_at (i := 2) (heap_setCell_at (i := 1) (heap_setCell_at (i := 0) (HG13.out.zbx) (.string x0.s)) (.int .i64 x0.area.1)) (.int .i64 x0.area.2)) (.slice ra x0.rest.length rc)) (.slice pa pn pc)
        generalize (((((w13.setCell ⟨w.heap.size, 0, none⟩ (.string x0.s)).setCell ⟨w.heap.size, 1, none⟩ (.int .i64 x0.area.1)).setCell ⟨w.heap.size, 2, none⟩ (.int .i64 x0.area.2)).setCell ⟨w.heap.size, 3, none⟩ (.slice ra x0.rest.length rc)).setCell ⟨w.heap.size, 4, none⟩ (.slice pa pn pc)) = w14 at *
        refine bodyPost_ret (results_cell_tmp (ty := 27) rfl _ w14 w.heap.size _ _ _ _ rfl hb14 Try.underlying27 rfl man_size) rfl ?_
        have hM14 := HM13.out.keep hk14 (fun b hb => .inl (by simp at hb; subst hb; exact hzav))
        have hkk : Keep [] w w14 := HG13.out.keep.trans hk14 (fun b hb => .inr (by simp at hb; subst hb; exact Nat.le_refl _))
        obtain ⟨hif, hb1, hb2⟩ := HB.out
        have hmx : MnV.man { x0 with pv := .slice pa pn pc, places := xs } = (oMan bs).1 := by rw [HMAN.out, HDO.out]; simp only [MnV.man, HXS.out]
        refine ⟨hkk, ?_⟩
        rw [if_pos hif]
        refine ⟨{ x0 with pv := .slice pa pn pc, places := xs }, ?_, hmx, hM14.rdm (by rw [hmx]; exact hb2) (by rw [hmx, ← hb1]; omega)⟩
        unfold aggM
        simp only
        rw [HRV.out]
        rfl
      · have hne : (E != 0) = true := by simp [h0]
        have hst := fun h => h0 (HE13.out.2 h)
        go_wp2_with fail
        have hk14 : Keep [w.heap.size] w13 (((((w13.setCell ⟨w.heap.size, 0, none⟩ (.string ⟨#[]⟩)).setCell ⟨w.heap.size, 1, none⟩ (.int .i64 0)).setCell ⟨w.heap.size, 2, none⟩ (.int .i64 0)).setCell ⟨w.heap.size, 3, none⟩ (.slice none 0 0)).setCell ⟨w.heap.size, 4, none⟩ (.slice none 0 0)) := (((((Keep.refl _ w13).setCell (.inl (by simp)) _).setCell (.inl (by simp)) _).setCell (.inl (by simp)) _).setCell (.inl (by simp)) _).setCell (.inl (by simp)) _
        have hb14 : (((((w13.setCell ⟨w.heap.size, 0, none⟩ (.string ⟨#[]⟩)).setCell ⟨w.heap.size, 1, none⟩ (.int .i64 0)).setCell ⟨w.heap.size, 2, none⟩ (.int .i64 0)).setCell ⟨w.heap.size, 3, none⟩ (.slice none 0 0)).setCell ⟨w.heap.size, 4, none⟩ (.slice none 0 0)).heap[w.heap.size]? = some (.cells #[(.string ⟨#[]⟩), (.int .i64 0), (.int .i64 0), (.slice none 0 0), (.slice none 0 0)] 27) := by simpa using heap_setCell_at (i := 4) (heap_setCell_at (i := 3) (heap_setCell_at (i := 2) (heap_setCell_at (i := 1) (heap_setCell_at (i := 0) (HG13.out.zbx) (.string ⟨#[]⟩)) (.int .i64 0)) (.int .i64 0)) (.slice none 0 0)) (.slice none 0 0)
        generalize (((((w13.setCell ⟨w.heap.size, 0, none⟩ (.string ⟨#[]⟩)).setCell ⟨w.heap.size, 1, none⟩ (.int .i64 0)).setCell ⟨w.heap.size, 2, none⟩ (.int .i64 0)).setCell ⟨w.heap.size, 3, none⟩ (.slice none 0 0)).setCell ⟨w.heap.size, 4, none⟩ (.slice none 0 0)) = w14 at *
        refine bodyPost_ret (results_cell_tmp (ty := 27) rfl _ w14 w.heap.size _ _ _ _ rfl hb14 Try.underlying27 rfl man_size) rfl ?_
        have hkk : Keep [] w w14 := HG13.out.keep.trans hk14 (fun b hb => .inr (by simp at hb; subst hb; exact Nat.le_refl _))
        refine ⟨hkk, ?_⟩
        rw [if_neg (by rw [HMAN.out, HDO.out]; exact hst)]
        rfl
    · have hlt : (k : Int) < (N.1 : Int) := by omega
      rcases hfa with ⟨rfl, hf0⟩ | ⟨hne, rfl⟩
      · have hdone := HMA.out.done (.inr rfl)
        clear HMA hm0
        have hdn := r_done HG.out.tape
        have HDN := Lib.hid hdn
        have HDO := Lib.hid hdone
        clear hdn hdone
        go_wp2_with fail
        refine HDN.out.mono ?_
        rintro e w13 ⟨E, rfl, hE, hE1, hE2, hk13⟩
        have hG13 := HG.out.next hk13 (fun b hb => by cases hb)
        have hM13 := HM.out.keep hk13 (fun b hb => by cases hb)
        obtain ⟨pa, pn, pc, hpv⟩ : ∃ xa xn xc, pv = .slice xa xn xc := by
          obtain ⟨-, ⟨-, h, -⟩ | ⟨_, _, _, _, -, h, -⟩⟩ := hM13.row <;> exact ⟨_, _, _, h⟩
        obtain ⟨-, ra, rc, hrv, -, -, -⟩ := id hM13.rest
        obtain ⟨m0, m1, m2, m3, m4, mf⟩ := hM13.cells
        have hzb := hG13.zbx
        have z0 : w13.cell? ⟨w.heap.size, 0, none⟩ = some (.string ⟨#[]⟩) := by simp [World.cell?, hzb]
        have z1 : w13.cell? ⟨w.heap.size, 1, none⟩ = some (.int .i64 0) := by simp [World.cell?, hzb]
        have z2 : w13.cell? ⟨w.heap.size, 2, none⟩ = some (.int .i64 0) := by simp [World.cell?, hzb]
        have z3 : w13.cell? ⟨w.heap.size, 3, none⟩ = some (.slice none 0 0) := by simp [World.cell?, hzb]
        have z4 : w13.cell? ⟨w.heap.size, 4, none⟩ = some (.slice none 0 0) := by simp [World.cell?, hzb]
        have f0 : w13.frozen? ⟨w.heap.size, 0, none⟩ = false := by simp [World.frozen?, hzb]
        have f1 : w13.frozen? ⟨w.heap.size, 1, none⟩ = false := by simp [World.frozen?, hzb]
        have f2 : w13.frozen? ⟨w.heap.size, 2, none⟩ = false := by simp [World.frozen?, hzb]
        have f3 : w13.frozen? ⟨w.heap.size, 3, none⟩ = false := by simp [World.frozen?, hzb]
        have f4 : w13.frozen? ⟨w.heap.size, 4, none⟩ = false := by simp [World.frozen?, hzb]
        simp only at m0 m1 m2 m3 m4 hrv
        subst hpv
        rw [hrv] at m3
        have HG13 := Lib.hid hG13
        have HM13 := Lib.hid hM13
        have HE13 := Lib.hid hE
        have HRV := Lib.hid hrv
        have hzav : w.heap.size ∈ av := by rw [hG13.hav]; simp
        clear hG13 hM13 mf hE hk13 HDN HG HM hrv hzb
        by_cases h0 : E = 0
        · subst h0
          have hst := HE13.out.1 rfl
          have hif : (oMan bs).2 = some [] := by rw [HMAN.out, HDO.out]; exact hst
          have hpm := pMan_oMan bs
          rw [if_pos hif] at hpm
          obtain ⟨hb1, hb2⟩ := pMan_inv hpm
          have HB := Lib.hid (And.intro hif (And.intro hb1 hb2))
          clear hif hb1 hb2 hpm hst
          go_wp2_with fail
          have hk14 : Keep [w.heap.size] w13 (((((w13.setCell ⟨w.heap.size, 0, none⟩ (.string x0.s)).setCell ⟨w.heap.size, 1, none⟩ (.int .i64 x0.area.1)).setCell ⟨w.heap.size, 2, none⟩ (.int .i64 x0.area.2)).setCell ⟨w.heap.size, 3, none⟩ (.slice ra x0.rest.length rc)).setCell ⟨w.heap.size, 4, none⟩ (.slice pa pn pc)) := (((((Keep.refl _ w13).setCell (.inl (by simp)) _).setCell (.inl (by simp)) _).setCell (.inl (by simp)) _).setCell (.inl (by simp)) _).setCell (.inl (by simp)) _
          have hb14 : (((((w13.setCell ⟨w.heap.size, 0, none⟩ (.string x0.s)).setCell ⟨w.heap.size, 1, none⟩ (.int .i64 x0.area.1)).setCell ⟨w.heap.size, 2, none⟩ (.int .i64 x0.area.2)).setCell ⟨w.heap.size, 3, none⟩ (.slice ra x0.rest.length rc)).setCell ⟨w.heap.size, 4, none⟩ (.slice pa pn pc)).heap[w.heap.size]? = some (.cells #[(.string x0.s), (.int .i64 x0.area.1), (.int .i64 x0.area.2), (.slice ra x0.rest.length rc), (.slice pa pn pc)] 27) := by simpa using heap_setCell_at (i := 4) (heap_setCell_at (i := 3) (heap_setCell_at (i := 2) (heap_setCell_at (i := 1) (heap_setCell_at (i := 0) (HG13.out.zbx) (.string x0.s)) (.int .i64 x0.area.1)) (.int .i64 x0.area.2)) (.slice ra x0.rest.length rc)) (.slice pa pn pc)
          generalize (((((w13.setCell ⟨w.heap.size, 0, none⟩ (.string x0.s)).setCell ⟨w.heap.size, 1, none⟩ (.int .i64 x0.area.1)).setCell ⟨w.heap.size, 2, none⟩ (.int .i64 x0.area.2)).setCell ⟨w.heap.size, 3, none⟩ (.slice ra x0.rest.length rc)).setCell ⟨w.heap.size, 4, none⟩ (.slice pa pn pc)) = w14 at *
          refine bodyPost_ret (results_cell_tmp (ty := 27) rfl _ w14 w.heap.size _ _ _ _ rfl hb14 Try.underlying27 rfl man_size) rfl ?_
          have hM14 := HM13.out.keep hk14 (fun b hb => .inl (by simp at hb; subst hb; exact hzav))
          have hkk : Keep [] w w14 := HG13.out.keep.trans hk14 (fun b hb => .inr (by simp at hb; subst hb; exact Nat.le_refl _))
          obtain ⟨hif, hb1, hb2⟩ := HB.out
          have hmx : MnV.man { x0 with pv := .slice pa pn pc, places := xs } = (oMan bs).1 := by rw [HMAN.out, HDO.out]; simp only [MnV.man, HXS.out]
          refine ⟨hkk, ?_⟩
          rw [if_pos hif]
          refine ⟨{ x0 with pv := .slice pa pn pc, places := xs }, ?_, hmx, hM14.rdm (by rw [hmx]; exact hb2) (by rw [hmx, ← hb1]; omega)⟩
          unfold aggM
          simp only
          rw [HRV.out]
          rfl
        · have hne : (E != 0) = true := by simp [h0]
          have hst := fun h => h0 (HE13.out.2 h)
          go_wp2_with fail
          have hk14 : Keep [w.heap.size] w13 (((((w13.setCell ⟨w.heap.size, 0, none⟩ (.string ⟨#[]⟩)).setCell ⟨w.heap.size, 1, none⟩ (.int .i64 0)).setCell ⟨w.heap.size, 2, none⟩ (.int .i64 0)).setCell ⟨w.heap.size, 3, none⟩ (.slice none 0 0)).setCell ⟨w.heap.size, 4, none⟩ (.slice none 0 0)) := (((((Keep.refl _ w13).setCell (.inl (by simp)) _).setCell (.inl (by simp)) _).setCell (.inl (by simp)) _).setCell (.inl (by simp)) _).setCell (.inl (by simp)) _
          have hb14 : (((((w13.setCell ⟨w.heap.size, 0, none⟩ (.string ⟨#[]⟩)).setCell ⟨w.heap.size, 1, none⟩ (.int .i64 0)).setCell ⟨w.heap.size, 2, none⟩ (.int .i64 0)).setCell ⟨w.heap.size, 3, none⟩ (.slice none 0 0)).setCell ⟨w.heap.size, 4, none⟩ (.slice none 0 0)).heap[w.heap.size]? = some (.cells #[(.string ⟨#[]⟩), (.int .i64 0), (.int .i64 0), (.slice none 0 0), (.slice none 0 0)] 27) := by simpa using heap_setCell_at (i := 4) (heap_setCell_at (i := 3) (heap_setCell_at (i := 2) (heap_setCell_at (i := 1) (heap_setCell_at (i := 0) (HG13.out.zbx) (.string ⟨#[]⟩)) (.int .i64 0)) (.int .i64 0)) (.slice none 0 0)) (.slice none 0 0)
          generalize (((((w13.setCell ⟨w.heap.size, 0, none⟩ (.string ⟨#[]⟩)).setCell ⟨w.heap.size, 1, none⟩ (.int .i64 0)).setCell ⟨w.heap.size, 2, none⟩ (.int .i64 0)).setCell ⟨w.heap.size, 3, none⟩ (.slice none 0 0)).setCell ⟨w.heap.size, 4, none⟩ (.slice none 0 0)) = w14 at *
          refine bodyPost_ret (results_cell_tmp (ty := 27) rfl _ w14 w.heap.size _ _ _ _ rfl hb14 Try.underlying27 rfl man_size) rfl ?_
          have hkk : Keep [] w w14 := HG13.out.keep.trans hk14 (fun b hb => .inr (by simp at hb; subst hb; exact Nat.le_refl _))
          refine ⟨hkk, ?_⟩
          rw [if_neg (by rw [HMAN.out, HDO.out]; exact hst)]
          rfl
      · obtain ⟨l, rfl⟩ : ∃ l, st = some l := by
          cases st with
          | none => exact absurd rfl hne
          | some l => exact ⟨l, rfl⟩
        obtain ⟨m', rfl⟩ : ∃ m', m = m' + 1 := ⟨m - 1, by omega⟩
        obtain ⟨hnx, hpl⟩ := HMA.out.next gPlc_less
        have hint := r_tint HG.out.tape
        have HNX := Lib.hid hnx
        have HIN := Lib.hid hint
        clear hnx hint HMA
        go_wp2_with fail
        refine HIN.out.mono ?_
        rintro e wa ⟨rfl, hta, hka⟩
        have hGa := HG.out.turn hka hta
        have hMa := HM.out.keep hka (fun b hb => .inl (by simp at hb; subst hb; exact hqa))
        have hint := r_tint hGa.tape
        have HIN2 := Lib.hid hint
        have HGa := Lib.hid hGa
        have HMa := Lib.hid hMa
        clear hint hGa hMa hka hta HIN HG HM cf
        go_wp2_with fail
        refine HIN2.out.mono ?_
        rintro e wb ⟨rfl, htb, hkb⟩
        obtain ⟨a, ha⟩ : ∃ a, a = (oInt (some l)).1 := ⟨_, rfl⟩
        obtain ⟨b, hb⟩ : ∃ b, b = (oInt (oInt (some l)).2).1 := ⟨_, rfl⟩
        obtain ⟨s2, hs2⟩ : ∃ s, s = (oInt (oInt (some l)).2).2 := ⟨_, rfl⟩
        obtain ⟨M, hM⟩ : ∃ n, n = oNum false s2 := ⟨_, rfl⟩
        obtain ⟨Rp, hRp⟩ : ∃ r, r = oMany gExt M.1 M.2.2 := ⟨_, rfl⟩
        have hres : gPlc l = (⟨a, b, Rp.1⟩, Rp.2) := by rw [hRp, hM, hs2, hb, ha]; rfl
        rw [← hs2] at htb
        rw [← ha, ← hb]
        rw [hres] at HNX
        have hMlt : M.1 < 18446744073709551616 := by rw [hM]; exact oNum_lt false s2
        have hGb := HGa.out.turn hkb htb
        have hMb := HMa.out.keep hkb (fun b hb => .inl (by simp at hb; subst hb; exact hqa))
        have hkc : Keep [] wb (wb.alloc (.cells #[.int .i64 a, .int .i64 b, .slice none 0 0] 43)) := (Keep.refl [] wb).alloc _
        have hPc : PSep av w.heap.size (wb.alloc (.cells #[.int .i64 a, .int .i64 b, .slice none 0 0] 43)) wb.heap.size none ⟨a, b, []⟩ (.slice none 0 0) := ⟨heap_new wb _, Row.nil _ _ _, fun hm => by have := hGb.lt _ hm; omega, hGb.keep.size, fun b hb => (nomatch hb)⟩
        have hMc := (hMb.turn (bv := wb.heap.size :: (none.toList ++ av)) (fun b hb => by
          rcases List.mem_cons.1 hb with rfl | hb
          · exact .inr (Nat.le_refl _)
          · exact .inl (by simpa using hb))).keep hkc (fun b hb => by cases hb)
        have hGc := hGb.next hkc (fun b hb => by cases hb)
        have hun := r_tuint hGc.tape
        rw [← hM] at hun
        have HUN := Lib.hid hun
        have HGc := Lib.hid hGc
        have HPc := Lib.hid hPc
        have HMc := Lib.hid hMc
        have HRp := Lib.hid hRp
        clear hun hGc hPc hMc hkc hGb hMb hkb htb ha hb hs2 hM hRp hres HIN2 HGa HMa
        go_wp2_with fail
        obtain ⟨pb, hpb⟩ : ∃ p, p = wb.heap.size := ⟨_, rfl⟩
        rw [← hpb] at HPc HMc
        rw [← hpb]
        clear hpb
        generalize wb.alloc (.cells #[.int .i64 a, .int .i64 b, .slice none 0 0] 43) = wc at *
        refine HUN.out.mono ?_
        rintro e wd ⟨rfl, htd, hkd⟩
        have hlen : lenO M.2.2 ≤ bs.length + 1 := by
          obtain ⟨pos, fa, sp, ht, ⟨h, -⟩ | ⟨-, -, h⟩⟩ := htd
          · rw [h]; simp [lenO]
          · rw [h]; simp [lenO]
        have hst := ManyAt.start gExt M.1 M.2.2 hlen
        rw [← HRp.out] at hst
        have hpi : PieceR w av q w.heap.size bs tv bo pb mb ro po { x0 with pv := pv, places := xs } a b M.2.2 [] wd := ⟨HGc.out.turn hkd htd, none, .slice none 0 0, HPc.out.keep hkd (fun b hb => .inl (by simp at hb; subst hb; exact hqa)), HMc.out.keep hkd (fun b hb => .inl (by simp at hb; subst hb; simp [hqa]))⟩
        have HPI := Lib.hid hpi
        have HST := Lib.hid hst
        clear hpi hst hlen hkd htd HUN HGc HPc HMc HRp
        go_wp2_with fail
        go_loopw [10] (fun i wr => ∃ (m k : Nat) (st : Option (List UInt8)) (es : List (Int × Int)), m + k = M.1 ∧ i = .int .u64 (k : Int) ∧ ManyAt gExt Rp bs.length m st es ∧ PieceR w av q w.heap.size bs tv bo pb mb ro po { x0 with pv := pv, places := xs } a b st es wr) (fun i _ => M.1 - (intOf i).toNat)
        case atStart => exact ⟨M.1, 0, M.2.2, [], by omega, rfl, HST.out, HPI.out⟩
        case round =>
          obtain ⟨m2, k2, st, es, hmk2, rfl, hma, hG, xo, xv, hP, hMM⟩ := hrel
          have HMA := Lib.hid hma
          have HG := Lib.hid hG
          have HP := Lib.hid hP
          have HM := Lib.hid hMM
          clear hma hG hP hMM HPI HST
          obtain ⟨fa2, cf, hfa⟩ := HG.out.fault
          by_cases hm0 : m2 = 0
          · have hlt : ¬ ((k2 : Int) < (M.1 : Int)) := by omega
            have hdone := HMA.out.done (.inl hm0)
            clear HMA hfa hm0
            obtain ⟨m0, m1, m2, m3, m4, mf⟩ := HM.out.cells
            obtain ⟨c0, c1, c2, -⟩ := cells3 HP.out.box
            simp only at c0 c1 c2 m0 m1 m2 m3 m4
            have hxs1 : xv.oneCell' = true := by
              obtain ⟨-, ⟨-, h, -⟩ | ⟨_, _, _, _, -, h, -⟩⟩ := HP.out.row <;> rw [h] <;> rfl
            obtain ⟨xa, xn, xc, hxv⟩ : ∃ xa xn xc, xv = .slice xa xn xc := by
              obtain ⟨-, ⟨-, h, -⟩ | ⟨_, _, _, _, -, h, -⟩⟩ := HP.out.row <;> exact ⟨_, _, _, h⟩
            obtain ⟨pa, pn, pc, hpv⟩ : ∃ xa xn xc, pv = .slice xa xn xc := by
              obtain ⟨-, ⟨-, h, -⟩ | ⟨_, _, _, _, -, h, -⟩⟩ := HM.out.row <;> exact ⟨_, _, _, h⟩
            subst hxv hpv
            obtain ⟨y, hy⟩ : ∃ y : PlV, y = ⟨⟨a, b, es⟩, .slice xa xn xc⟩ := ⟨_, rfl⟩
            have t1 := src_blk (P := Try.prog) (k := 3) Try.underlying25 (heap_new wr (.cells #[.int .i64 a, .int .i64 b, .slice xa xn xc] 43)) rfl (encP_one ⟨⟨a, b, []⟩, .slice xa xn xc⟩ hxs1)
            have t2 := HM.out.row.keep ((Keep.refl [] wr).alloc (.cells #[.int .i64 a, .int .i64 b, .slice xa xn xc] 43)) (by simp)
            have T1 := Lib.hid t1
            have T2 := Lib.hid (show Row _ 43 3 (.slice pa pn pc) xs.length (xs.flatMap encP) po from t2)
            have HDO := Lib.hid hdone
            have HY := Lib.hid hy
            have hxl : xs.length ≤ 100000000 := by
              have h1 := congrArg List.length HXS.out
              rw [List.length_map] at h1
              omega
            clear t1 t2 mf hy hdone hxs1
            go_wp2_with (at_builtin; refine wpList_append_row _ rfl _ _ 25 25 rfl 43 i0 (.agg #[.int .i64 0, .int .i64 0, .slice none 0 0]) 3 40 Try.underlying25 HI.out hz0 hz1 hz2 rfl _ xs.length _ po rfl T2.out _ rfl 1 _ T1.out (by omega) (by first | (unfold maxLen; omega) | (simp [maxLen] <;> omega)) (by omega) ?_)
            intro g off cap w9' hr9 hk9 hg9
            have hr9' : Row w9' 43 3 (.slice (some ⟨g, off, none⟩) (xs.length + 1) cap) (xs ++ [y]).length ((xs ++ [y]).flatMap encP) (some g) := by
              rw [List.flatMap_append, List.length_append, HY.out]; exact hr9
            have hbx : w9'.heap[mb]? = some (.cells #[.string x0.s, .int .i64 x0.area.1, .int .i64 x0.area.2, x0.rv, .slice pa pn pc] 27) := blk_keep (lit_alloc HM.out.box _) hk9 (fun hm => by
              cases hpo : po with
              | none => rw [hpo] at hm; cases hm
              | some z => rw [hpo] at hm; simp at hm; exact (HM.out.pon z hpo).2.2 hm.symm)
            have n3 : w9'.cell? ⟨mb, 3, none⟩ = some x0.rv := by simp [World.cell?, hbx]
            have n4 : w9'.cell? ⟨mb, 4, none⟩ = some (.slice pa pn pc) := by simp [World.cell?, hbx]
            have nf : w9'.frozen? ⟨mb, 4, none⟩ = false := by simp [World.frozen?, hbx]
            have HR9 := Lib.hid hr9'
            have HK9 := Lib.hid (((Keep.refl po.toList wr).alloc (.cells #[.int .i64 a, .int .i64 b, .slice xa xn xc] 43)).trans hk9 (fun b hb => .inl hb))
            have HG9 := Lib.hid (show some g = po ∨ ∀ b, some g = some b → wr.heap.size ≤ b from by
              rcases hg9 with h | h
              · exact .inl h.symm
              · exact .inr (fun b hb => by cases hb; first | omega | (simp at h; omega)))
            have HBX := Lib.hid hbx
            clear hr9 hk9 hg9 hr9' hbx T1 T2 m0 m1 m2 m3 m4
            go_wp2_with fail
            have hk10 : Keep [mb] w9' (w9'.setCell ⟨mb, 4, none⟩ (.slice (some ⟨g, off, none⟩) (xs.length + 1) cap)) := (Keep.refl _ w9').setCell (.inl (by simp)) _
            have hb10 := heap_setCell_at (i := 4) HBX.out (.slice (some ⟨g, off, none⟩) (xs.length + 1) cap)
            have hsub : ∀ b ∈ av, b ∈ pb :: (xo.toList ++ av) := fun b hb => by simp [hb]
            have hM7' : MSep av w.heap.size wr mb ro po { x0 with pv := .slice pa pn pc, places := xs } := HM.out.turn (fun b hb => .inl (hsub b hb))
            obtain ⟨o', hrd, ho⟩ := HP.out.row.rd
            have hox : ∀ b, o' = some b → xo = some b := fun b hb => by
              rcases ho with h | h
              · rw [h] at hb; cases hb
              · rw [← h]; exact hb
            have hmm := hM7'.more (w2 := w9') (y := y) HG.out.keep.size ⟨o', by rw [HY.out]; exact hrd, fun b hb => by
              have h0 := HP.out.xon b (hox b hb)
              have hin : b ∈ pb :: (xo.toList ++ av) := by simp [hox b hb]
              exact ⟨h0.1, HP.out.row.lt b (hox b hb), h0.2.1, fun e => HM.out.mbn (e ▸ hin), fun e => (HM.out.pon b e).2.1 hin⟩⟩ HR9.out HK9.out HG9.out HG.out.lt hk10 (by simpa using hb10)
            have hgg := (HG.out.next HK9.out (fun b hb => by
              cases hpo : po with
              | none => rw [hpo] at hb; cases hb
              | some z =>
                rw [hpo] at hb; simp at hb; subst hb
                have h0 := HM.out.pon b hpo
                exact ⟨fun hm => h0.2.1 (hsub b hm), h0.1⟩)).next hk10 (fun b hb => by
              simp at hb; subst hb
              exact ⟨fun hm => HM.out.mbn (hsub b hm), HM.out.mbB⟩)
            go_roundw
            case rel =>
              have h1 := HNX.out
              rw [HDO.out] at h1
              exact ⟨m', k + 1, _, _, by omega, by go_num, h1, hgg, _, _, xs ++ [y], by rw [List.map_append, HXS.out, HY.out]; rfl, hmm⟩
            case measure => simp [intOf]; omega
          · have hlt : (k2 : Int) < (M.1 : Int) := by omega
            rcases hfa with ⟨rfl, hf0⟩ | ⟨hne, rfl⟩
            · have hdone := HMA.out.done (.inr rfl)
              clear HMA hm0
              obtain ⟨m0, m1, m2, m3, m4, mf⟩ := HM.out.cells
              obtain ⟨c0, c1, c2, -⟩ := cells3 HP.out.box
              simp only at c0 c1 c2 m0 m1 m2 m3 m4
              have hxs1 : xv.oneCell' = true := by
                obtain ⟨-, ⟨-, h, -⟩ | ⟨_, _, _, _, -, h, -⟩⟩ := HP.out.row <;> rw [h] <;> rfl
              obtain ⟨xa, xn, xc, hxv⟩ : ∃ xa xn xc, xv = .slice xa xn xc := by
                obtain ⟨-, ⟨-, h, -⟩ | ⟨_, _, _, _, -, h, -⟩⟩ := HP.out.row <;> exact ⟨_, _, _, h⟩
              obtain ⟨pa, pn, pc, hpv⟩ : ∃ xa xn xc, pv = .slice xa xn xc := by
                obtain ⟨-, ⟨-, h, -⟩ | ⟨_, _, _, _, -, h, -⟩⟩ := HM.out.row <;> exact ⟨_, _, _, h⟩
              subst hxv hpv
              obtain ⟨y, hy⟩ : ∃ y : PlV, y = ⟨⟨a, b, es⟩, .slice xa xn xc⟩ := ⟨_, rfl⟩
              have t1 := src_blk (P := Try.prog) (k := 3) Try.underlying25 (heap_new wr (.cells #[.int .i64 a, .int .i64 b, .slice xa xn xc] 43)) rfl (encP_one ⟨⟨a, b, []⟩, .slice xa xn xc⟩ hxs1)
              have t2 := HM.out.row.keep ((Keep.refl [] wr).alloc (.cells #[.int .i64 a, .int .i64 b, .slice xa xn xc] 43)) (by simp)
              have T1 := Lib.hid t1
              have T2 := Lib.hid (show Row _ 43 3 (.slice pa pn pc) xs.length (xs.flatMap encP) po from t2)
              have HDO := Lib.hid hdone
              have HY := Lib.hid hy
              have hxl : xs.length ≤ 100000000 := by
                have h1 := congrArg List.length HXS.out
                rw [List.length_map] at h1
                omega
              clear t1 t2 mf hy hdone hxs1
              go_wp2_with (at_builtin; refine wpList_append_row _ rfl _ _ 25 25 rfl 43 i0 (.agg #[.int .i64 0, .int .i64 0, .slice none 0 0]) 3 40 Try.underlying25 HI.out hz0 hz1 hz2 rfl _ xs.length _ po rfl T2.out _ rfl 1 _ T1.out (by omega) (by first | (unfold maxLen; omega) | (simp [maxLen] <;> omega)) (by omega) ?_)
              intro g off cap w9' hr9 hk9 hg9
              have hr9' : Row w9' 43 3 (.slice (some ⟨g, off, none⟩) (xs.length + 1) cap) (xs ++ [y]).length ((xs ++ [y]).flatMap encP) (some g) := by
                rw [List.flatMap_append, List.length_append, HY.out]; exact hr9
              have hbx : w9'.heap[mb]? = some (.cells #[.string x0.s, .int .i64 x0.area.1, .int .i64 x0.area.2, x0.rv, .slice pa pn pc] 27) := blk_keep (lit_alloc HM.out.box _) hk9 (fun hm => by
                cases hpo : po with
                | none => rw [hpo] at hm; cases hm
                | some z => rw [hpo] at hm; simp at hm; exact (HM.out.pon z hpo).2.2 hm.symm)
              have n3 : w9'.cell? ⟨mb, 3, none⟩ = some x0.rv := by simp [World.cell?, hbx]
              have n4 : w9'.cell? ⟨mb, 4, none⟩ = some (.slice pa pn pc) := by simp [World.cell?, hbx]
              have nf : w9'.frozen? ⟨mb, 4, none⟩ = false := by simp [World.frozen?, hbx]
              have HR9 := Lib.hid hr9'
              have HK9 := Lib.hid (((Keep.refl po.toList wr).alloc (.cells #[.int .i64 a, .int .i64 b, .slice xa xn xc] 43)).trans hk9 (fun b hb => .inl hb))
              have HG9 := Lib.hid (show some g = po ∨ ∀ b, some g = some b → wr.heap.size ≤ b from by
                rcases hg9 with h | h
                · exact .inl h.symm
                · exact .inr (fun b hb => by cases hb; first | omega | (simp at h; omega)))
              have HBX := Lib.hid hbx
              clear hr9 hk9 hg9 hr9' hbx T1 T2 m0 m1 m2 m3 m4
              go_wp2_with fail
              have hk10 : Keep [mb] w9' (w9'.setCell ⟨mb, 4, none⟩ (.slice (some ⟨g, off, none⟩) (xs.length + 1) cap)) := (Keep.refl _ w9').setCell (.inl (by simp)) _
              have hb10 := heap_setCell_at (i := 4) HBX.out (.slice (some ⟨g, off, none⟩) (xs.length + 1) cap)
              have hsub : ∀ b ∈ av, b ∈ pb :: (xo.toList ++ av) := fun b hb => by simp [hb]
              have hM7' : MSep av w.heap.size wr mb ro po { x0 with pv := .slice pa pn pc, places := xs } := HM.out.turn (fun b hb => .inl (hsub b hb))
              obtain ⟨o', hrd, ho⟩ := HP.out.row.rd
              have hox : ∀ b, o' = some b → xo = some b := fun b hb => by
                rcases ho with h | h
                · rw [h] at hb; cases hb
                · rw [← h]; exact hb
              have hmm := hM7'.more (w2 := w9') (y := y) HG.out.keep.size ⟨o', by rw [HY.out]; exact hrd, fun b hb => by
                have h0 := HP.out.xon b (hox b hb)
                have hin : b ∈ pb :: (xo.toList ++ av) := by simp [hox b hb]
                exact ⟨h0.1, HP.out.row.lt b (hox b hb), h0.2.1, fun e => HM.out.mbn (e ▸ hin), fun e => (HM.out.pon b e).2.1 hin⟩⟩ HR9.out HK9.out HG9.out HG.out.lt hk10 (by simpa using hb10)
              have hgg := (HG.out.next HK9.out (fun b hb => by
                cases hpo : po with
                | none => rw [hpo] at hb; cases hb
                | some z =>
                  rw [hpo] at hb; simp at hb; subst hb
                  have h0 := HM.out.pon b hpo
                  exact ⟨fun hm => h0.2.1 (hsub b hm), h0.1⟩)).next hk10 (fun b hb => by
                simp at hb; subst hb
                exact ⟨fun hm => HM.out.mbn (hsub b hm), HM.out.mbB⟩)
              go_roundw
              case rel =>
                have h1 := HNX.out
                rw [HDO.out] at h1
                exact ⟨m', k + 1, _, _, by omega, by go_num, h1, hgg, _, _, xs ++ [y], by rw [List.map_append, HXS.out, HY.out]; rfl, hmm⟩
              case measure => simp [intOf]; omega
            · obtain ⟨l2, rfl⟩ : ∃ l, st = some l := by
                cases st with
                | none => exact absurd rfl hne
                | some l => exact ⟨l, rfl⟩
              obtain ⟨m3, rfl⟩ : ∃ m', m2 = m' + 1 := ⟨m2 - 1, by omega⟩
              obtain ⟨hnx, hel⟩ := HMA.out.next gExt_less
              have HNX2 := Lib.hid hnx
              clear hnx HMA
              go_wp2_with fail
              have hne4 : pb ≠ q := fun h => HP.out.pbn (h ▸ hqa)
              have HSX : Hid (wr.drew.heap[pb]? = some (.cells #[.int .i64 a, .int .i64 b, xv] 43)) := Lib.hid HP.out.box
              have hT0 := HG.out.tape.keep0 ((Keep.refl [] wr).drew)
              have hint := r_tint hT0
              have HIN := Lib.hid hint
              clear hint hT0
              refine wp_regionB [1, 3, 5, 6, 7] (fun w' => w'.heap[pb]? = some (.cells #[.int .i64 a, .int .i64 b, xv] 43)) (by kernel_rfl) ?_
              refine wpAnyB_takeY (i := 0) (v := ?vP0) rfl (by kernel_rfl) (by kernel_rfl) (by kernel_rfl) (by kernel_rfl) (fun _ _ _ h => h) (Or.inl ⟨by kernel_rfl, ?runP0⟩) ?_
              case runP0 => (intro w9 _; go_simp; try exact rfl)
              try simp only [Act.put, List.setIfInBounds_toArray, List.set_cons_zero, List.set_cons_succ]
              refine wpAnyB_takeY (i := 2) (v := ?vP2) rfl (by kernel_rfl) (by kernel_rfl) (by kernel_rfl) (by kernel_rfl) (fun _ _ _ h => h) (Or.inl ⟨by kernel_rfl, ?runP2⟩) ?_
              case runP2 => (intro w9 _; go_simp; try exact rfl)
              try simp only [Act.put, List.setIfInBounds_toArray, List.set_cons_zero, List.set_cons_succ]
              refine wpAnyB_takeY (i := 4) (v := ?vP4) rfl (by kernel_rfl) (by kernel_rfl) (by kernel_rfl) (by kernel_rfl) (fun _ _ _ h => h) (Or.inl ⟨by kernel_rfl, ?runP4⟩) ?_
              case runP4 => (intro w9 _; go_simp; try exact rfl)
              try simp only [Act.put, List.setIfInBounds_toArray, List.set_cons_zero, List.set_cons_succ]
              refine wpAnyB_take [3, 5, 6, 7] (i := 1) (v := ?vP1) rfl (by kernel_rfl) (by kernel_rfl) (by kernel_rfl) (by kernel_rfl) (by kernel_rfl) (fun _ _ _ h => h) (Or.inl ⟨by kernel_rfl, ?runP1⟩) (HSX.out) ?_
              case runP1 => (intro w9 hS9; obtain ⟨c0, c1, c2, -⟩ := cells3 hS9; go_simp; try exact rfl)
              try simp only [Act.put, List.setIfInBounds_toArray, List.set_cons_zero, List.set_cons_succ]
              refine wpAnyB_ready (rs := [3]) (by kernel_rfl) (by simp) ?_
              refine AllReadyB.cons rfl (fun K hK => ?_) AllReadyB.nil
              go_simp
              refine HIN.out.mono ?_
              rintro e w3 ⟨rfl, ht3, hk3⟩
              have hint := r_tint ht3
              have HIN2 := Lib.hid hint
              have HK3 := Lib.hid hk3
              have HS3 := Lib.hid (blk_keep HSX.out hk3 (by simpa using hne4))
              clear ht3 hk3 hint HIN
              go_wp2_with fail
              refine hK.out _ _ (fun h => HS3.out) ?_
              clear hK K
              try simp only [Act.put, List.setIfInBounds_toArray, List.set_cons_zero, List.set_cons_succ]
              refine wpAnyB_ready (rs := [5]) (by kernel_rfl) (by simp) ?_
              refine AllReadyB.cons rfl (fun K hK => ?_) AllReadyB.nil
              go_simp
              refine HIN2.out.mono ?_
              rintro e w4 ⟨rfl, ht4, hk4⟩
              have HT4 := Lib.hid ht4
              have HK4 := Lib.hid (HK3.out.trans hk4 (fun _ h => .inl h))
              have HS4 := Lib.hid (blk_keep HS3.out hk4 (by simpa using hne4))
              clear ht4 hk4 HIN2
              go_wp2_with fail
              refine hK.out _ _ (fun h => HS4.out) ?_
              clear hK K
              try simp only [Act.put, List.setIfInBounds_toArray, List.set_cons_zero, List.set_cons_succ]
              obtain ⟨y1, hy1'⟩ : ∃ y, y = (oInt (some l2)).1 := ⟨_, rfl⟩
              obtain ⟨y2, hy2'⟩ : ∃ y, y = (oInt (oInt (some l2)).2).1 := ⟨_, rfl⟩
              obtain ⟨s5, hs5⟩ : ∃ y, y = (oInt (oInt (some l2)).2).2 := ⟨_, rfl⟩
              have hge : gExt l2 = ((y1, y2), s5) := by rw [hy1', hy2', hs5]; rfl
              rw [hge] at HNX2
              rw [← hs5] at HT4
              rw [← hy1', ← hy2']
              clear hy1' hy2' hs5 hge
              refine wpAnyB_take [] (i := 6) (v := ?vP6) rfl (by kernel_rfl) (by kernel_rfl) (by kernel_rfl) (by kernel_rfl) (by kernel_rfl) (fun _ _ _ h => h) (Or.inl ⟨by kernel_rfl, ?runP6⟩) (HS4.out) ?_
              case runP6 => (intro w9 hS9; obtain ⟨c0, c1, c2, -⟩ := cells3 hS9; go_simp; try exact rfl)
              try simp only [Act.put, List.setIfInBounds_toArray, List.set_cons_zero, List.set_cons_succ]
              refine wpAnyB_ready (rs := [7]) (by kernel_rfl) (by simp) ?_
              refine AllReadyB.cons rfl (fun K hK => ?_) AllReadyB.nil
              go_simp
              have HS5 := Lib.hid (lit_alloc HS4.out (.cells #[.int .i64 y1, .int .i64 y2] 23))
              have HK5 := Lib.hid ((Keep.refl [] w4).alloc (.cells #[.int .i64 y1, .int .i64 y2] 23))
              have HB5 := Lib.hid (heap_new w4 (.cells #[.int .i64 y1, .int .i64 y2] 23))
              generalize w4.alloc (.cells #[.int .i64 y1, .int .i64 y2] 23) = w5 at *
              refine hK.out _ _ (fun h => HS5.out) ?_
              clear hK K
              try simp only [Act.put, List.setIfInBounds_toArray, List.set_cons_zero, List.set_cons_succ]
              have HR5 : Hid (Row w5 23 2 xv es.length (es.flatMap encX) xo) := Lib.hid ((HP.out.row.keep ((Keep.refl [] wr).drew) (by simp)).keep HK4.out (fun b hb hm => (HP.out.xon b hb).2.1 (by simp at hm; rw [hm]; exact hqa)) |>.keep HK5.out (by simp))
              refine wpAnyB_ready (rs := [8]) (by kernel_rfl) (by simp) ?_
              refine AllReadyB.cons rfl (fun K hK => ?_) AllReadyB.nil
              refine step_append_row _ (by kernel_rfl) _ _ 41 41 rfl 23 j0 (.agg #[.int .i64 0, .int .i64 0]) 2 16 Try.underlying41 HJ.out hy0 hy1 hy2 rfl xv es.length _ xo rfl HR5.out _ rfl 1 [.int .i64 y1, .int .i64 y2] (src_blk (k := 2) Try.underlying41 HB5.out rfl (encX_one (y1, y2))) (by omega) (by unfold maxLen; omega) (by omega) ?_
              intro g off cap w6 hr6 hk6 hg6
              have hr7 : Row w6 23 2 (.slice (some ⟨g, off, none⟩) (es.length + 1) cap) (es ++ [((y1, y2) : Int × Int)]).length ((es ++ [((y1, y2) : Int × Int)]).flatMap encX) (some g) := by rw [List.flatMap_append, List.length_append]; exact hr6
              have hpx : ∀ b, xo = some b → b ≠ pb := fun b hb => (HP.out.xon b hb).2.2
              have HB6 := Lib.hid (blk_keep HS5.out hk6 (fun hm => by simp at hm; exact hpx _ hm rfl))
              have HR6 := Lib.hid hr7
              have HK6 := Lib.hid hk6
              have HG6 := Lib.hid hg6
              clear hr6 hr7 hk6 hg6 hpx
              refine hK.out _ _ (fun h => (nomatch h)) ?_
              clear hK K
              try simp only [Act.put, List.setIfInBounds_toArray, List.set_cons_zero, List.set_cons_succ]
              refine wpAnyB_takeY (i := 9) (v := ?vP9) rfl (by kernel_rfl) (by kernel_rfl) (by kernel_rfl) (by kernel_rfl) (fun _ _ _ h => h) (Or.inl ⟨by kernel_rfl, ?runP9⟩) ?_
              case runP9 => (intro w9 _; go_simp; try exact rfl)
              try simp only [Act.put, List.setIfInBounds_toArray, List.set_cons_zero, List.set_cons_succ]
              refine wpAnyB_ready (rs := [10]) (by kernel_rfl) (by simp) ?_
              refine AllReadyB.cons rfl (fun K hK => ?_) AllReadyB.nil
              obtain ⟨c0, c1, c2, f0⟩ := cells3 HB6.out
              have f2 : w6.frozen? ⟨pb, 2, none⟩ = false := by simp [World.frozen?, HB6.out]
              go_simp
              refine hK.out _ _ (fun h => (nomatch h)) ?_
              clear hK K
              try simp only [Act.put, List.setIfInBounds_toArray, List.set_cons_zero, List.set_cons_succ]
              refine wpAnyB_done (by kernel_rfl) ?_ _
              have hk7 : Keep [pb] w6 (w6.setCell ⟨pb, 2, none⟩ (.slice (some ⟨g, off, none⟩) (es.length + 1) cap)) := (Keep.refl _ w6).setCell (.inl (by simp)) _
              have hb7 := heap_setCell_at (i := 2) HB6.out (.slice (some ⟨g, off, none⟩) (es.length + 1) cap)
              have hlaid := piece_laidR HG.out HP.out HM.out HT4.out (((Keep.refl [q] wr).drew).trans HK4.out (fun _ h => .inl h)) HK5.out HK6.out HG6.out HR6.out hk7 (by simpa using hb7)
              obtain ⟨hG8, xo8, xv8, hP8, hM8⟩ := hlaid
              have H8 : Hid (PieceR w av q w.heap.size bs tv bo pb mb ro po { x0 with pv := pv, places := xs } a b s5 (es ++ [(y1, y2)]) (w6.setCell ⟨pb, 2, none⟩ (.slice (some ⟨g, off, none⟩) (es.length + 1) cap))) := Lib.hid ⟨hG8, xo8, xv8, hP8, hM8⟩
              clear hG8 hP8 hM8 hk7 hb7 c0 c1 c2 f0 f2 cf
              go_wp2_with fail
              go_roundw
              case rel => exact ⟨m3, k2 + 1, s5, _, by omega, by go_num, HNX2.out, H8.out⟩
              case measure => simp [intOf]; omega

end Go.Proofs.Ytngepgnmlpinaaa
