import Derived.Test.YtdmmhfbafinkpaaGreatDoorSc12
import Derived.WalkSmall
/- Scanning: FormatInt; term.Print at an atom (the program's). -/
namespace Go.Proofs.YtdmmhfbafinkpaaGreatDoor
open Go.RowKit Go.Emb

/-- the library's table of powers of ten lies below B -/
def TabOk (B : Nat) (w : World) : Prop := Lib.TabIs Tryz.prog w "internal/strconv.uint64pow10" .u64 Lib.pow10Tab ∧ 1 < B ∧ B ≤ w.heap.size
theorem TabOk.keep {B : Nat} {w w' : World} {F : List Nat} (h : TabOk B w) (hk : Keep F w w') (hF : ∀ b ∈ F, B ≤ b) : TabOk B w' := by
  obtain ⟨h1, h2, h3⟩ := h
  exact ⟨var?_below (hk.below hF h3) (by kernel_rfl) h2 h1, h2, Nat.le_trans h3 hk.size⟩
theorem TabOk.keep0 {B : Nat} {w w' : World} (h : TabOk B w) (hk : Keep [] w w') : TabOk B w' := h.keep hk (by simp)
theorem fmt_any {B : Nat} {w : World} (h : TabOk B w) (n : Int) (h0 : -9223372036854775808 ≤ n) (h1 : n ≤ 9223372036854775807) : Calls Tryz.prog 28 #[.int .i64 n, .int .i64 10] w fun e w' => e = .returned (.string ⟨(Lib.itoa n).toArray⟩) ∧ Keep [] w w' := by
  refine (Tryz.strconv_FormatInt_10 n h0 h1 w h.1).mono ?_
  rintro e w' ⟨rfl, k, os, rfl⟩
  refine ⟨rfl, rfl, rfl, rfl, ?_, fun b hb _ => by show (w.heap ++ os)[b]? = w.heap[b]?; exact Array.getElem?_append_left hb⟩
  show w.heap.size ≤ (w.heap ++ os).size
  simp


theorem term_size : (Tryz.prog.info? 70).map (·.size) = some 4 := by kernel_rfl
theorem p_atom (s : ByteArray) (w : World) : Calls Tryz.prog 30 #[.string s] w fun e w' => e = .returned (.agg #[.int .i64 2, .int .i64 0, .string s, .slice none 0 0]) ∧ Keep [] w w' := by
  go_enter Tryz.func30, Tryz.ntmps30
  go_wp2_with fail
  try simp only [Exit.inBlock, Exit.then]
  refine bodyPost_ret (results_cell_row (ty := 70) rfl _ _ _ _ _ _ _ rfl (heap_alloc_new w _) Tryz.underlying70 rfl term_size) rfl ?_
  exact ⟨rfl, (Keep.refl [] w).alloc _⟩
theorem cells4 {w : World} {q : Nat} {a b c d : Value} {t : TypeId} (h : w.heap[q]? = some (.cells #[a, b, c, d] t (0, 0))) : w.cell? ⟨q, 0, none⟩ = some a ∧ w.cell? ⟨q, 1, none⟩ = some b ∧ w.cell? ⟨q, 2, none⟩ = some c ∧ w.cell? ⟨q, 3, none⟩ = some d := by
  refine ⟨?_, ?_, ?_, ?_⟩ <;> simp [World.cell?, h]
theorem BPost.up {w w3 w' : World} {b : Nat} {bs : List UInt8} {F : List Nat} {r r' : Value} {e e' : Ending} (hk : Keep [] w w3) (h : BPost w3 b bs F r e w') (he : e' = .returned r') : BPost w b bs F r' e' w' := by
  obtain ⟨-, F', q1, q2, q3⟩ := h
  refine ⟨he, F', q1, fun x hx => ?_, (hk.mono (fun _ h => nomatch h)).trans q3 (fun x hx => .inl hx)⟩
  rcases q2 x hx with h | h
  · exact .inl h
  · exact .inr (Nat.le_trans hk.size h)
set_option maxRecDepth 100000 in
set_option maxHeartbeats 2000000 in
theorem p_writeA {w : World} {B b : Nat} {bs : List UInt8} {F : List Nat} (h : IsB w b bs F) (s : ByteArray) (ht : TabOk B w) (hs : s.size ≤ 100000) (hsz : bs.length ≤ 10000000000000) :
    Calls Tryz.prog 58 #[.pointer (some ⟨b, 0, none⟩), .agg #[.int .i64 2, .int .i64 0, .string s, .slice none 0 0]] w (BPost w b (bs ++ nameL s.data.toList) F (.tuple #[])) := by
  have hk1 : Keep [] w (w.alloc (.cells #[.int .i64 2, .int .i64 0, .string s, .slice none 0 0] 70)) := (Keep.refl [] w).alloc _
  have hb1 := heap_alloc_new w (.cells #[.int .i64 2, .int .i64 0, .string s, .slice none 0 0] 70)
  have hfm := fmt_any (ht.keep0 hk1) 0 (by decide) (by decide)
  have HFM := Lib.hid hfm
  have HK1 := Lib.hid hk1
  have HB1 := Lib.hid hb1
  have HH := Lib.hid h
  clear h ht hfm
  obtain ⟨c0, c1, c2, c3⟩ := cells4 hb1
  clear hb1 hk1
  go_enter Tryz.func58, Tryz.ntmps58
  go_wp2_with fail
  generalize w.alloc (.cells #[.int .i64 2, .int .i64 0, .string s, .slice none 0 0] 70) = w1 at *
  refine HFM.out.mono ?_
  rintro e w2 ⟨rfl, hk2⟩
  have hb2 := blkk HB1.out hk2
  have HB2 := Lib.hid hb2
  have HK2 := Lib.hid (HK1.out.trans hk2 (by simp))
  obtain ⟨d0, d1, d2, d3⟩ := cells4 hb2
  clear hb2 hk2 c0 c1 c2 c3 HFM HB1 HK1
  have hba := p_bare s w2 (by omega)
  have HBA := Lib.hid hba
  clear hba
  cases hb : bareL s.data.toList with
  | true =>
    rw [hb] at HBA
    have hname : nameL s.data.toList = s.data.toList := by unfold nameL; rw [if_pos hb]
    have hs0 : 0 < s.size := by
      rcases Nat.eq_zero_or_pos s.size with h0 | h0
      · have hl : s.data.toList = [] := List.length_eq_zero_iff.1 (by simpa using h0)
        rw [hl] at hb; simp [bareL] at hb
      · exact h0
    have HN := Lib.hid hname
    clear hb hname
    go_wp2_with fail
    refine HBA.out.mono ?_
    rintro e w3 ⟨rfl, hk3⟩
    have hb3 := blkk HB2.out hk3
    have d2' : w3.cell? ⟨w.heap.size, 2, none⟩ = some (.string s) := by simp [World.cell?, hb3]
    have HK3 := Lib.hid (HK2.out.trans hk3 (by simp))
    have hws := b_string (HH.out.keep (HK2.out.trans hk3 (by simp)) (by simp)) s hs0 (by omega)
    have HWS := Lib.hid hws
    clear hb3 hk3 hws
    go_wp2_with fail
    refine HWS.out.mono ?_
    rintro e w4 hp4
    obtain rfl := hp4.1
    have HP4 := Lib.hid hp4
    clear hp4
    go_wp2_with fail
    go_end0
    rw [HN.out]
    exact BPost.up HK3.out HP4.out rfl
  | false =>
    rw [hb] at HBA
    have hname : nameL s.data.toList = quoteL s.data.toList := by unfold nameL; rw [if_neg (by simp [hb])]
    have HN := Lib.hid hname
    clear hb hname
    go_wp2_with fail
    refine HBA.out.mono ?_
    rintro e w3 ⟨rfl, hk3⟩
    have hb3 := blkk HB2.out hk3
    have d2' : w3.cell? ⟨w.heap.size, 2, none⟩ = some (.string s) := by simp [World.cell?, hb3]
    have HK3 := Lib.hid (HK2.out.trans hk3 (by simp))
    have hws := p_quote (HH.out.keep (HK2.out.trans hk3 (by simp)) (by simp)) s hs (by omega)
    have HWS := Lib.hid hws
    clear hb3 hk3 hws
    go_wp2_with fail
    refine HWS.out.mono ?_
    rintro e w4 hp4
    obtain rfl := hp4.1
    have HP4 := Lib.hid hp4
    clear hp4
    go_wp2_with fail
    go_end0
    rw [HN.out]
    exact BPost.up HK3.out HP4.out rfl
end Go.Proofs.YtdmmhfbafinkpaaGreatDoor
