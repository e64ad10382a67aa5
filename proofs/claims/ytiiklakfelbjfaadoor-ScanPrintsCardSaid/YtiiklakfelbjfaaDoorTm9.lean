/- strings.Builder: copyCheck, WriteByte, WriteString, String. -/
import Derived.Test.YtiiklakfelbjfaaDoorBaseStr
import Derived.Test.YtiiklakfelbjfaaDoorTmQ
import Derived.RegionTactic
import Derived.Lib.UnsafeStr
namespace Go.Proofs.YtiiklakfelbjfaaDoor
open Go.RowKit Go.Emb

/-- block b is a builder that holds these bytes; F: what it takes -/
def IsB (w : World) (b : Nat) (bs : List UInt8) (F : List Nat) : Prop :=
  ∃ p v o, (p = .pointer none ∨ p = .pointer (some ⟨b, 0, none⟩)) ∧ w.heap[b]? = some (.cells #[p, v] 64 (0, 0)) ∧ Row w 5 1 v bs.length (Lib.byteCells bs) o ∧ Off0 v ∧ o ≠ some b ∧ F = b :: o.toList
theorem IsB.lt {w : World} {b : Nat} {bs : List UInt8} {F : List Nat} (h : IsB w b bs F) : ∀ x ∈ F, x < w.heap.size := by
  obtain ⟨p, v, o, -, hb, hr, -, -, rfl⟩ := h
  intro x hx
  rcases List.mem_cons.1 hx with rfl | hx
  · exact (Array.getElem?_eq_some_iff.1 hb).1
  · exact hr.lt x (by simpa using hx)
theorem IsB.keep {w w' : World} {b : Nat} {bs : List UInt8} {F G : List Nat} (h : IsB w b bs F) (k : Keep G w w') (hn : ∀ x ∈ F, x ∉ G) : IsB w' b bs F := by
  have hlt := h.lt
  obtain ⟨p, v, o, hp, hb, hr, h0, ho, rfl⟩ := h
  exact ⟨p, v, o, hp, (k.block b (hlt b (by simp)) (hn b (by simp))).trans hb, hr.keep k (fun x hx => hn x (by simp [hx])), h0, ho, rfl⟩
theorem IsB.mem {w : World} {b : Nat} {bs : List UInt8} {F : List Nat} (h : IsB w b bs F) : b ∈ F := by
  obtain ⟨p, v, o, -, -, -, -, -, rfl⟩ := h
  simp

theorem byte_info : (Tryd.prog.info? 5).map (fun i => (i.zero, i.size, i.bytes)) = some (some (.int .u8 0), 1, 1) := by kernel_rfl
theorem builder_info : (Tryd.prog.info? 64).map (fun i => i.size) = some 2 := by kernel_rfl
theorem cells2b {w : World} {q : Nat} {x y : Value} {t : TypeId} (h : w.heap[q]? = some (.cells #[x, y] t (0, 0))) :
    w.cell? ⟨q, 0, none⟩ = some x ∧ w.cell? ⟨q, 1, none⟩ = some y ∧ w.frozen? ⟨q, 0, none⟩ = false ∧ w.frozen? ⟨q, 1, none⟩ = false ∧ w.shape? q = some (t, 2) := by
  refine ⟨?_, ?_, ?_, ?_, ?_⟩ <;> simp [World.cell?, World.frozen?, World.shape?, h]

set_option maxHeartbeats 1000000 in
set_option maxRecDepth 100000 in
/-- copyCheck: behind it the builder's first cell is its own address -/
theorem b_check {w : World} {b : Nat} {p v : Value} (hp : p = .pointer none ∨ p = .pointer (some ⟨b, 0, none⟩)) (hb : w.heap[b]? = some (.cells #[p, v] 64 (0, 0))) :
    Calls Tryd.prog 51 #[.pointer (some ⟨b, 0, none⟩)] w fun e w' => e = .returned (.tuple #[]) ∧ w'.heap[b]? = some (.cells #[.pointer (some ⟨b, 0, none⟩), v] 64 (0, 0)) ∧ Keep [b] w w' := by
  obtain ⟨j, hj, hjs⟩ := Option.map_eq_some_iff.1 builder_info
  obtain ⟨c0, c1, f0, f1, hsh⟩ := cells2b hb
  rcases hp with rfl | rfl
  · have hset : (w.setCell ⟨b, 0, none⟩ (.pointer (some ⟨b, 0, none⟩))).heap[b]? = some (.cells #[.pointer (some ⟨b, 0, none⟩), v] 64 (0, 0)) := by rw [heap_setCell_at hb]; rfl
    have HS := Lib.hid hset
    have HJ := Lib.hid hj
    have HJS := Lib.hid hjs
    have HSH := Lib.hid hsh
    clear hset hj hjs hsh hb
    go_enter Tryd.func51, Tryd.ntmps51
    go_wp2
    rw [Lib.run_to_unsafe w ⟨b, 0, none⟩ Tryd.underlying61 Tryd.underlying101 HJ.out (by rw [HJS.out]; decide) HSH.out (Nat.zero_lt_succ 1)]
    simp only [Result.andThen]
    rw [Oper.upon_value]
    go_wp2
    rw [run_callFunc_extern Tryd.func70 (by kernel_rfl) (by kernel_rfl) (by kernel_rfl) (e := Extern.AbiNoEscape.same) (by kernel_rfl)]
    rw [Lib.run_noEscape]
    simp only [Result.andThen]
    rw [Oper.upon_value]
    go_wp2
    rw [Lib.run_from_unsafe w ⟨b, 0, none⟩ Tryd.underlying101 Tryd.underlying61 HJ.out HSH.out (by kernel_rfl)]
    simp only [Result.andThen]
    rw [Oper.upon_value]
    go_wp2
    go_end0
    exact ⟨rfl, HS.out, Keep.set1 w ⟨b, 0, none⟩ _⟩
  · have HB := Lib.hid hb
    have HJ := Lib.hid hj
    clear hb hj hjs hsh
    go_enter Tryd.func51, Tryd.ntmps51
    go_wp2
    rw [Lib.run_neq_ptr_same w _ Tryd.underlying61 HJ.out]
    go_wp2
    go_end0
    exact ⟨rfl, HB.out, Keep.refl _ _⟩

def BPost (w : World) (b : Nat) (bs : List UInt8) (F : List Nat) (r : Value) (e : Ending) (w' : World) : Prop := e = .returned r ∧ ∃ F', IsB w' b bs F' ∧ (∀ x ∈ F', x ∈ F ∨ w.heap.size ≤ x) ∧ Keep F w w'

theorem isB_put {w w1 w2 : World} {b g cap n : Nat} {bs : List UInt8} {p v : Value} {o : Option Nat} (hk1 : Keep [b] w w1) (hb1 : w1.heap[b]? = some (.cells #[p, v] 64 (0, 0))) (hp : p = .pointer (some ⟨b, 0, none⟩)) (ho : o ≠ some b) (_hob : ∀ x, o = some x → x < w.heap.size)
    {W : World} (hkW : Keep [] w1 W) (hr : Row w2 5 1 (.slice (some ⟨g, 0, none⟩) n cap) n (Lib.byteCells bs) (some g)) (hn : n = bs.length) (hk2 : Keep o.toList W w2) (hg : o = some g ∨ W.heap.size ≤ g) :
    ∃ F', IsB (w2.setCell ⟨b, 1, none⟩ (.slice (some ⟨g, 0, none⟩) n cap)) b bs F' ∧ (∀ x ∈ F', x ∈ (b :: o.toList) ∨ w.heap.size ≤ x) ∧ Keep (b :: o.toList) w (w2.setCell ⟨b, 1, none⟩ (.slice (some ⟨g, 0, none⟩) n cap)) := by
  subst hn
  have hb1lt := (Array.getElem?_eq_some_iff.1 hb1).1
  have hb2 : w2.heap[b]? = some (.cells #[p, v] 64 (0, 0)) :=
    (hk2.block b (Nat.lt_of_lt_of_le hb1lt hkW.size) (by simpa using fun h => ho h)).trans ((hkW.block b hb1lt (by simp)).trans hb1)
  have hgb : g ≠ b := by
    rcases hg with h | h
    · rintro rfl; exact ho h
    · have := hkW.size; omega
  have hkall : Keep (b :: o.toList) w w2 := (hk1.mono (fun x hx _ => by simp at hx; simp [hx])).trans ((hkW.mono (G := o.toList) (fun _ h => nomatch h)).trans hk2 (fun x hx => .inl hx)) (fun x hx => .inl (List.mem_cons_of_mem _ hx))
  have hne : (some g : Option Nat) ≠ some b := by simpa using hgb
  refine ⟨b :: [g], ⟨p, .slice (some ⟨g, 0, none⟩) bs.length cap, some g, .inr hp, ?_, ?_, Off0.mk _ _ _, hne, rfl⟩, ?_, hkall.setCell (p := ⟨b, 1, none⟩) (.inl (by simp)) _⟩
  · rw [heap_setCell_at hb2]; rfl
  · exact hr.keep (Keep.set1 w2 ⟨b, 1, none⟩ _) (fun x hx => by cases hx; simpa using hgb)
  · intro x hx
    simp only [List.mem_cons, List.not_mem_nil, or_false] at hx
    rcases hx with rfl | rfl
    · left; simp
    · rcases hg with h | h
      · left; simp [h]
      · right; have := hk1.size; have := hkW.size; omega

set_option maxHeartbeats 1000000 in
set_option maxRecDepth 100000 in
theorem b_byte {w : World} {b : Nat} {bs : List UInt8} {F : List Nat} (h : IsB w b bs F) (c : UInt8) (hsz : bs.length ≤ 100000000000000) :
    Calls Tryd.prog 42 #[.pointer (some ⟨b, 0, none⟩), .int .u8 c.toNat] w (BPost w b (bs ++ [c]) F .nilIface) := by
  have hlt := h.lt
  obtain ⟨p, v, o, hp, hb, hr, h0, ho, rfl⟩ := h
  obtain ⟨i0, hi, hz0, hz1, hz2⟩ := info_parts byte_info
  have hcall := b_check hp hb
  have HC := Lib.hid hcall
  have HR := Lib.hid hr
  have HO := Lib.hid ho
  have HLT := Lib.hid hlt
  have HI := Lib.hid hi
  have H0 := Lib.hid h0
  clear hcall hr hp hb ho hlt hi h0
  go_enter Tryd.func42, Tryd.ntmps42
  go_wp2_with fail
  refine HC.out.mono ?_
  rintro e w1 ⟨rfl, hb1, hk1⟩
  obtain ⟨c0, c1, -, -, -⟩ := cells2b hb1
  have hr1 : Row w1 5 1 v bs.length (Lib.byteCells bs) o := HR.out.keep hk1 (fun x hx => by rintro h; simp at h; subst h; exact HO.out hx)
  have HB1 := Lib.hid hb1
  have HR1 := Lib.hid hr1
  have HK1 := Lib.hid hk1
  clear hb1 hr1 hk1 HC
  go_wp2_with (at_builtin; refine wpList_append_row0 _ rfl _ _ 62 62 rfl 5 i0 (.int .u8 0) 1 1 Tryd.underlying62 HI.out hz0 hz1 hz2 rfl _ _ _ o rfl (HR1.out.keep (F := []) ((Keep.refl [] _).alloc _) (by simp)) H0.out _ rfl 1 [.int .u8 c.toNat] (Src.ofSlice _ Tryd.underlying62 ⟨w1.heap.size, 0, none⟩ 1 1 [.int .u8 c.toNat] rfl ?c1 ?c2) (by omega) ?c3 ?c4 ?_)
  case c1 =>
    intro j u hj
    match j, hj with
    | 0, hj => simp at hj; subst hj; simp [Addr.add]
  case c2 => intro u hu; simp at hu; subst hu; rfl
  case c3 => unfold maxLen; omega
  case c4 => omega
  intro g cap w2 hr2 hk2 hg2
  have hput := isB_put (bs := bs ++ [c]) HK1.out HB1.out rfl HO.out (fun x hx => HLT.out x (by simp [hx])) ((Keep.refl [] w1).alloc _) (by simpa [Lib.byteCells] using hr2) (by simp) hk2 (by simpa using hg2)
  have hd : w2.heap[b]? = some (.cells #[.pointer (some ⟨b, 0, none⟩), v] 64 (0, 0)) := (hk2.block b (by have := (Array.getElem?_eq_some_iff.1 HB1.out).1; simp; omega) (by simpa using fun h => HO.out h)).trans ((((Keep.refl [] w1).alloc _).block b (Array.getElem?_eq_some_iff.1 HB1.out).1 (by simp)).trans HB1.out)
  obtain ⟨d0, d1, f0, f1, -⟩ := cells2b hd
  have HP := Lib.hid hput
  clear hput hd hr2 hk2 hg2
  go_wp2_with fail
  go_ret
  obtain ⟨F', q1, q2, q3⟩ := HP.out
  exact ⟨rfl, F', q1, q2, q3⟩

set_option maxHeartbeats 1000000 in
set_option maxRecDepth 100000 in
theorem b_string {w : World} {b : Nat} {bs : List UInt8} {F : List Nat} (h : IsB w b bs F) (s : ByteArray) (hs0 : 0 < s.size) (hsz : bs.length + s.size ≤ 100000000000000) :
    Calls Tryd.prog 32 #[.pointer (some ⟨b, 0, none⟩), .string s] w (BPost w b (bs ++ s.data.toList) F (.tuple #[.int .i64 s.size, .nilIface])) := by
  have hlt := h.lt
  obtain ⟨p, v, o, hp, hb, hr, h0, ho, rfl⟩ := h
  obtain ⟨i0, hi, hz0, hz1, hz2⟩ := info_parts byte_info
  have hcall := b_check hp hb
  have HC := Lib.hid hcall
  have HR := Lib.hid hr
  have HO := Lib.hid ho
  have HLT := Lib.hid hlt
  have HI := Lib.hid hi
  have H0 := Lib.hid h0
  clear hcall hr hp hb ho hlt hi h0
  go_enter Tryd.func32, Tryd.ntmps32
  go_wp2_with fail
  refine HC.out.mono ?_
  rintro e w1 ⟨rfl, hb1, hk1⟩
  obtain ⟨c0, c1, -, -, -⟩ := cells2b hb1
  have hr1 : Row w1 5 1 v bs.length (Lib.byteCells bs) o := HR.out.keep hk1 (fun x hx => by rintro h; simp at h; subst h; exact HO.out hx)
  have HB1 := Lib.hid hb1
  have HR1 := Lib.hid hr1
  have HK1 := Lib.hid hk1
  clear hb1 hr1 hk1 HC
  go_wp2_with (at_builtin; refine wpList_append_row0 _ rfl _ _ 62 9 rfl 5 i0 (.int .u8 0) 1 1 Tryd.underlying62 HI.out hz0 hz1 hz2 rfl _ _ _ o rfl HR1.out H0.out _ rfl s.size _ (Src.ofString _ Tryd.underlying9 s) (by omega) ?c3 ?c4 ?_)
  case c3 => unfold maxLen; omega
  case c4 => omega
  intro g cap w2 hr2 hk2 hg2
  have hput := isB_put (bs := bs ++ s.data.toList) HK1.out HB1.out rfl HO.out (fun x hx => HLT.out x (by simp [hx])) (Keep.refl [] w1) (by simpa [Lib.byteCells, Go.byteCells] using hr2) (by simp) hk2 hg2
  have hd : w2.heap[b]? = some (.cells #[.pointer (some ⟨b, 0, none⟩), v] 64 (0, 0)) := (hk2.block b (Array.getElem?_eq_some_iff.1 HB1.out).1 (by simpa using fun h => HO.out h)).trans HB1.out
  obtain ⟨d0, d1, f0, f1, -⟩ := cells2b hd
  have HP := Lib.hid hput
  clear hput hd hr2 hk2 hg2
  go_wp2_with fail
  go_ret2
  obtain ⟨F', q1, q2, q3⟩ := HP.out
  exact ⟨rfl, F', q1, q2, q3⟩

theorem keep_freeze {F : List Nat} {a w : World} (h : Keep F a w) {p : Addr} (hp : p.block ∈ F) (n : Nat) : Keep F a (w.freeze p n) := by
  unfold World.freeze
  split
  · exact h
  · exact ⟨h.os, h.tape, h.output, by simpa using h.size, fun b hb hn => by
      have hne : ¬ p.block = b := fun e => hn (e ▸ hp)
      simp only [Array.getElem?_modify, hne, if_false]
      exact h.block b hb hn⟩
set_option maxHeartbeats 1000000 in
set_option maxRecDepth 100000 in
theorem b_text {w : World} {b : Nat} {l : List UInt8} {F : List Nat} (h : IsB w b l F) (h0 : l ≠ []) :
    Calls Tryd.prog 30 #[.pointer (some ⟨b, 0, none⟩)] w fun e w' => e = .returned (.string ⟨l.toArray⟩) ∧ Keep F w w' := by
  obtain ⟨p, v, o, hp, hbk, hr, hoff, ho, rfl⟩ := h
  have hl0 : l.length ≠ 0 := by simpa using h0
  obtain ⟨hrl, hr⟩ := hr
  rcases hr with ⟨-, -, hz⟩ | ⟨g, off, cap, cur, rfl, rfl, hg, hnc, hcm, hcs, hcell⟩
  · exact absurd hz hl0
  obtain rfl : off = 0 := hoff _ _ _ _ rfl
  have hc1 : w.drew.cell? ⟨b, 1, none⟩ = some (.slice (some ⟨g, 0, none⟩) l.length cap) := by
    have : w.drew.heap[b]? = some (.cells #[p, .slice (some ⟨g, 0, none⟩) l.length cap] 64 (0, 0)) := hbk
    rw [Lib.cell_of_heap this]; rfl
  have hSD : (Builtin.unsafeSliceData_ #[62] 86 #[.slice (some ⟨g, 0, none⟩) l.length cap]).run Tryd.prog w.drew = .ok (.pointer (some ⟨g, 0, none⟩)) w.drew :=
    Lib.run_unsafeSliceData_row _ _ _ _ _ _ (by omega)
  have hUS : (Builtin.unsafeString_ #[86, 3] 9 #[.pointer (some ⟨g, 0, none⟩), .int .i64 l.length]).run Tryd.prog w.drew = .ok (.string ⟨l.toArray⟩) (w.drew.freeze ⟨g, 0, none⟩ l.length) := by
    refine Lib.run_unsafeString_row w.drew 86 3 9 5 Tryd.underlying86 (by kernel_rfl) g cur.size (by have hg' : w.drew.heap[g]? = some (.cells cur 5 (0, 0)) := hg; simp [World.shape?, hg']) l h0 (by omega) (by unfold maxLen at hcm; omega) ?_
    intro j x hx
    have hj : j < l.length := by
      rcases Nat.lt_or_ge j l.length with h | h
      · exact h
      · rw [List.getElem?_eq_none h] at hx; cases hx
    have hadd : (⟨g, 0, none⟩ : Addr).add j = ⟨g, 0 + j, none⟩ := by unfold Addr.add; split <;> simp_all
    have hg' : w.drew.heap[g]? = some (.cells cur 5 (0, 0)) := hg
    rw [hadd, Lib.cell_of_heap hg', hcell j (by omega)]
    simp [Lib.byteCells, hx]
  clear hcell hrl hp hoff ho hcs hg
  have HK := Lib.hid (keep_freeze (F := b :: (some g).toList) (Keep.refl _ w).drew (p := ⟨g, 0, none⟩) (by simp) l.length)
  go_enter Tryd.func30, Tryd.ntmps30
  go_wp2
  go_region
  all_goals (go_wp2; go_ret; exact ⟨rfl, HK.out⟩)
end Go.Proofs.YtiiklakfelbjfaaDoor
