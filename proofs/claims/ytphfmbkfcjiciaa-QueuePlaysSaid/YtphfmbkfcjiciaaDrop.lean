/- Drop. -/
import Derived.Test.YtphfmbkfcjiciaaOnceP
namespace Go.Emb
open Go.RowKit Go.Shelf Go.Lib Go.Sort

theorem Row.holds1 {α : Type} [Inhabited α] {enc : α → Value} {w : World} {E b off cap : Nat} {d : Array α} (h : Row w E 1 (.slice (some ⟨b, off, none⟩) d.size cap) d.size (d.toList.map enc) (some b)) : Holds enc w b off d := by
  obtain ⟨_, h⟩ := h
  rcases h with ⟨h, _⟩ | ⟨b', off', cap', cs, e1, e2, hb, h1, h2, h3, h5⟩
  · cases h
  cases e1; cases e2
  intro j hj
  have hc := h5 j (by omega)
  rw [List.getElem?_map, List.getElem?_eq_getElem (by simpa using hj)] at hc
  rw [getElem!_pos d j hj]
  exact ⟨by simp [World.cell?, hb, hc], by simp [World.frozen?, hb]⟩

theorem Row.put1 {α : Type} [Inhabited α] {enc : α → Value} {w : World} {E b off cap : Nat} {d d' : Array α} (hs : d'.size = d.size) (h : Row w E 1 (.slice (some ⟨b, off, none⟩) d.size cap) d.size (d.toList.map enc) (some b)) (n : Nat) :
    Row (putRow enc (Sort.ahead w n) b off d') E 1 (.slice (some ⟨b, off, none⟩) d.size cap) d.size (d'.toList.map enc) (some b) ∧ Keep [b] w (putRow enc (Sort.ahead w n) b off d') := by
  obtain ⟨hl, h⟩ := h
  rcases h with ⟨h, _⟩ | ⟨b', off', cap', cs, e1, e2, hb, h1, h2, h3, h5⟩
  · cases h
  cases e1; cases e2
  have hheap : (putRow enc (Sort.ahead w n) b off d').heap[b]? = some (.cells (putCells enc off d' cs) E (0, 0)) := by
    simp [putRow, mapBlock, Array.getElem?_modify, hb, onCells]
  refine ⟨⟨by simp [hs], .inr ⟨b, off, cap, _, rfl, rfl, hheap, h1, h2, by simp [putCells]; omega, fun i hi => ?_⟩⟩, ?_⟩
  · have hi1 : i < d'.size := by omega
    have hi2 : off + i < cs.size := by omega
    simp only [putCells, Array.getElem?_mapIdx, Array.getElem?_eq_getElem hi2, Option.map_some]
    rw [if_pos ⟨by omega, by omega⟩, List.getElem?_map, List.getElem?_eq_getElem (by simpa using hi1)]
    simp [hi1]
  · refine ⟨rfl, rfl, rfl, by simp, fun i hi hn => ?_⟩
    simp only [List.mem_singleton] at hn
    simp [putRow, mapBlock, Array.getElem?_modify, Ne.symm hn]

theorem Row.cut {w : World} {E k b off n cap : Nat} {xs : List Value} (h : Row w E k (.slice (some ⟨b, off, none⟩) n cap) n xs (some b)) (m : Nat) (hm : m ≤ n) :
    Row w E k (.slice (some ⟨b, off, none⟩) m cap) m (xs.take (m * k)) (some b) := by
  obtain ⟨hl, h⟩ := h
  rcases h with ⟨h, _⟩ | ⟨b', off', cap', cs, e1, e2, hb, h1, h2, h3, h5⟩
  · cases h
  cases e1; cases e2
  have hk1 : m * k ≤ n * k := Nat.mul_le_mul_right _ hm
  refine ⟨by rw [List.length_take, hl]; omega, .inr ⟨b, off, cap, cs, rfl, rfl, hb, by omega, h2, h3, fun i hi => ?_⟩⟩
  rw [List.getElem?_take_of_lt hi]
  exact h5 i (by omega)
end Go.Emb
namespace Go.Proofs.Ytphfmbkfcjiciaa
open Go.RowKit Go.Emb Go.Shelf Go.Lib Go.Sort

theorem eqClosure (p x : Int) (B : Nat) (W : World) (hc : W.cell? ⟨B, 0, none⟩ = some (.int .i64 p)) :
    FnGives Try.prog 35 #[.pointer (some ⟨B, 0, none⟩)] #[.int .i64 x] (.bool (decide (x = p))) W := by
  show Calls Try.prog 35 #[.int .i64 x, .pointer (some ⟨B, 0, none⟩)] W _
  have hb : decide (x = p) = (x == p) := by rw [Bool.eq_iff_iff]; simp
  rw [hb]
  go_enter Try.func35, Try.ntmps35
  go_wp2_with fail
  go_ret
  exact ⟨rfl, 0, rfl⟩

/-- the clone without a pid -/
theorem delete_call {w : World} {b off cap : Nat} {l : List Int} {p : Int} {B : Nat} (h : Row w 2 1 (.slice (some ⟨b, off, none⟩) l.length cap) l.length (l.map (Value.int .i64)) (some b)) (hB : B < w.heap.size) (hne : B ≠ b) (hc : w.cell? ⟨B, 0, none⟩ = some (.int .i64 p)) (hsz : l.length ≤ 1000000000) :
    Calls Try.prog 34 #[.slice (some ⟨b, off, none⟩) l.length cap, .func (.func 35) #[] #[.pointer (some ⟨B, 0, none⟩)]] w fun e w' =>
      e = .returned (.slice (some ⟨b, off, none⟩) (l.filter fun x => decide (x ≠ p)).length cap) ∧ Row w' 2 1 (.slice (some ⟨b, off, none⟩) (l.filter fun x => decide (x ≠ p)).length cap) (l.filter fun x => decide (x ≠ p)).length ((l.filter fun x => decide (x ≠ p)).map (Value.int .i64)) (some b) ∧ Keep [b] w w' := by
  have eg : ∀ args w, (callFunc 35 args).run Try.prog w = .ok (.enter 35 args) w := enters_of Try.func35 (by kernel_rfl) rfl
  have h' : Row w 2 1 (.slice (some ⟨b, off, none⟩) l.toArray.size cap) l.toArray.size (l.toArray.toList.map (Value.int .i64)) (some b) := by simpa using h
  have hcap : l.length ≤ cap := by
    rcases h.2 with ⟨h, _⟩ | ⟨_, _, _, _, _, e, _, h1, _⟩
    · cases h
    · cases e; exact h1
  have hcon := Try.slices_DeleteFunc (Value.int .i64) (fun _ => rfl) (fun x => decide (x = p)) 35 #[.pointer (some ⟨B, 0, none⟩)] eg 0 zero64 b off cap l.toArray w
    (fun W x hb => eqClosure p x B W ((hb.cell (p := ⟨B, 0, none⟩) hB).trans hc))
    (fun n os dk x _ => eqClosure p x B _ (by
      unfold sortWorld
      rw [cell?_grow _ _ _ (by show B < (putRow _ _ _ _ _).heap.size; rw [size_putRow]; exact hB), cell?_putRow_other _ _ b off _ _ (Or.inl hne)]
      exact hc))
    h'.holds1 (by simp; omega) (by simpa using hcap)
  have hsz' : l.toArray.size = l.length := by simp
  have hf : (l.filter fun x => !decide (x = p)) = l.filter fun x => decide (x ≠ p) := by
    apply List.filter_congr
    intro x _
    simp
  rw [hsz'] at hcon
  simp only [List.toList_toArray] at hcon
  rw [hf] at hcon
  refine hcon.mono ?_
  rintro e w' ⟨rfl, n, rfl⟩
  have hle : (l.filter fun x => decide (x ≠ p)).length ≤ l.length := List.length_filter_le _ _
  have hput := h'.put1 (d' := ((l.filter fun x => decide (x ≠ p)) ++ List.replicate (l.length - (l.filter fun x => decide (x ≠ p)).length) 0).toArray) (by simp only [List.size_toArray, List.length_append, List.length_replicate]; omega) n
  refine ⟨rfl, ?_, hput.2⟩
  have hc := hput.1.cut (l.filter fun x => decide (x ≠ p)).length (by simpa using hle)
  simpa using hc

def DropP (w : World) (q : Nat) (l : List Int) (T : List (Int × Int)) (p : Int) (F : List Nat) (e : Ending) (w' : World) : Prop :=
  e = .returned (.bool ((mfind T p).isSome || decide (p ∈ l))) ∧ ∃ F', IsQ w' q (l.filter fun x => decide (x ≠ p)) (mdel T p) F' ∧ (∀ b ∈ F', b ∈ F ∨ w.heap.size ≤ b) ∧ Keep F w w'

set_option maxHeartbeats 1000000 in
theorem drop_any {w : World} {q : Nat} {l : List Int} {T : List (Int × Int)} {F : List Nat} (h : IsQ w q l T F) (p : Int) (hsz : l.length ≤ 1000000000) :
    Calls Try.prog 24 #[.pointer (some ⟨q, 0, none⟩), .int .i64 p] w (DropP w q l T p F) := by
  have hlt := h.lt
  have HLT := Lib.hid hlt
  have HQ := Lib.hid h
  clear h hlt
  have hzb : ∀ w, (zeroValue 4).run Try.prog w = .ok (.bool false) w := fun _ => by kernel_rfl
  go_enter Try.func24, Try.ntmps24
  go_wp2_with fail
  refine (clear_any (HQ.out.keep ((Keep.refl [] _).alloc _) (by simp)) p).mono ?_
  rintro e w1 ⟨rfl, hq1, hk1⟩
  obtain ⟨v, bi, bt, o, pi, hq, hF⟩ := hq1
  obtain ⟨c0, c1, c2, f0⟩ := cells3 hq.here
  have hnew : w.heap.size ∉ F := fun hn => absurd (HLT.out _ hn) (Nat.lt_irrefl _)
  have hcp : w1.cell? ⟨w.heap.size, 0, none⟩ = some (.int .i64 p) := by
    rw [hk1.cell (p := ⟨w.heap.size, 0, none⟩) (by simp) hnew]; simp
  have hlk : ∀ n, (Instr.lookup 51 (.map (some bi)) (.int .i64 p) false).run Try.prog (w1.drewN n) = .ok (.bool (decide (p ∈ l))) (w1.drewN n) := by
    intro n
    have hm := (hq.mis.keep ((Keep.refl [] _).drewN n) (by simp)).look keyI Try.underlying51 (hzb _) p false
    rw [hq.is p] at hm
    rw [hm]
    by_cases hin : p ∈ l <;> simp [hin]
  have HQ1 := Lib.hid hq
  have HF := Lib.hid hF
  have HK1 := Lib.hid hk1
  have HN := Lib.hid hnew
  clear hq hF hk1 hnew
  by_cases hin : p ∈ l
  · have hd : decide (p ∈ l) = true := by simpa using hin
    rw [hd] at hlk
    have HD := Lib.hid hd
    have HIN := Lib.hid hin
    clear hd hin
    go_wp2_with fail
    go_quiet (fail)
    clear hlk
    go_wp2_with fail
    have c0' : (w1.drewN nq).cell? ⟨q, 0, none⟩ = some v := c0
    have c1' : (w1.drewN nq).cell? ⟨q, 1, none⟩ = some (.map (some bi)) := c1
    have hcp' : (w1.drewN nq).cell? ⟨w.heap.size, 0, none⟩ = some (.int .i64 p) := hcp
    have HQ2 : Hid (IsQ' (w1.drewN nq) q l (mdel T p) v bi bt o pi) := by
      have k := (Keep.refl [] w1).drewN nq
      exact ⟨HQ1.out.here, HQ1.out.row.keep k (by simp), HQ1.out.mis.keep k (by simp), HQ1.out.is, HQ1.out.mt.keep k (by simp), HQ1.out.nd, HQ1.out.qi, HQ1.out.qt, HQ1.out.it, HQ1.out.ob⟩
    have HK2 := Lib.hid (HK1.out.drewN nq)
    clear c0 c1 c2 f0 hcp HQ1 HK1
    generalize w1.drewN nq = w2 at *
    go_still_tail 5, (by kernel_rfl)
    change wpList _ _ _ _ _ w2.drew
    obtain ⟨w3, hw3⟩ : ∃ w3, w3 = w2.drew := ⟨_, rfl⟩
    rw [← hw3]
    have HW3 := Lib.hid hw3
    clear hw3
    have hqlt : q < w3.heap.size := by rw [HW3.out]; exact (Array.getElem?_eq_some_iff.1 HQ2.out.here).1
    have hq3 : w3.heap[q]? = some (.cells #[v, .map (some bi), .map (some bt)] 54 (0, 0)) := by rw [HW3.out]; exact HQ2.out.here
    have HQ3 := Lib.hid hq3
    clear hq3 c0' c1' hcp'
    go_wp2_with (at_delete; refine wpList_mapA_delete _ rfl _ _ 51 2 rfl 4 keyI Try.underlying51 bi pi rfl (by rw [HW3.out]; exact HQ2.out.mis.keep (Keep.refl [] _).drew (by simp)) p rfl ?_; intro w4 hm4 hk4; have hq4 := (hk4.block q hqlt (by simpa using HQ2.out.qi)).trans HQ3.out; obtain ⟨d0, d1, d2, g0⟩ := cells3 hq4; have HQ4 := Lib.hid hq4; have HM4 := Lib.hid hm4; have HK4 := Lib.hid hk4; clear hq4 hm4 hk4)
    have hrow4 : Row w4 2 1 v l.length (l.map (Value.int .i64)) o := (HQ2.out.row.keep (show Keep [] w2 w3 by rw [HW3.out]; exact (Keep.refl _ _).drew) (by simp)).keep HK4.out (fun b hb => by simpa using (HQ2.out.ob b hb).2.1)
    obtain ⟨o4, hrd4, ho4⟩ := hrow4.rd
    have hcl := clone_any (w := w4) (v := v) (xs := l.map (Value.int .i64)) (o := o4) (by simpa using hrd4) (by simp [Value.oneCell']) (by simpa using hsz)
    refine hcl.mono ?_
    clear hcl hrd4 ho4 hrow4
    rintro e w5 ⟨v5, o5, rfl, hrow5, hfr5, hk5⟩
    simp only [List.length_map] at hrow5
    obtain ⟨b5, off5, cap5, ho5, hv5⟩ : ∃ b off cap, o5 = some b ∧ v5 = .slice (some ⟨b, off, none⟩) l.length cap := by
      rcases hrow5.2 with ⟨_, _, h0⟩ | ⟨b, off, cap, cs, ho, hv, _⟩
      · have := List.length_pos_of_mem HIN.out; omega
      · exact ⟨b, off, cap, ho, hv⟩
    subst ho5
    subst hv5
    have hk24 : Keep [bi] w2 w4 := ((show Keep [] w2 w3 by rw [HW3.out]; exact (Keep.refl _ _).drew).mono (by simp)).trans HK4.out (fun x hx => .inl hx)
    have hwlt : w.heap.size < w2.heap.size := by have := HK2.out.size; simp at this; omega
    have hFq : F = q :: bi :: bt :: o.toList := HF.out
    have hnot : w.heap.size ∉ [bi] := fun hn => HN.out (by rw [hFq]; simp at hn ⊢; right; left; exact hn)
    have hcp5 : w5.cell? ⟨w.heap.size, 0, none⟩ = some (.int .i64 p) := by
      rw [hk5.cell (p := ⟨w.heap.size, 0, none⟩) (Nat.lt_of_lt_of_le hwlt hk24.size) (by simp), hk24.cell (p := ⟨w.heap.size, 0, none⟩) hwlt hnot, HK2.out.cell (p := ⟨w.heap.size, 0, none⟩) (by simp) HN.out]
      simp
    have hb5 : w4.heap.size ≤ b5 := hfr5 b5 rfl
    have hne5 : w.heap.size ≠ b5 := by have := hk24.size; omega
    have hdc := delete_call hrow5 (by have := hk24.size; have := hk5.size; omega) hne5 hcp5 hsz
    have hq5 := (hk5.block q (by have := hk24.size; have := (Array.getElem?_eq_some_iff.1 HQ4.out).1; omega) (by simp)).trans HQ4.out
    obtain ⟨L', hL'⟩ : ∃ L', L' = l.filter fun x => decide (x ≠ p) := ⟨_, rfl⟩
    rw [← hL'] at hdc
    have HL' := Lib.hid hL'
    clear hL'
    have HDC := Lib.hid hdc
    have HQ5 := Lib.hid hq5
    have HK5 := Lib.hid hk5
    have HK24 := Lib.hid hk24
    have HFQ := Lib.hid hFq
    clear hdc hq5 hk5 hk24 hrow5 hfr5 hcp5 hFq d0 d1 d2 g0
    go_wp2_with fail
    refine HDC.out.mono ?_
    rintro e w6 ⟨rfl, hrow6, hk6⟩
    have hq6lt : q < b5 := by have := (Array.getElem?_eq_some_iff.1 HQ4.out).1; omega
    have hq6 := (hk6.block q (Array.getElem?_eq_some_iff.1 HQ5.out).1 (by simp; omega)).trans HQ5.out
    obtain ⟨d0, d1, d2, g0⟩ := cells3 hq6
    have HQ6 := Lib.hid hq6
    have HR6 := Lib.hid hrow6
    have HK6 := Lib.hid hk6
    clear hq6 hrow6 hk6
    go_wp2_with fail
    go_ret
    have k7 := Keep.set1 w6 ⟨q, 0, none⟩ (.slice (some ⟨b5, off5, none⟩) L'.length cap5)
    have hmlt := HM4.out.lt
    have htlt := Nat.lt_of_lt_of_le HQ2.out.mt.lt HK24.out.size
    unfold DropP
    rw [← HL'.out]
    refine ⟨by rw [HD.out, Bool.or_true]; rfl, q :: bi :: bt :: [b5], ⟨_, bi, bt, some b5, mdel pi p, ⟨heap_setCell_at HQ6.out _, ?_, ?_, ?_, ?_, ?_, HQ2.out.qi, HQ2.out.qt, HQ2.out.it, ?_⟩, rfl⟩, ?_, ?_⟩
    · exact HR6.out.keep k7 (by rintro b ⟨⟩; simp; omega)
    · exact ((HM4.out.keep HK5.out (by simp)).keep HK6.out (by simp; omega)).keep k7 (by simpa using HQ2.out.qi.symm)
    · intro x
      by_cases hx : x = p
      · subst hx
        rw [mfind_del_self, HL'.out]
        simp
      · rw [mfind_del_other _ hx, HQ2.out.is x, HL'.out]
        simp [hx]
    · exact (((HQ2.out.mt.keep HK24.out (by simpa using HQ2.out.it.symm)).keep HK5.out (by simp)).keep HK6.out (by simp; omega)).keep k7 (by simpa using HQ2.out.qt.symm)
    · rw [HL'.out]; exact HQ2.out.nd.sublist List.filter_sublist
    · rintro b ⟨⟩
      exact ⟨by omega, by omega, by omega⟩
    · intro b hb
      simp only [List.mem_cons, List.not_mem_nil, or_false] at hb
      have hs2 := HK2.out.size
      have hs4 := HK24.out.size
      simp at hs2
      rcases hb with rfl | rfl | rfl | rfl
      · left; rw [HFQ.out]; simp
      · left; rw [HFQ.out]; simp
      · left; rw [HFQ.out]; simp
      · right; omega
    · have hs2 := HK2.out.size
      have hs4 := HK24.out.size
      simp at hs2
      refine (((((Keep.refl F w).alloc _).trans HK2.out (fun x hx => .inl hx)).trans HK24.out ?_).trans HK5.out (by simp)).trans HK6.out ?_ |>.trans k7 ?_
      · intro x hx; left; rw [HFQ.out]; simp at hx ⊢; right; left; exact hx
      · intro x hx; right; simp at hx; omega
      · intro x hx; left; rw [HFQ.out]; simp at hx ⊢; left; exact hx
  · have hd : decide (p ∈ l) = false := by simpa using hin
    rw [hd] at hlk
    have HD := Lib.hid hd
    have hfl : (l.filter fun x => decide (x ≠ p)) = l := by
      rw [List.filter_eq_self]
      intro x hx
      simp only [decide_eq_true_eq]
      rintro rfl
      exact hin hx
    have HFL := Lib.hid hfl
    clear hd hin hfl
    go_wp2_with fail
    go_quiet (fail)
    clear hlk
    go_wp2_with fail
    go_ret
    refine ⟨by rw [HD.out, Bool.or_false]; rfl, F, ?_, fun b hb => .inl hb, ?_⟩
    · rw [HFL.out]
      exact IsQ.keep ⟨v, bi, bt, o, pi, HQ1.out, HF.out⟩ ((Keep.refl [] _).drewN nq) (by simp)
    · exact (((Keep.refl F w).alloc _).trans HK1.out (fun x hx => .inl hx)).drewN nq

end Go.Proofs.Ytphfmbkfcjiciaa
