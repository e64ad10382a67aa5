/- The queue's functions: contracts, continued: Tick, live. -/
import Derived.Test.YtphfmbkfcjiciaaQueue4
namespace Go.Proofs.Ytphfmbkfcjiciaa
open Go.RowKit Go.Emb Go.Shelf Go.Lib Go.Sort

theorem IsQ.lt {w : World} {q : Nat} {l : List Int} {T : List (Int × Int)} {F : List Nat} (h : IsQ w q l T F) : ∀ b ∈ F, b < w.heap.size := by
  obtain ⟨v, bi, bt, o, pi, h, rfl⟩ := h
  intro b hb
  simp only [List.mem_cons] at hb
  rcases hb with rfl | rfl | rfl | hb
  · exact (Array.getElem?_eq_some_iff.1 h.here).1
  · exact h.mis.lt
  · exact h.mt.lt
  · cases o with
    | none => simp at hb
    | some c => simp at hb; subst hb; exact h.row.lt _ rfl

theorem IsQ.keep {w w' : World} {q : Nat} {l : List Int} {T : List (Int × Int)} {F G : List Nat} (h : IsQ w q l T F) (k : Keep G w w') (hn : ∀ b ∈ F, b ∉ G) : IsQ w' q l T F := by
  have hlt := h.lt
  obtain ⟨v, bi, bt, o, pi, h, rfl⟩ := h
  refine ⟨v, bi, bt, o, pi, ⟨(k.block q (hlt q (by simp)) (hn q (by simp))).trans h.here, h.row.keep k (fun b hb => hn b (by simp [hb])), h.mis.keep k (hn bi (by simp)), h.is, h.mt.keep k (hn bt (by simp)), h.nd, h.qi, h.qt, h.it, h.ob⟩, rfl⟩

theorem one_src' {P : Program} {tx e' : TypeId} (hk : P.underlying tx = some (.slice e')) (w : World) (x : Value) (hx : x.oneCell' = true) (t : TypeId) (b : Nat) (hb : w.heap.size = b) : Src P 1 tx (.slice (some ⟨b, 0, none⟩) 1 1) 1 [x] (w.alloc (.cells #[x] t)) := by
  subst hb; exact one_src hk w x hx t

/-- whose time has come -/
def due (T : List (Int × Int)) (now : Int) : List Int := ((sortT T).filter fun t => decide (t.2 ≤ now)).map (·.1)
def dueK (D : List (Int × Int)) (now : Int) (k : Nat) : List Int := ((D.take k).filter fun t => decide (t.2 ≤ now)).map (·.1)
theorem dueK_le (D : List (Int × Int)) (now : Int) (k : Nat) : (dueK D now k).length ≤ k := by
  unfold dueK
  rw [List.length_map]
  exact Nat.le_trans (List.length_filter_le _ _) (List.length_take_le _ _)
theorem dueK_succ (D : List (Int × Int)) (now : Int) (k : Nat) (h : k < D.length) : dueK D now (k + 1) = dueK D now k ++ (if D[k].2 ≤ now then [D[k].1] else []) := by
  unfold dueK
  rw [List.take_succ_eq_append_getElem h, List.filter_append, List.map_append]
  congr 1
  by_cases hd : D[k].2 ≤ now <;> simp [hd]
theorem sortT_length (T : List (Int × Int)) : (sortT T).length = T.length := by simp [sortT]

def TickP (w : World) (q : Nat) (l : List Int) (T : List (Int × Int)) (now : Int) (F : List Nat) (e : Ending) (w' : World) : Prop :=
  ∃ v o F', e = .returned v ∧ Row w' 2 1 v (due T now).length ((due T now).map (Value.int .i64)) o ∧ (∀ b, o = some b → w.heap.size ≤ b ∧ b ∉ F') ∧ IsQ w' q (addAll l (due T now)) T F' ∧ (∀ b ∈ F', b ∈ F ∨ w.heap.size ≤ b) ∧ Keep F w w'

def TickR (w1 : World) (D : List (Int × Int)) (now : Int) (k : Nat) (v : Value) (wr : World) : Prop :=
  ∃ o, Row wr 2 1 v (dueK D now k).length ((dueK D now k).map (Value.int .i64)) o ∧ (∀ b, o = some b → w1.heap.size ≤ b) ∧ Keep [] w1 wr

/-- an element of a slice of pairs -/
theorem flat2 (D : List (Int × Int)) (k : Nat) (h : k < D.length) : (D.flatMap encT)[k * 2]? = some (.int .i64 D[k].1) ∧ (D.flatMap encT)[k * 2 + 1]? = some (.int .i64 D[k].2) := by
  have hk : ∀ x, (encT x).length = 2 := fun _ => rfl
  constructor
  · rw [flat_get hk (by omega), show k * 2 / 2 = k by omega, show k * 2 % 2 = 0 by omega, List.getElem?_eq_getElem h]; rfl
  · rw [flat_get hk (by omega), show (k * 2 + 1) / 2 = k by omega, show (k * 2 + 1) % 2 = 1 by omega, List.getElem?_eq_getElem h]; rfl

set_option maxHeartbeats 1000000 in
theorem tick_any {w : World} {q : Nat} {l : List Int} {T : List (Int × Int)} {F : List Nat} (h : IsQ w q l T F) (now : Int) (hsz : l.length + T.length ≤ 1000000000) :
    Calls Try.prog 14 #[.pointer (some ⟨q, 0, none⟩), .int .i64 now] w (TickP w q l T now F) := by
  obtain ⟨i0, hi, hz0, hz1, hz2⟩ := info_parts i64_info
  have HQ := Lib.hid h
  have HI := Lib.hid hi
  clear h hi
  go_enter Try.func14, Try.ntmps14
  go_wp2_with fail
  refine (timers_any HQ.out (by omega)).mono ?_
  rintro e w1 ⟨tv, to, rfl, htr, hto, hk1⟩
  obtain ⟨to', hrd, hto'⟩ := htr.rd
  obtain ⟨hl, a, c, rfl, hc1, hc2, h3⟩ := hrd
  have H3 := Lib.hid h3
  have HL := Lib.hid hl
  have HK1 := Lib.hid hk1
  have HTO : Hid (∀ b, to' = some b → w.heap.size ≤ b ∧ b < w1.heap.size) := by
    intro b hb
    rcases hto' with h | h
    · rw [h] at hb; cases hb
    · rw [h] at hb; exact ⟨hto b hb, htr.lt b hb⟩
  have hstart : TickR w1 (sortT T) now 0 (.slice none 0 0) w1 := ⟨none, by simpa [dueK] using Row.nil w1 2 1, by simp, Keep.refl _ _⟩
  clear htr hto hk1 hto' hl h3
  have hDl := sortT_length T
  have HD := Lib.hid hDl
  clear hDl
  go_wp2_with fail
  go_loopw [4, 10] (fun u i wr => ∃ (v : Value) (k : Nat), v = u ∧ k ≤ T.length ∧ i = .int .i64 k ∧ TickR w1 (sortT T) now k v wr) (fun _ i _ => T.length - (intOf i).toNat)
  case atStart => exact ⟨_, 0, rfl, Nat.zero_le _, rfl, hstart⟩
  case round =>
    obtain ⟨v, k, rfl, hk, rfl, o, hrow, hfr, hK⟩ := hrel
    have hdl := dueK_le (sortT T) now k
    have HR := Lib.hid hrow
    have HF := Lib.hid hfr
    have HK := Lib.hid hK
    clear hrow hfr hK hstart
    by_cases hlt : k < T.length
    · have hltD : k < (sortT T).length := by rw [HD.out]; exact hlt
      rcases H3.out with ⟨h0, _⟩ | ⟨b, off, rfl, rfl, h3⟩
      · omega
      obtain ⟨e1, e2⟩ := flat2 (sortT T) k hltD
      have hds := dueK_succ (sortT T) now k hltD
      have hb1 := (HTO.out b rfl).2
      have hcell1 : wr.cell? ⟨b, off + k * 2, none⟩ = some (.int .i64 (sortT T)[k].1) := by
        rw [HK.out.cell (p := ⟨b, off + k * 2, none⟩) hb1 (by simp), h3 (k * 2) (by omega), e1]
      have hcell2 : wr.cell? ⟨b, off + k * 2 + 1, none⟩ = some (.int .i64 (sortT T)[k].2) := by
        rw [HK.out.cell (p := ⟨b, off + k * 2 + 1, none⟩) hb1 (by simp), Nat.add_assoc, h3 (k * 2 + 1) (by omega), e2]
      generalize (sortT T)[k].1 = x at *
      generalize (sortT T)[k].2 = y at *
      have HDS := Lib.hid hds
      clear hds e1 e2 h3
      by_cases hd : y ≤ now
      · have hrow1 : ∀ ob ob', Row ((wr.alloc ob).alloc ob') 2 1 v (dueK (sortT T) now k).length ((dueK (sortT T) now k).map (Value.int .i64)) o := fun ob ob' => (HR.out.keep ((Keep.refl [] _).alloc _) (by simp)).keep ((Keep.refl [] _).alloc _) (by simp)
        have HR1 := Lib.hid hrow1
        clear hrow1
        go_wp2_with (at_builtin; refine wpList_append_row _ rfl _ _ 22 22 rfl 2 i0 (.int .i64 0) 1 8 Try.underlying22 HI.out hz0 hz1 hz2 rfl v (dueK (sortT T) now k).length ((dueK (sortT T) now k).map (Value.int .i64)) o rfl (HR1.out _ _) _ rfl 1 [.int .i64 x] (one_src' Try.underlying22 _ _ rfl _ _ (by simp)) (by omega) (by unfold maxLen; omega) (by omega) ?_; intro g off2 cap w2 hrow2 hk2 hg2)
        go_roundw
        case rel =>
          refine ⟨_, k + 1, rfl, by omega, by go_num, some g, ?_, ?_, ?_⟩
          · rw [HDS.out, if_pos hd, List.length_append, List.map_append]
            exact hrow2
          · rintro b ⟨⟩
            rcases hg2 with h | h
            · exact HF.out g h
            · have := HK.out.size; simp at h; omega
          · refine ((HK.out.alloc _).alloc _).trans hk2 ?_
            intro z hz
            right
            cases o with
            | none => simp at hz
            | some b => simp at hz; subst hz; exact HF.out _ rfl
        case measure => simp [intOf]; omega
      · go_wp2_with fail
        go_roundw
        case rel =>
          refine ⟨_, k + 1, rfl, by omega, by go_num, o, ?_, HF.out, HK.out.alloc _⟩
          rw [HDS.out, if_neg hd, List.append_nil]
          exact HR.out.keep ((Keep.refl [] _).alloc _) (by simp)
        case measure => simp [intOf]; omega
    · obtain rfl : k = T.length := by omega
      have hdd : dueK (sortT T) now T.length = due T now := by unfold dueK due; rw [List.take_of_length_le (by rw [HD.out]; exact Nat.le_refl _)]
      have hq : IsQ wr q l T F := (HQ.out.keep HK1.out (by simp)).keep HK.out (by simp)
      obtain ⟨o', hrd, ho'⟩ := HR.out.rd
      rw [hdd] at hrd hdl
      have hoF : ∀ b, o' = some b → b ∉ F := by
        intro b hb hF
        have h1 := HQ.out.lt b hF
        have h2 := HK1.out.size
        rcases ho' with h | h
        · rw [h] at hb; cases hb
        · rw [h] at hb; have := HF.out b hb; omega
      have hcall := ready_any hq hrd hoF (by omega)
      have HCALL := Lib.hid hcall
      clear hcall hrd hq hoF ho'
      have HDD := Lib.hid hdd
      clear hdd
      go_wp2_with fail
      refine HCALL.out.mono ?_
      rintro e w2 ⟨rfl, ⟨F', hq2, hF'⟩, hk2⟩
      have HQ2 := Lib.hid hq2
      have HF' := Lib.hid hF'
      have HK2 := Lib.hid hk2
      clear hq2 hF' hk2
      go_wp2_with fail
      go_ret
      have hs1 := HK1.out.size
      have hs2 := HK.out.size
      have hrl := HR.out.lt
      refine ⟨v, o, F', rfl, ?_, ?_, HQ2.out, ?_, ?_⟩
      · have := HR.out.keep HK2.out (fun b hb hF => by have h1 := HQ.out.lt b hF; have := HF.out b hb; omega)
        rw [HDD.out] at this
        exact this
      · intro b hb
        have h1 := HF.out b hb
        have h2 := hrl b hb
        refine ⟨by omega, fun hF => ?_⟩
        rcases HF'.out b hF with h | h
        · have := HQ.out.lt b h; omega
        · omega
      · intro b hb
        rcases HF'.out b hb with h | h
        · exact .inl h
        · right; omega
      · exact ((HK1.out.trans HK.out (by simp)).mono (by simp)).trans HK2.out (fun x hx => .inl hx)

end Go.Proofs.Ytphfmbkfcjiciaa
