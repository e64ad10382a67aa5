/- The document's queue (embersref20): Tick. -/
import Derived.Test.YtphfmbkfcjiciaaRef6
namespace Go.Proofs.Ytphfmbkfcjiciaa
open Go.RowKit Go.Emb Go.Shelf Go.Lib Go.Sort

/-- the pids of the first timers that are due -/
def dueP (D : List (Int × Int)) (now : Int) : List Int := (D.takeWhile fun t => decide (t.2 ≤ now)).map (·.1)
theorem takeWhile_at {D : List (Int × Int)} {now : Int} : ∀ {k : Nat}, (∀ t ∈ D.take k, t.2 ≤ now) → (∀ h : k < D.length, ¬ D[k].2 ≤ now) → (D.takeWhile fun t => decide (t.2 ≤ now)) = D.take k := by
  induction D with
  | nil => intro k _ _; simp
  | cons t D ih =>
    intro k h1 h2
    cases k with
    | zero => have h3 := h2 (by simp); rw [List.takeWhile_cons, if_neg (by simpa using h3), List.take_zero]
    | succ k =>
      have ht := h1 t (by simp)
      rw [List.takeWhile_cons, if_pos (by simpa using ht), List.take_succ_cons]
      rw [ih (fun x hx => h1 x (by rw [List.take_succ_cons]; exact List.mem_cons_of_mem _ hx)) (fun h => by have := h2 (by simp; omega); simpa using this)]
theorem dueP_at {D : List (Int × Int)} {now : Int} {k : Nat} (h1 : ∀ t ∈ D.take k, t.2 ≤ now) (h2 : ∀ h : k < D.length, ¬ D[k].2 ≤ now) : dueP D now = (D.take k).map (·.1) := by
  unfold dueP; rw [takeWhile_at h1 h2]
theorem dueP_le (D : List (Int × Int)) (now : Int) : (dueP D now).length ≤ D.length := by
  unfold dueP; rw [List.length_map]; exact (List.takeWhile_sublist _).length_le

def RTickP (w : World) (r : Nat) (l : List Int) (D : List (Int × Int)) (now : Int) (F : List Nat) (e : Ending) (w' : World) : Prop :=
  ∃ v o F', e = .returned v ∧ Rd w' 1 v (dueP D now).length ((dueP D now).map (Value.int .i64)) o ∧ (∀ b, o = some b → w.heap.size ≤ b ∧ b < w'.heap.size ∧ b ∉ F') ∧ IsR w' r (addAll l (dueP D now)) D F' ∧ (∀ b ∈ F', b ∈ F ∨ w.heap.size ≤ b) ∧ Keep F w w'

def RTickR (w : World) (D : List (Int × Int)) (now : Int) (k : Nat) (v : Value) (wr : World) : Prop :=
  ∃ o, Row wr 2 1 v k (((D.take k).map (·.1)).map (Value.int .i64)) o ∧ (∀ b, o = some b → w.heap.size ≤ b) ∧ Keep [] w wr ∧ ∀ t ∈ D.take k, t.2 ≤ now

set_option maxHeartbeats 2000000 in
theorem r_tick {w : World} {r : Nat} {l : List Int} {D : List (Int × Int)} {F : List Nat} (h : IsR w r l D F) (now : Int) (hsz : l.length + D.length ≤ 1000000000) :
    Calls Try.prog 23 #[.pointer (some ⟨r, 0, none⟩), .int .i64 now] w (RTickP w r l D now F) := by
  obtain ⟨i0, hi, hz0, hz1, hz2⟩ := info_parts i64_info
  have HQ := Lib.hid h
  have HI := Lib.hid hi
  obtain ⟨lv, tv, ol, ot, h, -⟩ := h
  have hrt := h.rt
  have hlt := (Array.getElem?_eq_some_iff.1 h.here).1
  obtain ⟨-, a, c, rfl, hcl, hc, -⟩ := h.rt
  have HT : Hid (∀ W, Keep [] w W → W.cell? ⟨r, 1, none⟩ = some (.slice a D.length c)) := by
    intro W hW
    exact (cells2 ((hW.block r hlt (by simp)).trans h.here)).2.1
  have HRT := Lib.hid hrt
  clear hrt h hi
  have hstart : RTickR w D now 0 (.slice none 0 0) w := ⟨none, by simpa using Row.nil w 2 1, by simp, Keep.refl _ _, by simp⟩
  go_enter Try.func23, Try.ntmps23
  go_wp2_with fail
  go_loopw [5, 6] (fun u i wr => ∃ (v : Value) (k : Nat), v = u ∧ k ≤ D.length ∧ i = .int .i64 k ∧ RTickR w D now k v wr) (fun _ i _ => D.length - (intOf i).toNat)
  case atStart => exact ⟨_, 0, rfl, Nat.zero_le _, rfl, hstart⟩
  case round =>
    obtain ⟨v, k, rfl, hk, rfl, o, hrow, hfr, hK, hall⟩ := hrel
    have hct := HT.out _ hK
    have HR := Lib.hid hrow
    have HF := Lib.hid hfr
    have HK := Lib.hid hK
    have HA := Lib.hid hall
    clear hrow hfr hK hstart hall
    have hfin : (∀ h : k < D.length, ¬ D[k].2 ≤ now) → dueP D now = (D.take k).map (·.1) := fun h => dueP_at HA.out h
    have HFIN := Lib.hid hfin
    clear hfin
    have HEND : Hid (dueP D now = (D.take k).map (·.1) → Calls Try.prog 19 #[.pointer (some ⟨r, 0, none⟩), v] wr (fun e w' => RPost wr r (addAll l (dueP D now)) D F (.int .i64 (((addAll l (dueP D now)).length : Int) - l.length)) e w' ∧ RTickP w r l D now F (.returned v) w')) := by
      intro hd
      have hlen : (dueP D now).length = k := by rw [hd]; simp; omega
      have hq : IsR wr r l D F := HQ.out.keep HK.out (by simp)
      obtain ⟨o', hrd, ho'⟩ := HR.out.rd
      rw [← hd] at hrd
      have hrd' : Rd wr 1 v (dueP D now).length ((dueP D now).map (Value.int .i64)) o' := by rw [hlen]; exact hrd
      have hoo : ∀ b, o' = some b → w.heap.size ≤ b ∧ b < wr.heap.size := by
        intro b hb
        rcases ho' with h | h
        · rw [h] at hb; cases hb
        · rw [h] at hb; exact ⟨HF.out b hb, HR.out.lt b hb⟩
      have hoF : ∀ b, o' = some b → b ∉ F := by
        intro b hb hF
        have h1 := HQ.out.lt b hF
        have := (hoo b hb).1
        omega
      refine (r_ready hq hrd' hoF (by have := dueP_le D now; omega)).mono fun e w' hp => ⟨hp, ?_⟩
      obtain ⟨-, F', f1, f2, f3⟩ := hp
      have hs1 := HK.out.size
      have hs2 := f3.size
      refine ⟨v, o', F', rfl, hrd'.keep f3 hoF, fun b hb => ?_, f1, fun b hb => ?_, (HK.out.mono (by simp)).trans f3 (fun x hx => .inl hx)⟩
      · obtain ⟨h1, h2⟩ := hoo b hb
        refine ⟨h1, by omega, fun hF' => ?_⟩
        rcases f2 b hF' with h | h
        · exact hoF b hb h
        · omega
      · rcases f2 b hb with h | h
        · exact .inl h
        · right; omega
    by_cases hklt : k < D.length
    · obtain ⟨b, off, rfl, -, g1, g2⟩ := rdT_at HRT.out hklt
      have hcell1 : wr.cell? ⟨b, off + k * 2, none⟩ = some (.int .i64 D[k].1) := (HK.out.cell (p := ⟨b, off + k * 2, none⟩) (World.block_lt_of_cell? _ _ g1) (by simp)).trans g1
      have hcell2 : wr.cell? ⟨b, off + k * 2 + 1, none⟩ = some (.int .i64 D[k].2) := (HK.out.cell (p := ⟨b, off + k * 2 + 1, none⟩) (World.block_lt_of_cell? _ _ g2) (by simp)).trans g2
      have q0 : (0 : Int) ≤ (k : Int) := by omega
      have q1 : (k : Int) < (D.length : Int) := by omega
      have hts : D.take (k + 1) = D.take k ++ [D[k]] := List.take_succ_eq_append_getElem hklt
      have hno : ¬ D[k].2 ≤ now → dueP D now = (D.take k).map (·.1) := fun h => HFIN.out (fun _ => h)
      have HNO := Lib.hid hno
      have HTS := Lib.hid hts
      clear hno hts g1 g2
      generalize D[k] = t at *
      obtain ⟨x, y⟩ := t
      simp only at hcell1 hcell2
      by_cases hd : y ≤ now
      · have hrow1 : ∀ ob, Row (wr.alloc ob) 2 1 v k (((D.take k).map (·.1)).map (Value.int .i64)) o := fun ob => HR.out.keep ((Keep.refl [] _).alloc _) (by simp)
        have HR1 := Lib.hid hrow1
        clear hrow1
        go_wp2_with (at_builtin; refine wpList_append_row _ rfl _ _ 22 22 rfl 2 i0 (.int .i64 0) 1 8 Try.underlying22 HI.out hz0 hz1 hz2 rfl v k (((D.take k).map (·.1)).map (Value.int .i64)) o rfl (HR1.out _) _ rfl 1 [.int .i64 x] (one_src' Try.underlying22 _ _ rfl _ _ (by simp)) (by omega) (by unfold maxLen; omega) (by omega) ?_; intro g off2 cap w2 hrow2 hk2 hg2)
        go_roundw
        case rel =>
          refine ⟨_, k + 1, rfl, by omega, by go_num, some g, ?_, ?_, ?_, ?_⟩
          · rw [HTS.out, List.map_append, List.map_append]
            exact hrow2
          · rintro b ⟨⟩
            rcases hg2 with h | h
            · exact HF.out g h
            · have := HK.out.size; simp at h; omega
          · refine (HK.out.alloc _).trans hk2 ?_
            intro z hz
            right
            cases o with
            | none => simp at hz
            | some b => simp at hz; subst hz; exact HF.out _ rfl
          · intro t ht
            rw [HTS.out, List.mem_append] at ht
            rcases ht with ht | ht
            · exact HA.out t ht
            · simp at ht; subst ht; exact hd
        case measure => simp [intOf]; omega
      · have HCALL := Lib.hid (HEND.out (HNO.out hd))
        go_wp2_with fail
        refine HCALL.out.mono ?_
        rintro e w2 ⟨⟨rfl, -⟩, hp⟩
        have HP := Lib.hid hp
        clear hp
        go_wp2_with fail
        go_ret
        exact HP.out
    · have q1 : ¬ (k : Int) < (D.length : Int) := by omega
      have HCALL := Lib.hid (HEND.out (HFIN.out (fun h => absurd h hklt)))
      go_wp2_with fail
      refine HCALL.out.mono ?_
      rintro e w2 ⟨⟨rfl, -⟩, hp⟩
      have HP := Lib.hid hp
      clear hp
      go_wp2_with fail
      go_ret
      exact HP.out
end Go.Proofs.Ytphfmbkfcjiciaa
