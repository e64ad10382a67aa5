/- Extents: Free. -/
import Derived.Test.YtlfhnbdeadiedaaExt6
namespace Go.Emb.Ext
/-- what Free comes to -/
def FreeRes (blocks : Int) (l out : List E) (err : Int) : Prop :=
  ((blocks < 1 ∨ 16384 < blocks) ∧ err = 2 ∧ out = []) ∨
  ((1 ≤ blocks ∧ blocks ≤ 16384) ∧ ∃ a e1, JoinRes l a e1 ∧ ((e1 ≠ 0 ∧ err = e1 ∧ out = []) ∨ (e1 = 0 ∧ (∃ x ∈ a, blocks < x.1 + x.2) ∧ err = 2 ∧ out = []) ∨
    (e1 = 0 ∧ (∀ x ∈ a, x.1 + x.2 ≤ blocks) ∧ err = 0 ∧ out = freeFrom blocks 0 a)))
theorem JoinRes.err {l a : List E} {e : Int} (h : JoinRes l a e) : e = 0 ∨ e = 2 ∨ e = 8 := by
  rcases h with h | h | h
  · exact .inr (.inl h.1)
  · exact .inr (.inr h.1)
  · exact .inl h.1
theorem JoinRes.ok {l a : List E} (h : JoinRes l a 0) : (∀ x ∈ l, right x = true) ∧ JoinOk l a ∧ ∀ x ∈ a, right x = true := by
  rcases h with h | h | h
  · exact absurd h.1 (by decide)
  · exact absurd h.1 (by decide)
  · exact h.2
end Go.Emb.Ext
namespace Go.Proofs.Ytlfhnbdeadiedaa
open Go.RowKit Go.Emb Go.Lib Go.Emb.Ext Go.Shelf Go.Sort

theorem box_after {wr w2 : World} {o' : Option Nat} {ob ob2 : Obj} (hlt : ∀ b, o' = some b → b < wr.heap.size) (hk2 : Keep o'.toList ((wr.alloc ob).alloc ob2) w2) : w2.heap[wr.heap.size]? = some ob := by
  rw [hk2.block wr.heap.size (by simp; omega) (by
    cases o' with
    | none => simp
    | some b => have := hlt b rfl; simp; omega), Below.heap_alloc _ _ _ (by simp)]
  exact heap_alloc_new wr ob
theorem cells2 {w : World} {q : Nat} {x y : Value} {t : TypeId} (h : w.heap[q]? = some (.cells #[x, y] t (0, 0))) : w.cell? ⟨q, 0, none⟩ = some x ∧ w.cell? ⟨q, 1, none⟩ = some y := by
  refine ⟨?_, ?_⟩ <;> simp [World.cell?, h]

def FreeP (w : World) (blocks : Int) (l : List E) (e : Ending) (w' : World) : Prop :=
  ∃ v o out err, e = .returned (.tuple #[v, .int .i64 err]) ∧ FreeRes blocks l out err ∧ RowE w' v out o ∧ (∀ b, o = some b → w.heap.size ≤ b) ∧ Keep [] w w'

/-- the loop of Free: behind k of the joined list -/
def FreeR (w : World) (blocks : Int) (s : List E) (k : Nat) (v : Value) (p : Int) (wr : World) : Prop :=
  ∃ o, p = endOf 0 (s.take k) ∧ (∀ x ∈ s.take k, x.1 + x.2 ≤ blocks) ∧ RowE wr v (freePre 0 (s.take k)) o ∧ (∀ b, o = some b → w.heap.size ≤ b) ∧ Keep [] w wr

set_option maxHeartbeats 1000000 in
theorem free_any {w : World} {v : Value} {l : List E} {o : Option Nat} (blocks : Int) (hr : RdE w v l o) (hsz : l.length ≤ 1000000) (ho : ∀ b, o = some b → b < w.heap.size) :
    Calls Try.prog 14 #[.int .i64 blocks, v] w (FreeP w blocks l) := by
  obtain ⟨i0, hi, hz0, hz1, hz2⟩ := info_parts ext_info
  have HI := Lib.hid hi
  obtain ⟨a, c, rfl⟩ : ∃ a c, v = .slice a l.length c := by obtain ⟨_, a, c, h, _⟩ := hr; exact ⟨a, c, h⟩
  have hjn := join_any hr hsz ho
  clear hr ho hi
  by_cases hb1 : blocks < 1
  · clear hjn
    go_enter Try.func14, Try.ntmps14
    go_wp2_with fail
    go_ret2
    exact ⟨_, none, [], 2, rfl, .inl ⟨.inl hb1, rfl, rfl⟩, Row.nil _ _ _, by simp, Keep.refl _ _⟩
  by_cases hb2 : 16384 < blocks
  · clear hjn
    go_enter Try.func14, Try.ntmps14
    go_wp2_with fail
    go_ret2
    exact ⟨_, none, [], 2, rfl, .inl ⟨.inr hb2, rfl, rfl⟩, Row.nil _ _ _, by simp, Keep.refl _ _⟩
  have hb3 : 1 ≤ blocks := by omega
  have hb4 : blocks ≤ 16384 := by omega
  go_enter Try.func14, Try.ntmps14
  go_wp2_with fail
  refine hjn.mono ?_
  rintro e w1 ⟨v1, o1, s, err, rfl, hres, hrow1, hnew1, hk1⟩
  clear hjn
  by_cases hne : err = 0
  · subst hne
    obtain ⟨hlr, hok, hsr⟩ := hres.ok
    have hsl : s.length ≤ 1000000 := Nat.le_trans hok.len hsz
    obtain ⟨a1, c1, rfl⟩ := RowE.slice hrow1
    obtain ⟨o2, hrd, ho2⟩ := RowE.rd hrow1
    have HRES := Lib.hid hres
    have HSR := Lib.hid hsr
    have HRD := Lib.hid hrd
    have HK1 := Lib.hid hk1
    clear hres hlr hok hsr hrow1 hnew1 hk1 hrd ho2
    go_wp2_with fail
    go_loopw [4, 7, 26] (fun u p i wr => ∃ (k : Nat) (v : Value) (q : Int), v = u ∧ .int .i64 q = p ∧ k ≤ s.length ∧ i = .int .i64 k ∧ FreeR w1 blocks s k v q wr) (fun _ _ i _ => s.length - (intOf i).toNat)
    case atStart => exact ⟨0, _, 0, rfl, rfl, Nat.zero_le _, rfl, none, rfl, by simp, Row.nil _ _ _, by simp, Keep.refl _ _⟩
    case round =>
      obtain ⟨k, v, q, rfl, rfl, hk, rfl, o', hq, hall, hrow, hnew, hK⟩ := hrel
      have hqb := endOf_bd (l := s.take k) (fun x hx => HSR.out x (List.mem_of_mem_take hx))
      have hfl := freePre_len (s.take k) 0
      have hfl2 : (s.take k).length ≤ k := List.length_take_le _ _
      rw [← hq] at hqb
      have HQ := Lib.hid hq
      have HALL := Lib.hid hall
      have HROW := Lib.hid hrow
      have HNEW := Lib.hid hnew
      have HK := Lib.hid hK
      clear hq hall hrow hnew hK
      obtain ⟨av, cv, rfl⟩ := RowE.slice HROW.out
      by_cases hlt : k < s.length
      · obtain ⟨b, off, rfl, rfl, g0, g1⟩ := HRD.out.at hlt
        have c0 := HK.out.cellOf g0
        have c1 := HK.out.cellOf g1
        have hxr := (right_iff _).1 (HSR.out s[k] (List.getElem_mem hlt))
        have hts : s.take (k + 1) = s.take k ++ [s[k]] := List.take_succ_eq_append_getElem hlt
        have hxm : s[k] ∈ s := List.getElem_mem hlt
        have HTS := Lib.hid hts
        have HXM := Lib.hid hxm
        clear hts hxm g0 g1
        generalize s[k] = x at *
        obtain ⟨x1, x2⟩ := x
        simp only at c0 c1 hxr
        have q0 : (0 : Int) ≤ (k : Int) := by omega
        have q1 : (k : Int) < (s.length : Int) := by omega
        by_cases h1 : blocks < x1 + x2
        · go_wp2_with fail
          go_ret2
          exact ⟨_, none, [], 2, rfl, .inr ⟨⟨hb3, hb4⟩, s, 0, HRES.out, .inr (.inl ⟨rfl, ⟨_, HXM.out, h1⟩, rfl, rfl⟩)⟩, Row.nil _ _ _, by simp, (HK1.out.trans HK.out (by simp)).trans (G := []) (by repeat (first | exact Keep.refl _ _ | refine Keep.drewN ?_ _ | refine Keep.drew ?_ | refine Keep.alloc ?_ _)) (by simp)⟩
        · have hall2 : ∀ x ∈ s.take (k + 1), x.1 + x.2 ≤ blocks := by
            rw [HTS.out]
            intro x hx
            rcases List.mem_append.1 hx with hx | hx
            · exact HALL.out x hx
            · simp at hx; subst hx; simp; omega
          have hend : endOf 0 (s.take (k + 1)) = x1 + x2 := by rw [HTS.out, endOf_snoc]
          have HALL2 := Lib.hid hall2
          have HEND := Lib.hid hend
          clear hall2 hend
          by_cases h2 : q < x1
          · have hpre : freePre 0 (s.take (k + 1)) = freePre 0 (s.take k) ++ [(q, x1 - q)] := by
              rw [HTS.out, freePre_snoc, ← HQ.out, if_pos h2]
            have HPRE := Lib.hid hpre
            clear hpre
            generalize freePre 0 (s.take k) = pre at *
            go_wp2_with (at_builtin; go_loud (refine wpList_append_row _ rfl _ _ 22 22 rfl 36 i0 _ 2 16 Try.underlying22 HI.out hz0 hz1 hz2 rfl _ _ _ o' rfl (Row.keep HROW.out (F := []) (by repeat (first | exact Keep.refl _ _ | refine Keep.drewN ?_ _ | refine Keep.drew ?_ | refine Keep.alloc ?_ _)) (by simp)) _ rfl 1 _ (two_srcB Try.underlying22 _ _ (by first | rfl | simp) _ _ rfl rfl _) (by omega) (by first | (unfold maxLen; omega) | (simp [maxLen] <;> omega)) (by first | omega | (simp <;> omega)) ?_); intro g off2 cap w2 hrow2 hk2 hg2; obtain ⟨hcb0, hcb1⟩ := cells2 (box_after (Row.lt HROW.out) hk2))
            go_roundw
            case rel =>
              refine ⟨k + 1, _, _, rfl, rfl, by omega, by go_num, some g, HEND.out.symm, HALL2.out, ?_, ?_, ?_⟩
              · rw [HPRE.out]
                unfold RowE
                simpa [encE] using hrow2
              · rintro b ⟨⟩
                rcases hg2 with h | h
                · exact HNEW.out g h
                · have := HK.out.size
                  simp at h
                  omega
              · exact (HK.out.trans (G := []) (by repeat (first | exact Keep.refl _ _ | refine Keep.drewN ?_ _ | refine Keep.drew ?_ | refine Keep.alloc ?_ _)) (by simp)).trans hk2 (fun z hz => by
                  cases o' with
                  | none => simp at hz
                  | some b => simp at hz; subst hz; exact .inr (HNEW.out _ rfl))
            case measure => simp [intOf]; omega
          · have hpre : freePre 0 (s.take (k + 1)) = freePre 0 (s.take k) := by
              rw [HTS.out, freePre_snoc, ← HQ.out, if_neg h2, List.append_nil]
            have HPRE := Lib.hid hpre
            clear hpre
            generalize freePre 0 (s.take k) = pre at *
            go_wp2_with fail
            go_roundw
            case rel =>
              refine ⟨k + 1, _, _, rfl, rfl, by omega, by go_num, o', HEND.out.symm, HALL2.out, ?_, HNEW.out, ?_⟩
              · rw [HPRE.out]
                exact RowE.keep HROW.out (F := []) (by repeat (first | exact Keep.refl _ _ | refine Keep.drewN ?_ _ | refine Keep.drew ?_ | refine Keep.alloc ?_ _)) (by simp)
              · exact HK.out.trans (G := []) (by repeat (first | exact Keep.refl _ _ | refine Keep.drewN ?_ _ | refine Keep.drew ?_ | refine Keep.alloc ?_ _)) (by simp)
            case measure => simp [intOf]; omega
      · have hall2 : ∀ x ∈ s, x.1 + x.2 ≤ blocks := by have := HALL.out; rwa [List.take_of_length_le (by omega)] at this
        have hq2 : q = endOf 0 s := by have := HQ.out; rwa [List.take_of_length_le (by omega)] at this
        have hpr : freePre 0 (s.take k) = freePre 0 s := by rw [List.take_of_length_le (by omega)]
        have hff := freeFrom_pre blocks s 0
        rw [← hq2] at hff
        have HALL2 := Lib.hid hall2
        have HPR := Lib.hid hpr
        have HFF := Lib.hid hff
        clear hall2 hq2 hpr hff
        by_cases h1 : q < blocks
        · generalize freePre 0 (s.take k) = pre at *
          go_wp2_with (at_builtin; go_loud (refine wpList_append_row _ rfl _ _ 22 22 rfl 36 i0 _ 2 16 Try.underlying22 HI.out hz0 hz1 hz2 rfl _ _ _ o' rfl (Row.keep HROW.out (F := []) (by repeat (first | exact Keep.refl _ _ | refine Keep.drewN ?_ _ | refine Keep.drew ?_ | refine Keep.alloc ?_ _)) (by simp)) _ rfl 1 _ (two_srcB Try.underlying22 _ _ (by first | rfl | simp) _ _ rfl rfl _) (by omega) (by first | (unfold maxLen; omega) | (simp [maxLen] <;> omega)) (by first | omega | (simp <;> omega)) ?_); intro g off2 cap w2 hrow2 hk2 hg2)
          go_ret2
          refine ⟨_, some g, _, 0, rfl, .inr ⟨⟨hb3, hb4⟩, s, 0, HRES.out, .inr (.inr ⟨rfl, HALL2.out, rfl, rfl⟩)⟩, ?_, ?_, ?_⟩
          · rw [HFF.out, if_pos h1, ← HPR.out]
            unfold RowE
            simpa [encE] using hrow2
          · rintro b ⟨⟩
            have h5 := HK1.out.size
            rcases hg2 with h | h
            · have := HNEW.out g h
              omega
            · have := HK.out.size
              simp at h
              omega
          · exact ((HK1.out.trans HK.out (by simp)).trans (G := []) (by repeat (first | exact Keep.refl _ _ | refine Keep.drewN ?_ _ | refine Keep.drew ?_ | refine Keep.alloc ?_ _)) (by simp)).trans hk2 (fun z hz => by
              cases o' with
              | none => simp at hz
              | some b => simp at hz; subst hz; have := HNEW.out _ rfl; have := HK1.out.size; right; omega)
        · go_wp2_with fail
          go_ret2
          refine ⟨_, o', _, 0, rfl, .inr ⟨⟨hb3, hb4⟩, s, 0, HRES.out, .inr (.inr ⟨rfl, HALL2.out, rfl, rfl⟩)⟩, ?_, ?_, HK1.out.trans HK.out (by simp)⟩
          · rw [HFF.out, if_neg (by omega), ← HPR.out, List.append_nil]
            exact HROW.out
          · intro b hb
            have h3 := HNEW.out b hb
            have h4 := HK1.out.size
            omega
  · have hneb : (err != 0) = true := by simp [hne]
    have HRES := Lib.hid hres
    have HNE := Lib.hid hne
    have HK1 := Lib.hid hk1
    clear hres hrow1 hnew1 hk1 hne
    go_wp2_with fail
    go_ret2
    exact ⟨_, none, [], err, rfl, .inr ⟨⟨hb3, hb4⟩, s, err, HRES.out, .inl ⟨HNE.out, rfl, rfl⟩⟩, Row.nil _ _ _, by simp, HK1.out⟩
end Go.Proofs.Ytlfhnbdeadiedaa
