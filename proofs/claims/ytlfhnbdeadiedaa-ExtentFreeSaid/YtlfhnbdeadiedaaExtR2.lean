/- Extents, the document's: marks. -/
import Derived.Test.YtlfhnbdeadiedaaExtR1
import Derived.Test.YtlfhnbdeadiedaaExtLaws2
import Derived.Laws.MakeOwn
namespace Go.Proofs.Ytlfhnbdeadiedaa
open Go.RowKit Go.Emb Go.Lib Go.Emb.Ext Go.Shelf Go.Sort

theorem bool_info : (Try.prog.info? 4).map (fun i => (i.zero, i.size, i.bytes)) = some (some (.bool false), 1, 1) := by kernel_rfl
/-- a row of marks: one for each block -/
def MarkRow (w : World) (b : Nat) (xs : List Bool) : Prop := xs.length = 32769 ∧ Row w 4 1 (.slice (some ⟨b, 0, none⟩) 32769 32769) 32769 (xs.map Value.bool) (some b)
def Marked (xs : List Bool) (S : Nat → Prop) : Prop := ∀ t : Nat, t < 32769 → (xs[t]? = some true ↔ S t)

theorem MarkRow.cell {w : World} {b : Nat} {xs : List Bool} (h : MarkRow w b xs) {t : Nat} (ht : t < 32769) : ∃ x, xs[t]? = some x ∧ w.cell? ⟨b, t, none⟩ = some (.bool x) ∧ w.frozen? ⟨b, t, none⟩ = false := by
  obtain ⟨hl, hrow⟩ := h
  have hf := Row.notFrozen hrow t
  obtain ⟨_, h⟩ := hrow
  rcases h with ⟨h, _⟩ | ⟨b', off', cap', cs, e1, e2, hb, h1, h2, h3, h5⟩
  · cases h
  cases e1; cases e2
  have h6 := h5 t (by omega)
  rw [List.getElem?_map, List.getElem?_eq_getElem (by omega)] at h6
  simp only [Nat.zero_add, Option.map_some] at h6
  exact ⟨xs[t], List.getElem?_eq_getElem _, by simp [World.cell?, hb, h6], hf⟩
theorem MarkRow.set {w : World} {b : Nat} {xs : List Bool} (h : MarkRow w b xs) {t : Nat} (ht : t < 32769) : MarkRow (w.setCell ⟨b, t, none⟩ (.bool true)) b (xs.set t true) := by
  refine ⟨by simpa using h.1, ?_⟩
  have := Row.setAt h.2 t (by omega) (.bool true)
  rw [Nat.zero_add] at this
  rw [List.map_set]
  exact this
theorem MarkRow.keep {w w' : World} {b : Nat} {xs : List Bool} {F : List Nat} (h : MarkRow w b xs) (hk : Keep F w w') (hb : b ∉ F) : MarkRow w' b xs := ⟨h.1, h.2.keep hk (by rintro b' ⟨⟩; exact hb)⟩
theorem Marked.set {xs : List Bool} {S : Nat → Prop} (h : Marked xs S) (hl : xs.length = 32769) {t : Nat} (ht : t < 32769) : Marked (xs.set t true) (fun u => S u ∨ u = t) := by
  intro u hu
  rw [List.getElem?_set]
  by_cases e : t = u
  · subst e
    simp [hl, ht]
  · rw [if_neg e, h u hu]
    simp [Ne.symm e]
theorem Marked.congr {xs : List Bool} {S T : Nat → Prop} (h : Marked xs S) (hc : ∀ t, t < 32769 → (S t ↔ T t)) : Marked xs T := fun t ht => (h t ht).trans (hc t ht)

theorem make_marks (w : World) : ∃ xs w', (Instr.makeSlice 56 (.int .i64 32769) (.int .i64 32769)).run Try.prog w = .ok (.slice (some ⟨w.heap.size, 0, none⟩) 32769 32769) w' ∧ MarkRow w' w.heap.size xs ∧ Marked xs (fun _ => False) ∧ Keep [] w w' := by
  obtain ⟨i0, hi, hz0, hz1, hz2⟩ := info_parts bool_info
  have hr := run_makeSlice (P := Try.prog) w 56 4 i0 (.bool false) Try.underlying56 hi hz0 .i64 .i64 32769 32769 (by omega) (by omega) (by rw [hz1]; omega) (by rw [hz2]; omega) (by omega)
  have e1 : (32769 : Int).toNat = 32769 := rfl
  rw [e1, hz1] at hr
  refine ⟨List.replicate 32769 false, _, hr, ⟨by rw [List.length_replicate], ?_⟩, ?_, (Keep.refl _ _).alloc _⟩
  · refine ⟨by rw [List.length_map, List.length_replicate], .inr ⟨w.heap.size, 0, 32769, _, rfl, rfl, heap_alloc_new w _, Nat.le_refl _, by unfold maxLen; omega, by rw [size_madeCells]; omega, fun i hi => ?_⟩⟩
    rw [List.getElem?_map, List.getElem?_replicate, if_pos (by omega)]
    unfold madeCells
    rw [Array.getElem?_map, Array.getElem?_eq_getElem (by rw [Array.size_range]; omega)]
    simp [Value.cells, Nat.mod_one]
  · intro t ht
    rw [List.getElem?_replicate, if_pos ht]
    simp

def MarksP (w : World) (l : List E) (e : Ending) (w' : World) : Prop :=
  ∃ v err, e = .returned (.tuple #[v, .int .i64 err]) ∧ Keep [] w w' ∧ ((err = 2 ∧ ∃ x ∈ l, right x = false) ∨ (err = 8 ∧ (∀ x ∈ l, right x = true) ∧ ¬ Disj l) ∨
    (err = 0 ∧ (∀ x ∈ l, right x = true) ∧ Disj l ∧ ∃ b xs, v = .slice (some ⟨b, 0, none⟩) 32769 32769 ∧ w.heap.size ≤ b ∧ MarkRow w' b xs ∧ Marked xs (fun t => cov l t)))

/-- behind i extents, and k blocks of the next one -/
structure MarkI (w : World) (l : List E) (b i f k : Nat) (wr : World) : Prop where
  keep : Keep [] w wr
  new : w.heap.size ≤ b
  row : ∃ xs, MarkRow wr b xs ∧ Marked xs (fun t => cov (l.take i) t ∨ (f ≤ t ∧ t < f + k))
  disj : Disj (l.take i)
  free : ∀ t, f ≤ t → t < f + k → ¬ cov (l.take i) t

theorem MarkI.next {w : World} {l : List E} {b i f k : Nat} {wr : World} (h : MarkI w l b i f k wr) (hi : i < l.length) (hf : l[i] = ((f : Int), (k : Int))) : MarkI w l b (i + 1) 0 0 wr := by
  obtain ⟨xs, h1, h2⟩ := h.row
  have hts := List.take_succ_eq_append_getElem hi
  have hc : ∀ t, cov (l.take (i + 1)) t ↔ cov (l.take i) t ∨ ((f : Int) ≤ t ∧ t < f + k) := fun t => by rw [hts, cov_append, cov_one, hf]; rfl
  refine ⟨h.keep, h.new, ⟨xs, h1, h2.congr fun t ht => ?_⟩, ?_, fun t h1 h2 => by omega⟩
  · rw [hc]
    constructor
    · rintro (h | h)
      · exact .inl (.inl h)
      · exact .inl (.inr ⟨by omega, by omega⟩)
    · rintro ((h | h) | h)
      · exact .inl h
      · exact .inr ⟨by omega, by omega⟩
      · omega
  · rw [hts]
    refine disj_append h.disj (by simp [Disj]) fun t ha hb => ?_
    rw [cov_one, hf] at hb
    unfold covers at hb
    simp only at hb
    have := h.free t.toNat (by omega) (by omega)
    rw [show ((t.toNat : Nat) : Int) = t by omega] at this
    exact this ha

set_option maxRecDepth 100000 in
set_option maxHeartbeats 2000000 in
theorem marks_any {w : World} {v : Value} {l : List E} (hr : HasE w v l) (hsz : l.length ≤ 1000000) : Calls Try.prog 33 #[v] w (MarksP w l) := by
  obtain ⟨a, c, rfl⟩ := hr.slice
  have HR := Lib.hid hr
  clear hr
  go_enter Try.func33, Try.ntmps33
  go_wp2_with fail
  go_loopw [4] (fun i wr => ∃ k : Nat, k ≤ l.length ∧ i = .int .i64 k ∧ Keep [] w wr ∧ (∀ x ∈ l.take k, right x = true)) (fun i _ => l.length - (intOf i).toNat)
  case atStart => exact ⟨0, Nat.zero_le _, rfl, Keep.refl _ _, by simp⟩
  case round =>
    obtain ⟨k, hk, rfl, hK, hno⟩ := hrel
    have HK := Lib.hid hK
    have HNO := Lib.hid hno
    clear hK hno
    by_cases hlt : k < l.length
    · obtain ⟨o, hrd, -⟩ := HR.out
      obtain ⟨b, off, rfl, rfl, g0, g1⟩ := hrd.at hlt
      have c0 := HK.out.cellOf g0
      have c1 := HK.out.cellOf g1
      have hmem := List.getElem_mem hlt
      have hts := List.take_succ_eq_append_getElem hlt
      have HMEM := Lib.hid hmem
      have HTS := Lib.hid hts
      clear g0 g1 hrd hmem hts
      generalize l[k] = x at *
      have i0 : (0 : Int) ≤ (k : Int) := by omega
      have i1 : (k : Int) < (l.length : Int) := by omega
      have hcall := fun W => r_right x W
      obtain ⟨f, m⟩ := x
      simp only at c0 c1
      unfold aggE at hcall
      cases hq : right (f, m) with
      | true =>
        rw [hq] at hcall
        have HQ := Lib.hid hq
        clear hq
        go_wp2_with (go_at_call 35; refine (hcall _).mono ?_; rintro e w' ⟨rfl, hk'⟩)
        go_roundw
        case rel =>
          refine ⟨k + 1, by omega, by go_num, HK.out.trans hk' (by simp), fun x hx => ?_⟩
          rw [HTS.out] at hx
          rcases List.mem_append.1 hx with hx | hx
          · exact HNO.out x hx
          · simp at hx; subst hx; exact HQ.out
        case measure => simp [intOf]; omega
      | false =>
        rw [hq] at hcall
        have HQ := Lib.hid hq
        clear hq
        go_wp2_with (go_at_call 35; refine (hcall _).mono ?_; rintro e w' ⟨rfl, hk'⟩)
        go_ret2
        exact ⟨_, 2, rfl, HK.out.trans hk' (by simp), .inl ⟨rfl, _, HMEM.out, HQ.out⟩⟩
    · have hall : ∀ x ∈ l, right x = true := by have := HNO.out; rwa [List.take_of_length_le (by omega)] at this
      obtain ⟨xs0, wm, hmk, hmr, hmm, hkm⟩ := make_marks wr
      have hstart : MarkI w l wr.heap.size 0 0 0 wm := ⟨HK.out.trans hkm (by simp), HK.out.size, ⟨xs0, hmr, hmm.congr fun t _ => by simp [cov]⟩, by simp [Disj], fun t h1 h2 => by omega⟩
      have HALL := Lib.hid hall
      have HST := Lib.hid hstart
      clear hall hmr hmm hkm hstart HNO
      go_wp2_with fail
      clear hmk
      generalize wr.heap.size = bm at *
      go_loopw [6, 7] (fun si _ wr => ∃ i : Nat, i ≤ l.length ∧ si = .int .i64 i ∧ MarkI w l bm i 0 0 wr) (fun si _ _ => l.length - (intOf si).toNat)
      case atStart => exact ⟨0, Nat.zero_le _, rfl, HST.out⟩
      case round =>
        rename World => wo
        obtain ⟨i, hi, rfl, hM⟩ := hrel
        have HM := Lib.hid hM
        clear hM HST
        by_cases hlt : i < l.length
        · obtain ⟨o, hrd, -⟩ := HR.out
          obtain ⟨b, off, rfl, rfl, g0, g1⟩ := hrd.at hlt
          have hxr := (right_iff _).1 (HALL.out l[i] (List.getElem_mem hlt))
          obtain ⟨f, hf⟩ := Int.eq_ofNat_of_zero_le hxr.1
          obtain ⟨m, hm⟩ := Int.eq_ofNat_of_zero_le (show 0 ≤ l[i].2 by omega)
          have hx : l[i] = ((f : Int), (m : Int)) := Prod.ext hf hm
          rw [hf] at g0
          rw [hm] at g1
          have hfm : f + m ≤ 16384 := by omega
          have hbl : b < w.heap.size := World.block_lt_of_cell? _ _ g0
          have HX := Lib.hid hx
          have HG0 := Lib.hid g0
          have HG1 := Lib.hid g1
          clear hrd hxr hf hm hx g0 g1
          have q0 : (0 : Int) ≤ (i : Int) := by omega
          have q1 : (i : Int) < (l.length : Int) := by omega
          have hstart2 : ∃ k : Nat, k ≤ m ∧ k = 0 ∧ MarkI w l bm i f k wo := ⟨0, Nat.zero_le _, rfl, HM.out.keep, HM.out.new, (by
            obtain ⟨xs, h1, h2⟩ := HM.out.row
            exact ⟨xs, h1, h2.congr fun t _ => by constructor <;> (rintro (h | h); exact .inl h; omega)⟩), HM.out.disj, fun t h1 h2 => by omega⟩
          have HS2 := Lib.hid hstart2
          clear hstart2
          go_wp2_with fail
          go_loopw [7] (fun sk wr => ∃ k : Nat, k ≤ m ∧ sk = .int .i64 k ∧ MarkI w l bm i f k wr) (fun sk _ => m - (intOf sk).toNat)
          case atStart =>
            obtain ⟨k, h1, rfl, h2⟩ := HS2.out
            exact ⟨0, h1, rfl, h2⟩
          case round =>
            rename World => wi
            obtain ⟨k, hk, rfl, hM2⟩ := hrel
            have HM2 := Lib.hid hM2
            clear hM2 HS2
            have c0 := HM2.out.keep.cellOf HG0.out
            have c1 := HM2.out.keep.cellOf HG1.out
            by_cases hkm : k < m
            · have qk : (k : Int) < (m : Int) := by omega
              obtain ⟨xs, hrow, hmk⟩ := HM2.out.row
              obtain ⟨x, hx, hc, hfz⟩ := hrow.cell (show f + k < 32769 by omega)
              have hlen := hrow.1
              have qs : (0 : Int) ≤ (f : Int) + (k : Int) := by omega
              have qt : (f : Int) + (k : Int) < 32769 := by omega
              have qn : ((f : Int) + (k : Int)).toNat = f + k := by omega
              cases x with
              | true =>
                have hcov : cov (l.take i) ((f + k : Nat) : Int) := by
                  rcases (hmk (f + k) (by omega)).1 hx with h | h
                  · exact h
                  · omega
                have hnd : ¬ Disj l := by
                  intro hd
                  rw [← List.take_append_drop i l, List.drop_eq_getElem_cons hlt] at hd
                  refine disj_cov hd _ hcov ?_
                  rw [cov_cons, HX.out]
                  left
                  unfold covers
                  simp only
                  omega
                have HND := Lib.hid hnd
                clear hcov hnd hx hrow hmk hlen
                go_wp2_with fail
                go_ret2
                exact ⟨_, 8, rfl, HM2.out.keep, .inr (.inl ⟨rfl, HALL.out, HND.out⟩)⟩
              | false =>
                have hnc : ¬ cov (l.take i) ((f + k : Nat) : Int) := by
                  intro h
                  have := (hmk (f + k) (by omega)).2 (.inl h)
                  rw [hx] at this
                  cases this
                have hnew : MarkI w l bm i f (k + 1) (wi.setCell ⟨bm, f + k, none⟩ (.bool true)) := by
                  refine ⟨HM2.out.keep.setCell (p := ⟨bm, f + k, none⟩) (.inr HM2.out.new) _, HM2.out.new, ⟨_, hrow.set (by omega), (hmk.set hlen (by omega)).congr fun t _ => ?_⟩, HM2.out.disj, fun t h1 h2 => ?_⟩
                  · constructor
                    · rintro ((h | h) | h)
                      · exact .inl h
                      · exact .inr (by omega)
                      · exact .inr (by omega)
                    · rintro (h | h)
                      · exact .inl (.inl h)
                      · by_cases e : t = f + k
                        · exact .inr e
                        · exact .inl (.inr (by omega))
                  · by_cases e : t = f + k
                    · subst e; exact hnc
                    · exact HM2.out.free t h1 (by omega)
                have HNEW := Lib.hid hnew
                clear hnc hnew hx hrow hmk hlen
                go_wp2_with fail
                go_roundw
                case rel => exact ⟨k + 1, by omega, by go_num, HNEW.out⟩
                case measure => simp [intOf]; omega
            · obtain rfl : k = m := by omega
              have hnext := HM2.out.next hlt HX.out
              have HNX := Lib.hid hnext
              clear hnext
              go_wp2_with fail
              go_roundw
              case rel => exact ⟨i + 1, by omega, by go_num, HNX.out⟩
              case measure => simp [intOf]; omega
        · have hil : i = l.length := by omega
          obtain ⟨xs, hrow, hmk⟩ := HM.out.row
          have hd := HM.out.disj
          rw [List.take_of_length_le (by omega)] at hd hmk
          have hres : MarksP w l (.returned (.tuple #[.slice (some ⟨bm, 0, none⟩) 32769 32769, .int .i64 0])) wo :=
            ⟨_, 0, rfl, HM.out.keep, .inr (.inr ⟨rfl, HALL.out, hd, bm, xs, rfl, HM.out.new, hrow, hmk.congr fun t _ => by constructor <;> first | (rintro (h | h); exact h; omega) | exact fun h => .inl h⟩)⟩
          have HRES := Lib.hid hres
          clear hres hrow hmk hd hil
          go_wp2_with fail
          go_ret2
          exact HRES.out
end Go.Proofs.Ytlfhnbdeadiedaa
