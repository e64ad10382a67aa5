/- The document's queue (embersref20): Ready. -/
import Derived.Test.YtphfmbkfcjiciaaRef4
namespace Go.Emb
open Go.RowKit
theorem kA1 {w w2 : World} {ob : Obj} (h : Keep [w.heap.size] (w.alloc ob).drew w2) : Keep [] w w2 :=
  (((Keep.refl [] w).alloc ob).drew).trans h (fun x hx => .inr (by simp at hx; omega))
theorem kA2 {w w2 : World} {ob ob2 : Obj} (h : Keep [w.heap.size] ((w.alloc ob).alloc ob2).drew w2) : Keep [] w w2 :=
  ((((Keep.refl [] w).alloc ob).alloc ob2).drew).trans h (fun x hx => .inr (by simp at hx; omega))
theorem kA3 {w w2 : World} {ob ob2 : Obj} (h : Keep [w.heap.size + 1] ((w.alloc ob).alloc ob2).drew w2) : Keep [] w w2 :=
  ((((Keep.refl [] w).alloc ob).alloc ob2).drew).trans h (fun x hx => .inr (by simp at hx; omega))
theorem kB1 {w w2 w3 : World} {g : Nat} {ob : Obj} (h : Keep [] w w2) (hg : w.heap.size ≤ g) (h3 : Keep [g] (w2.alloc ob) w3) : Keep [] w w3 :=
  (h.trans ((Keep.refl [] _).alloc ob) (by simp)).trans h3 (fun x hx => .inr (by simp at hx; omega))
theorem kB2 {w w2 w3 : World} {g : Nat} (h : Keep [] w w2) (hg : w.heap.size ≤ g) (h3 : Keep [g] w2 w3) : Keep [] w w3 :=
  h.trans h3 (fun x hx => .inr (by simp at hx; omega))
theorem made0B (w : World) (ob : Obj) (E k : Nat) : Row ((w.alloc ob).alloc (.cells #[] E)).drew E k (.slice (some ⟨w.heap.size + 1, 0, none⟩) 0 0) 0 [] (some (w.heap.size + 1)) := by
  have h := (Row.made0 (w.alloc ob) E k).keep (Keep.refl [] _).drew (by simp)
  have hs : (w.alloc ob).heap.size = w.heap.size + 1 := by simp
  rwa [hs] at h
end Go.Emb
namespace Go.Proofs.Ytphfmbkfcjiciaa
open Go.RowKit Go.Emb Go.Shelf Go.Lib Go.Sort

theorem rd_litB (w : World) (ob : Obj) (x : Value) (t : TypeId) : Rd ((w.alloc ob).alloc (.cells #[x] t)).drew 1 (.slice (some ⟨w.heap.size + 1, 0, none⟩) 1 1) 1 [x] (some (w.heap.size + 1)) := by
  have h := (rd_lit1 (w.alloc ob) x t).keep0 (Keep.refl [] _).drew
  have hs : (w.alloc ob).heap.size = w.heap.size + 1 := by simp
  rwa [hs] at h

def RReadyRel (w : World) (r : Nat) (l xs : List Int) (D : List (Int × Int)) (F : List Nat) (k : Nat) (w' : World) : Prop :=
  (∃ F', IsR w' r (addAll l (xs.take k)) D F' ∧ ∀ b ∈ F', b ∈ F ∨ w.heap.size ≤ b) ∧ Keep F w w'

theorem idxI_lt (l : List Int) (p : Int) : idxI l p < 0 ↔ p ∉ l := by
  constructor
  · intro h hp
    unfold idxI at h
    cases e : l.findIdx? (fun x => decide (x = p)) with
    | none => rw [List.findIdx?_eq_none_iff] at e; have := e p hp; simp at this
    | some i => rw [e] at h; simp at h; omega
  · intro h; rw [idxI_none h]; decide

set_option maxHeartbeats 4000000 in
theorem r_ready {w : World} {r : Nat} {l : List Int} {D : List (Int × Int)} {F : List Nat} (h : IsR w r l D F) {v : Value} {xs : List Int} {o : Option Nat} (ha : Rd w 1 v xs.length (xs.map (Value.int .i64)) o) (ho : ∀ b, o = some b → b ∉ F)
    (hsz : l.length + xs.length ≤ 1000000000) : Calls Try.prog 19 #[.pointer (some ⟨r, 0, none⟩), v] w (RPost w r (addAll l xs) D F (.int .i64 (((addAll l xs).length : Int) - l.length))) := by
  obtain ⟨hl, ax, cx, rfl, h1, h2, h3⟩ := ha
  obtain ⟨i0, hi, hz0, hz1, hz2⟩ := info_parts i64_info
  have hstart : RReadyRel w r l xs D F 0 w := ⟨⟨F, by simpa [addAll] using h, fun b hb => .inl hb⟩, Keep.refl _ _⟩
  have H3 := Lib.hid h3
  have HO := Lib.hid ho
  have HI := Lib.hid hi
  have HL := Lib.hid hl
  clear h3 ho h hi hl
  go_enter Try.func19, Try.ntmps19
  go_wp2_with fail
  go_loopw [5, 6] (fun n i wr => ∃ k : Nat, k ≤ xs.length ∧ i = .int .i64 k ∧ n = .int .i64 (((addAll l (xs.take k)).length : Int) - l.length) ∧ RReadyRel w r l xs D F k wr) (fun _ i _ => xs.length - (intOf i).toNat)
  case atStart => exact ⟨0, Nat.zero_le _, rfl, by simp [addAll], hstart⟩
  case round =>
    obtain ⟨k, hk, rfl, rfl, hrel⟩ := hrel
    by_cases hlt : k < xs.length
    · rcases H3.out with ⟨h0, _⟩ | ⟨b, off, rfl, rfl, h3⟩
      · omega
      obtain ⟨⟨F', hq, hF⟩, hK⟩ := hrel
      have hcell : wr.cell? ⟨b, off + k, none⟩ = some (.int .i64 xs[k]) := by
        have hb := h3 k (by omega)
        rw [List.getElem?_map, List.getElem?_eq_getElem hlt] at hb
        rw [hK.cell (p := ⟨b, off + k, none⟩) (World.block_lt_of_cell? _ _ hb) (HO.out b rfl), hb]
        rfl
      have hle := addAll_le (xs.take k) l
      have hsn : addAll l (xs.take (k + 1)) = add1 (addAll l (xs.take k)) xs[k] := by rw [List.take_succ_eq_append_getElem hlt, addAll_snoc]
      have HS := Lib.hid hsn
      have hlk : (xs.take k).length ≤ k := List.length_take_le _ _
      generalize hL : addAll l (xs.take k) = L at *
      generalize hp : xs[k] = p at *
      have HQ := Lib.hid hq
      have HK := Lib.hid hK
      have HF := Lib.hid hF
      clear hsn hL h3 hq hK hF hp
      have i1 : (0 : Int) ≤ (k : Int) := by omega
      have i2 : (k : Int) < (xs.length : Int) := by omega
      have hLs : L.length ≤ 1000000000 := by omega
      by_cases hin : p ∈ L
      · have hid : ¬ idxI L p < 0 := fun h => (idxI_lt L p).1 h hin
        have HIN := Lib.hid hin
        clear hin
        go_wp2_with (go_at_call 33; refine (r_waits HQ.out p hLs).mono ?_; rintro e w' ⟨rfl, rfl⟩)
        go_roundw
        case rel => exact ⟨k + 1, by omega, by go_num, by rw [HS.out, add1, if_pos HIN.out], ⟨⟨_, by rw [HS.out, add1, if_pos HIN.out]; exact HQ.out, HF.out⟩, HK.out⟩⟩
        case measure => simp [intOf]; omega
      · have hid : idxI L p < 0 := (idxI_lt L p).2 hin
        have HIN := Lib.hid hin
        clear hin
        go_wp2_with (go_at_call 33; refine (r_waits HQ.out p hLs).mono ?_; rintro e w' ⟨rfl, rfl⟩)
        clear hid
        obtain ⟨lv, tv, ol, ot, hq', hFe⟩ := HQ.out
        subst hFe
        obtain ⟨c0, c1, f0, f1⟩ := cells2 hq'.here
        have hrlt := (Array.getElem?_eq_some_iff.1 hq'.here).1
        have hblt := World.block_lt_of_cell? _ _ hcell
        have hrl := hq'.rl
        obtain ⟨-, a, c, rfl, -, -, -⟩ := hq'.rl
        have HKW : Hid (∀ W, Keep [] wr W → W.cell? ⟨r, 0, none⟩ = some (.slice a L.length c) ∧ W.frozen? ⟨r, 0, none⟩ = false ∧ W.cell? ⟨b, off + k, none⟩ = some (.int .i64 p)) := by
          intro W hW
          have hb := (hW.block r hrlt (by simp)).trans hq'.here
          exact ⟨(cells2 hb).1, (cells2 hb).2.2.1, (hW.cell (p := ⟨b, off + k, none⟩) hblt (by simp)).trans hcell⟩
        have e0 : ∀ ob, (wr.alloc ob).cell? ⟨r, 0, none⟩ = some (.slice a L.length c) := fun ob => (HKW.out _ ((Keep.refl [] wr).alloc ob)).1
        have e1 : ∀ ob ob2, ((wr.alloc ob).alloc ob2).cell? ⟨r, 0, none⟩ = some (.slice a L.length c) := fun ob ob2 => (HKW.out _ (((Keep.refl [] wr).alloc ob).alloc ob2)).1
        have e2 : ∀ ob, (wr.alloc ob).cell? ⟨b, off + k, none⟩ = some (.int .i64 p) := fun ob => (HKW.out _ ((Keep.refl [] wr).alloc ob)).2.2
        have HRL := Lib.hid hrl
        have HQ' := Lib.hid hq'
        clear hrl hq' HQ
        go_region_law (first
          | (refine step_append_rd _ (by rfl) _ _ 22 22 (by rfl) 2 2 i0 _ 1 8 Try.underlying22 Try.underlying22 HI.out hz0 hz1 hz2 rfl g off2 L.length cap2 _ (by rfl) (hrow2.keep ((Keep.refl [] _).alloc _) (by simp)) _ (by rfl) 1 [.int .i64 p] _ (rd_lit1 w2 _ _) (by simp [Value.oneCell']) (by unfold maxLen; omega) (by omega) ?_; intro g2 off3 cap3 w3 hrow3 hk3 hg3; have hkb := kB1 HKA.out hgw hk3; have hg2w : wr.heap.size ≤ g2 := (by have := HKA.out.size; rcases hg3 with h | h <;> (try simp at h) <;> omega); obtain ⟨hcc3, hff3, -⟩ := HKW.out _ hkb; have HKB := Lib.hid hkb; clear hkb)
          | (refine step_append_rd _ (by rfl) _ _ 22 22 (by rfl) 2 2 i0 _ 1 8 Try.underlying22 Try.underlying22 HI.out hz0 hz1 hz2 rfl g off2 L.length cap2 _ (by rfl) hrow2 _ (by rfl) 1 [.int .i64 p] _ ((rd_litB wr _ _ _).keep hk2 (by rintro b ⟨⟩; simp)) (by simp [Value.oneCell']) (by unfold maxLen; omega) (by omega) ?_; intro g2 off3 cap3 w3 hrow3 hk3 hg3; have hkb := kB2 HKA.out hgw hk3; have hg2w : wr.heap.size ≤ g2 := (by have := HKA.out.size; rcases hg3 with h | h <;> (try simp at h) <;> omega); obtain ⟨hcc3, hff3, -⟩ := HKW.out _ hkb; have HKB := Lib.hid hkb; clear hkb)
          | (refine step_append_rd _ (by rfl) _ _ 22 22 (by rfl) 2 2 i0 _ 1 8 Try.underlying22 Try.underlying22 HI.out hz0 hz1 hz2 rfl g off2 L.length cap2 _ (by rfl) hrow2 _ (by rfl) 1 [.int .i64 p] _ (((rd_lit1 wr _ _).keep0 (((Keep.refl [] _).alloc _).drew)).keep hk2 (by rintro b ⟨⟩; simp)) (by simp [Value.oneCell']) (by unfold maxLen; omega) (by omega) ?_; intro g2 off3 cap3 w3 hrow3 hk3 hg3; have hkb := kB2 HKA.out hgw hk3; have hg2w : wr.heap.size ≤ g2 := (by have := HKA.out.size; rcases hg3 with h | h <;> (try simp at h) <;> omega); obtain ⟨hcc3, hff3, -⟩ := HKW.out _ hkb; have HKB := Lib.hid hkb; clear hkb)
          | (refine step_append_rd _ (by rfl) _ _ 22 22 (by rfl) 2 2 i0 _ 1 8 Try.underlying22 Try.underlying22 HI.out hz0 hz1 hz2 rfl (wr.heap.size + 1) 0 0 0 [] (by rfl) (made0B wr _ _ _) (.slice a L.length c) (by rfl) L.length _ ol (HRL.out.keep0 (((Keep.refl [] wr).alloc _).alloc _).drew) (i64_one _) (by unfold maxLen; omega) (by omega) ?_; intro g off2 cap2 w2 hrow2 hk2 hg2; simp only [Nat.zero_add, List.nil_append] at hrow2; have hka := kA3 hk2; have hgw : wr.heap.size ≤ g := (by rcases hg2 with h | h <;> (try simp at h) <;> omega); obtain ⟨-, -, hcc2⟩ := HKW.out _ hka; have HKA := Lib.hid hka; clear hka)
          | (refine step_append_rd _ (by rfl) _ _ 22 22 (by rfl) 2 2 i0 _ 1 8 Try.underlying22 Try.underlying22 HI.out hz0 hz1 hz2 rfl wr.heap.size 0 0 0 [] (by rfl) ((Row.made0 wr _ _).keep (((Keep.refl [] _).alloc _).drew) (by simp)) (.slice a L.length c) (by rfl) L.length _ ol (HRL.out.keep0 (((Keep.refl [] wr).alloc _).alloc _).drew) (i64_one _) (by unfold maxLen; omega) (by omega) ?_; intro g off2 cap2 w2 hrow2 hk2 hg2; simp only [Nat.zero_add, List.nil_append] at hrow2; have hka := kA2 hk2; have hgw : wr.heap.size ≤ g := (by rcases hg2 with h | h <;> (try simp at h) <;> omega); obtain ⟨-, -, hcc2⟩ := HKW.out _ hka; have HKA := Lib.hid hka; clear hka)
          | (refine step_append_rd _ (by rfl) _ _ 22 22 (by rfl) 2 2 i0 _ 1 8 Try.underlying22 Try.underlying22 HI.out hz0 hz1 hz2 rfl wr.heap.size 0 0 0 [] (by rfl) ((Row.made0 wr _ _).keep (Keep.refl [] _).drew (by simp)) (.slice a L.length c) (by rfl) L.length _ ol (HRL.out.keep0 ((Keep.refl [] wr).alloc _).drew) (i64_one _) (by unfold maxLen; omega) (by omega) ?_; intro g off2 cap2 w2 hrow2 hk2 hg2; simp only [Nat.zero_add, List.nil_append] at hrow2; have hka := kA1 hk2; have hgw : wr.heap.size ≤ g := (by rcases hg2 with h | h <;> (try simp at h) <;> omega); obtain ⟨-, -, hcc2⟩ := HKW.out _ hka; have HKA := Lib.hid hka; clear hka)
          | fail)
        all_goals
          go_wp2_with fail
          go_roundw
          case rel =>
            obtain ⟨F'', f1, f2, f3⟩ := isR_list (l' := L ++ [p]) HQ'.out HKB.out (g := g2) (v := .slice (some ⟨g2, off3, none⟩) (L.length + 1) cap3) (n := L.length + 1) (by simpa using hrow3) (by simp) hg2w _ rfl
            refine ⟨k + 1, by omega, by go_num, ?_, ⟨⟨F'', by rw [HS.out, add1, if_neg HIN.out]; exact f1, ?_⟩, HK.out.trans f3 HF.out⟩⟩
            · rw [HS.out, add1, if_neg HIN.out, List.length_append]; go_num
            · intro x hx
              have hs := HK.out.size
              rcases f2 x hx with h | h
              · exact HF.out _ h
              · right; omega
          case measure => simp [intOf]; omega
    · have hkk : k = xs.length := by omega
      subst hkk
      obtain ⟨⟨F', hq, hF⟩, hK⟩ := hrel
      rw [List.take_length] at hq
      have HQ := Lib.hid hq
      have HK := Lib.hid hK
      have HF := Lib.hid hF
      have HT := Lib.hid (List.take_length (l := xs))
      clear hq hK hF
      go_wp2_with fail
      go_ret
      exact ⟨by rw [HT.out]; rfl, F', HQ.out, HF.out, HK.out⟩
end Go.Proofs.Ytphfmbkfcjiciaa
