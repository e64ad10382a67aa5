import Derived.Test.YtdmmhfbafinkpaaGreatDoorRows
import Derived.Test.YtdmmhfbafinkpaaGreatDoorPa24
import Derived.ProofKit
import Derived.LaidMore
import Derived.OpenShut
import Derived.Stop.Joined
import Derived.Lib.LaidTab
/- Parse: the variables that the rows lay: what the walks need of them. (The frame follows the kit's worked proof of a listed table.) -/
namespace Go.Proofs.YtdmmhfbafinkpaaGreatDoor
open Go.ChangeShapes Go.WideShapes Go.ChangeAt Go.RowKit Go.Emb

theorem own : ownKnob Tryz.prog.godebug = none := by kernel_rfl
theorem laidOut : laidOutB Tryz.prog = true := by kernel_rfl
def laid5 : List (String × DataW Unit) := [("math/bits.deBruijn32tab", Rows.laid_math_bits_deBruijn32tab), ("math/bits.deBruijn64tab", Rows.laid_math_bits_deBruijn64tab), ("internal/strconv.uint64pow10", Rows.laid_internal_strconv_uint64pow10), ("strconv.ErrRange", Rows.laid_strconv_ErrRange), ("strconv.ErrSyntax", Rows.laid_strconv_ErrSyntax), ("embers/parse.levels", Rows.laid_embers_parse_levels)]
theorem door_met (os : Os) (args : Array Value) : laidMetH Tryz.prog laid5 ((World.doorLaid Tryz.prog 400 os).forCall (fun _ _ => 0) ⟨#[], args, []⟩).memory :=
  laidMetH_of_parts3 (fuel := 8) (laidMet_of_run' 8 (by kernel_rfl) (by kernel_rfl)) (by kernel_rfl) (by kernel_rfl)
theorem size_listP (S : ByteArray) : S.size = S.data.toList.length := by simp
theorem gErr : Tryz.prog.globalNamed "strconv.ErrRange" = some 6 := by kernel_rfl
theorem tErr : (Tryz.prog.globals[6]?).map (·.type) = some 62 := by kernel_rfl
theorem gLv : Tryz.prog.globalNamed "embers/parse.levels" = some 0 := by kernel_rfl
theorem tLv : (Tryz.prog.globals[0]?).map (·.type) = some 133 := by kernel_rfl
theorem cellsStr : Tryz.prog.cellsOf 9 = 1 := by kernel_rfl
theorem cellsStrs : Tryz.prog.cellsOf 90 = 1 := by kernel_rfl
theorem cells_one {w : World} {b : Nat} {a : Addr} {cs : List Value} (h : w.cells? b a 1 = some cs) : ∃ c, cs = [c] ∧ w.cell? a = some c := by
  have e0 : a.add 0 = a := by simp [Addr.add]
  unfold World.cells? at h
  split at h
  · simp only [List.range_succ, List.range_zero, List.nil_append, List.mapM_cons, List.mapM_nil, e0] at h
    cases hcc : w.cell? a with
    | none => simp [hcc] at h
    | some c => simp [hcc] at h; exact ⟨c, h.symm, rfl⟩
  · cases h
section
variable {H : Type} {enc : TypeId × Value → H} {W : World} {base : Nat} {sp : Nat → Bool} {held : Bool}
theorem level_of {fuel : Nat} {c : Value} {L : List (List UInt8)} {q : List MemPlace} (h0 : L ≠ []) (h : DataW.trod enc Tryz.prog W base sp held fuel 90 [c] = some (.slice (L.map fun x => .lit (.string x)) [], q)) :
    ∃ o, Rd W 1 c L.length (L.map strV) o ∧ ∀ b, o = some b → b < W.heap.size := by
  rcases DataW.trod_slice Tryz.underlying90 h with ⟨_, hx⟩ | ⟨a, len, cap, elems, rest, n, hn, hcs, hx, -, hl, hm, hlen, hel, -, -⟩
  · simp at hx
  · simp at hcs
    subst hcs
    simp only [Prod.mk.injEq, DataW.slice.injEq] at hx
    obtain ⟨⟨hmap, -⟩, -⟩ := hx
    have hLl : L.length = len := by have := congrArg List.length hmap; simp at this; omega
    subst hLl
    rw [cellsStr] at hel
    have key : ∀ i (hi : i < L.length), W.cell? (a.add i) = some (strV L[i]) := by
      intro i hi
      have h1 := hel i hi
      rw [List.getElem?_eq_getElem (by omega), Nat.mul_one] at h1
      obtain ⟨cs', h2, h3⟩ := Option.bind_eq_some_iff.1 h1
      obtain ⟨x, rfl, hx⟩ := cells_one h2
      obtain ⟨s', h4, h5, -⟩ := DataW.trod_string Tryz.underlying9 h3
      simp at h4
      subst h4
      have h6 : (elems.map (·.1))[i]? = some (.lit (.string s'.data.toList)) := by
        rw [List.getElem?_map, List.getElem?_eq_getElem (by omega)]
        simp [h5]
      rw [← hmap, List.getElem?_map, List.getElem?_eq_getElem hi] at h6
      simp at h6
      rw [hx]
      unfold strV
      rw [h6]
    obtain ⟨b, off, spot⟩ := a
    have hpos : 0 < L.length := List.length_pos_iff.2 h0
    have hspot : spot = none := by simpa [Addr.add] using World.cell?_spot (key 0 hpos)
    subst hspot
    have hadd : ∀ i, (⟨b, off, none⟩ : Addr).add i = ⟨b, off + i, none⟩ := by intro i; unfold Addr.add; split <;> simp_all
    refine ⟨some b, ⟨by simp, _, cap, rfl, hl, hm, .inr ⟨b, off, rfl, rfl, fun i hi => ?_⟩⟩, ?_⟩
    · have h1 := key i (by omega)
      rw [hadd] at h1
      rw [h1]
      simp [show i < L.length by omega]
    · rintro b' ⟨⟩
      have h1 := World.block_lt_of_cell? _ _ (key 0 hpos)
      rw [hadd] at h1
      exact h1
end
theorem ok_of_laid {W : World} (h : laidMetH Tryz.prog laid5 W) : VarOk W := by
  rw [MakeChecks.laidMetH_plain _ _ _ (by kernel_rfl)] at h
  obtain ⟨ps, ⟨g0, t0, cs0, f0, p0, q0, _, _, _, _, ⟨g1, t1, cs1, f1, p1, q1, _, _, _, _, ⟨g2, t2, cs2, f2, p2, q2, _, _, _, _, ⟨g3, t3, cs3, f3, p3, q3, hg3, ht3, hvar3, hd3, ⟨g4, t4, cs4, f4, p4, q4, _, _, _, _, ⟨g5, t5, cs5, f5, p5, q5, hg5, ht5, hvar5, hd5, _, _⟩, _⟩, _⟩, _⟩, _⟩, _⟩, _⟩ := h
  refine ⟨?_, ?_⟩
  · obtain rfl := Option.some.inj (gErr.symm.trans hg3)
    obtain rfl := Option.some.inj (tErr.symm.trans ht3)
    obtain ⟨_, u, v, hcs, -, -⟩ := iface_of_trod Tryz.underlying62 hd3
    have h0 := World.var?_cell gErr hvar3 0
    rw [show cs3 = #[.iface u v] from by cases cs3; simpa using hcs] at h0
    exact ⟨.iface u v, by simpa using h0, .inr ⟨u, v, rfl⟩⟩
  · obtain rfl := Option.some.inj (gLv.symm.trans hg5)
    obtain rfl := Option.some.inj (tLv.symm.trans ht5)
    obtain ⟨xs, m, -, hx, hlen, hxl, hf⟩ := DataW.trod_array Tryz.underlying133 hd5
    have hlen5 : cs5.toList.length = 5 := hlen.trans (by kernel_rfl)
    simp only [Prod.mk.injEq] at hx
    have hx1 := hx.1
    unfold Rows.laid_embers_parse_levels at hx1
    simp only [DataW.agg.injEq] at hx1
    have key : ∀ (k : Nat) (L : List (List UInt8)), L ≠ [] → k < 5 → (xs.map (·.1))[k]? = some (.slice (L.map fun x => .lit (.string x)) []) → ∃ sv o, W.cell? ⟨0, k, none⟩ = some sv ∧ Rd W 1 sv L.length (L.map strV) o ∧ 0 < W.heap.size ∧ ∀ b, o = some b → b < W.heap.size := by
      intro k L h0 hk hL
      have h1 := hf k hk
      rw [cellsStrs, Nat.mul_one] at h1
      have hck : k < cs5.toList.length := by omega
      have hdrop : (cs5.toList.drop k).take 1 = [cs5.toList[k]] := by rw [List.drop_eq_getElem_cons hck]; rfl
      rw [hdrop] at h1
      rw [List.getElem?_map, List.getElem?_eq_getElem (by omega)] at hL
      rw [List.getElem?_eq_getElem (by omega)] at h1
      have h2 : xs[k] = (.slice (L.map fun x => .lit (.string x)) [], xs[k].2) := by
        have : xs[k].1 = .slice (L.map fun x => .lit (.string x)) [] := by simpa using hL
        rw [← this]
      rw [h2] at h1
      obtain ⟨o, h3, h4⟩ := level_of h0 h1
      have hcell := World.var?_cell gLv hvar5 k
      rw [show cs5[k]? = some cs5.toList[k] by simp] at hcell
      exact ⟨_, o, hcell, h3, World.block_lt_of_cell? _ _ hcell, h4⟩
    intro v hv
    match v, hv with
    | 0, _ => exact key 0 (levelsL 0) (by decide) (by decide) (by rw [← hx1]; rfl)
    | 1, _ => exact key 1 (levelsL 1) (by decide) (by decide) (by rw [← hx1]; rfl)
    | 2, _ => exact key 2 (levelsL 2) (by decide) (by decide) (by rw [← hx1]; rfl)
    | 3, _ => exact key 3 (levelsL 3) (by decide) (by decide) (by rw [← hx1]; rfl)
    | 4, _ => exact key 4 (levelsL 4) (by decide) (by decide) (by rw [← hx1]; rfl)
end Go.Proofs.YtdmmhfbafinkpaaGreatDoor
