/- Scanning: the lists that came in, opened. -/
import Derived.Test.YtiiklakfelbjfaaDoorSc10
import Derived.Deep.Slices
import Derived.Deep.Fields
import Derived.ChangeSame
import Derived.SizedLaws
import Derived.KernelRfl
namespace Go.Proofs.YtiiklakfelbjfaaDoor
open Go.ChangeShapes Go.WideShapes Go.Deep Go.RowKit Go.Emb

theorem weights_mem_all {H : Type} {P : Program} {e : TypeId} : ∀ {l : List (DataW H)} {d : DataW H}, d ∈ l → ∀ n ∈ d.weights P e, n ∈ DataW.weightsAll P e l
  | [], _, h, _, _ => by cases h
  | x :: l, d, h, n, hn => by
    simp only [DataW.weightsAll, List.mem_append]
    rcases List.mem_cons.1 h with rfl | h
    · exact .inl hn
    · exact .inr (weights_mem_all h n hn)
theorem flatN_len {α : Type} {e : α → List Value} {m : Nat} (he : ∀ x, (e x).length = m) : ∀ l : List α, (l.flatMap e).length = l.length * m
  | [] => by simp
  | x :: l => by rw [List.flatMap_cons, List.length_append, he, flatN_len he l, List.length_cons, Nat.succ_mul]; omega
theorem flatMap_one (l : List UInt8) : l.flatMap (fun c => [Value.int .u8 (c.toNat : Int)]) = l.map (fun c => Value.int .u8 (c.toNat : Int)) := by
  induction l with
  | nil => rfl
  | cons c l ih => rw [List.flatMap_cons, List.map_cons, ih]; rfl
section
variable {H : Type} {enc : TypeId × Value → H} {W : World}
theorem open_list {α : Type} [Inhabited α] {T e : TypeId} {k : Nat} (ht : Tryd.prog.underlying T = some (.slice e)) (hk : Tryd.prog.cellsOf e = k) (hkp : 0 < k) {encA : α → List Value} (hl : ∀ x, (encA x).length = k) {Ok : α → Prop} {n : Nat}
    (IH : ∀ cs y, DataW.trod enc Tryd.prog W 0 (fun _ => true) true n e cs = some y → (∀ z ∈ y.1.weights Tryd.prog e, z ≤ reachBytes) → ∃ x, cs = encA x ∧ Ok x)
    {v : Value} {y : DataW H × List MemPlace} (h : DataW.trod enc Tryd.prog W 0 (fun _ => true) true (n + 1) T [v] = some y) (hw : ∀ z ∈ y.1.weights Tryd.prog T, z ≤ reachBytes) :
    ∃ l : List α, (∃ o, Rd W k v l.length (l.flatMap encA) o ∧ ∀ b, o = some b → b < W.heap.size) ∧ (∀ x ∈ l, Ok x) ∧ l.length * Tryd.prog.bytesOf e ≤ reachBytes := by
  rcases DataW.trod_slice ht h with ⟨hcs, _⟩ | ⟨a, len, cap, elems, rest, n', hn, hcs, rfl, hb, hle, hm, hlen, hel, -, -⟩
  · simp at hcs; subst hcs; exact ⟨[], ⟨none, ⟨by simp, none, 0, rfl, by simp, by simp [maxLen], .inl ⟨rfl, rfl⟩⟩, by simp⟩, by simp, by simp⟩
  · obtain rfl : n' = n := by omega
    simp at hcs; subst hcs
    rw [hk] at hel
    have key : ∀ i, i < len → ∃ t : α, W.cells? 0 (a.add (i * k)) k = some (encA t) ∧ Ok t := by
      intro i hi
      have h1 := hel i hi
      rw [List.getElem?_eq_getElem (by omega)] at h1
      obtain ⟨cs', h2, h3⟩ := Option.bind_eq_some_iff.1 h1
      obtain ⟨t, rfl, ht⟩ := IH cs' _ h3 (fun z hz => hw z (by
        simp only [DataW.weights, ht, List.mem_cons, List.mem_append]
        right; left
        exact weights_mem_all (List.mem_map.2 ⟨_, List.getElem_mem _, rfl⟩) z hz))
      exact ⟨t, h2, ht⟩
    obtain ⟨f, hf⟩ := choose_lt key
    have hbytes : len * Tryd.prog.bytesOf e ≤ reachBytes := by
      have := hw (((elems.map (·.1)).length + (rest.map (·.1)).length) * Tryd.prog.bytesOf e) (by simp [DataW.weights, ht])
      simp only [List.length_map] at this
      refine Nat.le_trans (Nat.mul_le_mul_right _ ?_) this
      omega
    have hll : ((List.range len).map f).length = len := by simp
    refine ⟨(List.range len).map f, ?_, ?_, by rw [hll]; exact hbytes⟩
    · by_cases h0 : len = 0
      · subst h0
        exact ⟨none, ⟨by simp, _, cap, rfl, by simp, hm, .inl ⟨by simp, rfl⟩⟩, by simp⟩
      · obtain ⟨b, off, spot⟩ := a
        obtain ⟨_, hl0, hat0⟩ := World.cells?_some (hf 0 (by omega)).1
        have hc := hat0 0 hkp
        have hz : (encA (f 0))[0]? = some ((encA (f 0))[0]'(by rw [hl]; exact hkp)) := List.getElem?_eq_getElem _
        have hspot : spot = none := by simpa [Addr.add] using World.cell?_spot (hc.trans hz)
        subst hspot
        have hadd : ∀ i, (⟨b, off, none⟩ : Addr).add i = ⟨b, off + i, none⟩ := by intro i; unfold Addr.add; split <;> simp_all
        have hadd2 : ∀ i j, (⟨b, off + i, none⟩ : Addr).add j = ⟨b, off + i + j, none⟩ := by intro i j; unfold Addr.add; split <;> simp_all
        refine ⟨some b, ⟨flatN_len hl _, _, cap, by rw [hll], by rw [hll]; exact hle, hm, .inr ⟨b, off, rfl, rfl, fun i hi => ?_⟩⟩, ?_⟩
        · rw [hll] at hi
          have hik : i / k < len := Nat.div_lt_of_lt_mul (by rw [Nat.mul_comm]; exact hi)
          obtain ⟨_, _, hat⟩ := World.cells?_some (hf (i / k) hik).1
          have hmod := Nat.mod_lt i hkp
          have h5 := hat (i % k) hmod
          rw [hadd, hadd2] at h5
          have h6 := flat_at hl ((List.range len).map f) (i / k) (by rw [hll]; exact hik) (i % k) hmod
          have e : i / k * k + i % k = i := by rw [Nat.mul_comm]; exact Nat.div_add_mod i k
          rw [e] at h6
          rw [Nat.add_assoc, e] at h5
          rw [h5, h6]
          simp
        · rintro b' ⟨⟩
          have := World.block_lt_of_cell? _ _ (hc.trans hz)
          simpa [Addr.add] using this
    · intro x hx
      obtain ⟨i, hir, rfl⟩ := List.mem_map.1 hx
      exact (hf i (List.mem_range.1 hir)).2
theorem size_list (S : ByteArray) : S.size = S.data.toList.length := by simp
theorem o_cellsI : Tryd.prog.cellsOf 3 = 1 := by kernel_rfl
theorem o_bytesI : Tryd.prog.bytesOf 3 = 8 := by kernel_rfl
theorem flatMap_oneI (l : List Int) : l.flatMap (fun c => [Value.int .i64 c]) = l.map (Value.int .i64) := by
  induction l with
  | nil => rfl
  | cons c l ih => rw [List.flatMap_cons, List.map_cons, ih]; rfl
theorem open_ints {v : Value} {d : DataW H} {ps : List MemPlace} (h : DataW.Trod enc Tryd.prog W 0 (fun _ => true) true 22 v d ps) (hw : ∀ z ∈ d.weights Tryd.prog 22, z ≤ reachBytes) (hv : ∃ a n c, v = .slice a n c) :
    ∃ (l : List Int) (o : Option Nat), Rd W 1 v l.length (l.map (Value.int .i64)) o ∧ (∀ b, o = some b → b < W.heap.size) ∧ ∀ x ∈ l, -9223372036854775808 ≤ x ∧ x ≤ 9223372036854775807 := by
  obtain ⟨fuel, hf⟩ := h
  obtain ⟨a, n, c, rfl⟩ := hv
  have h2 : DataW.trod enc Tryd.prog W 0 (fun _ => true) true fuel 22 [.slice a n c] = some (d, ps) := by simpa [Value.cells] using hf
  cases fuel with
  | zero => simp [DataW.trod] at h2
  | succ fuel =>
    obtain ⟨l, ⟨o, h1, h1'⟩, h3, -⟩ := open_list (α := Int) (encA := fun c => [.int .i64 c]) (Ok := fun x => -9223372036854775808 ≤ x ∧ x ≤ 9223372036854775807) Tryd.underlying22 o_cellsI (by omega) (fun _ => rfl) (fun cs y h _ => by
      obtain ⟨i, e, -, hw⟩ := DataW.trod_int Tryd.underlying3 h
      simp [Lit.wf, IntKind.min, IntKind.max, IntKind.signed, IntKind.bits] at hw
      exact ⟨i, e, by omega⟩) h2 hw
    rw [flatMap_oneI] at h1
    exact ⟨l, o, h1, h1', h3⟩
end
end Go.Proofs.YtiiklakfelbjfaaDoor
