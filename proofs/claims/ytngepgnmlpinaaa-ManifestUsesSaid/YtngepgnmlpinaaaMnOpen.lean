/- The manifests and bytes that came in, opened. -/
import Derived.Test.YtngepgnmlpinaaaMn28
import Derived.Deep.Slices
import Derived.Deep.Fields
import Derived.ChangeSame
import Derived.SizedLaws
import Derived.KernelRfl
namespace Go.Proofs.Ytngepgnmlpinaaa
open Go.ChangeShapes Go.WideShapes Go.Deep Go.RowKit Go.Emb

theorem weights_mem_all {H : Type} {P : Program} {e : TypeId} : ∀ {l : List (DataW H)} {d : DataW H}, d ∈ l → ∀ n ∈ d.weights P e, n ∈ DataW.weightsAll P e l
  | [], _, h, _, _ => by cases h
  | x :: l, d, h, n, hn => by
    simp only [DataW.weightsAll, List.mem_append]
    rcases List.mem_cons.1 h with rfl | h
    · exact .inl hn
    · exact .inr (weights_mem_all h n hn)
theorem flatN_len {α : Type} {e : α → List Value} {m : Nat} (he : ∀ x, (e x).length = m) : ∀ l : List α, (l.flatMap e).length = l.length * m
  | [] => by simp
  | x :: l => by rw [List.flatMap_cons, List.length_append, he, flatN_len he l, List.length_cons, Nat.succ_mul]; omega
theorem flatMap_one (l : List UInt8) : l.flatMap (fun c => [Value.int .u8 (c.toNat : Int)]) = l.map (fun c => Value.int .u8 (c.toNat : Int)) := by
  induction l with
  | nil => rfl
  | cons c l ih => rw [List.flatMap_cons, List.map_cons, ih]; rfl
section
variable {H : Type} {enc : TypeId × Value → H} {W : World}
theorem open_list {α : Type} [Inhabited α] {T e : TypeId} {k : Nat} (ht : Try.prog.underlying T = some (.slice e)) (hk : Try.prog.cellsOf e = k) (hkp : 0 < k) {encA : α → List Value} (hl : ∀ x, (encA x).length = k) {Ok : α → Prop} {n : Nat}
    (IH : ∀ cs y, DataW.trod enc Try.prog W 0 (fun _ => true) true n e cs = some y → (∀ z ∈ y.1.weights Try.prog e, z ≤ reachBytes) → ∃ x, cs = encA x ∧ Ok x)
    {v : Value} {y : DataW H × List MemPlace} (h : DataW.trod enc Try.prog W 0 (fun _ => true) true (n + 1) T [v] = some y) (hw : ∀ z ∈ y.1.weights Try.prog T, z ≤ reachBytes) :
    ∃ l : List α, (∃ o, Rd W k v l.length (l.flatMap encA) o ∧ ∀ b, o = some b → b < W.heap.size) ∧ (∀ x ∈ l, Ok x) ∧ l.length * Try.prog.bytesOf e ≤ reachBytes := by
  rcases DataW.trod_slice ht h with ⟨hcs, _⟩ | ⟨a, len, cap, elems, rest, n', hn, hcs, rfl, hb, hle, hm, hlen, hel, -, -⟩
  · simp at hcs; subst hcs; exact ⟨[], ⟨none, ⟨by simp, none, 0, rfl, by simp, by simp [maxLen], .inl ⟨rfl, rfl⟩⟩, by simp⟩, by simp, by simp⟩
  · obtain rfl : n' = n := by omega
    simp at hcs; subst hcs
    rw [hk] at hel
    have key : ∀ i, i < len → ∃ t : α, W.cells? 0 (a.add (i * k)) k = some (encA t) ∧ Ok t := by
      intro i hi
      have h1 := hel i hi
      rw [List.getElem?_eq_getElem (by omega)] at h1
      obtain ⟨cs', h2, h3⟩ := Option.bind_eq_some_iff.1 h1
      obtain ⟨t, rfl, ht⟩ := IH cs' _ h3 (fun z hz => hw z (by
        simp only [DataW.weights, ht, List.mem_cons, List.mem_append]
        right; left
        exact weights_mem_all (List.mem_map.2 ⟨_, List.getElem_mem _, rfl⟩) z hz))
      exact ⟨t, h2, ht⟩
    obtain ⟨f, hf⟩ := choose_lt key
    have hbytes : len * Try.prog.bytesOf e ≤ reachBytes := by
      have := hw (((elems.map (·.1)).length + (rest.map (·.1)).length) * Try.prog.bytesOf e) (by simp [DataW.weights, ht])
      simp only [List.length_map] at this
      refine Nat.le_trans (Nat.mul_le_mul_right _ ?_) this
      omega
    have hll : ((List.range len).map f).length = len := by simp
    refine ⟨(List.range len).map f, ?_, ?_, by rw [hll]; exact hbytes⟩
    · by_cases h0 : len = 0
      · subst h0
        exact ⟨none, ⟨by simp, _, cap, rfl, by simp, hm, .inl ⟨by simp, rfl⟩⟩, by simp⟩
      · obtain ⟨b, off, spot⟩ := a
        obtain ⟨_, hl0, hat0⟩ := World.cells?_some (hf 0 (by omega)).1
        have hc := hat0 0 hkp
        have hz : (encA (f 0))[0]? = some ((encA (f 0))[0]'(by rw [hl]; exact hkp)) := List.getElem?_eq_getElem _
        have hspot : spot = none := by simpa [Addr.add] using World.cell?_spot (hc.trans hz)
        subst hspot
        have hadd : ∀ i, (⟨b, off, none⟩ : Addr).add i = ⟨b, off + i, none⟩ := by intro i; unfold Addr.add; split <;> simp_all
        have hadd2 : ∀ i j, (⟨b, off + i, none⟩ : Addr).add j = ⟨b, off + i + j, none⟩ := by intro i j; unfold Addr.add; split <;> simp_all
        refine ⟨some b, ⟨flatN_len hl _, _, cap, by rw [hll], by rw [hll]; exact hle, hm, .inr ⟨b, off, rfl, rfl, fun i hi => ?_⟩⟩, ?_⟩
        · rw [hll] at hi
          have hik : i / k < len := Nat.div_lt_of_lt_mul (by rw [Nat.mul_comm]; exact hi)
          obtain ⟨_, _, hat⟩ := World.cells?_some (hf (i / k) hik).1
          have hmod := Nat.mod_lt i hkp
          have h5 := hat (i % k) hmod
          rw [hadd, hadd2] at h5
          have h6 := flat_at hl ((List.range len).map f) (i / k) (by rw [hll]; exact hik) (i % k) hmod
          have e : i / k * k + i % k = i := by rw [Nat.mul_comm]; exact Nat.div_add_mod i k
          rw [e] at h6
          rw [Nat.add_assoc, e] at h5
          rw [h5, h6]
          simp
        · rintro b' ⟨⟩
          have := World.block_lt_of_cell? _ _ (hc.trans hz)
          simpa [Addr.add] using this
    · intro x hx
      obtain ⟨i, hir, rfl⟩ := List.mem_map.1 hx
      exact (hf i (List.mem_range.1 hir)).2
theorem o_cellsX : Try.prog.cellsOf 23 = 2 := by kernel_rfl
theorem o_cellsP : Try.prog.cellsOf 43 = 3 := by kernel_rfl
theorem o_cellsM : Try.prog.cellsOf 27 = 5 := by kernel_rfl
theorem o_cellsI : Try.prog.cellsOf 3 = 1 := by kernel_rfl
theorem o_cellsI64 : Try.prog.cellsOf 2 = 1 := by kernel_rfl
theorem o_cellsU8 : Try.prog.cellsOf 5 = 1 := by kernel_rfl
theorem o_cellsS : Try.prog.cellsOf 9 = 1 := by kernel_rfl
theorem o_cellsXs : Try.prog.cellsOf 41 = 1 := by kernel_rfl
theorem o_cellsPs : Try.prog.cellsOf 25 = 1 := by kernel_rfl
theorem o_cellsBs : Try.prog.cellsOf 24 = 1 := by kernel_rfl
theorem o_bytesX : Try.prog.bytesOf 23 = 16 := by kernel_rfl
theorem o_bytesP : Try.prog.bytesOf 43 = 40 := by kernel_rfl
theorem o_bytesU8 : Try.prog.bytesOf 5 = 1 := by kernel_rfl
instance : Inhabited PlV := ⟨⟨⟨0, 0, []⟩, .slice none 0 0⟩⟩
theorem open_i {n : Nat} {T : TypeId} {cs : List Value} {y : DataW H × List MemPlace} (hT : Try.prog.underlying T = some (.int .i64)) (h : DataW.trod enc Try.prog W 0 (fun _ => true) true n T cs = some y) : ∃ i : Int, cs = [.int .i64 i] ∧ I64 i := by
  obtain ⟨i, e, -, hw⟩ := DataW.trod_int hT h
  simp [Lit.wf, IntKind.min, IntKind.max, IntKind.signed, IntKind.bits] at hw
  exact ⟨i, e, by unfold I64; omega⟩
set_option maxRecDepth 100000 in
theorem open_x {n : Nat} {cs : List Value} {y : DataW H × List MemPlace} (h : DataW.trod enc Try.prog W 0 (fun _ => true) true n 23 cs = some y) : ∃ x : Int × Int, cs = encX x ∧ ExtOk x := by
  obtain ⟨xs, m, hm, hx, hcl, hxl, hf⟩ := DataW.trod_struct Try.underlying23 h
  rw [o_cellsX] at hcl
  match cs, hcl with
  | [c0, c1], _ =>
    match xs, hxl with
    | [x0, x1], _ =>
      have f0 : DataW.trod enc Try.prog W 0 (fun _ => true) true m 3 (([c0, c1].drop 0).take (Try.prog.cellsOf 3)) = [x0, x1][0]? := hf 0 _ rfl
      have f1 : DataW.trod enc Try.prog W 0 (fun _ => true) true m 3 (([c0, c1].drop 1).take (Try.prog.cellsOf 3)) = [x0, x1][1]? := hf 1 _ rfl
      rw [o_cellsI] at f0 f1
      obtain ⟨a, e0, h0⟩ := open_i Try.underlying3 f0
      obtain ⟨b, e1, h1⟩ := open_i Try.underlying3 f1
      simp at e0 e1
      subst e0 e1
      exact ⟨(a, b), rfl, h0, h1⟩
theorem open_xs {n : Nat} {v : Value} {y : DataW H × List MemPlace} (h : DataW.trod enc Try.prog W 0 (fun _ => true) true n 41 [v] = some y) (hw : ∀ z ∈ y.1.weights Try.prog 41, z ≤ reachBytes) : ∃ l, RdX W.heap.size W v l := by
  cases n with
  | zero => simp [DataW.trod] at h
  | succ n =>
    obtain ⟨l, h1, h2, h3⟩ := open_list (Ok := ExtOk) Try.underlying41 o_cellsX (by omega) (fun _ => rfl) (fun cs y h _ => open_x h) h hw
    rw [o_bytesX] at h3
    exact ⟨l, h1, h2, by simp only [reachBytes] at h3; omega⟩
set_option maxRecDepth 100000 in
theorem open_p {n : Nat} {cs : List Value} {y : DataW H × List MemPlace} (h : DataW.trod enc Try.prog W 0 (fun _ => true) true n 43 cs = some y) (hw : ∀ z ∈ y.1.weights Try.prog 43, z ≤ reachBytes) : ∃ x : PlV, cs = encP x ∧ RdP1 W.heap.size W x := by
  obtain ⟨xs, m, hm, hx, hcl, hxl, hf⟩ := DataW.trod_struct Try.underlying43 h
  rw [o_cellsP] at hcl
  subst hx
  match cs, hcl with
  | [c0, c1, c2], _ =>
    match xs, hxl with
    | [x0, x1, x2], _ =>
      have f0 : DataW.trod enc Try.prog W 0 (fun _ => true) true m 2 (([c0, c1, c2].drop 0).take (Try.prog.cellsOf 2)) = [x0, x1, x2][0]? := hf 0 _ rfl
      have f1 : DataW.trod enc Try.prog W 0 (fun _ => true) true m 3 (([c0, c1, c2].drop 1).take (Try.prog.cellsOf 3)) = [x0, x1, x2][1]? := hf 1 _ rfl
      have f2 : DataW.trod enc Try.prog W 0 (fun _ => true) true m 41 (([c0, c1, c2].drop 2).take (Try.prog.cellsOf 41)) = [x0, x1, x2][2]? := hf 2 _ rfl
      rw [o_cellsI64] at f0
      rw [o_cellsI] at f1
      rw [o_cellsXs] at f2
      obtain ⟨a, e0, h0⟩ := open_i Try.underlying2 f0
      obtain ⟨b, e1, h1⟩ := open_i Try.underlying3 f1
      simp at e0 e1
      subst e0 e1
      obtain ⟨l, hl⟩ := open_xs f2 (fun z hz => hw z (by
        simp only [DataW.weights, Try.underlying43]
        exact DataW.weights_mem_each (j := 2) (t := 41) (d := x2.1) rfl rfl _ hz))
      exact ⟨⟨⟨a, b, l⟩, c2⟩, rfl, h0, h1, hl⟩
theorem open_ps {n : Nat} {v : Value} {y : DataW H × List MemPlace} (h : DataW.trod enc Try.prog W 0 (fun _ => true) true n 25 [v] = some y) (hw : ∀ z ∈ y.1.weights Try.prog 25, z ≤ reachBytes) : ∃ l, RdPs W.heap.size W v l := by
  cases n with
  | zero => simp [DataW.trod] at h
  | succ n =>
    obtain ⟨l, h1, h2, h3⟩ := open_list (Ok := RdP1 W.heap.size W) Try.underlying25 o_cellsP (by omega) (fun _ => rfl) (fun cs y h hz => open_p h hz) h hw
    rw [o_bytesP] at h3
    exact ⟨l, h1, h2, by simp only [reachBytes] at h3; omega⟩
set_option maxRecDepth 100000 in
theorem open_bs {n : Nat} {v : Value} {y : DataW H × List MemPlace} (h : DataW.trod enc Try.prog W 0 (fun _ => true) true n 24 [v] = some y) (hw : ∀ z ∈ y.1.weights Try.prog 24, z ≤ reachBytes) : ∃ l, RdB W.heap.size W v l := by
  cases n with
  | zero => simp [DataW.trod] at h
  | succ n =>
    obtain ⟨l, ⟨o, h1, h1'⟩, -, h3⟩ := open_list (α := UInt8) (encA := fun c => [.int .u8 (c.toNat : Int)]) (Ok := fun _ => True) Try.underlying24 o_cellsU8 (by omega) (fun _ => rfl) (fun cs y h _ => by
      obtain ⟨i, e, -, hw⟩ := DataW.trod_int Try.underlying5 h
      simp [Lit.wf, IntKind.min, IntKind.max, IntKind.signed, IntKind.bits] at hw
      refine ⟨UInt8.ofNat i.toNat, ?_, trivial⟩
      rw [e, UInt8.toNat_ofNat']
      congr 2
      omega) h hw
    rw [o_bytesU8] at h3
    refine ⟨l, ⟨o, ?_, h1'⟩, by simp only [reachBytes] at h3; omega⟩
    have : l.flatMap (fun c => [Value.int .u8 (c.toNat : Int)]) = Lib.byteCells l := by
      unfold Lib.byteCells
      exact flatMap_one l
    rw [this] at h1
    exact h1
set_option maxRecDepth 100000 in
theorem open_m {n : Nat} {cs : List Value} {y : DataW H × List MemPlace} (h : DataW.trod enc Try.prog W 0 (fun _ => true) true n 27 cs = some y) (hw : ∀ z ∈ y.1.weights Try.prog 27, z ≤ reachBytes) :
    ∃ m : MnV, cs = [.string m.s, .int .i64 m.area.1, .int .i64 m.area.2, m.rv, m.pv] ∧ RdM W.heap.size W m := by
  obtain ⟨xs, m, hm, hx, hcl, hxl, hf⟩ := DataW.trod_struct Try.underlying27 h
  rw [o_cellsM] at hcl
  subst hx
  match cs, hcl with
  | [c0, c1, c2, c3, c4], _ =>
    match xs, hxl with
    | [x0, x1, x2, x3], _ =>
      have f0 : DataW.trod enc Try.prog W 0 (fun _ => true) true m 9 (([c0, c1, c2, c3, c4].drop 0).take (Try.prog.cellsOf 9)) = [x0, x1, x2, x3][0]? := hf 0 _ rfl
      have f1 : DataW.trod enc Try.prog W 0 (fun _ => true) true m 23 (([c0, c1, c2, c3, c4].drop 1).take (Try.prog.cellsOf 23)) = [x0, x1, x2, x3][1]? := hf 1 _ rfl
      have f2 : DataW.trod enc Try.prog W 0 (fun _ => true) true m 24 (([c0, c1, c2, c3, c4].drop 3).take (Try.prog.cellsOf 24)) = [x0, x1, x2, x3][2]? := hf 2 _ rfl
      have f3 : DataW.trod enc Try.prog W 0 (fun _ => true) true m 25 (([c0, c1, c2, c3, c4].drop 4).take (Try.prog.cellsOf 25)) = [x0, x1, x2, x3][3]? := hf 3 _ rfl
      rw [o_cellsS] at f0
      rw [o_cellsX] at f1
      rw [o_cellsBs] at f2
      rw [o_cellsPs] at f3
      obtain ⟨s, e0, hx0, -⟩ := DataW.trod_string Try.underlying9 f0
      obtain ⟨x, e1, h1⟩ := open_x f1
      simp [encX] at e0 e1
      obtain ⟨rfl, rfl⟩ := e1
      subst e0
      have hws : s.size ≤ 140737488355328 := by
        have := hw s.data.toList.length (by
          simp only [DataW.weights, Try.underlying27]
          exact DataW.weights_mem_each (j := 0) (t := 9) (d := x0.1) rfl rfl _ (by rw [hx0]; simp [DataW.weights]))
        simp only [reachBytes] at this
        have e : s.size = s.data.toList.length := by simp
        omega
      obtain ⟨bs, hb⟩ := open_bs f2 (fun z hz => hw z (by
        simp only [DataW.weights, Try.underlying27]
        exact DataW.weights_mem_each (j := 2) (t := 24) (d := x2.1) rfl rfl _ hz))
      obtain ⟨ps, hp⟩ := open_ps f3 (fun z hz => hw z (by
        simp only [DataW.weights, Try.underlying27]
        exact DataW.weights_mem_each (j := 3) (t := 25) (d := x3.1) rfl rfl _ hz))
      exact ⟨⟨s, x, c3, bs, c4, ps⟩, rfl, hws, h1, hb, hp⟩
theorem open_man {v : Value} {d : DataW H} {ps : List MemPlace} (h : DataW.Trod enc Try.prog W 0 (fun _ => true) true 27 v d ps) (hw : ∀ z ∈ d.weights Try.prog 27, z ≤ reachBytes) (hv : ∃ cs, v = .agg cs ∧ cs.size = Try.prog.cellsOf 27) : ∃ m : MnV, v = aggM m ∧ RdM W.heap.size W m := by
  obtain ⟨fuel, hf⟩ := h
  obtain ⟨cs, rfl, -⟩ := hv
  obtain ⟨m, hm, hr⟩ := open_m hf hw
  refine ⟨m, ?_, hr⟩
  have : cs.toList = [.string m.s, .int .i64 m.area.1, .int .i64 m.area.2, m.rv, m.pv] := by simpa [Value.cells] using hm
  unfold aggM
  congr 1
  apply Array.toList_inj.1
  rw [this]
theorem open_bytes {v : Value} {d : DataW H} {ps : List MemPlace} (h : DataW.Trod enc Try.prog W 0 (fun _ => true) true 24 v d ps) (hw : ∀ z ∈ d.weights Try.prog 24, z ≤ reachBytes) (hv : ∃ a n c, v = .slice a n c) : ∃ l, RdB W.heap.size W v l := by
  obtain ⟨fuel, hf⟩ := h
  obtain ⟨a, n, c, rfl⟩ := hv
  exact open_bs (by simpa [Value.cells] using hf) hw
end
end Go.Proofs.Ytngepgnmlpinaaa
