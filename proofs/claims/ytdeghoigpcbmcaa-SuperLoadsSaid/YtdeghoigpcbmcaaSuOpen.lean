/- Super: the supers that came in, opened. -/
import Derived.Test.YtdeghoigpcbmcaaSu21
import Derived.Deep.Slices
import Derived.Deep.Fields
import Derived.ChangeSame
import Derived.SizedLaws
import Derived.KernelRfl
namespace Go.Proofs.Ytdeghoigpcbmcaa
open Go.ChangeShapes Go.WideShapes Go.Deep Go.RowKit Go.Emb Go.Emb.Ext

structure SpV where
  x : Sup
  pv : Value
def RdX (B : Nat) (w : World) (v : Value) (l : List E) : Prop := (∃ o, RdE w v l o ∧ ∀ b, o = some b → b < B) ∧ (∀ x ∈ l, ExtOk x) ∧ l.length * 16 ≤ 140737488355328
def RdS (B : Nat) (w : World) (s : SpV) : Prop := s.x.gen < 18446744073709551616 ∧ I64 s.x.len ∧ I64 s.x.ep ∧ RdX B w s.pv s.x.ps
def encS (s : SpV) : List Value := [.int .u64 s.x.gen, s.pv, .int .i64 s.x.len, .int .i64 s.x.ep]
def RdSs (B : Nat) (w : World) (v : Value) (l : List SpV) : Prop := (∃ o, Rd w 4 v l.length (l.flatMap encS) o ∧ ∀ b, o = some b → b < B) ∧ (∀ x ∈ l, RdS B w x) ∧ l.length * 48 ≤ 140737488355328
def RdB (B : Nat) (w : World) (v : Value) (l : List UInt8) : Prop := (∃ o, Rd w 1 v l.length (Lib.byteCells l) o ∧ ∀ b, o = some b → b < B) ∧ l.length ≤ 140737488355328
def RdI (B : Nat) (w : World) (v : Value) (l : List Int) : Prop := (∃ o, Rd w 1 v l.length (l.map (Value.int .i64)) o ∧ ∀ b, o = some b → b < B) ∧ (∀ x ∈ l, I64 x) ∧ l.length * 8 ≤ 140737488355328
theorem weights_mem_all {H : Type} {P : Program} {e : TypeId} : ∀ {l : List (DataW H)} {d : DataW H}, d ∈ l → ∀ n ∈ d.weights P e, n ∈ DataW.weightsAll P e l
  | [], _, h, _, _ => by cases h
  | x :: l, d, h, n, hn => by
    simp only [DataW.weightsAll, List.mem_append]
    rcases List.mem_cons.1 h with rfl | h
    · exact .inl hn
    · exact .inr (weights_mem_all h n hn)
theorem flatN_len {α : Type} {e : α → List Value} {m : Nat} (he : ∀ x, (e x).length = m) : ∀ l : List α, (l.flatMap e).length = l.length * m
  | [] => by simp
  | x :: l => by rw [List.flatMap_cons, List.length_append, he, flatN_len he l, List.length_cons, Nat.succ_mul]; omega
theorem flatMap_one (l : List UInt8) : l.flatMap (fun c => [Value.int .u8 (c.toNat : Int)]) = l.map (fun c => Value.int .u8 (c.toNat : Int)) := by
  induction l with
  | nil => rfl
  | cons c l ih => rw [List.flatMap_cons, List.map_cons, ih]; rfl
theorem flat_at {α : Type} {e : α → List Value} {m : Nat} (he : ∀ x, (e x).length = m) : ∀ (l : List α) (k : Nat) (h : k < l.length) (j : Nat), j < m → (l.flatMap e)[k * m + j]? = (e l[k])[j]?
  | [], k, h, _, _ => by simp at h
  | x :: l, 0, h, j, hj => by
    rw [List.flatMap_cons, List.getElem?_append_left (by rw [he]; omega)]
    simp
  | x :: l, k + 1, h, j, hj => by
    rw [List.flatMap_cons, List.getElem?_append_right (by rw [he, Nat.succ_mul]; omega), he, show (k + 1) * m + j - m = k * m + j from by rw [Nat.succ_mul]; omega, flat_at he l k (by simpa using h) j hj]
    simp
section
variable {H : Type} {enc : TypeId × Value → H} {W : World}
theorem open_list {α : Type} [Inhabited α] {T e : TypeId} {k : Nat} (ht : Try.prog.underlying T = some (.slice e)) (hk : Try.prog.cellsOf e = k) (hkp : 0 < k) {encA : α → List Value} (hl : ∀ x, (encA x).length = k) {Ok : α → Prop} {n : Nat}
    (IH : ∀ cs y, DataW.trod enc Try.prog W 0 (fun _ => true) true n e cs = some y → (∀ z ∈ y.1.weights Try.prog e, z ≤ reachBytes) → ∃ x, cs = encA x ∧ Ok x)
    {v : Value} {y : DataW H × List MemPlace} (h : DataW.trod enc Try.prog W 0 (fun _ => true) true (n + 1) T [v] = some y) (hw : ∀ z ∈ y.1.weights Try.prog T, z ≤ reachBytes) :
    ∃ l : List α, (∃ o, Rd W k v l.length (l.flatMap encA) o ∧ ∀ b, o = some b → b < W.heap.size) ∧ (∀ x ∈ l, Ok x) ∧ l.length * Try.prog.bytesOf e ≤ reachBytes := by
  rcases DataW.trod_slice ht h with ⟨hcs, _⟩ | ⟨a, len, cap, elems, rest, n', hn, hcs, rfl, hb, hle, hm, hlen, hel, -, -⟩
  · simp at hcs; subst hcs; exact ⟨[], ⟨none, ⟨by simp, none, 0, rfl, by simp, by simp [maxLen], .inl ⟨rfl, rfl⟩⟩, by simp⟩, by simp, by simp⟩
  · obtain rfl : n' = n := by omega
    simp at hcs; subst hcs
    rw [hk] at hel
    have key : ∀ i, i < len → ∃ t : α, W.cells? 0 (a.add (i * k)) k = some (encA t) ∧ Ok t := by
      intro i hi
      have h1 := hel i hi
      rw [List.getElem?_eq_getElem (by omega)] at h1
      obtain ⟨cs', h2, h3⟩ := Option.bind_eq_some_iff.1 h1
      obtain ⟨t, rfl, ht⟩ := IH cs' _ h3 (fun z hz => hw z (by
        simp only [DataW.weights, ht, List.mem_cons, List.mem_append]
        right; left
        exact weights_mem_all (List.mem_map.2 ⟨_, List.getElem_mem _, rfl⟩) z hz))
      exact ⟨t, h2, ht⟩
    obtain ⟨f, hf⟩ := choose_lt key
    have hbytes : len * Try.prog.bytesOf e ≤ reachBytes := by
      have := hw (((elems.map (·.1)).length + (rest.map (·.1)).length) * Try.prog.bytesOf e) (by simp [DataW.weights, ht])
      simp only [List.length_map] at this
      refine Nat.le_trans (Nat.mul_le_mul_right _ ?_) this
      omega
    have hll : ((List.range len).map f).length = len := by simp
    refine ⟨(List.range len).map f, ?_, ?_, by rw [hll]; exact hbytes⟩
    · by_cases h0 : len = 0
      · subst h0
        exact ⟨none, ⟨by simp, _, cap, rfl, by simp, hm, .inl ⟨by simp, rfl⟩⟩, by simp⟩
      · obtain ⟨b, off, spot⟩ := a
        obtain ⟨_, hl0, hat0⟩ := World.cells?_some (hf 0 (by omega)).1
        have hc := hat0 0 hkp
        have hz : (encA (f 0))[0]? = some ((encA (f 0))[0]'(by rw [hl]; exact hkp)) := List.getElem?_eq_getElem _
        have hspot : spot = none := by simpa [Addr.add] using World.cell?_spot (hc.trans hz)
        subst hspot
        have hadd : ∀ i, (⟨b, off, none⟩ : Addr).add i = ⟨b, off + i, none⟩ := by intro i; unfold Addr.add; split <;> simp_all
        have hadd2 : ∀ i j, (⟨b, off + i, none⟩ : Addr).add j = ⟨b, off + i + j, none⟩ := by intro i j; unfold Addr.add; split <;> simp_all
        refine ⟨some b, ⟨flatN_len hl _, _, cap, by rw [hll], by rw [hll]; exact hle, hm, .inr ⟨b, off, rfl, rfl, fun i hi => ?_⟩⟩, ?_⟩
        · rw [hll] at hi
          have hik : i / k < len := Nat.div_lt_of_lt_mul (by rw [Nat.mul_comm]; exact hi)
          obtain ⟨_, _, hat⟩ := World.cells?_some (hf (i / k) hik).1
          have hmod := Nat.mod_lt i hkp
          have h5 := hat (i % k) hmod
          rw [hadd, hadd2] at h5
          have h6 := flat_at hl ((List.range len).map f) (i / k) (by rw [hll]; exact hik) (i % k) hmod
          have e : i / k * k + i % k = i := by rw [Nat.mul_comm]; exact Nat.div_add_mod i k
          rw [e] at h6
          rw [Nat.add_assoc, e] at h5
          rw [h5, h6]
          simp
        · rintro b' ⟨⟩
          have := World.block_lt_of_cell? _ _ (hc.trans hz)
          simpa [Addr.add] using this
    · intro x hx
      obtain ⟨i, hir, rfl⟩ := List.mem_map.1 hx
      exact (hf i (List.mem_range.1 hir)).2
theorem o_cellsX : Try.prog.cellsOf 54 = 2 := by kernel_rfl
theorem o_cellsI : Try.prog.cellsOf 3 = 1 := by kernel_rfl
theorem o_cellsU64 : Try.prog.cellsOf 22 = 1 := by kernel_rfl
theorem o_cellsXs : Try.prog.cellsOf 23 = 1 := by kernel_rfl
theorem o_cellsSp : Try.prog.cellsOf 25 = 4 := by kernel_rfl
theorem o_bytesX : Try.prog.bytesOf 54 = 16 := by kernel_rfl
theorem o_bytesSp : Try.prog.bytesOf 25 = 48 := by kernel_rfl
theorem o_bytesI : Try.prog.bytesOf 3 = 8 := by kernel_rfl
theorem open_i {n : Nat} {T : TypeId} {cs : List Value} {y : DataW H × List MemPlace} (hT : Try.prog.underlying T = some (.int .i64)) (h : DataW.trod enc Try.prog W 0 (fun _ => true) true n T cs = some y) : ∃ i : Int, cs = [.int .i64 i] ∧ I64 i := by
  obtain ⟨i, e, -, hw⟩ := DataW.trod_int hT h
  simp [Lit.wf, IntKind.min, IntKind.max, IntKind.signed, IntKind.bits] at hw
  exact ⟨i, e, by unfold I64; omega⟩
set_option maxRecDepth 100000 in
theorem open_u {n : Nat} {T : TypeId} {cs : List Value} {y : DataW H × List MemPlace} (hT : Try.prog.underlying T = some (.int .u64)) (h : DataW.trod enc Try.prog W 0 (fun _ => true) true n T cs = some y) : ∃ i : Nat, cs = [.int .u64 (i : Int)] ∧ i < 18446744073709551616 := by
  obtain ⟨i, e, -, hw⟩ := DataW.trod_int hT h
  simp [Lit.wf, IntKind.min, IntKind.max, IntKind.signed, IntKind.bits] at hw
  exact ⟨i.toNat, by rw [e, Int.toNat_of_nonneg (by omega)], by omega⟩
set_option maxRecDepth 100000 in
theorem open_x {n : Nat} {cs : List Value} {y : DataW H × List MemPlace} (h : DataW.trod enc Try.prog W 0 (fun _ => true) true n 54 cs = some y) : ∃ x : Int × Int, cs = encE x ∧ ExtOk x := by
  obtain ⟨xs, m, hm, hx, hcl, hxl, hf⟩ := DataW.trod_struct Try.underlying54 h
  rw [o_cellsX] at hcl
  match cs, hcl with
  | [c0, c1], _ =>
    match xs, hxl with
    | [x0, x1], _ =>
      have f0 : DataW.trod enc Try.prog W 0 (fun _ => true) true m 3 (([c0, c1].drop 0).take (Try.prog.cellsOf 3)) = [x0, x1][0]? := hf 0 _ rfl
      have f1 : DataW.trod enc Try.prog W 0 (fun _ => true) true m 3 (([c0, c1].drop 1).take (Try.prog.cellsOf 3)) = [x0, x1][1]? := hf 1 _ rfl
      rw [o_cellsI] at f0 f1
      obtain ⟨a, e0, h0⟩ := open_i Try.underlying3 f0
      obtain ⟨b, e1, h1⟩ := open_i Try.underlying3 f1
      simp at e0 e1
      subst e0 e1
      exact ⟨(a, b), rfl, h0, h1⟩
theorem open_xs {n : Nat} {v : Value} {y : DataW H × List MemPlace} (h : DataW.trod enc Try.prog W 0 (fun _ => true) true n 23 [v] = some y) (hw : ∀ z ∈ y.1.weights Try.prog 23, z ≤ reachBytes) : ∃ l, RdX W.heap.size W v l := by
  cases n with
  | zero => simp [DataW.trod] at h
  | succ n =>
    obtain ⟨l, h1, h2, h3⟩ := open_list (Ok := ExtOk) Try.underlying23 o_cellsX (by omega) (fun _ => rfl) (fun cs y h _ => open_x h) h hw
    rw [o_bytesX] at h3
    exact ⟨l, h1, h2, by simp only [reachBytes] at h3; omega⟩
instance : Inhabited SpV := ⟨⟨⟨0, [], 0, 0⟩, .slice none 0 0⟩⟩
set_option maxRecDepth 100000 in
theorem open_sp {n : Nat} {cs : List Value} {y : DataW H × List MemPlace} (h : DataW.trod enc Try.prog W 0 (fun _ => true) true n 25 cs = some y) (hw : ∀ z ∈ y.1.weights Try.prog 25, z ≤ reachBytes) : ∃ x : SpV, cs = encS x ∧ RdS W.heap.size W x := by
  obtain ⟨xs, m, hm, hx, hcl, hxl, hf⟩ := DataW.trod_struct Try.underlying25 h
  rw [o_cellsSp] at hcl
  subst hx
  match cs, hcl with
  | [c0, c1, c2, c3], _ =>
    match xs, hxl with
    | [x0, x1, x2, x3], _ =>
      have f0 : DataW.trod enc Try.prog W 0 (fun _ => true) true m 22 (([c0, c1, c2, c3].drop 0).take (Try.prog.cellsOf 22)) = [x0, x1, x2, x3][0]? := hf 0 _ rfl
      have f1 : DataW.trod enc Try.prog W 0 (fun _ => true) true m 23 (([c0, c1, c2, c3].drop 1).take (Try.prog.cellsOf 23)) = [x0, x1, x2, x3][1]? := hf 1 _ rfl
      have f2 : DataW.trod enc Try.prog W 0 (fun _ => true) true m 3 (([c0, c1, c2, c3].drop 2).take (Try.prog.cellsOf 3)) = [x0, x1, x2, x3][2]? := hf 2 _ rfl
      have f3 : DataW.trod enc Try.prog W 0 (fun _ => true) true m 3 (([c0, c1, c2, c3].drop 3).take (Try.prog.cellsOf 3)) = [x0, x1, x2, x3][3]? := hf 3 _ rfl
      rw [o_cellsU64] at f0
      rw [o_cellsXs] at f1
      rw [o_cellsI] at f2 f3
      obtain ⟨g, e0, h0⟩ := open_u Try.underlying22 f0
      obtain ⟨a, e2, h2⟩ := open_i Try.underlying3 f2
      obtain ⟨b, e3, h3⟩ := open_i Try.underlying3 f3
      simp at e0 e2 e3
      subst e0 e2 e3
      obtain ⟨l, hl⟩ := open_xs f1 (fun z hz => hw z (by
        simp only [DataW.weights, Try.underlying25]
        exact DataW.weights_mem_each (j := 1) (t := 23) (d := x1.1) rfl rfl _ hz))
      exact ⟨⟨⟨g, l, a, b⟩, c1⟩, rfl, h0, h2, h3, hl⟩
theorem open_sps {n : Nat} {v : Value} {y : DataW H × List MemPlace} (h : DataW.trod enc Try.prog W 0 (fun _ => true) true n 43 [v] = some y) (hw : ∀ z ∈ y.1.weights Try.prog 43, z ≤ reachBytes) : ∃ l, RdSs W.heap.size W v l := by
  cases n with
  | zero => simp [DataW.trod] at h
  | succ n =>
    obtain ⟨l, h1, h2, h3⟩ := open_list (Ok := RdS W.heap.size W) Try.underlying43 o_cellsSp (by omega) (fun _ => rfl) (fun cs y h hz => open_sp h hz) h hw
    rw [o_bytesSp] at h3
    exact ⟨l, h1, h2, by simp only [reachBytes] at h3; omega⟩
theorem flatMap_i (l : List Int) : l.flatMap (fun c => [Value.int .i64 c]) = l.map (Value.int .i64) := by
  induction l with
  | nil => rfl
  | cons c l ih => rw [List.flatMap_cons, List.map_cons, ih]; rfl
theorem open_is {n : Nat} {v : Value} {y : DataW H × List MemPlace} (h : DataW.trod enc Try.prog W 0 (fun _ => true) true n 44 [v] = some y) (hw : ∀ z ∈ y.1.weights Try.prog 44, z ≤ reachBytes) : ∃ l, RdI W.heap.size W v l := by
  cases n with
  | zero => simp [DataW.trod] at h
  | succ n =>
    obtain ⟨l, h1, h2, h3⟩ := open_list (encA := fun c => [Value.int .i64 c]) (Ok := I64) Try.underlying44 o_cellsI (by omega) (fun _ => rfl) (fun cs y h _ => open_i Try.underlying3 h) h hw
    rw [o_bytesI] at h3
    rw [flatMap_i] at h1
    exact ⟨l, h1, h2, by simp only [reachBytes] at h3; omega⟩
theorem o_cellsU8 : Try.prog.cellsOf 5 = 1 := by kernel_rfl
theorem o_bytesU8 : Try.prog.bytesOf 5 = 1 := by kernel_rfl
set_option maxRecDepth 100000 in
theorem open_bs {n : Nat} {v : Value} {y : DataW H × List MemPlace} (h : DataW.trod enc Try.prog W 0 (fun _ => true) true n 38 [v] = some y) (hw : ∀ z ∈ y.1.weights Try.prog 38, z ≤ reachBytes) : ∃ l, RdB W.heap.size W v l := by
  cases n with
  | zero => simp [DataW.trod] at h
  | succ n =>
    obtain ⟨l, ⟨o, h1, h1'⟩, -, h3⟩ := open_list (α := UInt8) (encA := fun c => [.int .u8 (c.toNat : Int)]) (Ok := fun _ => True) Try.underlying38 o_cellsU8 (by omega) (fun _ => rfl) (fun cs y h _ => by
      obtain ⟨i, e, -, hw⟩ := DataW.trod_int Try.underlying5 h
      simp [Lit.wf, IntKind.min, IntKind.max, IntKind.signed, IntKind.bits] at hw
      refine ⟨UInt8.ofNat i.toNat, ?_, trivial⟩
      rw [e, UInt8.toNat_ofNat']
      congr 2
      omega) h hw
    rw [o_bytesU8] at h3
    refine ⟨l, ⟨o, ?_, h1'⟩, by simp only [reachBytes] at h3; omega⟩
    have : l.flatMap (fun c => [Value.int .u8 (c.toNat : Int)]) = Lib.byteCells l := by
      unfold Lib.byteCells
      exact flatMap_one l
    rw [this] at h1
    exact h1
theorem open_super {v : Value} {d : DataW H} {ps : List MemPlace} (h : DataW.Trod enc Try.prog W 0 (fun _ => true) true 25 v d ps) (hw : ∀ z ∈ d.weights Try.prog 25, z ≤ reachBytes) (hv : ∃ cs, v = .agg cs ∧ cs.size = Try.prog.cellsOf 25) : ∃ m : SpV, v = aggS m.x m.pv ∧ RdS W.heap.size W m := by
  obtain ⟨fuel, hf⟩ := h
  obtain ⟨cs, rfl, -⟩ := hv
  obtain ⟨m, hm, hr⟩ := open_sp hf hw
  refine ⟨m, ?_, hr⟩
  have : cs.toList = encS m := by simpa [Value.cells] using hm
  unfold aggS
  congr 1
  apply Array.toList_inj.1
  rw [this]
  rfl
theorem open_supers {v : Value} {d : DataW H} {ps : List MemPlace} (h : DataW.Trod enc Try.prog W 0 (fun _ => true) true 43 v d ps) (hw : ∀ z ∈ d.weights Try.prog 43, z ≤ reachBytes) (hv : ∃ a n c, v = .slice a n c) : ∃ l, RdSs W.heap.size W v l := by
  obtain ⟨fuel, hf⟩ := h
  obtain ⟨a, n, c, rfl⟩ := hv
  exact open_sps (by simpa [Value.cells] using hf) hw
theorem open_ints {v : Value} {d : DataW H} {ps : List MemPlace} (h : DataW.Trod enc Try.prog W 0 (fun _ => true) true 44 v d ps) (hw : ∀ z ∈ d.weights Try.prog 44, z ≤ reachBytes) (hv : ∃ a n c, v = .slice a n c) : ∃ l, RdI W.heap.size W v l := by
  obtain ⟨fuel, hf⟩ := h
  obtain ⟨a, n, c, rfl⟩ := hv
  exact open_is (by simpa [Value.cells] using hf) hw
theorem open_bytes {v : Value} {d : DataW H} {ps : List MemPlace} (h : DataW.Trod enc Try.prog W 0 (fun _ => true) true 38 v d ps) (hw : ∀ z ∈ d.weights Try.prog 38, z ≤ reachBytes) (hv : ∃ a n c, v = .slice a n c) : ∃ l, RdB W.heap.size W v l := by
  obtain ⟨fuel, hf⟩ := h
  obtain ⟨a, n, c, rfl⟩ := hv
  exact open_bs (by simpa [Value.cells] using hf) hw
end
end Go.Proofs.Ytdeghoigpcbmcaa
