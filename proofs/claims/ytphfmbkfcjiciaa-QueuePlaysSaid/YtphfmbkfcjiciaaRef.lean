/- The document's queue (embersref20): contracts. -/
import Derived.Test.YtphfmbkfcjiciaaOnceP
import Derived.Deep.RegionHeld3
namespace Go.Emb
open Go.RowKit
section
variable {P : Program} (w : World)
theorem step_append_row {ops : Array Oper} {o : Oper} {a : Act} {K : Act → World → Prop} {Q : Exit → Act → World → Prop} {X : Prop} (hgd : o.guard = none) (s x : Operand) (T tx : TypeId) (ho : o.op = .call { callee := .builtin .append, args := #[s, x], argTypes := #[T, tx] })
    (E : TypeId) (i : TypeInfo) (z : Value) (k bytes : Nat) (ht : P.underlying T = some (.slice E)) (hi : P.info? E = some i) (hz : i.zero = some z) (hik : i.size = k) (hib : i.bytes = bytes) (hzs : z.cells.size = k)
    (v : Value) (n : Nat) (xs : List Value) (r : Option Nat) (hs : a.eval s = v) (hown : Row w E k v n xs r) (xv : Value) (hx : a.eval x = xv) (m : Nat) (news : List Value) (hsrc : Src P k tx xv m news w) (hpos : 0 < m) (h63 : n + m ≤ maxLen) (hbytes : (n + m) * bytes ≤ 140737488355328)
    (h : ∀ g off cap w', Row w' E k (.slice (some ⟨g, off, none⟩) (n + m) cap) (n + m) (xs ++ news) (some g) → Keep r.toList w w' → (r = some g ∨ w.heap.size ≤ g) → K (a.put o.dst (.slice (some ⟨g, off, none⟩) (n + m) cap)) w') :
    if Region.wanted o (yielded ops a.tmps) = true then Oper.wp P o a w K Q else X := by
  have hw : Region.wanted o (yielded ops a.tmps) = true := by simp [Region.wanted, hgd]
  rw [if_pos hw]
  obtain ⟨g, off, cap, w', hr, h2, h3, h4⟩ := run_append_row (P := P) (w := w) (ty := o.type) ht hi hz hik hib hzs hown hsrc hpos h63 hbytes
  unfold Oper.wp execOp
  simp only [ho, resolve, invoke, builtin, Sem.run_bind, Sem.run_pure, Result.andThen_ok, List.map_toArray, List.map_cons, List.map_nil, hs, hx, hr]
  exact h g off cap w' h2 h3 h4
end

/-- an append of nothing, or of something: in one law, the source read -/
theorem run_append_rd {P : Program} {w : World} {T tx ty E e' : TypeId} {i : TypeInfo} {z : Value} {k bytes : Nat} (ht : P.underlying T = some (.slice E)) (htx : P.underlying tx = some (.slice e')) (hi : P.info? E = some i) (hz : i.zero = some z) (hik : i.size = k) (hib : i.bytes = bytes)
    (hzs : z.cells.size = k) {b off n cap : Nat} {xs : List Value} (h : Row w E k (.slice (some ⟨b, off, none⟩) n cap) n xs (some b)) {x : Value} {m : Nat} {news : List Value} {ox : Option Nat} (hx : Rd w k x m news ox) (h1 : ∀ u ∈ news, u.oneCell' = true)
    (h63 : n + m ≤ maxLen) (hbytes : (n + m) * bytes ≤ 140737488355328) :
    ∃ g off' cap' w', (Builtin.append_ #[T, tx] ty #[.slice (some ⟨b, off, none⟩) n cap, x]).run P w = .ok (.slice (some ⟨g, off', none⟩) (n + m) cap') w' ∧ Row w' E k (.slice (some ⟨g, off', none⟩) (n + m) cap') (n + m) (xs ++ news) (some g) ∧ Keep [b] w w' ∧ (b = g ∨ w.heap.size ≤ g) := by
  by_cases hm : m = 0
  · subst hm
    have hn : news = [] := List.eq_nil_of_length_eq_zero (by simpa using hx.1)
    subst hn
    refine ⟨b, off, cap, w, ?_, by simpa using h, Keep.refl _ _, .inl rfl⟩
    obtain ⟨_, a, c, rfl, _⟩ := hx
    obtain ⟨_, h⟩ := h
    rcases h with ⟨h, _⟩ | ⟨b', off', cap', cs, e1, e2, hb, hc1, hc2, _⟩
    · cases h
    cases e1; cases e2
    cases a with
    | none => simp [Builtin.append_, run_underlying ht, run_underlying htx, sizeOf, typeInfo, hi, Builtin.lenOf, Builtin.firstCells, hc1, storeCells]
    | some a => simp [Builtin.append_, run_underlying ht, run_underlying htx, sizeOf, typeInfo, hi, Builtin.lenOf, Builtin.firstCells, loadCells, loadCellsFrom, hc1, storeCells]
  · obtain ⟨g, off', cap', w', r1, r2, r3, r4⟩ := run_append_row (P := P) (w := w) (ty := ty) ht hi hz hik hib hzs h (hx.src htx (by omega) h1) (by omega) h63 hbytes
    exact ⟨g, off', cap', w', r1, r2, r3, r4.imp (fun h => by cases h; rfl) id⟩

section
variable {P : Program} (w : World)
theorem wpList_append_rd {ops : Array Oper} {rest : List Oper} {o : Oper} {a : Act} {Q : Exit → Act → World → Prop} (hgd : o.guard = none) (s x : Operand) (T tx : TypeId) (ho : o.op = .call { callee := .builtin .append, args := #[s, x], argTypes := #[T, tx] })
    (E e' : TypeId) (i : TypeInfo) (z : Value) (k bytes : Nat) (ht : P.underlying T = some (.slice E)) (htx : P.underlying tx = some (.slice e')) (hi : P.info? E = some i) (hz : i.zero = some z) (hik : i.size = k) (hib : i.bytes = bytes) (hzs : z.cells.size = k)
    (b off n cap : Nat) (xs : List Value) (hs : a.eval s = .slice (some ⟨b, off, none⟩) n cap) (hown : Row w E k (.slice (some ⟨b, off, none⟩) n cap) n xs (some b)) (xv : Value) (hx : a.eval x = xv) (m : Nat) (news : List Value) (ox : Option Nat) (hrd : Rd w k xv m news ox) (h1 : ∀ u ∈ news, u.oneCell' = true) (h63 : n + m ≤ maxLen) (hbytes : (n + m) * bytes ≤ 140737488355328)
    (h : ∀ g off' cap' w', Row w' E k (.slice (some ⟨g, off', none⟩) (n + m) cap') (n + m) (xs ++ news) (some g) → Keep [b] w w' → (b = g ∨ w.heap.size ≤ g) → wpList P ops Q rest (a.put o.dst (.slice (some ⟨g, off', none⟩) (n + m) cap')) w') : wpList P ops Q (o :: rest) a w := by
  refine wpList_plain hgd fun K' hK' => ?_
  obtain ⟨g, off', cap', w', hr, h2, h3, h4⟩ := run_append_rd (P := P) (w := w) (ty := o.type) ht htx hi hz hik hib hzs hown hrd h1 h63 hbytes
  unfold Oper.wp execOp
  simp only [ho, resolve, invoke, builtin, Sem.run_bind, Sem.run_pure, Result.andThen_ok, List.map_toArray, List.map_cons, List.map_nil, hs, hx, hr]
  exact hK' _ _ (h g off' cap' w' h2 h3 h4)
theorem step_append_rd {ops : Array Oper} {o : Oper} {a : Act} {K : Act → World → Prop} {Q : Exit → Act → World → Prop} {X : Prop} (hgd : o.guard = none) (s x : Operand) (T tx : TypeId) (ho : o.op = .call { callee := .builtin .append, args := #[s, x], argTypes := #[T, tx] })
    (E e' : TypeId) (i : TypeInfo) (z : Value) (k bytes : Nat) (ht : P.underlying T = some (.slice E)) (htx : P.underlying tx = some (.slice e')) (hi : P.info? E = some i) (hz : i.zero = some z) (hik : i.size = k) (hib : i.bytes = bytes) (hzs : z.cells.size = k)
    (b off n cap : Nat) (xs : List Value) (hs : a.eval s = .slice (some ⟨b, off, none⟩) n cap) (hown : Row w E k (.slice (some ⟨b, off, none⟩) n cap) n xs (some b)) (xv : Value) (hx : a.eval x = xv) (m : Nat) (news : List Value) (ox : Option Nat) (hrd : Rd w k xv m news ox) (h1 : ∀ u ∈ news, u.oneCell' = true) (h63 : n + m ≤ maxLen) (hbytes : (n + m) * bytes ≤ 140737488355328)
    (h : ∀ g off' cap' w', Row w' E k (.slice (some ⟨g, off', none⟩) (n + m) cap') (n + m) (xs ++ news) (some g) → Keep [b] w w' → (b = g ∨ w.heap.size ≤ g) → K (a.put o.dst (.slice (some ⟨g, off', none⟩) (n + m) cap')) w') :
    if Region.wanted o (yielded ops a.tmps) = true then Oper.wp P o a w K Q else X := by
  have hw : Region.wanted o (yielded ops a.tmps) = true := by simp [Region.wanted, hgd]
  rw [if_pos hw]
  obtain ⟨g, off', cap', w', hr, h2, h3, h4⟩ := run_append_rd (P := P) (w := w) (ty := o.type) ht htx hi hz hik hib hzs hown hrd h1 h63 hbytes
  unfold Oper.wp execOp
  simp only [ho, resolve, invoke, builtin, Sem.run_bind, Sem.run_pure, Result.andThen_ok, List.map_toArray, List.map_cons, List.map_nil, hs, hx, hr]
  exact h g off' cap' w' h2 h3 h4
end
end Go.Emb
namespace Go.Proofs.Ytphfmbkfcjiciaa
open Go.RowKit Go.Emb Go.Shelf Go.Lib Go.Sort

/-- the document's queue in memory -/
structure IsR' (w : World) (r : Nat) (l : List Int) (D : List (Int × Int)) (lv tv : Value) (ol ot : Option Nat) : Prop where
  here : w.heap[r]? = some (.cells #[lv, tv] 47 (0, 0))
  rl : Rd w 1 lv l.length (l.map (Value.int .i64)) ol
  rt : Rd w 2 tv D.length (D.flatMap encT) ot
  nl : ∀ b, ol = some b → b ≠ r ∧ b < w.heap.size
  nt : ∀ b, ot = some b → b ≠ r ∧ b < w.heap.size
def IsR (w : World) (r : Nat) (l : List Int) (D : List (Int × Int)) (F : List Nat) : Prop := ∃ lv tv ol ot, IsR' w r l D lv tv ol ot ∧ F = r :: (ol.toList ++ ot.toList)

theorem IsR.keep {w w' : World} {r : Nat} {l : List Int} {D : List (Int × Int)} {F G : List Nat} (h : IsR w r l D F) (k : Keep G w w') (hn : ∀ b ∈ F, b ∉ G) : IsR w' r l D F := by
  obtain ⟨lv, tv, ol, ot, h, rfl⟩ := h
  refine ⟨lv, tv, ol, ot, ⟨(k.block r (Array.getElem?_eq_some_iff.1 h.here).1 (hn r (by simp))).trans h.here, h.rl.keep k (fun b hb => hn b (by simp [hb])), h.rt.keep k (fun b hb => hn b (by simp [hb])), fun b hb => ⟨(h.nl b hb).1, Nat.lt_of_lt_of_le (h.nl b hb).2 k.size⟩, fun b hb => ⟨(h.nt b hb).1, Nat.lt_of_lt_of_le (h.nt b hb).2 k.size⟩⟩, rfl⟩

theorem IsR.lt {w : World} {r : Nat} {l : List Int} {D : List (Int × Int)} {F : List Nat} (h : IsR w r l D F) : ∀ b ∈ F, b < w.heap.size := by
  obtain ⟨lv, tv, ol, ot, h, rfl⟩ := h
  intro b hb
  simp only [List.mem_cons, List.mem_append, Option.mem_toList] at hb
  rcases hb with rfl | hb | hb
  · exact (Array.getElem?_eq_some_iff.1 h.here).1
  · exact (h.nl b hb).2
  · exact (h.nt b hb).2

def TR (r : Nat) (l : List Int) (D : List (Int × Int)) (F : List Nat) : Thing := ⟨fun w => IsR w r l D F, F, fun h hk hn => h.keep hk hn⟩

theorem cells2 {w : World} {q : Nat} {x y : Value} {t : TypeId} (h : w.heap[q]? = some (.cells #[x, y] t (0, 0))) :
    w.cell? ⟨q, 0, none⟩ = some x ∧ w.cell? ⟨q, 1, none⟩ = some y ∧ w.frozen? ⟨q, 0, none⟩ = false ∧ w.frozen? ⟨q, 1, none⟩ = false := by
  refine ⟨?_, ?_, ?_, ?_⟩ <;> simp [World.cell?, World.frozen?, h]

/-- the place of a pid, or -1 -/
def idxI (l : List Int) (p : Int) : Int := match l.findIdx? (fun x => decide (x = p)) with | some i => i | none => -1
theorem idxI_at {l : List Int} {p : Int} {k : Nat} (hk : k < l.length) (h : l[k] = p) (hb : p ∉ l.take k) : idxI l p = k := by
  unfold idxI
  rw [show l.findIdx? (fun x => decide (x = p)) = some k from ?_]
  rw [List.findIdx?_eq_some_iff_getElem]
  refine ⟨hk, by simpa using h, fun j hj => ?_⟩
  simp only [decide_eq_true_eq]
  intro e
  exact hb (by rw [← e]; exact List.mem_take_iff_getElem.2 ⟨j, by omega, rfl⟩)
theorem idxI_none {l : List Int} {p : Int} (h : p ∉ l) : idxI l p = -1 := by
  unfold idxI
  rw [show l.findIdx? (fun x => decide (x = p)) = none from ?_]
  rw [List.findIdx?_eq_none_iff]
  intro x hx
  simp
  rintro rfl
  exact h hx

set_option maxHeartbeats 400000 in
theorem r_waits {w : World} {r : Nat} {l : List Int} {D : List (Int × Int)} {F : List Nat} (h : IsR w r l D F) (p : Int) (hsz : l.length ≤ 1000000000) :
    Calls Try.prog 33 #[.pointer (some ⟨r, 0, none⟩), .int .i64 p] w fun e w' => e = .returned (.int .i64 (idxI l p)) ∧ w = w' := by
  obtain ⟨lv, tv, ol, ot, h, rfl⟩ := h
  obtain ⟨c0, c1, f0, f1⟩ := cells2 h.here
  obtain ⟨-, a, c, rfl, -, hc, hcs⟩ := h.rl
  have HCS := Lib.hid hcs
  clear h hcs
  go_enter Try.func33, Try.ntmps33
  go_wp2_with fail
  go_loop [5] (fun i => ∃ k : Nat, k ≤ l.length ∧ i = .int .i64 k ∧ p ∉ l.take k) (fun i => l.length - (intOf i).toNat)
  case atStart => exact ⟨0, Nat.zero_le _, rfl, by simp⟩
  case round =>
    obtain ⟨k, hk, rfl, hno⟩ := hrel
    have HNO := Lib.hid hno
    clear hno
    by_cases hlt : k < l.length
    · rcases HCS.out with ⟨h0, _⟩ | ⟨b, off, rfl, rfl, hcs⟩
      · omega
      have hcell : w.cell? ⟨b, off + k, none⟩ = some (.int .i64 l[k]) := by rw [hcs k (by omega), List.getElem?_map, List.getElem?_eq_getElem hlt]; rfl
      have hyes : l[k] = p → idxI l p = k := fun e => idxI_at hlt e HNO.out
      have hsucc : l[k] ≠ p → p ∉ l.take (k + 1) := by
        intro h1 h3
        rw [List.take_succ_eq_append_getElem hlt, List.mem_append] at h3
        rcases h3 with h | h
        · exact HNO.out h
        · simp at h; exact h1 h.symm
      have HY := Lib.hid hyes
      have HN := Lib.hid hsucc
      clear hcs hyes hsucc
      generalize l[k] = x at *
      have i0 : (0 : Int) ≤ (k : Int) := by omega
      have i1 : (k : Int) < (l.length : Int) := by omega
      by_cases hx : x = p
      · have hxb : (x == p) = true := by simp [hx]
        have hres := HY.out hx
        have HRES := Lib.hid hres
        clear hres hx
        go_wp2_with fail
        go_ret
        exact ⟨by rw [HRES.out]; rfl, rfl⟩
      · have hxb : (x == p) = false := by simp [hx]
        have hres := HN.out hx
        have HRES := Lib.hid hres
        clear hres hx
        go_wp2_with fail
        go_round
        case rel => exact ⟨k + 1, by omega, by go_num, HRES.out⟩
        case measure => simp [intOf]; omega
    · have hres : idxI l p = -1 := idxI_none (by have := HNO.out; rwa [List.take_of_length_le (by omega)] at this)
      have HRES := Lib.hid hres
      clear hres
      go_wp2_with fail
      go_ret
      exact ⟨by rw [HRES.out]; rfl, rfl⟩

end Go.Proofs.Ytphfmbkfcjiciaa
