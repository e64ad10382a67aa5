/- putExtent; manifests as they lie. -/
import Derived.Test.YtngepgnmlpinaaaMn5
namespace Go.Proofs.Ytngepgnmlpinaaa
open Go.RowKit Go.Emb

theorem rd_block {w : World} {b E n k : Nat} {xs : List Value} (hb : w.heap[b]? = some (.cells xs.toArray E)) (hl : xs.length = n * k) (hn : n ≤ maxLen) : Rd w k (.slice (some ⟨b, 0, none⟩) n n) n xs (some b) :=
  ⟨hl, _, _, rfl, Nat.le_refl _, hn, .inr ⟨b, 0, rfl, rfl, fun i hi => by simp [World.cell?, hb]⟩⟩
theorem heap_new (w : World) (o : Obj) : (w.alloc o).heap[w.heap.size]? = some o := by
  show (w.heap.push o)[w.heap.size]? = some o
  simp
set_option maxRecDepth 100000 in
set_option maxHeartbeats 1000000 in
theorem p_putExtent {w : World} {v : Value} {bs : List UInt8} {o : Option Nat} (h : RB w v bs o) {f l : Int} (hf : I64 f) (hl : I64 l) (hsz : (bs ++ extL (f, l)).length ≤ 1000000000) :
    Calls Try.prog 41 #[v, .agg #[.int .i64 f, .int .i64 l]] w (GrewP o w (bs ++ extL (f, l))) := by
  have hk : Keep [] w ((w.alloc (.cells #[.int .i64 f, .int .i64 l] 23)).alloc (.cells #[.int .i64 f, .int .i64 l] 2)) := ((Keep.refl [] w).alloc _).alloc _
  have hb : ((w.alloc (.cells #[.int .i64 f, .int .i64 l] 23)).alloc (.cells #[.int .i64 f, .int .i64 l] 2)).heap[w.heap.size + 1]? = some (.cells #[.int .i64 f, .int .i64 l] 2) := by
    have h := heap_new (w.alloc (.cells #[.int .i64 f, .int .i64 l] 23)) (.cells #[.int .i64 f, .int .i64 l] 2)
    rwa [show (w.alloc (.cells #[.int .i64 f, .int .i64 l] 23)).heap.size = w.heap.size + 1 from by simp] at h
  have hrow : RB _ v bs o := h.keep hk (by simp)
  have hcall := p_int (ns := [f, l]) (ol := some (w.heap.size + 1)) hrow (rd_block (n := 2) (k := 1) (xs := [.int .i64 f, .int .i64 l]) hb rfl (by simp [maxLen])) (fun b hb => by cases hb; exact ⟨by simp, fun e => by have := h.lt _ e.symm; omega⟩) (by intro x hx; simp at hx; rcases hx with rfl | rfl; exact hf; exact hl) (by simpa [extL] using hsz)
  have HK := Lib.hid hk
  have hst : (bs ++ [f, l].flatMap fun x => intL x) = bs ++ extL (f, l) := by simp [extL]
  rw [hst] at hcall
  have HC := Lib.hid hcall
  obtain ⟨a, c, rfl, hc1, hc2⟩ := h.form
  clear h hb hrow hcall hk hst hsz
  go_enter Try.func41, Try.ntmps41
  go_wp2_with fail
  refine HC.out.mono ?_
  intro e w3 hg
  have hg2 := GrewP.trans (o := o) (HK.out.mono (fun _ h => nomatch h)) (.inl rfl) hg
  obtain ⟨v3, o3, rfl, hrest⟩ := hg2
  have HG := Lib.hid hrest
  clear hrest hg
  go_wp2_with fail
  go_ret
  exact ⟨v3, o3, rfl, HG.out⟩

/-! ### manifests as they lie -/
def encX (x : Int × Int) : List Value := [.int .i64 x.1, .int .i64 x.2]
/-- v is a list of extents that is read below B -/
def RdX (B : Nat) (w : World) (v : Value) (xs : List (Int × Int)) : Prop := (∃ o, Rd w 2 v xs.length (xs.flatMap encX) o ∧ ∀ b, o = some b → b < B) ∧ (∀ x ∈ xs, ExtOk x) ∧ xs.length * 16 ≤ 140737488355328
theorem flat_at {α : Type} {e : α → List Value} {m : Nat} (he : ∀ x, (e x).length = m) : ∀ (l : List α) (k : Nat) (h : k < l.length) (j : Nat), j < m → (l.flatMap e)[k * m + j]? = (e l[k])[j]?
  | [], k, h, _, _ => by simp at h
  | x :: l, 0, h, j, hj => by
    rw [List.flatMap_cons, List.getElem?_append_left (by rw [he]; omega)]
    simp
  | x :: l, k + 1, h, j, hj => by
    rw [List.flatMap_cons, List.getElem?_append_right (by rw [he, Nat.succ_mul]; omega), he, show (k + 1) * m + j - m = k * m + j from by rw [Nat.succ_mul]; omega, flat_at he l k (by simpa using h) j hj]
    simp
theorem rd_at {α : Type} {e : α → List Value} {m : Nat} (he : ∀ x, (e x).length = m) {w : World} {a : Option Addr} {c n : Nat} {l : List α} {o : Option Nat} (h : Rd w m (.slice a n c) l.length (l.flatMap e) o) {k : Nat} (hk : k < l.length) (hm : 0 < m) :
    ∃ b off, a = some ⟨b, off, none⟩ ∧ o = some b ∧ ∀ j, j < m → w.cell? ⟨b, off + (k * m + j), none⟩ = (e l[k])[j]? := by
  obtain ⟨hl, a', c', hv, _, _, h3⟩ := h
  cases hv
  rcases h3 with ⟨h3, _⟩ | ⟨b, off, rfl, rfl, h3⟩
  · omega
  · refine ⟨b, off, rfl, rfl, fun j hj => ?_⟩
    have : k * m + m ≤ l.length * m := by rw [← Nat.succ_mul]; exact Nat.mul_le_mul_right _ hk
    rw [h3 (k * m + j) (by omega), flat_at he l k hk j hj]
theorem RdX.at {B : Nat} {w : World} {a : Option Addr} {c n : Nat} {l : List (Int × Int)} (h : RdX B w (.slice a n c) l) {k : Nat} (hk : k < l.length) :
    ∃ b off, a = some ⟨b, off, none⟩ ∧ b < B ∧ w.cell? ⟨b, off + k * 2, none⟩ = some (.int .i64 l[k].1) ∧ w.cell? ⟨b, off + k * 2 + 1, none⟩ = some (.int .i64 l[k].2) := by
  obtain ⟨⟨o, h1, h2⟩, -, -⟩ := h
  obtain ⟨b, off, rfl, rfl, h3⟩ := rd_at (m := 2) (fun _ => rfl) h1 hk (by omega)
  exact ⟨b, off, rfl, h2 b rfl, by simpa [encX] using h3 0 (by omega), by simpa [encX, Nat.add_assoc] using h3 1 (by omega)⟩
theorem RdX.slice {B : Nat} {w : World} {v : Value} {l : List (Int × Int)} (h : RdX B w v l) : ∃ a c, v = .slice a l.length c ∧ l.length ≤ c ∧ c ≤ maxLen := by
  obtain ⟨⟨o, ⟨-, a, c, h1, h2, h3, -⟩, -⟩, -, -⟩ := h
  exact ⟨a, c, h1, h2, h3⟩
/-- a place as it lies: its pieces' slice -/
structure PlV where
  p : Plc
  v : Value
def encP (x : PlV) : List Value := [.int .i64 x.p.pid, .int .i64 x.p.len, x.v]
def RdP1 (B : Nat) (w : World) (x : PlV) : Prop := I64 x.p.pid ∧ I64 x.p.len ∧ RdX B w x.v x.p.pieces
/-- v is a list of places that is read below B -/
def RdPs (B : Nat) (w : World) (v : Value) (xs : List PlV) : Prop := (∃ o, Rd w 3 v xs.length (xs.flatMap encP) o ∧ ∀ b, o = some b → b < B) ∧ (∀ x ∈ xs, RdP1 B w x) ∧ xs.length * 40 ≤ 140737488355328
theorem RdPs.at {B : Nat} {w : World} {a : Option Addr} {c n : Nat} {l : List PlV} (h : RdPs B w (.slice a n c) l) {k : Nat} (hk : k < l.length) :
    ∃ b off, a = some ⟨b, off, none⟩ ∧ b < B ∧ w.cell? ⟨b, off + k * 3, none⟩ = some (.int .i64 l[k].p.pid) ∧ w.cell? ⟨b, off + k * 3 + 1, none⟩ = some (.int .i64 l[k].p.len) ∧ w.cell? ⟨b, off + k * 3 + 2, none⟩ = some l[k].v := by
  obtain ⟨⟨o, h1, h2⟩, -, -⟩ := h
  obtain ⟨b, off, rfl, rfl, h3⟩ := rd_at (m := 3) (fun _ => rfl) h1 hk (by omega)
  exact ⟨b, off, rfl, h2 b rfl, by simpa [encP] using h3 0 (by omega), by simpa [encP, Nat.add_assoc] using h3 1 (by omega), by simpa [encP, Nat.add_assoc] using h3 2 (by omega)⟩
/-- bytes that are read below B -/
def RdB (B : Nat) (w : World) (v : Value) (bs : List UInt8) : Prop := (∃ o, Rd w 1 v bs.length (Lib.byteCells bs) o ∧ ∀ b, o = some b → b < B) ∧ bs.length ≤ 140737488355328
/-- a manifest as it lies -/
structure MnV where
  s : ByteArray
  area : Int × Int
  rv : Value
  rest : List UInt8
  pv : Value
  places : List PlV
def MnV.man (m : MnV) : Man := ⟨m.s.data.toList, m.area, m.rest, m.places.map (·.p)⟩
def aggM (m : MnV) : Value := .agg #[.string m.s, .int .i64 m.area.1, .int .i64 m.area.2, m.rv, m.pv]
def RdM (B : Nat) (w : World) (m : MnV) : Prop := m.s.size ≤ 140737488355328 ∧ ExtOk m.area ∧ RdB B w m.rv m.rest ∧ RdPs B w m.pv m.places
theorem RdX.keep {B : Nat} {F : List Nat} {w w' : World} {v : Value} {xs : List (Int × Int)} (h : RdX B w v xs) (hk : Keep F w w') (hF : ∀ b ∈ F, B ≤ b) : RdX B w' v xs := by
  obtain ⟨⟨o, h1, h2⟩, h3, h4⟩ := h
  exact ⟨⟨o, h1.keep hk (fun b hb hm => by have := h2 b hb; have := hF b hm; omega), h2⟩, h3, h4⟩
theorem RdP1.keep {B : Nat} {F : List Nat} {w w' : World} {x : PlV} (h : RdP1 B w x) (hk : Keep F w w') (hF : ∀ b ∈ F, B ≤ b) : RdP1 B w' x := ⟨h.1, h.2.1, h.2.2.keep hk hF⟩
theorem RdPs.keep {B : Nat} {F : List Nat} {w w' : World} {v : Value} {xs : List PlV} (h : RdPs B w v xs) (hk : Keep F w w') (hF : ∀ b ∈ F, B ≤ b) : RdPs B w' v xs := by
  obtain ⟨⟨o, h1, h2⟩, h3, h4⟩ := h
  exact ⟨⟨o, h1.keep hk (fun b hb hm => by have := h2 b hb; have := hF b hm; omega), h2⟩, fun x hx => (h3 x hx).keep hk hF, h4⟩
theorem RdB.keep {B : Nat} {F : List Nat} {w w' : World} {v : Value} {bs : List UInt8} (h : RdB B w v bs) (hk : Keep F w w') (hF : ∀ b ∈ F, B ≤ b) : RdB B w' v bs := by
  obtain ⟨⟨o, h1, h2⟩, h3⟩ := h
  exact ⟨⟨o, h1.keep hk (fun b hb hm => by have := h2 b hb; have := hF b hm; omega), h2⟩, h3⟩
theorem RdM.keep {B : Nat} {F : List Nat} {w w' : World} {m : MnV} (h : RdM B w m) (hk : Keep F w w') (hF : ∀ b ∈ F, B ≤ b) : RdM B w' m := ⟨h.1, h.2.1, h.2.2.1.keep hk hF, h.2.2.2.keep hk hF⟩
end Go.Proofs.Ytngepgnmlpinaaa
