import Derived.Test.YtdmmhfbafinkpaaGreatDoorPa2
import Derived.Test.YtdmmhfbafinkpaaGreatDoorProg
import Derived.WalkKit
import Derived.Lib.Hide
import Derived.Test.YtdmmhfbafinkpaaGreatDoorPaE
import Derived.Laws.Rows
import Derived.Shelf.Abstract
/- Parse: boxes and literals of nodes. -/
namespace Go.Proofs.YtdmmhfbafinkpaaGreatDoor
open Go.RowKit Go.Emb

theorem size_alloc (w : World) (o : Obj) : (w.alloc o).heap.size = w.heap.size + 1 := by simp
theorem node_size : (Tryz.prog.info? 29).map (·.size) = some 7 := by kernel_rfl
theorem clause_size : (Tryz.prog.info? 52).map (·.size) = some 5 := by kernel_rfl
theorem cells7 {w : World} {q : Nat} {a b c d e f g : Value} {t : TypeId} (h : w.heap[q]? = some (.cells #[a, b, c, d, e, f, g] t (0, 0))) : w.cell? ⟨q, 0, none⟩ = some a ∧ w.cell? ⟨q, 1, none⟩ = some b ∧ w.cell? ⟨q, 2, none⟩ = some c ∧ w.cell? ⟨q, 3, none⟩ = some d ∧ w.cell? ⟨q, 4, none⟩ = some e ∧ w.cell? ⟨q, 5, none⟩ = some f ∧ w.cell? ⟨q, 6, none⟩ = some g := by
  refine ⟨?_, ?_, ?_, ?_, ?_, ?_, ?_⟩ <;> simp [World.cell?, h]
theorem cells5 {w : World} {q : Nat} {a b c d e : Value} {t : TypeId} (h : w.heap[q]? = some (.cells #[a, b, c, d, e] t (0, 0))) : w.cell? ⟨q, 0, none⟩ = some a ∧ w.cell? ⟨q, 1, none⟩ = some b ∧ w.cell? ⟨q, 2, none⟩ = some c ∧ w.cell? ⟨q, 3, none⟩ = some d ∧ w.cell? ⟨q, 4, none⟩ = some e := by
  refine ⟨?_, ?_, ?_, ?_, ?_⟩ <;> simp [World.cell?, h]
/-- seven cells are written -/
theorem set7 {w : World} {q : Nat} {a b c d e f g : Value} {t : TypeId} (h : w.heap[q]? = some (.cells #[a, b, c, d, e, f, g] t (0, 0))) (a' b' c' d' e' f' g' : Value) :
    (((((((w.setCell ⟨q, 0, none⟩ a').setCell ⟨q, 1, none⟩ b').setCell ⟨q, 2, none⟩ c').setCell ⟨q, 3, none⟩ d').setCell ⟨q, 4, none⟩ e').setCell ⟨q, 5, none⟩ f').setCell ⟨q, 6, none⟩ g').heap[q]? = some (.cells #[a', b', c', d', e', f', g'] t (0, 0))
    ∧ Keep [q] w (((((((w.setCell ⟨q, 0, none⟩ a').setCell ⟨q, 1, none⟩ b').setCell ⟨q, 2, none⟩ c').setCell ⟨q, 3, none⟩ d').setCell ⟨q, 4, none⟩ e').setCell ⟨q, 5, none⟩ f').setCell ⟨q, 6, none⟩ g') :=
  ⟨by simpa using heap_setCell_at (i := 6) (heap_setCell_at (i := 5) (heap_setCell_at (i := 4) (heap_setCell_at (i := 3) (heap_setCell_at (i := 2) (heap_setCell_at (i := 1) (heap_setCell_at (i := 0) h a') b') c') d') e') f') g',
   ((((((Keep.set1 w ⟨q, 0, none⟩ a').setCell (.inl (by simp)) _).setCell (.inl (by simp)) _).setCell (.inl (by simp)) _).setCell (.inl (by simp)) _).setCell (.inl (by simp)) _).setCell (.inl (by simp)) _⟩
theorem flat_get (m : Nat) : ∀ (es : List (List Value)), (∀ e ∈ es, e.length = m) → es.flatten.length = es.length * m
  | [], _ => by simp
  | e :: es, h => by
    rw [List.flatten_cons, List.length_append, flat_get m es (fun x hx => h x (by simp [hx])), h e (by simp), List.length_cons, Nat.succ_mul]
    omega
/-- a literal of trees -/
theorem NsR.lit {lo : Nat} {w : World} {k : Bool} {es : List (List Value)} {ns : List Nd} {n : Nat} {cs : Array Value} (t : TypeId) (hlo : lo ≤ w.heap.size) (hlen : es.length = ns.length) (hn : n = ns.length) (hm : n ≤ maxLen) (hcs : cs = es.flatten.toArray)
    (h : ∀ i (h : i < es.length) (h' : i < ns.length), NdR (Frs lo w) w k es[i] ns[i]) :
    NsR (Frs lo (w.alloc (.cells cs t))) (w.alloc (.cells cs t)) k (.slice (some ⟨w.heap.size, 0, none⟩) n n) ns := by
  subst hn hcs
  have hk := (Keep.refl [] w).alloc (.cells es.flatten.toArray t)
  have hsz : (w.alloc (.cells es.flatten.toArray t)).heap.size = w.heap.size + 1 := by simp
  have hfl : es.flatten.length = es.length * wid k := flat_get _ _ (fun e he => by
    obtain ⟨i, hi, rfl⟩ := List.mem_iff_getElem.1 he
    exact (h i hi (by omega)).len)
  refine ⟨es, some w.heap.size, ⟨by rw [hfl, hlen], _, _, rfl, Nat.le_refl _, hm, .inr ⟨_, 0, rfl, rfl, fun i hi => ?_⟩⟩, fun x hx => ?_, hlen, fun i h1 h2 => (h i h1 h2).up hk (by simp) (Nat.le_refl _)⟩
  · have h := heap_alloc_new w (.cells es.flatten.toArray t)
    rw [World.cell?, h]
    simp
  · cases hx
    exact ⟨hlo, by omega⟩
theorem NsR.lit1 {lo : Nat} {w : World} {k : Bool} {e : List Value} {n : Nd} {cs : Array Value} (t : TypeId) (hlo : lo ≤ w.heap.size) (hcs : cs = e.toArray) (h : NdR (Frs lo w) w k e n) :
    NsR (Frs lo (w.alloc (.cells cs t))) (w.alloc (.cells cs t)) k (.slice (some ⟨w.heap.size, 0, none⟩) 1 1) [n] :=
  NsR.lit t hlo (es := [e]) rfl rfl (by simp [maxLen]) (by simpa using hcs) (fun i h1 h2 => by
    have : i = 0 := by simp at h1; omega
    subst this
    exact h)
theorem NsR.lit2 {lo : Nat} {w : World} {k : Bool} {e e' : List Value} {n n' : Nd} {cs : Array Value} (t : TypeId) (hlo : lo ≤ w.heap.size) (hcs : cs = (e ++ e').toArray) (h : NdR (Frs lo w) w k e n) (h' : NdR (Frs lo w) w k e' n') :
    NsR (Frs lo (w.alloc (.cells cs t))) (w.alloc (.cells cs t)) k (.slice (some ⟨w.heap.size, 0, none⟩) 2 2) [n, n'] :=
  NsR.lit t hlo (es := [e, e']) rfl rfl (by simp [maxLen]) (by simpa using hcs) (fun i h1 h2 => by
    have : i = 0 ∨ i = 1 := by simp at h1; omega
    rcases this with rfl | rfl
    · exact h
    · exact h')
/-- blocks from a on, below b -/
def FrI (a b x : Nat) : Prop := a ≤ x ∧ x < b
theorem NdR.fix {lo : Nat} {w : World} {k : Bool} {cs : List Value} {n : Nd} (h : NdR (Frs lo w) w k cs n) : NdR (FrI lo w.heap.size) w k cs n := h
theorem NdR.keepI {a b : Nat} {w w' : World} {k : Bool} {cs : List Value} {n : Nd} {F : List Nat} (h : NdR (FrI a b) w k cs n) (hk : Keep F w w') (hF : ∀ x ∈ F, x < a ∨ b ≤ x) : NdR (FrI a b) w' k cs n :=
  h.keep hk (fun x hx hc => by have := hF x hx; have h1 := hc.1; have h2 := hc.2; omega)
theorem NdR.fin {a b lo : Nat} {w : World} {k : Bool} {cs : List Value} {n : Nd} (h : NdR (FrI a b) w k cs n) (ha : lo ≤ a) (hb : b ≤ w.heap.size) : NdR (Frs lo w) w k cs n :=
  h.mono (fun x hx => ⟨Nat.le_trans ha hx.1, Nat.lt_of_lt_of_le hx.2 hb⟩)
/-- what two trees and their row read -/
def FrII (a b c d e x : Nat) : Prop := FrI a b x ∨ FrI c d x ∨ x = e
theorem NsR.lit2I {a b c d : Nat} {w : World} {k : Bool} {e e' : List Value} {n n' : Nd} {cs : Array Value} (t : TypeId) (hcs : cs = (e ++ e').toArray) (h : NdR (FrI a b) w k e n) (h' : NdR (FrI c d) w k e' n') :
    NsR (FrII a b c d w.heap.size) (w.alloc (.cells cs t)) k (.slice (some ⟨w.heap.size, 0, none⟩) 2 2) [n, n'] := by
  subst hcs
  have hk := (Keep.refl [] w).alloc (.cells (e ++ e').toArray t)
  have h1 := h.keepI hk (by simp)
  have h2 := h'.keepI hk (by simp)
  refine ⟨[e, e'], some w.heap.size, ⟨by simp [h.len, h'.len]; omega, _, _, rfl, Nat.le_refl _, by simp [maxLen], .inr ⟨_, 0, rfl, rfl, fun i hi => ?_⟩⟩, fun x hx => ?_, rfl, fun i h3 h4 => ?_⟩
  · have h := heap_alloc_new w (.cells (e ++ e').toArray t)
    rw [World.cell?, h]
    simp
  · cases hx
    exact .inr (.inr rfl)
  · have : i = 0 ∨ i = 1 := by simp at h3; omega
    rcases this with rfl | rfl
    · exact h1.mono (fun x hx => .inl hx)
    · exact h2.mono (fun x hx => .inr (.inl hx))
theorem NsR.finII {a b c d e lo : Nat} {w w' : World} {k : Bool} {v : Value} {l : List Nd} {F : List Nat} (h : NsR (FrII a b c d e) w k v l) (hk : Keep F w w') (hF : ∀ x ∈ F, (x < a ∨ b ≤ x) ∧ (x < c ∨ d ≤ x) ∧ x ≠ e) (ha : lo ≤ a) (hc : lo ≤ c) (he : lo ≤ e) (hb : b ≤ w'.heap.size) (hd : d ≤ w'.heap.size) (he' : e < w'.heap.size) : NsR (Frs lo w') w' k v l := by
  refine (h.keep hk (fun x hx hs => ?_)).mono (fun x hx => ?_)
  · have h0 := hF x hx
    rcases hs with hs | hs | hs
    · have h1 := hs.1; have h2 := hs.2; omega
    · have h1 := hs.1; have h2 := hs.2; omega
    · exact h0.2.2 hs
  · rcases hx with hs | hs | hs
    · have h1 := hs.1; have h2 := hs.2; exact ⟨by omega, by omega⟩
    · have h1 := hs.1; have h2 := hs.2; exact ⟨by omega, by omega⟩
    · subst hs; exact ⟨he, he'⟩
theorem NdR.keepX {lo : Nat} {w w' : World} {o : Option Nat} {k : Bool} {cs : List Value} {n : Nd} {F : List Nat} (h : NdR (FrsX lo w o) w k cs n) (hk : Keep F w w') (hF : ∀ x ∈ F, x < lo ∨ o = some x) : NdR (FrsX lo w' o) w' k cs n :=
  (h.keep hk (fun x hx hc => by
    rcases hF x hx with h1 | h1
    · have := hc.1; omega
    · exact hc.2.2 h1)).mono (fun b h => ⟨h.1, Nat.lt_of_lt_of_le h.2.1 hk.size, h.2.2⟩)
theorem NsR.keepX {lo : Nat} {w w' : World} {o : Option Nat} {k : Bool} {v : Value} {l : List Nd} {F : List Nat} (h : NsR (FrsX lo w o) w k v l) (hk : Keep F w w') (hF : ∀ x ∈ F, x < lo ∨ o = some x) : NsR (FrsX lo w' o) w' k v l :=
  (h.keep hk (fun x hx hc => by
    rcases hF x hx with h1 | h1
    · have := hc.1; omega
    · exact hc.2.2 h1)).mono (fun b h => ⟨h.1, Nat.lt_of_lt_of_le h.2.1 hk.size, h.2.2⟩)
theorem NsR.lit2X {lo : Nat} {w : World} {o : Option Nat} {k : Bool} {e e' : List Value} {n n' : Nd} {cs : Array Value} (t : TypeId) (hcs : cs = (e ++ e').toArray) (hlo : lo ≤ w.heap.size) (ho : ∀ b, o = some b → b < w.heap.size) (h : NdR (FrsX lo w o) w k e n) (h' : NdR (FrsX lo w o) w k e' n') :
    NsR (FrsX lo (w.alloc (.cells cs t)) o) (w.alloc (.cells cs t)) k (.slice (some ⟨w.heap.size, 0, none⟩) 2 2) [n, n'] := by
  subst hcs
  have hk := (Keep.refl [] w).alloc (.cells (e ++ e').toArray t)
  have h1 := h.keepX hk (by simp)
  have h2 := h'.keepX hk (by simp)
  refine ⟨[e, e'], some w.heap.size, ⟨by simp [h.len, h'.len]; omega, _, _, rfl, Nat.le_refl _, by simp [maxLen], .inr ⟨_, 0, rfl, rfl, fun i hi => ?_⟩⟩, fun x hx => ?_, rfl, fun i h3 h4 => ?_⟩
  · have h := heap_alloc_new w (.cells (e ++ e').toArray t)
    rw [World.cell?, h]
    simp
  · cases hx
    exact ⟨hlo, by rw [size_alloc]; omega, fun e => by have := ho _ e; omega⟩
  · have : i = 0 ∨ i = 1 := by simp at h3; omega
    rcases this with rfl | rfl
    · exact h1
    · exact h2
theorem NsR.lit1X {lo : Nat} {w : World} {o : Option Nat} {k : Bool} {e : List Value} {n : Nd} {cs : Array Value} (t : TypeId) (hcs : cs = e.toArray) (hlo : lo ≤ w.heap.size) (ho : ∀ b, o = some b → b < w.heap.size) (h : NdR (FrsX lo w o) w k e n) :
    NsR (FrsX lo (w.alloc (.cells cs t)) o) (w.alloc (.cells cs t)) k (.slice (some ⟨w.heap.size, 0, none⟩) 1 1) [n] := by
  subst hcs
  have hk := (Keep.refl [] w).alloc (.cells e.toArray t)
  have h1 := h.keepX hk (by simp)
  refine ⟨[e], some w.heap.size, ⟨by simp [h.len], _, _, rfl, Nat.le_refl _, by simp [maxLen], .inr ⟨_, 0, rfl, rfl, fun i hi => ?_⟩⟩, fun x hx => ?_, rfl, fun i h3 h4 => ?_⟩
  · have h := heap_alloc_new w (.cells e.toArray t)
    rw [World.cell?, h]
    simp
  · cases hx
    exact ⟨hlo, by rw [size_alloc]; omega, fun e => by have := ho _ e; omega⟩
  · have : i = 0 := by simp at h3; omega
    subst this
    exact h1
theorem NsR.consApp {lo : Nat} {w1 w3 : World} {o : Option Nat} {csa : List Value} {a : Nd} {es : List (List Value)} {l : List Nd} {v' : Value} {g : Nat} {ob : Obj} (ha : NdR (FrsX lo w1 o) w1 false csa a) (hes : es.length = l.length) (hl : ∀ i (h : i < es.length) (h' : i < l.length), NdR (FrsX lo w1 o) w1 false es[i] l[i])
    (hk : Keep [w1.heap.size] (w1.alloc ob) w3) (hr : Row w3 29 7 v' (1 + l.length) (csa ++ es.flatten) (some g)) (hg : w1.heap.size = g ∨ (w1.alloc ob).heap.size ≤ g) (hlo : lo ≤ w1.heap.size) (ho : ∀ b, o = some b → b < w1.heap.size) : NsR (FrsX lo w3 o) w3 false v' (a :: l) := by
  have hlt := Row.lt hr g rfl
  obtain ⟨o', h5, h6⟩ := Row.rd hr
  have hk0 := (Keep.refl [] w1).alloc ob
  have hsz := hk.size
  rw [size_alloc] at hsz hg
  have hup : ∀ {cs n}, NdR (FrsX lo w1 o) w1 false cs n → NdR (FrsX lo w3 o) w3 false cs n := fun h =>
    ((h.keep hk0 (by simp)).keep hk (fun b hb hc => by simp at hb; have := hc.2.1; omega)).mono (fun b h => ⟨h.1, by have := h.2.1; omega, h.2.2⟩)
  refine ⟨csa :: es, o', ?_, fun x hx => ?_, by simp [hes], fun i h h' => ?_⟩
  · rw [List.flatten_cons, List.length_cons, Nat.add_comm]
    exact h5
  · rcases h6 with h6 | h6
    · rw [h6] at hx; cases hx
    · rw [h6] at hx
      cases hx
      exact ⟨by omega, hlt, fun e => by have := ho _ e; omega⟩
  · cases i with
    | zero => exact hup ha
    | succ i => exact hup (hl i (by simpa using h) (by simpa using h'))
theorem NdR.toX {a lo : Nat} {w : World} {o : Option Nat} {k : Bool} {cs : List Value} {n : Nd} (h : NdR (Frs a w) w k cs n) (ha : lo ≤ a) (ho : ∀ b, o = some b → b < a) : NdR (FrsX lo w o) w k cs n :=
  h.mono (fun b h => ⟨Nat.le_trans ha h.1, h.2, fun e => by have := ho _ e; have := h.1; omega⟩)
theorem NsR.toX {a lo : Nat} {w : World} {o : Option Nat} {k : Bool} {v : Value} {l : List Nd} (h : NsR (Frs a w) w k v l) (ha : lo ≤ a) (ho : ∀ b, o = some b → b < a) : NsR (FrsX lo w o) w k v l :=
  h.mono (fun b h => ⟨Nat.le_trans ha h.1, h.2, fun e => by have := ho _ e; have := h.1; omega⟩)
end Go.Proofs.YtdmmhfbafinkpaaGreatDoor

/- Parse: what the parser's functions answer. -/
namespace Go.Proofs.YtdmmhfbafinkpaaGreatDoor
open Go.RowKit Go.Emb

def NodeP (lo : Nat) (w : World) (pb : Nat) (f : Nat → P Nd) (s : St) (e : Ending) (w' : World) : Prop :=
  ∃ cs n s', e = .returned (.agg cs.toArray) ∧ Ev f s n s' ∧ NdR (Frs w.heap.size w') w' false cs n ∧ PS lo w' pb s' ∧ s'.toks.length ≤ s.toks.length ∧ Keep [pb] w w'
def ListP (lo : Nat) (w : World) (pb : Nat) (k : Bool) (f : Nat → P (List Nd)) (s : St) (e : Ending) (w' : World) : Prop :=
  ∃ v l s', e = .returned v ∧ Ev f s l s' ∧ NsR (Frs w.heap.size w') w' k v l ∧ PS lo w' pb s' ∧ s'.toks.length ≤ s.toks.length ∧ Keep [pb] w w'
/-- a clause that is written -/
def OneP (lo : Nat) (w : World) (pb cb : Nat) (f : Nat → P Nd) (s : St) (e : Ending) (w' : World) : Prop :=
  ∃ cs n s', e = .returned (.tuple #[]) ∧ Ev f s n s' ∧ w'.heap[cb]? = some (.cells cs.toArray 52 (0, 0)) ∧ NdR (Frs w.heap.size w') w' true cs n ∧ PS lo w' pb s' ∧ s'.toks.length ≤ s.toks.length ∧ Keep [pb, cb] w w'
/-- a clause's guards and body that are written -/
def BodyP (lo : Nat) (w : World) (pb cb : Nat) (pv : Value) (nm : List UInt8) (at_ : Int) (f : Nat → P (List Nd × List Nd)) (s : St) (e : Ending) (w' : World) : Prop :=
  ∃ gv bv g s', e = .returned (.tuple #[]) ∧ Ev f s g s' ∧ w'.heap[cb]? = some (.cells #[pv, gv, bv, .string ⟨nm.toArray⟩, .int .i64 at_] 52 (0, 0)) ∧ NsR (Frs w.heap.size w') w' false gv g.1 ∧ NsR (Frs w.heap.size w') w' false bv g.2 ∧ PS lo w' pb s' ∧ s'.toks.length ≤ s.toks.length ∧ Keep [pb, cb] w w'
structure AllC (lo pb : Nat) (m : Nat) : Prop where
  expr : ∀ {w : World} {s : St} {d : Nat}, PS lo w pb s → lo ≤ w.heap.size → d + s.toks.length ≤ 1000000 → 32 * s.toks.length + 9 < m →
    Calls Tryz.prog 43 #[.pointer (some ⟨pb, 0, none⟩), .int .i64 d] w (NodeP lo w pb (fun n => expr n d) s)
  binary : ∀ {w : World} {s : St} {v d : Nat}, PS lo w pb s → lo ≤ w.heap.size → d + s.toks.length ≤ 1000000 → v ≤ 5 → 32 * s.toks.length + 3 + (5 - v) < m →
    Calls Tryz.prog 66 #[.pointer (some ⟨pb, 0, none⟩), .int .i64 v, .int .i64 d] w (NodeP lo w pb (fun n => binary n v d) s)
  unary : ∀ {w : World} {s : St} {d : Nat}, PS lo w pb s → lo ≤ w.heap.size → d + s.toks.length ≤ 1000000 → 32 * s.toks.length + 2 < m →
    Calls Tryz.prog 98 #[.pointer (some ⟨pb, 0, none⟩), .int .i64 d] w (NodeP lo w pb (fun n => unary n d) s)
  call : ∀ {w : World} {s : St} {d : Nat}, PS lo w pb s → lo ≤ w.heap.size → d + s.toks.length ≤ 1000000 → 32 * s.toks.length + 1 < m →
    Calls Tryz.prog 117 #[.pointer (some ⟨pb, 0, none⟩), .int .i64 d] w (NodeP lo w pb (fun n => call n d) s)
  prim : ∀ {w : World} {s : St} {d : Nat}, PS lo w pb s → lo ≤ w.heap.size → d + s.toks.length ≤ 1000000 → 32 * s.toks.length < m →
    Calls Tryz.prog 131 #[.pointer (some ⟨pb, 0, none⟩), .int .i64 d] w (NodeP lo w pb (fun n => prim n d) s)
  someL : ∀ {w : World} {s : St} {d : Nat}, PS lo w pb s → lo ≤ w.heap.size → d + s.toks.length ≤ 1000000 → 32 * s.toks.length + 10 < m →
    Calls Tryz.prog 116 #[.pointer (some ⟨pb, 0, none⟩), .int .i64 d] w (ListP lo w pb false (fun n => someL n d) s)
  untilL : ∀ {w : World} {s : St} {d : Nat} {x : List UInt8}, PS lo w pb s → lo ≤ w.heap.size → d + s.toks.length ≤ 1000000 → 32 * s.toks.length + 11 < m →
    Calls Tryz.prog 95 #[.pointer (some ⟨pb, 0, none⟩), .string ⟨x.toArray⟩, .int .i64 d] w (ListP lo w pb false (fun n => untilL n x d) s)
  bodyP : ∀ {w : World} {s : St} {d cb : Nat} {pv : Value} {nm : List UInt8} {at_ : Int}, PS lo w pb s → lo ≤ w.heap.size → d + s.toks.length ≤ 1000000 → 32 * s.toks.length + 11 < m → lo ≤ cb →
    w.heap[cb]? = some (.cells #[pv, .slice none 0 0, .slice none 0 0, .string ⟨nm.toArray⟩, .int .i64 at_] 52 (0, 0)) →
    Calls Tryz.prog 96 #[.pointer (some ⟨pb, 0, none⟩), .pointer (some ⟨cb, 0, none⟩), .int .i64 d] w (BodyP lo w pb cb pv nm at_ (fun n => bodyP n d) s)
  headP : ∀ {w : World} {s : St} {d cb : Nat} {nm : List UInt8} {at_ : Int}, PS lo w pb s → lo ≤ w.heap.size → d + s.toks.length ≤ 1000000 → 32 * s.toks.length + 12 < m → lo ≤ cb →
    w.heap[cb]? = some (.cells #[.slice none 0 0, .slice none 0 0, .slice none 0 0, .string ⟨nm.toArray⟩, .int .i64 at_] 52 (0, 0)) →
    Calls Tryz.prog 62 #[.pointer (some ⟨pb, 0, none⟩), .pointer (some ⟨cb, 0, none⟩), .int .i64 d] w (OneP lo w pb cb (fun n => headP n nm d) s)
  arms : ∀ {w : World} {s : St} {d : Nat}, PS lo w pb s → lo ≤ w.heap.size → d + s.toks.length ≤ 1000000 → 32 * s.toks.length + 15 < m →
    Calls Tryz.prog 146 #[.pointer (some ⟨pb, 0, none⟩), .int .i64 d] w (ListP lo w pb true (fun n => clausesL n 0 d) s)
  listP : ∀ {w : World} {s : St} {d : Nat} {at_ : Int}, PS lo w pb s → lo ≤ w.heap.size → d + s.toks.length ≤ 1000000 → 32 * s.toks.length + 12 < m →
    Calls Tryz.prog 144 #[.pointer (some ⟨pb, 0, none⟩), .int .i64 at_, .int .i64 d] w (NodeP lo w pb (fun n => listP n d) s)
theorem enter_len (d : Nat) (s : St) : (enterS d s).toks.length ≤ s.toks.length := (GoodS.enter d s).1
theorem take_len (l : List (List UInt8)) (s : St) : (takeS l s).2.toks.length ≤ s.toks.length := (Good.take l s).1
theorem has_len (x : List UInt8) (s : St) : (hasS x s).2.toks.length ≤ s.toks.length := (Good.has x s).1
theorem must_len (x : List UInt8) (s : St) : (mustS x s).toks.length ≤ s.toks.length := (GoodS.must x s).1
theorem take_lt {l : List (List UInt8)} {s : St} {t : List UInt8} (h : (takeS l s).1 = some t) : (takeS l s).2.toks.length + 1 ≤ s.toks.length ∧ t ∈ l := by
  unfold takeS at h ⊢
  split at h
  · rename_i hc
    obtain ⟨x, r, hx⟩ := next_cons hc.2
    rw [if_pos hc]
    injection h with h
    exact ⟨by simp [hx], by rw [← h]; exact hc.1⟩
  · cases h
theorem has_lt {x : List UInt8} {s : St} (h : (hasS x s).1 = true) : (hasS x s).2.toks.length + 1 ≤ s.toks.length := by
  unfold hasS at h ⊢
  obtain ⟨t, ht⟩ := Option.isSome_iff_exists.1 h
  exact (take_lt ht).1
/-- a box of a node -/
theorem keepB {w w' : World} {lo : Nat} {F : List Nat} {pb : Nat} (h : Keep F w w') (hF : ∀ b ∈ F, b = pb ∨ lo ≤ b) (hlo : w.heap.size ≤ lo) : Keep [pb] w w' := h.mono (fun b hb hl => by
  rcases hF b hb with h1 | h1
  · simp [h1]
  · omega)
/-- the zero node -/
abbrev zN : Obj := .cells #[.int .i64 0, .int .i64 0, .string ⟨#[]⟩, .int .i64 0, .slice none 0 0, .slice none 0 0, .slice none 0 0] 29
/-- a literal of texts is taken -/
theorem take_lit {lo : Nat} {w : World} {pb : Nat} {s : St} (h : PS lo w pb s) (l : List (List UInt8)) (n : Nat) (cs : Array Value) (hn : n = l.length) (hm : n ≤ maxLen) (hcs : cs = (l.map strV).toArray) :
    Calls Tryz.prog 68 #[.pointer (some ⟨pb, 0, none⟩), .slice (some ⟨w.heap.size, 0, none⟩) n n] (w.alloc (.cells cs 9)) fun e w' => e = .returned (.tuple #[.string ⟨((takeS l s).1.getD []).toArray⟩, .bool (takeS l s).1.isSome]) ∧ PS lo w' pb (takeS l s).2 ∧ Keep [pb] w w' := by
  have hk := (Keep.refl [] w).alloc (.cells cs 9)
  refine (p_take (h.keep0 hk) (rdT_lit w l n hn hm 9 cs hcs)).mono ?_
  rintro e w' ⟨h1, h2, h3⟩
  exact ⟨h1, h2, (hk.mono (by simp)).trans h3 (by simp)⟩
theorem take_litb {lo : Nat} {w : World} {pb b : Nat} {s : St} (h : PS lo w pb s) (hb : b = w.heap.size) (l : List (List UInt8)) (n : Nat) (cs : Array Value) (hn : n = l.length) (hm : n ≤ maxLen) (hcs : cs = (l.map strV).toArray) :
    Calls Tryz.prog 68 #[.pointer (some ⟨pb, 0, none⟩), .slice (some ⟨b, 0, none⟩) n n] (w.alloc (.cells cs 9)) fun e w' => e = .returned (.tuple #[.string ⟨((takeS l s).1.getD []).toArray⟩, .bool (takeS l s).1.isSome]) ∧ PS lo w' pb (takeS l s).2 ∧ Keep [pb] w w' := by
  subst hb
  exact take_lit h l n cs hn hm hcs
/-- how many tokens the parser has -/
def sliceN : Option Value → Nat
  | some (.slice _ n _) => n
  | _ => 0
def plen (w : World) (pb : Nat) : Nat := sliceN (w.cell? ⟨pb, 0, none⟩)
theorem PS.len {lo : Nat} {w : World} {pb : Nat} {s : St} (h : PS lo w pb s) : plen w pb = s.toks.length := by
  obtain ⟨v, o, h1, ⟨-, a, c, rfl, -⟩, -⟩ := h.blk
  unfold plen
  rw [(cells4p h1).1]
  rfl
theorem node_info : (Tryz.prog.info? 29).map (fun i => (i.zero, i.size, i.bytes)) = some (some (.agg #[.int .i64 0, .int .i64 0, .string ⟨#[]⟩, .int .i64 0, .slice none 0 0, .slice none 0 0, .slice none 0 0]), 7, 112) := by kernel_rfl
theorem clause_info : (Tryz.prog.info? 52).map (fun i => (i.zero, i.size, i.bytes)) = some (some (.agg #[.slice none 0 0, .slice none 0 0, .slice none 0 0, .string ⟨#[]⟩, .int .i64 0]), 5, 96) := by kernel_rfl
theorem info3 {P : Program} {E : TypeId} {z : Option Value} {k b : Nat} (h : (P.info? E).map (fun i => (i.zero, i.size, i.bytes)) = some (z, k, b)) : ∃ i, P.info? E = some i ∧ i.zero = z ∧ i.size = k ∧ i.bytes = b := by
  obtain ⟨i, h1, h2⟩ := Option.map_eq_some_iff.1 h
  simp only [Prod.mk.injEq] at h2
  exact ⟨i, h1, h2.1, h2.2.1, h2.2.2⟩
theorem RowN.app {lo lo' : Nat} {w : World} {k : Bool} {v : Value} {l : List Nd} {o : Option Nat} {cs : List Value} {n : Nd} (h : RowN lo w k v l o) (hx : NdR (Frs lo' w) w k cs n) (hlo : lo ≤ lo') (hlo2 : lo' ≤ w.heap.size) (hol : ∀ b, o = some b → b < lo') (ar : Array Value) (t : TypeId) :
    ∃ es : List (List Value), Row (w.alloc (.cells ar t)) (if k then 52 else 29) (wid k) v l.length es.flatten o ∧ ∀ g v' w4, Row w4 (if k then 52 else 29) (wid k) v' (l.length + 1) (es.flatten ++ cs) (some g) → Keep o.toList (w.alloc (.cells ar t)) w4 → (o = some g ∨ (w.alloc (.cells ar t)).heap.size ≤ g) → RowN lo w4 k v' (l ++ [n]) (some g) := by
  have hk := (Keep.refl [] w).alloc (.cells ar t)
  obtain ⟨es, h1, h2, h3, h4⟩ := h.keep hk (by simp)
  refine ⟨es, h1, fun g v' w4 hr hk4 hg => ?_⟩
  exact RowN.push h2 h3 h4 (hx.up hk (by simp) (Nat.le_refl _)) hlo (Nat.le_trans hlo2 hk.size) hol hk4 hg hr
theorem src_lit1 {P : Program} (w : World) (cs : List Value) (k : Nat) (hk : cs.length = k) (h1 : ∀ u ∈ cs, u.oneCell' = true) (T e t : TypeId) (hu : P.underlying T = some (.slice e)) : Src P k T (.slice (some ⟨w.heap.size, 0, none⟩) 1 1) 1 cs (w.alloc (.cells cs.toArray t)) := by
  refine Src.ofSlice _ hu ⟨w.heap.size, 0, none⟩ _ _ cs (by omega) (fun j u hj => ?_) h1
  have h := heap_alloc_new w (.cells cs.toArray t)
  rw [show (⟨w.heap.size, 0, none⟩ : Addr).add j = ⟨w.heap.size, 0 + j, none⟩ by unfold Addr.add; split <;> simp_all, World.cell?, h]
  simpa using hj
end Go.Proofs.YtdmmhfbafinkpaaGreatDoor

/- Parse: body, head. -/
namespace Go.Proofs.YtdmmhfbafinkpaaGreatDoor
open Go.RowKit Go.Emb

/-- one cell of a clause is written -/
theorem set5a {w : World} {q i : Nat} {cs : Array Value} {t : TypeId} (h : w.heap[q]? = some (.cells cs t (0, 0))) (u : Value) : (w.setCell ⟨q, i, none⟩ u).heap[q]? = some (.cells (cs.setIfInBounds i u) t (0, 0)) ∧ Keep [q] w (w.setCell ⟨q, i, none⟩ u) :=
  ⟨heap_setCell_at h u, Keep.set1 w ⟨q, i, none⟩ u⟩
set_option maxRecDepth 100000 in
set_option maxHeartbeats 1000000 in
theorem w_body {lo pb : Nat} {w : World} {s : St} {d cb : Nat} {pv : Value} {nm : List UInt8} {at_ : Int} (ih : AllC lo pb (32 * s.toks.length + 11)) (h : PS lo w pb s) (hlo : lo ≤ w.heap.size) (hd : d + s.toks.length ≤ 1000000) (hcb : lo ≤ cb)
    (hb : w.heap[cb]? = some (.cells #[pv, .slice none 0 0, .slice none 0 0, .string ⟨nm.toArray⟩, .int .i64 at_] 52 (0, 0))) :
    Calls Tryz.prog 96 #[.pointer (some ⟨pb, 0, none⟩), .pointer (some ⟨cb, 0, none⟩), .int .i64 d] w (BodyP lo w pb cb pv nm at_ (fun n => bodyP n d) s) := by
  have hplo := h.plo
  have hne : cb ≠ pb := by omega
  have hcw := (Array.getElem?_eq_some_iff.1 hb).1
  have HH := Lib.hid (p_has h hlo sWhen)
  have HHL := Lib.hid (has_len sWhen s)
  have hsome := fun (W : World) (s1 : St) (hW : PS lo W pb s1) (hl : lo ≤ W.heap.size) (hle : s1.toks.length ≤ s.toks.length) => ih.someL (d := d) hW hl (by omega) (by omega)
  have HS := Lib.hid hsome
  have HLO := Lib.hid hlo
  have HB := Lib.hid hb
  have HPL := Lib.hid hplo
  have HCB := Lib.hid hcb
  have HNE := Lib.hid hne
  have HCW := Lib.hid hcw
  clear ih h hlo hd hcb hb hplo hne hcw hsome
  -- what comes behind the guards
  have hrest : ∀ (W : World) (s1 : St) (gv : Value) (g : List Nd), PS lo W pb s1 → s1.toks.length ≤ s.toks.length → Keep [pb, cb] w W → W.heap[cb]? = some (.cells #[pv, gv, .slice none 0 0, .string ⟨nm.toArray⟩, .int .i64 at_] 52 (0, 0)) → NsR (Frs w.heap.size W) W false gv g →
      (∀ c s2, Ev (fun n => someL n d) (mustS sTo s1) c s2 → Ev (fun n => bodyP n d) s (g, c) s2) →
      ∀ (W2 W3 : World) (bv : Value) (c : List Nd) (s2 : St), PS lo W2 pb (mustS sTo s1) → Keep [pb] W W2 → Ev (fun n => someL n d) (mustS sTo s1) c s2 → NsR (Frs W2.heap.size W3) W3 false bv c → PS lo W3 pb s2 → s2.toks.length ≤ (mustS sTo s1).toks.length → Keep [pb] W2 W3 →
      BodyP lo w pb cb pv nm at_ (fun n => bodyP n d) s (.returned (.tuple #[])) (W3.setCell ⟨cb, 2, none⟩ bv) := by
    intro W s1 gv g hps hle hk hb hg hev W2 W3 bv c s2 hps2 hk2 hev2 hns hps3 hle3 hk3
    have hb3 := blkK (blkK hb hk2 (by simp; exact HNE.out)) hk3 (by simp; exact HNE.out)
    obtain ⟨h4, hk4⟩ := set5a (i := 2) hb3 bv
    have hs2 := hk.size
    have hs3 := hk2.size
    have hcw := HCW.out
    have hpl := HPL.out
    have hlo := HLO.out
    have hcb := HCB.out
    refine ⟨gv, bv, (g, c), s2, rfl, hev c s2 hev2, by simpa using h4, ?_, ?_, hps3.keep hk4 (by simp; omega), Nat.le_trans hle3 (Nat.le_trans (must_len sTo s1) hle), ?_⟩
    · exact ((hg.up hk2 (by simp; omega) (Nat.le_refl _)).up hk3 (by simp; omega) (Nat.le_refl _)).up hk4 (by simp; exact hcw) (Nat.le_refl _)
    · exact hns.up hk4 (by simp; omega) (by omega)
    · exact ((hk.trans hk2 (by simp)).trans hk3 (by simp)).trans hk4 (by simp)
  have HREST := Lib.hid hrest
  clear hrest
  rcases ho : (hasS sWhen s).1 with _ | _
  · rw [ho] at HH
    have HO := Lib.hid ho
    clear ho
    go_enter Tryz.func96, Tryz.ntmps96
    go_wp2_with fail
    refine HH.out.mono ?_
    rintro e w2 ⟨rfl, hps2, hk2⟩
    have hb2 := blkK HB.out hk2 (by simp; exact HNE.out)
    have hl2 := Nat.le_trans HLO.out hk2.size
    have HM := Lib.hid (p_must hps2 hl2 sTo)
    have hR := HREST.out w2 _ (.slice none 0 0) [] hps2 HHL.out (hk2.mono (by simp)) hb2 (NsR.nil _ _ _) (fun c s2 h => Ev.of_body_bare HO.out h)
    have HR := Lib.hid hR
    have HB2 := Lib.hid hb2
    have HL2 := Lib.hid hl2
    clear hps2 hk2 hb2 hl2 hR HREST
    go_wp2_with (go_at_call 63; refine HM.out.mono ?_; rintro e w3 ⟨rfl, hps3, hk3⟩; have HPS3 := Lib.hid hps3; have HK3 := Lib.hid hk3; have hl3 := Nat.le_trans HL2.out hk3.size; have HL3 := Lib.hid hl3; have HB3 := Lib.hid (blkK HB2.out hk3 (by simp; exact HNE.out)); clear hps3 hk3 hl3)
    refine (HS.out w3 _ HPS3.out HL3.out (Nat.le_trans (must_len _ _) HHL.out)).mono ?_
    rintro e w4 ⟨bv, c, s2, rfl, hev4, hns4, hps4, hle4, hk4⟩
    have hb4 := blkK HB3.out hk4 (by simp; exact HNE.out)
    obtain ⟨c0, c1, c2, c3, c4⟩ := cells5 hb4
    have f4 := frozenP hb4
    obtain ⟨q1, q2, rfl⟩ := hns4.form
    have HE := Lib.hid (HR.out w3 w4 _ c s2 HPS3.out HK3.out hev4 hns4 hps4 hle4 hk4)
    clear hev4 hns4 hps4 hle4 hk4 hb4 HR HS HM
    go_wp2_with fail
    go_end0
    exact HE.out
  · rw [ho] at HH
    have HO := Lib.hid ho
    clear ho
    go_enter Tryz.func96, Tryz.ntmps96
    go_wp2_with (go_at_call 94; refine HH.out.mono ?_; rintro e w2 ⟨rfl, hps2, hk2⟩; have HPS2 := Lib.hid hps2; have HK2 := Lib.hid hk2; have hl2 := Nat.le_trans HLO.out hk2.size; have HL2 := Lib.hid hl2; have HB2 := Lib.hid (blkK HB.out hk2 (by simp; exact HNE.out)); clear hps2 hk2 hl2)
    refine (HS.out w2 _ HPS2.out HL2.out HHL.out).mono ?_
    rintro e w3 ⟨gv, g, s1, rfl, hev3, hns3, hps3, hle3, hk3⟩
    have hb3 := blkK HB2.out hk3 (by simp; exact HNE.out)
    obtain ⟨c0, c1, c2, c3, c4⟩ := cells5 hb3
    have f4 := frozenP hb3
    obtain ⟨q1, q2, rfl⟩ := hns3.form
    obtain ⟨hb4, hk4⟩ := set5a (i := 1) hb3 (.slice q1 g.length q2)
    have hcw := HCW.out
    have hpl := HPL.out
    have hlo := HLO.out
    have hcb := HCB.out
    have hs2 := HK2.out.size
    have hps4 := hps3.keep hk4 (by simp; omega)
    have hk5 : Keep [pb, cb] w (w3.setCell ⟨cb, 1, none⟩ (.slice q1 g.length q2)) := ((HK2.out.trans hk3 (by simp)).mono (by simp)).trans hk4 (by simp)
    have hl4 : lo ≤ (w3.setCell ⟨cb, 1, none⟩ (.slice q1 g.length q2)).heap.size := Nat.le_trans hlo hk5.size
    have hR := HREST.out _ s1 (.slice q1 g.length q2) g hps4 (Nat.le_trans hle3 HHL.out) hk5 (by simpa using hb4) (hns3.up hk4 (by simp; omega) (by omega)) (fun c s2 h => Ev.of_body_when HO.out hev3 h)
    have HM := Lib.hid (p_must hps4 hl4 sTo)
    have HR := Lib.hid hR
    have HL4 := Lib.hid hl4
    have HB4 := Lib.hid (show (w3.setCell ⟨cb, 1, none⟩ (.slice q1 g.length q2)).heap[cb]? = some (.cells #[pv, .slice q1 g.length q2, .slice none 0 0, .string ⟨nm.toArray⟩, .int .i64 at_] 52 (0, 0)) by simpa using hb4)
    have HLE := Lib.hid hle3
    clear hev3 hns3 hps3 hle3 hk3 hb3 hb4 hk4 hps4 hk5 hl4 hR HREST hcw hpl hlo hcb hs2
    go_wp2_with (go_at_call 63; refine HM.out.mono ?_; rintro e w5 ⟨rfl, hps5, hk5⟩; have HPS5 := Lib.hid hps5; have HK5 := Lib.hid hk5; have hl5 := Nat.le_trans HL4.out hk5.size; have HL5 := Lib.hid hl5; have HB5 := Lib.hid (blkK HB4.out hk5 (by simp; exact HNE.out)); clear hps5 hk5 hl5)
    refine (HS.out w5 _ HPS5.out HL5.out (Nat.le_trans (must_len _ _) (Nat.le_trans HLE.out HHL.out))).mono ?_
    rintro e w6 ⟨bv, c, s2, rfl, hev6, hns6, hps6, hle6, hk6⟩
    have hb6 := blkK HB5.out hk6 (by simp; exact HNE.out)
    clear c0 c1 c2 c3 c4 f4
    obtain ⟨c0, c1, c2, c3, c4⟩ := cells5 hb6
    have f4 := frozenP hb6
    obtain ⟨q3, q4, rfl⟩ := hns6.form
    have HE := Lib.hid (HR.out w5 w6 _ c s2 HPS5.out HK5.out hev6 hns6 hps6 hle6 hk6)
    clear hev6 hns6 hps6 hle6 hk6 hb6 HR HS HM
    go_wp2_with fail
    go_end0
    exact HE.out
set_option maxRecDepth 100000 in
set_option maxHeartbeats 1000000 in
theorem w_head {lo pb : Nat} {w : World} {s : St} {d cb : Nat} {nm : List UInt8} {at_ : Int} (ih : AllC lo pb (32 * s.toks.length + 12)) (h : PS lo w pb s) (hlo : lo ≤ w.heap.size) (hd : d + s.toks.length ≤ 1000000) (hcb : lo ≤ cb)
    (hb : w.heap[cb]? = some (.cells #[.slice none 0 0, .slice none 0 0, .slice none 0 0, .string ⟨nm.toArray⟩, .int .i64 at_] 52 (0, 0))) :
    Calls Tryz.prog 62 #[.pointer (some ⟨pb, 0, none⟩), .pointer (some ⟨cb, 0, none⟩), .int .i64 d] w (OneP lo w pb cb (fun n => headP n nm d) s) := by
  have hplo := h.plo
  have hne : cb ≠ pb := by omega
  have hcw := (Array.getElem?_eq_some_iff.1 hb).1
  have hml := must_len sOpen s
  have HM := Lib.hid (p_must h hlo sOpen)
  have huntil := fun (W : World) (hW : PS lo W pb (mustS sOpen s)) (hl : lo ≤ W.heap.size) => ih.untilL (d := d) (x := sShut) hW hl (by omega) (by omega)
  have hbody := fun (W : World) (s1 : St) (pv : Value) (hW : PS lo W pb s1) (hl : lo ≤ W.heap.size) (hle : s1.toks.length ≤ s.toks.length) (hb : W.heap[cb]? = some (.cells #[pv, .slice none 0 0, .slice none 0 0, .string ⟨nm.toArray⟩, .int .i64 at_] 52 (0, 0))) => ih.bodyP (d := d) hW hl (by omega) (by omega) hcb hb
  have HU := Lib.hid huntil
  have HBD := Lib.hid hbody
  have HLO := Lib.hid hlo
  have HB := Lib.hid hb
  have HPL := Lib.hid hplo
  have HCB := Lib.hid hcb
  have HNE := Lib.hid hne
  have HCW := Lib.hid hcw
  have HML := Lib.hid hml
  clear ih h hlo hd hcb hb hplo hne hcw hml huntil hbody
  go_enter Tryz.func62, Tryz.ntmps62
  go_wp2_with (go_at_call 63; refine HM.out.mono ?_; rintro e w2 ⟨rfl, hps2, hk2⟩; have HPS2 := Lib.hid hps2; have HK2 := Lib.hid hk2; have hl2 := Nat.le_trans HLO.out hk2.size; have HL2 := Lib.hid hl2; have HB2 := Lib.hid (blkK HB.out hk2 (by simp; exact HNE.out)); clear hps2 hk2 hl2)
  refine (HU.out w2 HPS2.out HL2.out).mono ?_
  rintro e w3 ⟨gv, g, s1, rfl, hev3, hns3, hps3, hle3, hk3⟩
  have hb3 := blkK HB2.out hk3 (by simp; exact HNE.out)
  obtain ⟨c0, c1, c2, c3, c4⟩ := cells5 hb3
  have f4 := frozenP hb3
  obtain ⟨q1, q2, rfl⟩ := hns3.form
  obtain ⟨hb4, hk4⟩ := set5a (i := 0) hb3 (.slice q1 g.length q2)
  have hcw := HCW.out
  have hpl := HPL.out
  have hlo := HLO.out
  have hcb := HCB.out
  have hs2 := HK2.out.size
  have hle1 := Nat.le_trans hle3 HML.out
  have hps4 := hps3.keep hk4 (by simp; omega)
  have hk5 : Keep [pb, cb] w (w3.setCell ⟨cb, 0, none⟩ (.slice q1 g.length q2)) := ((HK2.out.trans hk3 (by simp)).mono (by simp)).trans hk4 (by simp)
  have hl4 : lo ≤ (w3.setCell ⟨cb, 0, none⟩ (.slice q1 g.length q2)).heap.size := Nat.le_trans hlo hk5.size
  have hns4 := hns3.up hk4 (lo' := w.heap.size) (by simp; omega) (by omega)
  have hcall := HBD.out _ s1 (.slice q1 g.length q2) hps4 hl4 hle1 (by simpa using hb4)
  have HCALL := Lib.hid hcall
  have HNS4 := Lib.hid hns4
  have HK5 := Lib.hid hk5
  have HEV3 := Lib.hid hev3
  have HLE1 := Lib.hid hle1
  clear hev3 hns3 hps3 hle3 hk3 hb3 hb4 hk4 hps4 hk5 hl4 hcw hpl hlo hcb hs2 hcall hns4 hle1
  go_wp2_with fail
  refine HCALL.out.mono ?_
  rintro e w6 ⟨gv6, bv6, gc, s6, rfl, hev6, hb6, hg6, hc6, hps6, hle6, hk6⟩
  have hcw := HCW.out
  have hpl := HPL.out
  have hlo := HLO.out
  have hs5 := HK5.out.size
  have hres : OneP lo w pb cb (fun n => headP n nm d) s (.returned (.tuple #[])) w6 := by
    refine ⟨[.slice q1 g.length q2, gv6, bv6, .string ⟨nm.toArray⟩, .int .i64 at_], .mk 0 0 nm g gc.1 gc.2, s6, rfl, Ev.of_head HEV3.out (g := gc.1) (c := gc.2) hev6, hb6, NdR.mk5 ?_ (hg6.mono fun b h => ⟨Nat.le_trans hs5 h.1, h.2⟩) (hc6.mono fun b h => ⟨Nat.le_trans hs5 h.1, h.2⟩), hps6, Nat.le_trans hle6 HLE1.out, HK5.out.trans hk6 (by simp)⟩
    exact HNS4.out.up hk6 (by simp; omega) (Nat.le_refl _)
  have HRES := Lib.hid hres
  clear hev6 hb6 hg6 hc6 hps6 hle6 hk6 hcw hpl hlo hs5 hres
  go_wp2_with fail
  go_end0
  exact HRES.out
end Go.Proofs.YtdmmhfbafinkpaaGreatDoor

/- Parse: clauses. -/
namespace Go.Proofs.YtdmmhfbafinkpaaGreatDoor
open Go.RowKit Go.Emb

abbrev zC : Obj := .cells #[.slice none 0 0, .slice none 0 0, .slice none 0 0, .string ⟨#[]⟩, .int .i64 0] 52
theorem set5all {w : World} {q : Nat} {a b c d e : Value} {t : TypeId} (h : w.heap[q]? = some (.cells #[a, b, c, d, e] t (0, 0))) (a' b' c' d' e' : Value) :
    (((((w.setCell ⟨q, 0, none⟩ a').setCell ⟨q, 1, none⟩ b').setCell ⟨q, 2, none⟩ c').setCell ⟨q, 3, none⟩ d').setCell ⟨q, 4, none⟩ e').heap[q]? = some (.cells #[a', b', c', d', e'] t (0, 0))
    ∧ Keep [q] w (((((w.setCell ⟨q, 0, none⟩ a').setCell ⟨q, 1, none⟩ b').setCell ⟨q, 2, none⟩ c').setCell ⟨q, 3, none⟩ d').setCell ⟨q, 4, none⟩ e') :=
  ⟨by simpa using heap_setCell_at (i := 4) (heap_setCell_at (i := 3) (heap_setCell_at (i := 2) (heap_setCell_at (i := 1) (heap_setCell_at (i := 0) h a') b') c') d') e',
   ((((Keep.set1 w ⟨q, 0, none⟩ a').setCell (.inl (by simp)) _).setCell (.inl (by simp)) _).setCell (.inl (by simp)) _).setCell (.inl (by simp)) _⟩
set_option maxRecDepth 100000 in
set_option maxHeartbeats 2000000 in
theorem p_clauses {lo pb : Nat} {w : World} {s : St} {d k : Nat} (F : Nat) (caps : Array Value) (eg : ∀ args w, (callFunc F args).run Tryz.prog w = .ok (.enter F args) w)
    (hone : ∀ (W : World) (si : St) (cb : Nat) (at_ : Int), Keep [pb] w W → PS lo W pb si → lo ≤ W.heap.size → si.toks.length ≤ s.toks.length → w.heap.size ≤ cb →
      W.heap[cb]? = some (.cells #[.slice none 0 0, .slice none 0 0, .slice none 0 0, .string ⟨#[]⟩, .int .i64 at_] 52 (0, 0)) → Calls Tryz.prog F (#[.pointer (some ⟨cb, 0, none⟩)] ++ caps) W (OneP lo W pb cb (fun n => oneC n k d) si))
    (h : PS lo w pb s) (hlo : lo ≤ w.heap.size) (hd : s.toks.length ≤ 1000000) :
    Calls Tryz.prog 60 #[.pointer (some ⟨pb, 0, none⟩), .func (.func F) #[] caps] w (ListP lo w pb true (fun n => clausesL n k d) s) := by
  have hplo := h.plo
  obtain ⟨i0, hi0, hz0, hz1, hz2⟩ := info3 clause_info
  have HI := Lib.hid hi0
  have HONE := Lib.hid hone
  have HLO := Lib.hid hlo
  have HPL := Lib.hid hplo
  have HH := Lib.hid h
  have HD := Lib.hid hd
  clear hi0 hone hlo hplo h hd
  go_enter Tryz.func60, Tryz.ntmps60
  go_wp2_with fail
  go_loopw [4] (fun v wr => ∃ (l : List Nd) (si : St) (o : Option Nat), RowN w.heap.size wr true v l o ∧ PS lo wr pb si ∧ Keep [pb] w wr ∧ l.length + si.toks.length ≤ s.toks.length ∧ ∀ l' s', Ev (fun n => clausesL n k d) si l' s' → Ev (fun n => clausesL n k d) s (l ++ l') s') (fun _ wr => plen wr pb)
  case atStart => exact ⟨[], s, none, RowN.nil _ _ _, HH.out, Keep.refl _ _, by simp, fun l' s' h => h⟩
  case round =>
    obtain ⟨l, si, o, hrow, hps, hkw, hlen, hev⟩ := hrel
    obtain ⟨pa, pc, rfl⟩ := hrow.form
    have hlr : lo ≤ wr.heap.size := Nat.le_trans HLO.out hkw.size
    have HPLC := Lib.hid (p_place hps)
    have hk1 := (Keep.refl [] wr).alloc zC
    have hb1 := heap_alloc_new wr zC
    obtain ⟨c0, c1, c2, c3, c4⟩ := cells5 hb1
    have f1 := frozenP hb1
    have HB1 := Lib.hid hb1
    have HROW := Lib.hid hrow
    have HPS := Lib.hid hps
    have HKW := Lib.hid hkw
    have HLEN := Lib.hid hlen
    have HEV := Lib.hid hev
    have HLR := Lib.hid hlr
    have HPN := Lib.hid hps.len
    have HK1 := Lib.hid hk1
    clear hrow hps hkw hlen hev hlr hk1 hb1
    go_wp2_with (go_at_call 67; refine HPLC.out.mono ?_; rintro e w2 ⟨rfl, rfl⟩)
    clear c0 c1 c2 c3 c4 f1 HB1 HK1
    have hk1 := (Keep.refl [] wr).alloc (.cells #[.slice none 0 0, .slice none 0 0, .slice none 0 0, .string ⟨#[]⟩, .int .i64 (plc si)] 52)
    have hcall := HONE.out (wr.alloc (.cells #[.slice none 0 0, .slice none 0 0, .slice none 0 0, .string ⟨#[]⟩, .int .i64 (plc si)] 52)) si wr.heap.size (plc si) (HKW.out.trans hk1 (by simp)) (HPS.out.keep0 hk1) (Nat.le_trans HLR.out hk1.size) (by have := HLEN.out; omega) HKW.out.size (heap_alloc_new wr _)
    refine hcall.mono ?_
    rintro e w2 ⟨cs, n, s2, rfl, hev2, hb2, hnd, hps2, hle2, hk2⟩
    obtain ⟨at2, name, p1, n1, c1, p2, n2, c2, p3, n3, c3, rfl⟩ := id hnd.un5s
    have hpw := Nat.lt_of_lt_of_le HPL.out HLO.out
    have hww := HKW.out.size
    have hk2' : Keep [pb] wr w2 := keepB (lo := wr.heap.size) ((hk1.mono (G := [pb, wr.heap.size]) (by simp)).trans hk2 (by simp)) (by simp) (Nat.le_refl _)
    have hol : ∀ b, o = some b → b < wr.heap.size := HROW.out.lt
    have hsz2 := hk2.size
    rw [size_alloc] at hsz2
    have hnd' : NdR (Frs wr.heap.size w2) w2 true [.slice p1 n1 c1, .slice p2 n2 c2, .slice p3 n3 c3, .string ⟨name⟩, .int .i64 at2] n := hnd.mono (fun b h => ⟨by have := h.1; rw [size_alloc] at this; omega, h.2⟩)
    obtain ⟨es, hrow3, hpush⟩ := (HROW.out.keep hk2' (by simp; exact hpw)).app hnd' HKW.out.size hk2'.size hol #[.slice p1 n1 c1, .slice p2 n2 c2, .slice p3 n3 c3, .string ⟨name⟩, .int .i64 at2] 52
    have hk3 := (Keep.refl [] w2).alloc (.cells #[.slice p1 n1 c1, .slice p2 n2 c2, .slice p3 n3 c3, .string ⟨name⟩, .int .i64 at2] 52)
    have hsrc := src_lit1 (P := Tryz.prog) w2 [.slice p1 n1 c1, .slice p2 n2 c2, .slice p3 n3 c3, .string ⟨name⟩, .int .i64 at2] 5 rfl hnd.one 27 52 52 Tryz.underlying27
    obtain ⟨d0, d1, d2, d3, d4⟩ := cells5 hb2
    have HROW3 := Lib.hid hrow3
    have HPUSH := Lib.hid hpush
    have HSRC := Lib.hid hsrc
    have HPS3 := Lib.hid (hps2.keep0 hk3)
    have HK3 := Lib.hid (hk2'.trans hk3 (by simp))
    have hoge : ∀ b, o = some b → w.heap.size ≤ b := by obtain ⟨_, -, -, -, h⟩ := HROW.out; exact h
    have HOGE := Lib.hid hoge
    have HEV2 := Lib.hid hev2
    have HLE2 := Lib.hid hle2
    have hlm : l.length ≤ 1000000 := by have := HLEN.out; have := HD.out; omega
    clear hrow3 hpush hsrc hps2 hk2 hk3 hoge hev2 hle2 hnd hnd' hpw hol hk2' hsz2 hb2 hcall hk1 hww
    go_wp2_with (at_builtin; go_loud (refine wpList_append_row _ rfl _ _ 27 27 rfl 52 i0 _ 5 96 Tryz.underlying27 HI.out hz0 hz1 hz2 rfl _ _ _ o rfl HROW3.out _ rfl 1 _ HSRC.out (by omega) (by unfold maxLen; omega) (by omega) ?_); intro g off cap w4 hr4 hk4 hg4; have hr5 := HPUSH.out g _ w4 hr4 hk4 hg4; have hps4 := HPS3.out.keep hk4 (fun b hb => Nat.le_trans HLO.out (HOGE.out b (by simpa using hb))); have hk5 : Keep [pb] w w4 := keepB (lo := w.heap.size) ((HKW.out.trans HK3.out (by simp)).mono (G := pb :: o.toList) (by simp) |>.trans hk4 (fun x hx => .inl (List.mem_cons_of_mem _ hx))) (fun b hb => by simp at hb; rcases hb with rfl | hb; exact .inl rfl; exact .inr (HOGE.out b hb)) (Nat.le_refl _); have hl4 := Nat.le_trans HLO.out hk5.size; have HR5 := Lib.hid hr5; have HPS4 := Lib.hid hps4; have HK5 := Lib.hid hk5; have HHAS := Lib.hid (p_has hps4 hl4 sSemi); clear hr4 hk4 hg4 hr5 hps4 hk5 hl4 d0 d1 d2 d3 d4)
    refine HHAS.out.mono ?_
    rintro e w5 ⟨rfl, hps5, hk5⟩
    have hpw := Nat.lt_of_lt_of_le HPL.out HLO.out
    have hr6 := HR5.out.keep hk5 (by simp; exact hpw)
    have hk6 : Keep [pb] w w5 := HK5.out.trans hk5 (by simp)
    have HPS5 := Lib.hid hps5
    have HR6 := Lib.hid hr6
    have HK6 := Lib.hid hk6
    have HL5 := Lib.hid (has_len sSemi s2)
    clear hps5 hk5 hr6 hk6 HHAS HPUSH HSRC HROW3 HPS3 HK3 HROW
    rcases ho : (hasS sSemi s2).1 with _ | _
    · have HO := Lib.hid ho
      clear ho
      go_wp2_with fail
      go_ret
      refine ⟨_, l ++ [n], _, rfl, HEV.out [n] _ (Ev.of_clauses_one HEV2.out HO.out), HR6.out.ns, HPS5.out, ?_, HK6.out⟩
      have h1 := HL5.out
      have h2 := HLE2.out
      have h3 := HLEN.out
      omega
    · have HO := Lib.hid ho
      have HLT := Lib.hid (has_lt ho)
      clear ho
      go_wp2_with fail
      go_roundw
      case rel =>
        refine ⟨l ++ [n], _, some g, HR6.out, HPS5.out, HK6.out, ?_, fun l' s' h => ?_⟩
        · have h1 := HLT.out
          have h2 := HLE2.out
          have h3 := HLEN.out
          simp only [List.length_append, List.length_singleton]
          omega
        · have := HEV.out (n :: l') s' (Ev.of_clauses_more HEV2.out HO.out h)
          simpa using this
      case measure =>
        rw [HPS5.out.len, HPN.out]
        have h1 := HLT.out
        have h2 := HLE2.out
        omega
end Go.Proofs.YtdmmhfbafinkpaaGreatDoor

/- Parse: arms; the heads of a fun. -/
namespace Go.Proofs.YtdmmhfbafinkpaaGreatDoor
open Go.RowKit Go.Emb Go.Shelf

set_option maxRecDepth 100000 in
set_option maxHeartbeats 1000000 in
theorem w_arm {lo pb M : Nat} {w : World} {s : St} {d cb b2 b3 : Nat} {at_ : Int} (ih : AllC lo pb M) (hM : 32 * s.toks.length + 12 ≤ M) (h : PS lo w pb s) (hlo : lo ≤ w.heap.size) (hd : d + s.toks.length ≤ 1000000) (hcb : lo ≤ cb)
    (hb : w.heap[cb]? = some (.cells #[.slice none 0 0, .slice none 0 0, .slice none 0 0, .string ⟨#[]⟩, .int .i64 at_] 52 (0, 0)))
    (h2 : w.cell? ⟨b2, 0, none⟩ = some (.pointer (some ⟨pb, 0, none⟩))) (h3 : w.cell? ⟨b3, 0, none⟩ = some (.int .i64 d)) (n2 : lo ≤ b2 ∧ b2 ≠ cb) (n3 : lo ≤ b3 ∧ b3 ≠ cb) :
    Calls Tryz.prog 155 #[.pointer (some ⟨cb, 0, none⟩), .pointer (some ⟨b2, 0, none⟩), .pointer (some ⟨b3, 0, none⟩)] w (OneP lo w pb cb (fun n => oneC n 0 d) s) := by
  have hplo := h.plo
  have hne : cb ≠ pb := by omega
  have hcw := (Array.getElem?_eq_some_iff.1 hb).1
  have hb2 := World.block_lt_of_cell? _ _ h2
  have hb3 := World.block_lt_of_cell? _ _ h3
  have HE := Lib.hid (ih.expr (d := d) h hlo hd (by omega))
  have hbody := fun (W : World) (s1 : St) (pv : Value) (hW : PS lo W pb s1) (hl : lo ≤ W.heap.size) (hle : s1.toks.length ≤ s.toks.length) (hb : W.heap[cb]? = some (.cells #[pv, .slice none 0 0, .slice none 0 0, .string ⟨#[]⟩, .int .i64 at_] 52 (0, 0))) => ih.bodyP (nm := []) (d := d) hW hl (by omega) (by omega) hcb hb
  have HBD := Lib.hid hbody
  have HLO := Lib.hid hlo
  have HB := Lib.hid hb
  have HPL := Lib.hid hplo
  have HCB := Lib.hid hcb
  have HNE := Lib.hid hne
  have HCW := Lib.hid hcw
  have HN2 := Lib.hid n2
  have HN3 := Lib.hid n3
  have HL2 := Lib.hid hb2
  have HL3 := Lib.hid hb3
  clear ih hM h hlo hd hcb hb hplo hne hcw hbody n2 n3 hb2 hb3
  go_enter Tryz.func155, Tryz.ntmps155
  go_wp2_with fail
  refine HE.out.mono ?_
  rintro e w3 ⟨cs, n, s1, rfl, hev3, hnd, hps3, hle3, hk3⟩
  obtain ⟨kind, num, at2, name, p1, n1, c1, p2, n2, c2, p3, n3, c3, rfl, -⟩ := id hnd.un7s
  have hb3 := blkK HB.out hk3 (by simp; exact HNE.out)
  have hk4 := (Keep.refl [] w3).alloc (.cells #[.int .i64 kind, .int .i64 num, .string ⟨name.toArray⟩, .int .i64 at2, .slice p1 n1 c1, .slice p2 n2 c2, .slice p3 n3 c3] 29)
  have hb4 := blkK hb3 hk4 (by simp)
  obtain ⟨d0, d1, d2, d3, d4⟩ := cells5 hb4
  have f4 := frozenP hb4
  obtain ⟨hb5, hk5⟩ := set5a (i := 0) hb4 (.slice (some ⟨w3.heap.size, 0, none⟩) 1 1)
  have hlit := NsR.lit1 (lo := w.heap.size) (cs := #[.int .i64 kind, .int .i64 num, .string ⟨name.toArray⟩, .int .i64 at2, .slice p1 n1 c1, .slice p2 n2 c2, .slice p3 n3 c3]) 29 hk3.size rfl hnd
  have hcw := HCW.out
  have hpl := HPL.out
  have hlo := HLO.out
  have hcb := HCB.out
  have hlit2 := hlit.up hk5 (lo' := w.heap.size) (by simp; omega) (Nat.le_refl _)
  have hk6 : Keep [pb, cb] w ((w3.alloc (.cells #[.int .i64 kind, .int .i64 num, .string ⟨name.toArray⟩, .int .i64 at2, .slice p1 n1 c1, .slice p2 n2 c2, .slice p3 n3 c3] 29)).setCell ⟨cb, 0, none⟩ (.slice (some ⟨w3.heap.size, 0, none⟩) 1 1)) := ((hk3.trans hk4 (by simp)).mono (by simp)).trans hk5 (by simp)
  have hps5 := (hps3.keep0 hk4).keep hk5 (by simp; exact hcb)
  have e2 : (((w3.alloc (.cells #[.int .i64 kind, .int .i64 num, .string ⟨name.toArray⟩, .int .i64 at2, .slice p1 n1 c1, .slice p2 n2 c2, .slice p3 n3 c3] 29)).setCell ⟨cb, 0, none⟩ (.slice (some ⟨w3.heap.size, 0, none⟩) 1 1))).cell? ⟨b2, 0, none⟩ = some (.pointer (some ⟨pb, 0, none⟩)) := by
    rw [hk6.cell (p := ⟨b2, 0, none⟩) HL2.out (by have := HN2.out; simp; omega)]; exact h2
  have e3 : (((w3.alloc (.cells #[.int .i64 kind, .int .i64 num, .string ⟨name.toArray⟩, .int .i64 at2, .slice p1 n1 c1, .slice p2 n2 c2, .slice p3 n3 c3] 29)).setCell ⟨cb, 0, none⟩ (.slice (some ⟨w3.heap.size, 0, none⟩) 1 1))).cell? ⟨b3, 0, none⟩ = some (.int .i64 d) := by
    rw [hk6.cell (p := ⟨b3, 0, none⟩) HL3.out (by have := HN3.out; simp; omega)]; exact h3
  have hcall := HBD.out _ s1 _ hps5 (Nat.le_trans hlo hk6.size) hle3 (by simpa using hb5)
  have HCALL := Lib.hid hcall
  have HLIT := Lib.hid hlit2
  have HK6 := Lib.hid hk6
  have HEV := Lib.hid hev3
  have HLE := Lib.hid hle3
  clear hev3 hnd hps3 hle3 hk3 hb3 hk4 hb4 hb5 hk5 hlit hcw hpl hlo hcb hlit2 hk6 hps5 hcall
  go_wp2_with fail
  refine HCALL.out.mono ?_
  rintro e w6 ⟨gv6, bv6, gc, s6, rfl, hev6, hb6, hg6, hc6, hps6, hle6, hk6⟩
  have hcw := HCW.out
  have hpl := HPL.out
  have hlo := HLO.out
  have hs5 := HK6.out.size
  have hres : OneP lo w pb cb (fun n => oneC n 0 d) s (.returned (.tuple #[])) w6 := by
    refine ⟨[.slice (some ⟨w3.heap.size, 0, none⟩) 1 1, gv6, bv6, .string ⟨#[]⟩, .int .i64 at_], .mk 0 0 [] [n] gc.1 gc.2, s6, rfl, Ev.of_one_0 HEV.out (g := gc.1) (c := gc.2) hev6, hb6, NdR.mk5 (name := []) ?_ (hg6.mono fun b h => ⟨Nat.le_trans hs5 h.1, h.2⟩) (hc6.mono fun b h => ⟨Nat.le_trans hs5 h.1, h.2⟩), hps6, Nat.le_trans hle6 HLE.out, HK6.out.trans hk6 (by simp)⟩
    exact HLIT.out.up hk6 (by simp; omega) (Nat.le_refl _)
  have HRES := Lib.hid hres
  clear hev6 hb6 hg6 hc6 hps6 hle6 hk6 hcw hpl hlo hs5 hres
  go_wp2_with fail
  go_end0
  exact HRES.out
/-- the two boxes of a closure -/
theorem two_boxes (w : World) (x y : Value) (t1 t2 : TypeId) : (((w.alloc (.cells #[x] t1)).alloc (.cells #[y] t2))).cell? ⟨w.heap.size, 0, none⟩ = some x ∧ (((w.alloc (.cells #[x] t1)).alloc (.cells #[y] t2))).cell? ⟨w.heap.size + 1, 0, none⟩ = some y := by
  have h1 := blkK (heap_alloc_new w (.cells #[x] t1)) ((Keep.refl [] _).alloc (.cells #[y] t2)) (by simp)
  have h2 := heap_alloc_new (w.alloc (.cells #[x] t1)) (.cells #[y] t2)
  rw [size_alloc] at h2
  exact ⟨by rw [World.cell?, h1]; simp, by rw [World.cell?, h2]; simp⟩
set_option maxRecDepth 100000 in
set_option maxHeartbeats 1000000 in
theorem w_arms {lo pb : Nat} {w : World} {s : St} {d : Nat} (ih : AllC lo pb (32 * s.toks.length + 15)) (h : PS lo w pb s) (hlo : lo ≤ w.heap.size) (hd : d + s.toks.length ≤ 1000000) :
    Calls Tryz.prog 146 #[.pointer (some ⟨pb, 0, none⟩), .int .i64 d] w (ListP lo w pb true (fun n => clausesL n 0 d) s) := by
  have hplo := h.plo
  have hkk : Keep [] w ((w.alloc (.cells #[.pointer (some ⟨pb, 0, none⟩)] 76)).alloc (.cells #[.int .i64 d] 3)) := ((Keep.refl [] w).alloc _).alloc _
  obtain ⟨e2, e3⟩ := two_boxes w (.pointer (some ⟨pb, 0, none⟩)) (.int .i64 d) 76 3
  have hsz : ((w.alloc (.cells #[.pointer (some ⟨pb, 0, none⟩)] 76)).alloc (.cells #[.int .i64 d] 3)).heap.size = w.heap.size + 2 := by rw [size_alloc, size_alloc]
  generalize hW : ((w.alloc (.cells #[.pointer (some ⟨pb, 0, none⟩)] 76)).alloc (.cells #[.int .i64 d] 3)) = W at *
  have eg : ∀ args w, (callFunc 155 args).run Tryz.prog w = .ok (.enter 155 args) w := enters_of Tryz.func155 (by kernel_rfl) rfl
  have hcl := p_clauses (k := 0) (d := d) 155 #[.pointer (some ⟨w.heap.size, 0, none⟩), .pointer (some ⟨w.heap.size + 1, 0, none⟩)] eg (fun W2 si cb at_ hk2 hps2 hl2 hle2 hcb2 hb2 => by
    have g2 : W2.cell? ⟨w.heap.size, 0, none⟩ = some (.pointer (some ⟨pb, 0, none⟩)) := by rw [hk2.cell (p := ⟨w.heap.size, 0, none⟩) (by show w.heap.size < W.heap.size; omega) (by simp; omega)]; exact e2
    have g3 : W2.cell? ⟨w.heap.size + 1, 0, none⟩ = some (.int .i64 d) := by rw [hk2.cell (p := ⟨w.heap.size + 1, 0, none⟩) (by show w.heap.size + 1 < W.heap.size; omega) (by simp; omega)]; exact e3
    exact w_arm ih (by omega) hps2 hl2 (by omega) (by omega) hb2 g2 g3 ⟨hlo, by omega⟩ ⟨by omega, by omega⟩) (h.keep0 hkk) (Nat.le_trans hlo hkk.size) (by omega)
  have HCL := Lib.hid hcl
  have HKK := Lib.hid hkk
  have HPL := Lib.hid hplo
  clear hcl hkk hplo ih h hlo hd eg hsz
  go_enter Tryz.func146, Tryz.ntmps146
  go_wp2_with fail
  refine HCL.out.mono ?_
  rintro e w3 ⟨v, l, s', rfl, hev, hns, hps, hle, hk⟩
  obtain ⟨q1, q2, rfl⟩ := hns.form
  have hs := HKK.out.size
  have hres : ListP lo w pb true (fun n => clausesL n 0 d) s (.returned (.slice q1 l.length q2)) w3 := ⟨_, l, s', rfl, hev, hns.mono (fun b h => ⟨Nat.le_trans hs h.1, h.2⟩), hps, hle, (HKK.out.mono (by simp)).trans hk (by simp)⟩
  have HRES := Lib.hid hres
  clear hev hns hps hle hk hs hres
  go_wp2_with fail
  go_ret
  exact HRES.out
end Go.Proofs.YtdmmhfbafinkpaaGreatDoor
