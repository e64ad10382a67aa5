import Derived.Test.YtdmmhfbafinkpaaGreatDoorPaE
import Derived.Test.YtdmmhfbafinkpaaGreatDoorBase2
import Derived.Test.YtdmmhfbafinkpaaGreatDoorProg
import Derived.WalkKit
import Derived.Lib.Hide
/- Parse: trees on the heap. -/
namespace Go.Proofs.YtdmmhfbafinkpaaGreatDoor
open Go.RowKit Go.Emb Go.Emb

abbrev wid (k : Bool) : Nat := if k then 5 else 7
/-- cells cs (of a node, or of a clause: k) hold a tree; all that is read of it lies in blocks of S -/
inductive NdR (S : Nat → Prop) (w : World) : Bool → List Value → Nd → Prop
  | node {kind num at_ : Int} {name : List UInt8} {a b c : List Nd} {va vb vc : Value} {ea eb ec : List (List Value)} {oa ob oc : Option Nat}
      (ha : Rd w 7 va a.length ea.flatten oa) (hb : Rd w 5 vb b.length eb.flatten ob) (hc : Rd w 7 vc c.length ec.flatten oc)
      (sa : ∀ x, oa = some x → S x) (sb : ∀ x, ob = some x → S x) (sc : ∀ x, oc = some x → S x)
      (la : ea.length = a.length) (lb : eb.length = b.length) (lc : ec.length = c.length)
      (ra : ∀ i (h : i < ea.length) (h' : i < a.length), NdR S w false ea[i] a[i])
      (rb : ∀ i (h : i < eb.length) (h' : i < b.length), NdR S w true eb[i] b[i])
      (rc : ∀ i (h : i < ec.length) (h' : i < c.length), NdR S w false ec[i] c[i]) :
      NdR S w false [.int .i64 kind, .int .i64 num, .string ⟨name.toArray⟩, .int .i64 at_, va, vb, vc] (.mk kind num name a b c)
  | clause {at_ : Int} {name : List UInt8} {a b c : List Nd} {va vb vc : Value} {ea eb ec : List (List Value)} {oa ob oc : Option Nat}
      (ha : Rd w 7 va a.length ea.flatten oa) (hb : Rd w 7 vb b.length eb.flatten ob) (hc : Rd w 7 vc c.length ec.flatten oc)
      (sa : ∀ x, oa = some x → S x) (sb : ∀ x, ob = some x → S x) (sc : ∀ x, oc = some x → S x)
      (la : ea.length = a.length) (lb : eb.length = b.length) (lc : ec.length = c.length)
      (ra : ∀ i (h : i < ea.length) (h' : i < a.length), NdR S w false ea[i] a[i])
      (rb : ∀ i (h : i < eb.length) (h' : i < b.length), NdR S w false eb[i] b[i])
      (rc : ∀ i (h : i < ec.length) (h' : i < c.length), NdR S w false ec[i] c[i]) :
      NdR S w true [va, vb, vc, .string ⟨name.toArray⟩, .int .i64 at_] (.mk 0 0 name a b c)
/-- a slice of trees -/
def NsR (S : Nat → Prop) (w : World) (k : Bool) (v : Value) (l : List Nd) : Prop :=
  ∃ (es : List (List Value)) (o : Option Nat), Rd w (wid k) v l.length es.flatten o ∧ (∀ x, o = some x → S x) ∧ es.length = l.length ∧ ∀ i (h : i < es.length) (h' : i < l.length), NdR S w k es[i] l[i]
section
variable {S S' : Nat → Prop} {w w' : World}
theorem NdR.mono {k : Bool} {cs : List Value} {n : Nd} (h : NdR S w k cs n) (hs : ∀ b, S b → S' b) : NdR S' w k cs n := by
  induction h with
  | node ha hb hc sa sb sc la lb lc ra rb rc ia ib ic => exact .node ha hb hc (fun x h => hs x (sa x h)) (fun x h => hs x (sb x h)) (fun x h => hs x (sc x h)) la lb lc ia ib ic
  | clause ha hb hc sa sb sc la lb lc ra rb rc ia ib ic => exact .clause ha hb hc (fun x h => hs x (sa x h)) (fun x h => hs x (sb x h)) (fun x h => hs x (sc x h)) la lb lc ia ib ic
theorem NdR.keep {k : Bool} {cs : List Value} {n : Nd} {F : List Nat} (h : NdR S w k cs n) (hk : Keep F w w') (hs : ∀ b ∈ F, ¬ S b) : NdR S w' k cs n := by
  induction h with
  | node ha hb hc sa sb sc la lb lc ra rb rc ia ib ic => exact .node (ha.keep hk fun x h hf => hs x hf (sa x h)) (hb.keep hk fun x h hf => hs x hf (sb x h)) (hc.keep hk fun x h hf => hs x hf (sc x h)) sa sb sc la lb lc ia ib ic
  | clause ha hb hc sa sb sc la lb lc ra rb rc ia ib ic => exact .clause (ha.keep hk fun x h hf => hs x hf (sa x h)) (hb.keep hk fun x h hf => hs x hf (sb x h)) (hc.keep hk fun x h hf => hs x hf (sc x h)) sa sb sc la lb lc ia ib ic
theorem NdR.mk7 {kind num at_ : Int} {name : List UInt8} {a b c : List Nd} {va vb vc : Value} (ha : NsR S w false va a) (hb : NsR S w true vb b) (hc : NsR S w false vc c) :
    NdR S w false [.int .i64 kind, .int .i64 num, .string ⟨name.toArray⟩, .int .i64 at_, va, vb, vc] (.mk kind num name a b c) := by
  obtain ⟨_, _, a1, a2, a3, a4⟩ := ha
  obtain ⟨_, _, b1, b2, b3, b4⟩ := hb
  obtain ⟨_, _, c1, c2, c3, c4⟩ := hc
  exact .node a1 b1 c1 a2 b2 c2 a3 b3 c3 a4 b4 c4
theorem NdR.mk5 {at_ : Int} {name : List UInt8} {a b c : List Nd} {va vb vc : Value} (ha : NsR S w false va a) (hb : NsR S w false vb b) (hc : NsR S w false vc c) :
    NdR S w true [va, vb, vc, .string ⟨name.toArray⟩, .int .i64 at_] (.mk 0 0 name a b c) := by
  obtain ⟨_, _, a1, a2, a3, a4⟩ := ha
  obtain ⟨_, _, b1, b2, b3, b4⟩ := hb
  obtain ⟨_, _, c1, c2, c3, c4⟩ := hc
  exact .clause a1 b1 c1 a2 b2 c2 a3 b3 c3 a4 b4 c4
theorem NdR.un7 {cs : List Value} {n : Nd} (h : NdR S w false cs n) : ∃ kind num at_ name a b c va vb vc, cs = [.int .i64 kind, .int .i64 num, .string ⟨name.toArray⟩, .int .i64 at_, va, vb, vc] ∧ n = .mk kind num name a b c ∧ NsR S w false va a ∧ NsR S w true vb b ∧ NsR S w false vc c := by
  cases h with
  | node ha hb hc sa sb sc la lb lc ra rb rc => exact ⟨_, _, _, _, _, _, _, _, _, _, rfl, rfl, ⟨_, _, ha, sa, la, ra⟩, ⟨_, _, hb, sb, lb, rb⟩, ⟨_, _, hc, sc, lc, rc⟩⟩
theorem NdR.un5 {cs : List Value} {n : Nd} (h : NdR S w true cs n) : ∃ at_ name a b c va vb vc, cs = [va, vb, vc, .string ⟨name.toArray⟩, .int .i64 at_] ∧ n = .mk 0 0 name a b c ∧ NsR S w false va a ∧ NsR S w false vb b ∧ NsR S w false vc c := by
  cases h with
  | clause ha hb hc sa sb sc la lb lc ra rb rc => exact ⟨_, _, _, _, _, _, _, _, rfl, rfl, ⟨_, _, ha, sa, la, ra⟩, ⟨_, _, hb, sb, lb, rb⟩, ⟨_, _, hc, sc, lc, rc⟩⟩
theorem NdR.len {k : Bool} {cs : List Value} {n : Nd} (h : NdR S w k cs n) : cs.length = wid k := by cases h <;> rfl
theorem NdR.one {k : Bool} {cs : List Value} {n : Nd} (h : NdR S w k cs n) : ∀ u ∈ cs, u.oneCell' = true := by
  have hv : ∀ {k n xs o v}, Rd w k v n xs o → v.oneCell' = true := fun h => by obtain ⟨-, a, c, rfl, -⟩ := h; rfl
  intro u hu
  cases h with
  | node ha hb hc =>
    simp at hu
    rcases hu with rfl | rfl | rfl | rfl | rfl | rfl | rfl
    all_goals first | rfl | exact hv ha | exact hv hb | exact hv hc
  | clause ha hb hc =>
    simp at hu
    rcases hu with rfl | rfl | rfl | rfl | rfl
    all_goals first | rfl | exact hv ha | exact hv hb | exact hv hc
theorem NsR.mono {k : Bool} {v : Value} {l : List Nd} (h : NsR S w k v l) (hs : ∀ b, S b → S' b) : NsR S' w k v l := by
  obtain ⟨es, o, h1, h2, h3, h4⟩ := h
  exact ⟨es, o, h1, fun x hx => hs x (h2 x hx), h3, fun i h h' => (h4 i h h').mono hs⟩
theorem NsR.keep {k : Bool} {v : Value} {l : List Nd} {F : List Nat} (h : NsR S w k v l) (hk : Keep F w w') (hs : ∀ b ∈ F, ¬ S b) : NsR S w' k v l := by
  obtain ⟨es, o, h1, h2, h3, h4⟩ := h
  exact ⟨es, o, h1.keep hk fun x h hf => hs x hf (h2 x h), h2, h3, fun i h h' => (h4 i h h').keep hk hs⟩
theorem NsR.nil (S : Nat → Prop) (w : World) (k : Bool) : NsR S w k (.slice none 0 0) [] := ⟨[], none, ⟨by simp, none, 0, rfl, Nat.le_refl _, by simp [maxLen], .inl ⟨rfl, rfl⟩⟩, (by simp), rfl, fun i h => by simp at h⟩
theorem NsR.form {k : Bool} {v : Value} {l : List Nd} (h : NsR S w k v l) : ∃ a c, v = .slice a l.length c := by
  obtain ⟨es, o, ⟨-, a, c, h, -⟩, -⟩ := h; exact ⟨a, c, h⟩
end
theorem NdR.un7s {S : Nat → Prop} {w : World} {cs : List Value} {n : Nd} (h : NdR S w false cs n) : ∃ kind num at_ name p1 n1 c1 p2 n2 c2 p3 n3 c3, cs = [.int .i64 kind, .int .i64 num, .string ⟨name.toArray⟩, .int .i64 at_, .slice p1 n1 c1, .slice p2 n2 c2, .slice p3 n3 c3] ∧ n.name = name := by
  obtain ⟨kind, num, at_, name, a, b, c, va, vb, vc, rfl, rfl, h1, h2, h3⟩ := h.un7
  obtain ⟨p1, c1, rfl⟩ := h1.form
  obtain ⟨p2, c2, rfl⟩ := h2.form
  obtain ⟨p3, c3, rfl⟩ := h3.form
  exact ⟨_, _, _, _, _, _, _, _, _, _, _, _, _, rfl, rfl⟩
theorem NdR.un5s {S : Nat → Prop} {w : World} {cs : List Value} {n : Nd} (h : NdR S w true cs n) : ∃ at_ name p1 n1 c1 p2 n2 c2 p3 n3 c3, cs = [.slice p1 n1 c1, .slice p2 n2 c2, .slice p3 n3 c3, .string (⟨name⟩ : ByteArray), .int .i64 at_] := by
  obtain ⟨at_, name, a, b, c, va, vb, vc, rfl, rfl, h1, h2, h3⟩ := h.un5
  obtain ⟨p1, c1, rfl⟩ := h1.form
  obtain ⟨p2, c2, rfl⟩ := h2.form
  obtain ⟨p3, c3, rfl⟩ := h3.form
  exact ⟨_, _, _, _, _, _, _, _, _, _, _, rfl⟩
/-- what is new since the heap had so many blocks -/
def Frs (lo : Nat) (w : World) (b : Nat) : Prop := lo ≤ b ∧ b < w.heap.size
theorem NdR.up {w w' : World} {lo lo' : Nat} {k : Bool} {cs : List Value} {n : Nd} {F : List Nat} (h : NdR (Frs lo w) w k cs n) (hk : Keep F w w') (hF : ∀ b ∈ F, b < lo) (hlo : lo' ≤ lo) : NdR (Frs lo' w') w' k cs n :=
  (h.keep hk (fun b hb h => by have := hF b hb; exact absurd h.1 (by omega))).mono (fun b h => ⟨Nat.le_trans hlo h.1, Nat.lt_of_lt_of_le h.2 hk.size⟩)
theorem NsR.up {w w' : World} {lo lo' : Nat} {k : Bool} {v : Value} {l : List Nd} {F : List Nat} (h : NsR (Frs lo w) w k v l) (hk : Keep F w w') (hF : ∀ b ∈ F, b < lo) (hlo : lo' ≤ lo) : NsR (Frs lo' w') w' k v l :=
  (h.keep hk (fun b hb h => by have := hF b hb; exact absurd h.1 (by omega))).mono (fun b h => ⟨Nat.le_trans hlo h.1, Nat.lt_of_lt_of_le h.2 hk.size⟩)
/-- what a row's elements may read: all that is new but the row itself -/
def FrsX (lo : Nat) (w : World) (o : Option Nat) (b : Nat) : Prop := lo ≤ b ∧ b < w.heap.size ∧ o ≠ some b
/-- a row of trees that grows -/
def RowN (lo : Nat) (w : World) (k : Bool) (v : Value) (l : List Nd) (o : Option Nat) : Prop :=
  ∃ (es : List (List Value)), Row w (if k then 52 else 29) (wid k) v l.length es.flatten o ∧ es.length = l.length ∧ (∀ i (h : i < es.length) (h' : i < l.length), NdR (FrsX lo w o) w k es[i] l[i]) ∧ ∀ b, o = some b → lo ≤ b
theorem RowN.nil (lo : Nat) (w : World) (k : Bool) : RowN lo w k (.slice none 0 0) [] none := ⟨[], Row.nil _ _ _, rfl, fun i h => by simp at h, by simp⟩
theorem RowN.lt {lo : Nat} {w : World} {k : Bool} {v : Value} {l : List Nd} {o : Option Nat} (h : RowN lo w k v l o) : ∀ b, o = some b → b < w.heap.size := by
  obtain ⟨es, h1, -⟩ := h; exact Row.lt h1
theorem RowN.keep {lo : Nat} {w w' : World} {k : Bool} {v : Value} {l : List Nd} {o : Option Nat} {F : List Nat} (h : RowN lo w k v l o) (hk : Keep F w w') (hF : ∀ b ∈ F, b < lo) : RowN lo w' k v l o := by
  obtain ⟨es, h1, h2, h3, h4⟩ := h
  exact ⟨es, h1.keep hk (fun b hb hf => absurd (h4 b hb) (by have := hF b hf; omega)), h2, fun i h h' => ((h3 i h h').keep hk (fun b hb h => absurd h.1 (by have := hF b hb; omega))).mono (fun b h => ⟨h.1, Nat.lt_of_lt_of_le h.2.1 hk.size, h.2.2⟩), h4⟩
theorem RowN.form {lo : Nat} {w : World} {k : Bool} {v : Value} {l : List Nd} {o : Option Nat} (h : RowN lo w k v l o) : ∃ a c, v = .slice a l.length c := by
  obtain ⟨es, h1, -⟩ := h
  obtain ⟨o', ⟨-, a, c, hv, -⟩, -⟩ := Row.rd h1
  exact ⟨a, c, hv⟩
/-- what is appended -/
theorem RowN.push {lo lo' : Nat} {w w' : World} {k : Bool} {v' : Value} {l : List Nd} {o : Option Nat} {g : Nat} {cs : List Value} {n : Nd} {es : List (List Value)}
    (he : es.length = l.length) (ht : ∀ i (h : i < es.length) (h' : i < l.length), NdR (FrsX lo w o) w k es[i] l[i]) (ho : ∀ b, o = some b → lo ≤ b) (hx : NdR (Frs lo' w) w k cs n) (hlo : lo ≤ lo') (hlo2 : lo' ≤ w.heap.size) (hol : ∀ b, o = some b → b < lo')
    (hk : Keep o.toList w w') (hg : o = some g ∨ w.heap.size ≤ g) (hr : Row w' (if k then 52 else 29) (wid k) v' (l.length + 1) (es.flatten ++ cs) (some g)) : RowN lo w' k v' (l ++ [n]) (some g) := by
  have hS : ∀ b, FrsX lo w o b → FrsX lo w' (some g) b := fun b h => ⟨h.1, Nat.lt_of_lt_of_le h.2.1 hk.size, fun e => by
    cases e
    rcases hg with hg | hg
    · exact h.2.2 hg
    · have := h.2.1; omega⟩
  have hX : ∀ b, Frs lo' w b → FrsX lo w' (some g) b := fun b h => ⟨Nat.le_trans hlo h.1, Nat.lt_of_lt_of_le h.2 hk.size, fun e => by
    cases e
    rcases hg with hg | hg
    · have := hol _ hg; have := h.1; omega
    · have := h.2; omega⟩
  refine ⟨es ++ [cs], by simpa using hr, by simp [he], fun i h h' => ?_, fun b hb => ?_⟩
  · by_cases hi : i < es.length
    · rw [List.getElem_append_left hi, List.getElem_append_left (by omega)]
      exact ((ht i hi (by omega)).keep hk (fun b hb h => by simp at hb; exact h.2.2 hb)).mono hS
    · obtain rfl : i = es.length := by simp at h; omega
      have e1 : (es ++ [cs])[es.length]'h = cs := by simp
      have e2 : (l ++ [n])[es.length]'h' = n := by rw [List.getElem_append_right (by omega)]; simp [he]
      rw [e1, e2]
      exact (hx.keep hk (fun b hb h => by simp at hb; have := hol _ hb; have := h.1; omega)).mono hX
  · cases hb
    rcases hg with hg | hg
    · exact ho _ hg
    · omega
/-- a row that grows no more -/
theorem RowN.ns {lo : Nat} {w : World} {k : Bool} {v : Value} {l : List Nd} {o : Option Nat} (h : RowN lo w k v l o) : NsR (Frs lo w) w k v l := by
  have hlt := h.lt
  obtain ⟨es, h1, h2, h3, h4⟩ := h
  obtain ⟨o', h5, h6⟩ := Row.rd h1
  refine ⟨es, o', h5, fun x hx => ?_, h2, fun i h h' => (h3 i h h').mono (fun b hb => ⟨hb.1, hb.2.1⟩)⟩
  rcases h6 with h6 | h6
  · rw [h6] at hx; cases hx
  · rw [h6] at hx; exact ⟨h4 x hx, hlt x hx⟩
end Go.Proofs.YtdmmhfbafinkpaaGreatDoor

/- Parse: the parser's state; place, fails, next. -/
namespace Go.Proofs.YtdmmhfbafinkpaaGreatDoor
open Go.RowKit Go.Emb

def encK (x : Tk × Nat) : List Value := [.int .i64 x.1.kind, .int .i64 x.1.num, .string ⟨x.1.text.toArray⟩, .int .i64 (x.2 : Nat), .int .i64 (x.2 + x.1.en : Nat)]
def strV (x : List UInt8) : Value := .string ⟨x.toArray⟩
/-- the table of the operators, in blocks below B -/
def LvT (B : Nat) (w : World) : Prop := ∀ v, v < 5 → ∃ sv o, w.cell? ⟨0, v, none⟩ = some sv ∧ Rd w 1 sv (levelsL v).length ((levelsL v).map strV) o ∧ (0 < B) ∧ ∀ b, o = some b → b < B
theorem LvT.keep {B : Nat} {w w' : World} {F : List Nat} (h : LvT B w) (hk : Keep F w w') (hF : ∀ b ∈ F, B ≤ b) : LvT B w' := fun v hv => by
  obtain ⟨sv, o, h1, h2, h3, h4⟩ := h v hv
  exact ⟨sv, o, by rw [hk.cell (World.block_lt_of_cell? _ _ h1) (fun hm => by have := hF _ hm; simp only at this; omega)]; exact h1, h2.keep hk (fun b hb hm => by have := hF _ hm; have := h4 b hb; omega), h3, h4⟩
/-- the parser in block pb; its tokens lie below lo -/
structure PS (lo : Nat) (w : World) (pb : Nat) (s : St) : Prop where
  blk : ∃ v o, w.heap[pb]? = some (.cells #[v, .int .i64 s.en, .int .i64 s.err, .int .i64 s.at_] 79 (0, 0)) ∧ Rd w 5 v s.toks.length (s.toks.flatMap encK) o ∧ ∀ b, o = some b → b < lo ∧ b ≠ pb
  plo : pb < lo
  lv : LvT pb w
theorem PS.lt {lo : Nat} {w : World} {pb : Nat} {s : St} (h : PS lo w pb s) : pb < w.heap.size := by
  obtain ⟨v, o, h, -⟩ := h.blk
  exact (Array.getElem?_eq_some_iff.1 h).1
theorem blkK {w w' : World} {q : Nat} {ob : Obj} {F : List Nat} (h : w.heap[q]? = some ob) (hk : Keep F w w') (hn : q ∉ F) : w'.heap[q]? = some ob := by
  rw [hk.block q (Array.getElem?_eq_some_iff.1 h).1 hn, h]
theorem PS.keep {lo : Nat} {w w' : World} {pb : Nat} {s : St} {F : List Nat} (h : PS lo w pb s) (hk : Keep F w w') (hF : ∀ b ∈ F, lo ≤ b) : PS lo w' pb s := by
  obtain ⟨v, o, h1, h2, h3⟩ := h.blk
  have hp := h.plo
  exact ⟨⟨v, o, blkK h1 hk (fun hm => by have := hF _ hm; omega), h2.keep hk (fun b hb hm => by have := hF _ hm; have := (h3 b hb).1; omega), h3⟩, hp, h.lv.keep hk (fun b hb => by have := hF b hb; omega)⟩
theorem PS.keep0 {lo : Nat} {w w' : World} {pb : Nat} {s : St} (h : PS lo w pb s) (hk : Keep [] w w') : PS lo w' pb s := h.keep hk (by simp)
theorem cells4p {w : World} {q : Nat} {a b c d : Value} {t : TypeId} (h : w.heap[q]? = some (.cells #[a, b, c, d] t (0, 0))) : w.cell? ⟨q, 0, none⟩ = some a ∧ w.cell? ⟨q, 1, none⟩ = some b ∧ w.cell? ⟨q, 2, none⟩ = some c ∧ w.cell? ⟨q, 3, none⟩ = some d := by
  refine ⟨?_, ?_, ?_, ?_⟩ <;> simp [World.cell?, h]
theorem frozenP {w : World} {q : Nat} {cs : Array Value} {t : TypeId} (h : w.heap[q]? = some (.cells cs t (0, 0))) : ∀ i, w.frozen? ⟨q, i, none⟩ = false := fun i => by simp [World.frozen?, h]
theorem toks_at {w : World} {v : Value} {x : Tk × Nat} {r : List (Tk × Nat)} {o : Option Nat} (h : Rd w 5 v (x :: r).length ((x :: r).flatMap encK) o) :
    ∃ b off c, v = .slice (some ⟨b, off, none⟩) (r.length + 1) c ∧ o = some b ∧ r.length + 1 ≤ c ∧ w.cell? ⟨b, off, none⟩ = some (.int .i64 x.1.kind) ∧ w.cell? ⟨b, off + 1, none⟩ = some (.int .i64 x.1.num) ∧ w.cell? ⟨b, off + 2, none⟩ = some (.string ⟨x.1.text.toArray⟩) ∧ w.cell? ⟨b, off + 3, none⟩ = some (.int .i64 (x.2 : Nat))
      ∧ Rd w 5 (.slice (some ⟨b, sliceOff off c 1 5, none⟩) r.length (c - 1)) r.length (r.flatMap encK) o := by
  obtain ⟨hl, a, c, rfl, h1, h2, h3⟩ := h
  rcases h3 with ⟨h3, _⟩ | ⟨b, off, rfl, rfl, h3⟩
  · cases h3
  have hr : (r.flatMap encK).length = r.length * 5 := by
    rw [List.flatMap_cons, List.length_append, List.length_cons, show (encK x).length = 5 from rfl] at hl
    omega
  have hl5 : (x :: r).length = r.length + 1 := rfl
  rw [hl5] at h3 h1
  refine ⟨b, off, c, rfl, rfl, h1, by simpa [encK] using h3 0 (by omega), by simpa [encK] using h3 1 (by omega), by simpa [encK] using h3 2 (by omega), by simpa [encK] using h3 3 (by omega), hr, _, _, rfl, by omega, by omega, ?_⟩
  by_cases hc : c = 1
  · have : r.length = 0 := by omega
    exact .inr ⟨b, _, rfl, rfl, fun i hi => by omega⟩
  · refine .inr ⟨b, _, rfl, rfl, fun i hi => ?_⟩
    unfold sliceOff
    rw [if_neg hc, show off + 1 * 5 + i = off + (5 + i) by omega, h3 (5 + i) (by omega), List.flatMap_cons, List.getElem?_append_right (by show 5 ≤ 5 + i; omega)]
    congr 1
    show 5 + i - 5 = i
    omega
theorem toks_nil {w : World} {v : Value} {o : Option Nat} (h : Rd w 5 v 0 [] o) : ∃ a c, v = .slice a 0 c := by obtain ⟨-, a, c, h, -⟩ := h; exact ⟨a, c, h⟩
set_option maxRecDepth 100000 in
set_option maxHeartbeats 1000000 in
theorem p_place {lo : Nat} {w : World} {pb : Nat} {s : St} (h : PS lo w pb s) : Calls Tryz.prog 67 #[.pointer (some ⟨pb, 0, none⟩)] w fun e w' => e = .returned (.int .i64 (plc s)) ∧ w = w' := by
  obtain ⟨v, o, h1, h2, -⟩ := h.blk
  obtain ⟨s0, s1, s2, s3⟩ := cells4p h1
  obtain ⟨toks, en, err, at_⟩ := s
  cases toks with
  | nil =>
    obtain ⟨a, c, rfl⟩ := toks_nil h2
    clear h1 h2 h
    simp only at s0 s1 s2 s3
    go_enter Tryz.func67, Tryz.ntmps67
    go_wp2_with fail
    go_ret
    exact ⟨rfl, rfl⟩
  | cons x r =>
    obtain ⟨b, off, c, rfl, -, -, c0, c1, c2, c3, -⟩ := toks_at h2
    clear h1 h2 h
    simp only at s0 s1 s2 s3
    go_enter Tryz.func67, Tryz.ntmps67
    go_wp2_with fail
    go_ret
    exact ⟨rfl, rfl⟩
set_option maxRecDepth 100000 in
set_option maxHeartbeats 1000000 in
theorem p_next {lo : Nat} {w : World} {pb : Nat} {s : St} (h : PS lo w pb s) : Calls Tryz.prog 99 #[.pointer (some ⟨pb, 0, none⟩)] w fun e w' => e = .returned (.string ⟨(nextS s).toArray⟩) ∧ w = w' := by
  obtain ⟨v, o, h1, h2, -⟩ := h.blk
  obtain ⟨s0, s1, s2, s3⟩ := cells4p h1
  obtain ⟨toks, en, err, at_⟩ := s
  cases toks with
  | nil =>
    obtain ⟨a, c, rfl⟩ := toks_nil h2
    clear h1 h2 h
    simp only at s0 s1 s2 s3
    go_enter Tryz.func99, Tryz.ntmps99
    go_wp2_with fail
    go_ret
    exact ⟨rfl, rfl⟩
  | cons x r =>
    obtain ⟨b, off, c, rfl, -, -, c0, c1, c2, c3, -⟩ := toks_at h2
    clear h1 h2 h
    simp only at s0 s1 s2 s3
    by_cases hk : x.1.kind < 4
    · go_enter Tryz.func99, Tryz.ntmps99
      go_wp2_with fail
      go_ret
      exact ⟨by simp [nextS, hk], rfl⟩
    · go_enter Tryz.func99, Tryz.ntmps99
      go_wp2_with fail
      go_ret
      exact ⟨by simp [nextS]; intro h; omega, rfl⟩
/-- a state's box: what is written -/
theorem PS.written {lo : Nat} {w w' : World} {pb : Nat} {s s' : St} {v' : Value} {o' : Option Nat} (h : PS lo w pb s) (hk : Keep [pb] w w') (hb : w'.heap[pb]? = some (.cells #[v', .int .i64 s'.en, .int .i64 s'.err, .int .i64 s'.at_] 79 (0, 0)))
    (hr : Rd w 5 v' s'.toks.length (s'.toks.flatMap encK) o') (ho : ∀ b, o' = some b → b < lo ∧ b ≠ pb) : PS lo w' pb s' :=
  ⟨⟨v', o', hb, hr.keep hk (fun b hb => by simpa using (ho b hb).2), ho⟩, h.plo, h.lv.keep hk (by simp)⟩
set_option maxRecDepth 100000 in
set_option maxHeartbeats 1000000 in
theorem p_fails {lo : Nat} {w : World} {pb : Nat} {s : St} (h : PS lo w pb s) (x : Int) : Calls Tryz.prog 44 #[.pointer (some ⟨pb, 0, none⟩), .int .i64 x] w fun e w' => e = .returned (.tuple #[]) ∧ PS lo w' pb (failS x s) ∧ Keep [pb] w w' := by
  have HPL := Lib.hid (p_place h)
  have H := Lib.hid h
  obtain ⟨v, o, h1, h2, h3⟩ := h.blk
  obtain ⟨s0, s1, s2, s3⟩ := cells4p h1
  have f0 := frozenP h1
  obtain ⟨pl, hpl⟩ : ∃ pl, pl = plc s := ⟨_, rfl⟩
  rw [← hpl] at HPL
  have HB := Lib.hid h1
  obtain ⟨er, her⟩ : ∃ er, er = s.err := ⟨_, rfl⟩
  rw [← her] at s2
  have HE := Lib.hid her
  have HP := Lib.hid hpl
  clear h1 h2 h3 h her hpl
  by_cases he : er = 0
  · have he' : (er == 0) = true := by simp [he]
    go_enter Tryz.func44, Tryz.ntmps44
    go_wp2_with (go_at_call 67; refine HPL.out.mono ?_; rintro e w1 ⟨rfl, rfl⟩)
    go_end0
    refine ⟨rfl, ?_, (((Keep.refl [pb] w).setCell (.inl (by simp)) _).setCell (.inl (by simp)) _).setCell (.inl (by simp)) _ |>.setCell (.inl (by simp)) _⟩
    unfold failS
    rw [if_pos (by rw [← HE.out]; exact he), ← HP.out]
    refine H.out.written (v' := .slice none 0 0) (o' := none) ((((Keep.refl [pb] w).setCell (.inl (by simp)) _).setCell (.inl (by simp)) _).setCell (.inl (by simp)) _ |>.setCell (.inl (by simp)) _) ?_ ⟨rfl, none, 0, rfl, Nat.le_refl _, by simp [maxLen], .inl ⟨rfl, rfl⟩⟩ (by simp)
    simpa using heap_setCell_at (i := 1) (heap_setCell_at (i := 0) (heap_setCell_at (i := 3) (heap_setCell_at (i := 2) HB.out (.int .i64 x)) (.int .i64 pl)) (.slice none 0 0)) (.int .i64 (-1))
  · have he' : (er == 0) = false := beq_eq_false_iff_ne.2 he
    go_enter Tryz.func44, Tryz.ntmps44
    go_wp2_with fail
    go_end0
    unfold failS
    rw [if_neg (by rw [← HE.out]; exact he)]
    exact ⟨rfl, H.out, Keep.refl _ _⟩
end Go.Proofs.YtdmmhfbafinkpaaGreatDoor

/- Parse: take, has, must, enter. -/
namespace Go.Proofs.YtdmmhfbafinkpaaGreatDoor
open Go.RowKit Go.Emb

theorem strV_inj {x y : List UInt8} : ((⟨x.toArray⟩ : ByteArray) = ⟨y.toArray⟩) ↔ x = y := ⟨fun h => by injection h with h; injection h, fun h => by rw [h]⟩
theorem bl_list (x : List UInt8) : (⟨x.toArray⟩ : ByteArray).toList = x := by rw [_root_.Go.ByteArray.toList_eq]
/-- a slice of texts -/
def RdT (w : World) (v : Value) (l : List (List UInt8)) : Prop := ∃ o, Rd w 1 v l.length (l.map strV) o
theorem RdT.form {w : World} {v : Value} {l : List (List UInt8)} (h : RdT w v l) : ∃ a c, v = .slice a l.length c := by obtain ⟨o, -, a, c, h, -⟩ := h; exact ⟨a, c, h⟩
theorem RdT.at {w : World} {a : Option Addr} {n c : Nat} {l : List (List UInt8)} (h : RdT w (.slice a n c) l) {k : Nat} (hk : k < l.length) : ∃ b off, a = some ⟨b, off, none⟩ ∧ w.cell? ⟨b, off + k, none⟩ = some (.string ⟨l[k].toArray⟩) := by
  obtain ⟨o, -, a', c', hv, -, -, h3⟩ := h
  cases hv
  rcases h3 with ⟨h3, _⟩ | ⟨b, off, rfl, -, h3⟩
  · omega
  · exact ⟨b, off, rfl, by rw [h3 k (by omega)]; simp [hk, strV]⟩
def TakeP (lo : Nat) (w : World) (pb : Nat) (r : Option (List UInt8)) (s : St) (e : Ending) (w' : World) : Prop :=
  e = .returned (.tuple #[.string ⟨(r.getD []).toArray⟩, .bool r.isSome]) ∧ PS lo w' pb s ∧ Keep [pb] w w'
theorem takeS_none {l : List (List UInt8)} {s : St} (h : ∀ x ∈ l, ¬ (nextS s = x ∧ nextS s ≠ [])) : takeS l s = (none, s) := by
  unfold takeS
  rw [if_neg (fun hc => h _ hc.1 ⟨rfl, hc.2⟩)]
theorem takeS_some {l : List (List UInt8)} {s : St} {x : List UInt8} (hx : x ∈ l) (h : nextS s = x) (h0 : nextS s ≠ []) : takeS l s = (some x, { s with toks := s.toks.tail }) := by
  unfold takeS
  rw [if_pos ⟨by rw [h]; exact hx, h0⟩, h]
theorem next_cons {s : St} (h : nextS s ≠ []) : ∃ x r, s.toks = x :: r := by
  match hs : s.toks with
  | [] => exact absurd (nextS_nil hs) h
  | x :: r => exact ⟨x, r, rfl⟩
set_option maxRecDepth 100000 in
set_option maxHeartbeats 1000000 in
theorem p_take {lo : Nat} {w : World} {pb : Nat} {s : St} (h : PS lo w pb s) {v : Value} {l : List (List UInt8)} (hr : RdT w v l) :
    Calls Tryz.prog 68 #[.pointer (some ⟨pb, 0, none⟩), v] w (TakeP lo w pb (takeS l s).1 (takeS l s).2) := by
  obtain ⟨la, lc, rfl⟩ := hr.form
  have hlm : l.length ≤ 9223372036854775807 := by obtain ⟨o, -, a, c, e, h1, h2, -⟩ := hr; cases e; unfold maxLen at h2; omega
  have HN := Lib.hid (p_next h)
  have H := Lib.hid h
  have HR := Lib.hid hr
  obtain ⟨nx, hnx⟩ : ∃ nx, nx = nextS s := ⟨_, rfl⟩
  rw [← hnx] at HN
  have HX := Lib.hid hnx
  clear hnx hr h
  go_enter Tryz.func68, Tryz.ntmps68
  go_wp2_with (go_at_call 99; refine HN.out.mono ?_; rintro e w1 ⟨rfl, rfl⟩)
  go_loop [13] (fun s13 => ∃ k : Nat, s13 = .int .i64 k ∧ k ≤ l.length ∧ ∀ j (hj : j < l.length), j < k → ¬ (nx = l[j] ∧ nx ≠ [])) (fun s13 => l.length - (RowKit.intOf s13).toNat)
  case atStart => exact ⟨0, rfl, Nat.zero_le _, fun j _ hj => by omega⟩
  case round =>
    obtain ⟨k, rfl, hk, hno⟩ := hrel
    have HNO := Lib.hid hno
    clear hno
    by_cases hlt : k < l.length
    · have hlt' : (k : Int) < (l.length : Int) := by omega
      obtain ⟨b, off, rfl, hc⟩ := HR.out.at hlt
      obtain ⟨x, hx⟩ : ∃ x, x = l[k] := ⟨_, rfl⟩
      rw [← hx] at hc
      obtain ⟨NX, hNX⟩ : ∃ NX : ByteArray, NX = ⟨nx.toArray⟩ := ⟨_, rfl⟩
      obtain ⟨X, hX⟩ : ∃ X : ByteArray, X = ⟨x.toArray⟩ := ⟨_, rfl⟩
      rw [← hNX]
      rw [← hX] at hc
      have hin : x ∈ l := by rw [hx]; exact List.getElem_mem _
      have HIN := Lib.hid hin
      by_cases h1 : nx = x
      · have q1 : NX = X := by rw [hNX, hX, h1]
        by_cases h0 : nx = []
        · have q2 : X.toList.isEmpty = true := by rw [← q1, hNX, bl_list, h0]; rfl
          have HX0 := Lib.hid h0
          clear h1 h0 hNX hX hx hin
          go_wp2_with fail
          go_round
          case rel => exact ⟨k + 1, by go_num, by omega, fun j hj hlt => by
            by_cases hjk : j < k
            · exact HNO.out j hj hjk
            · exact fun hc => hc.2 HX0.out⟩
          case measure => simp [RowKit.intOf]; omega
        · have q2 : X.toList.isEmpty = false := by
            rw [← q1, hNX, bl_list]
            cases nx with
            | nil => exact absurd rfl h0
            | cons _ _ => rfl
          have hs0 : nextS s ≠ [] := by rw [← HX.out]; exact h0
          obtain ⟨y, r, hyr⟩ := next_cons hs0
          obtain ⟨pv, po, hb, hrd, ho⟩ := H.out.blk
          rw [hyr] at hrd
          obtain ⟨tb, toff, tc, rfl, rfl, htc, -, -, -, -, hrd2⟩ := toks_at hrd
          obtain ⟨s0, s1, s2, s3⟩ := cells4p hb
          have f0 := frozenP hb
          have hsl : ∀ W, (Instr.slice 46 (.slice (some ⟨tb, toff, none⟩) (r.length + 1) tc) (some (.int .i64 1)) none none).run Tryz.prog W = .ok (.slice (some ⟨tb, sliceOff toff tc 1 5, none⟩) r.length (tc - 1)) W := by
            intro W
            exact run_slice_lo W Tryz.underlying46 (fun _ => by kernel_rfl) tb toff (r.length + 1) tc 1 (by omega)
          have hko : Keep [pb] w (w.setCell ⟨pb, 0, none⟩ (.slice (some ⟨tb, sliceOff toff tc 1 5, none⟩) r.length (tc - 1))) := Keep.set1 w ⟨pb, 0, none⟩ _
          have hps : PS lo (w.setCell ⟨pb, 0, none⟩ (.slice (some ⟨tb, sliceOff toff tc 1 5, none⟩) r.length (tc - 1))) pb { s with toks := s.toks.tail } := by
            rw [hyr]
            exact H.out.written hko (by simpa using heap_setCell_at (i := 0) hb (.slice (some ⟨tb, sliceOff toff tc 1 5, none⟩) r.length (tc - 1))) hrd2 ho
          have HPS := Lib.hid hps
          have HKO := Lib.hid hko
          have hres := takeS_some hin (by rw [← HX.out]; exact h1) hs0
          have HRES := Lib.hid hres
          have HXX := Lib.hid hX
          clear h1 h0 hNX hX hx hin hs0 hyr hb hrd ho htc hrd2 hko hps hres
          go_wp2_with fail
          go_ret2
          rw [HRES.out]
          exact ⟨by rw [HXX.out]; rfl, HPS.out, HKO.out⟩
      · have q1 : ¬ NX.toList = X.toList := by
          rw [hNX, hX, bl_list, bl_list]
          exact h1
        have HX0 := Lib.hid h1
        have HX1 := Lib.hid hx
        clear h1 hNX hX hx hin
        go_wp2_with fail
        go_round
        case rel => exact ⟨k + 1, by go_num, by omega, fun j hj hlt => by
            by_cases hjk : j < k
            · exact HNO.out j hj hjk
            · obtain rfl : j = k := by omega
              rw [← HX1.out]
              exact fun hc => HX0.out hc.1⟩
        case measure => simp [RowKit.intOf]; omega
    · obtain rfl : k = l.length := by omega
      go_wp2_with fail
      go_ret2
      have hres := takeS_none (l := l) (s := s) (fun x hx => by
        obtain ⟨j, hj, rfl⟩ := List.mem_iff_getElem.1 hx
        rw [← HX.out]
        exact HNO.out j hj (by omega))
      rw [hres]
      exact ⟨rfl, H.out, Keep.refl _ _⟩
theorem RdT.keep0 {w w' : World} {v : Value} {l : List (List UInt8)} (h : RdT w v l) (hk : Keep [] w w') : RdT w' v l := by
  obtain ⟨o, h⟩ := h
  exact ⟨o, h.keep0 hk⟩
/-- a literal of texts -/
theorem rdT_lit (w : World) (l : List (List UInt8)) (n : Nat) (hn : n = l.length) (hm : n ≤ maxLen) (t : TypeId) (cs : Array Value) (hcs : cs = (l.map strV).toArray) : RdT (w.alloc (.cells cs t)) (.slice (some ⟨w.heap.size, 0, none⟩) n n) l := by
  subst hn hcs
  refine ⟨some w.heap.size, by simp, _, _, rfl, Nat.le_refl _, hm, .inr ⟨_, 0, rfl, rfl, fun i hi => ?_⟩⟩
  have h := heap_alloc_new w (.cells (l.map strV).toArray t)
  rw [World.cell?, h]
  simp
set_option maxRecDepth 100000 in
set_option maxHeartbeats 1000000 in
theorem p_has {lo : Nat} {w : World} {pb : Nat} {s : St} (h : PS lo w pb s) (hlo : lo ≤ w.heap.size) (x : List UInt8) :
    Calls Tryz.prog 94 #[.pointer (some ⟨pb, 0, none⟩), .string ⟨x.toArray⟩] w fun e w' => e = .returned (.bool (hasS x s).1) ∧ PS lo w' pb (hasS x s).2 ∧ Keep [pb] w w' := by
  have hk := (Keep.refl [] w).alloc (.cells #[.string ⟨x.toArray⟩] 9)
  have HK := Lib.hid hk
  have HT := Lib.hid (p_take (h.keep0 hk) (rdT_lit w [x] 1 rfl (by simp [maxLen]) 9 #[.string ⟨x.toArray⟩] rfl))
  clear hk h
  go_enter Tryz.func94, Tryz.ntmps94
  go_wp2_with fail
  refine HT.out.mono ?_
  rintro e w2 ⟨rfl, hps, hk2⟩
  have HPS := Lib.hid hps
  have HK2 := Lib.hid ((HK.out.mono (G := [pb]) (by simp)).trans hk2 (by simp))
  clear hps hk2
  go_wp2_with fail
  go_ret
  exact ⟨rfl, HPS.out, HK2.out⟩
set_option maxRecDepth 100000 in
set_option maxHeartbeats 1000000 in
theorem p_must {lo : Nat} {w : World} {pb : Nat} {s : St} (h : PS lo w pb s) (hlo : lo ≤ w.heap.size) (x : List UInt8) :
    Calls Tryz.prog 63 #[.pointer (some ⟨pb, 0, none⟩), .string ⟨x.toArray⟩] w fun e w' => e = .returned (.tuple #[]) ∧ PS lo w' pb (mustS x s) ∧ Keep [pb] w w' := by
  have HT := Lib.hid (p_has h hlo x)
  obtain ⟨bo, hbo⟩ : ∃ bo, bo = (hasS x s).1 := ⟨_, rfl⟩
  rw [← hbo] at HT
  have HB := Lib.hid hbo
  clear hbo h
  go_enter Tryz.func63, Tryz.ntmps63
  go_wp2_with fail
  refine HT.out.mono ?_
  rintro e w2 ⟨rfl, hps, hk2⟩
  have HPS := Lib.hid hps
  have HK2 := Lib.hid hk2
  have HF := Lib.hid (p_fails hps 110)
  clear hps hk2
  cases bo
  · go_wp2_with (go_at_call 44; refine HF.out.mono ?_; rintro e w3 ⟨rfl, h3, hk3⟩; have H3 := Lib.hid h3; have HK3 := Lib.hid hk3; clear h3 hk3)
    go_end0
    unfold mustS
    rw [if_neg (by rw [← HB.out]; decide)]
    exact ⟨rfl, H3.out, HK2.out.trans HK3.out (by simp)⟩
  · go_wp2_with fail
    go_end0
    unfold mustS
    rw [if_pos HB.out.symm]
    exact ⟨rfl, HPS.out, HK2.out⟩
set_option maxRecDepth 100000 in
set_option maxHeartbeats 1000000 in
theorem p_enter {lo : Nat} {w : World} {pb : Nat} {s : St} (h : PS lo w pb s) (d : Nat) :
    Calls Tryz.prog 65 #[.pointer (some ⟨pb, 0, none⟩), .int .i64 d] w fun e w' => e = .returned (.tuple #[]) ∧ PS lo w' pb (enterS d s) ∧ Keep [pb] w w' := by
  have HF := Lib.hid (p_fails h 111)
  have H := Lib.hid h
  clear h
  by_cases hd : 64 < d
  · have hd' : (64 : Int) < (d : Int) := by omega
    go_enter Tryz.func65, Tryz.ntmps65
    go_wp2_with (go_at_call 44; refine HF.out.mono ?_; rintro e w3 ⟨rfl, h3, hk3⟩; have H3 := Lib.hid h3; have HK3 := Lib.hid hk3; clear h3 hk3)
    go_end0
    unfold enterS
    rw [if_pos hd]
    exact ⟨rfl, H3.out, HK3.out⟩
  · have hd' : ¬ (64 : Int) < (d : Int) := by omega
    go_enter Tryz.func65, Tryz.ntmps65
    go_wp2_with fail
    go_end0
    unfold enterS
    rw [if_neg hd]
    exact ⟨rfl, H.out, Keep.refl _ _⟩
end Go.Proofs.YtdmmhfbafinkpaaGreatDoor
