/- A part of the proof (Base), joined by squeeze2.py. -/
import Derived.WalkKit
import Derived.Outline
import Derived.Below
import Derived.Lib.Hide
import Derived.Maps.OwnSet
import Derived.Deep.Draws
import Derived.Deep.AppendSrc
set_option maxHeartbeats 8000000
set_option maxRecDepth 100000
namespace Go.Emb
open Go.RowKit
theorem hyd {p : Prop} (h : p) : RowKit.Hid p := h
theorem _root_.Go.RowKit.Hid.o {p : Prop} (h : RowKit.Hid p) : p := h
theorem lA {α : Type _} (l : List α) (i : Nat) (a : α) : l.toArray.setIfInBounds i a = (l.set i a).toArray := List.setIfInBounds_toArray ..
theorem lZ {α : Type _} (x : α) (xs : List α) (a : α) : (x :: xs).set 0 a = a :: xs := rfl
theorem lS {α : Type _} (x : α) (xs : List α) (i : Nat) (a : α) : (x :: xs).set (i + 1) a = x :: xs.set i a := rfl
structure Keep (F : List Nat) (w w' : World) : Prop where
 os : w'.os = w.os
 tape : w'.tape = w.tape
 output : w'.output = w.output
 size : w.heap.size ≤ w'.heap.size
 block : ∀ b, b < w.heap.size → b ∉ F → w'.heap[b]? = w.heap[b]?
theorem Keep.refl (F : List Nat) (w : World) : Keep F w w := ⟨rfl, rfl, rfl, Nat.le_refl _, fun _ _ _ => rfl⟩
theorem Keep.mono {F G : List Nat} {w w' : World} (h : Keep F w w') (hs : ∀ b ∈ F, b < w.heap.size → b ∈ G) : Keep G w w' :=
 ⟨h.os, h.tape, h.output, h.size, fun b hb hn => h.block b hb fun hf => hn (hs b hf hb)⟩
theorem Keep.trans {F G : List Nat} {a b c : World} (h : Keep F a b) (k : Keep G b c) (hs : ∀ x ∈ G, x ∈ F ∨ a.heap.size ≤ x) : Keep F a c :=
 ⟨k.os.trans h.os, k.tape.trans h.tape, k.output.trans h.output, Nat.le_trans h.size k.size, fun x hx hn =>
   (k.block x (Nat.lt_of_lt_of_le hx h.size) fun hg => by rcases hs x hg with h1 | h1; exact hn h1; omega).trans (h.block x hx hn)⟩
theorem Keep.drew {F : List Nat} {a w : World} (h : Keep F a w) : Keep F a w.drew := ⟨h.os, h.tape, h.output, h.size, h.block⟩
theorem Keep.drewN {F : List Nat} {a w : World} (h : Keep F a w) (n : Nat) : Keep F a (w.drewN n) := ⟨h.os, h.tape, h.output, h.size, h.block⟩
theorem Keep.alloc {F : List Nat} {a w : World} (h : Keep F a w) (o : Obj) : Keep F a (w.alloc o) :=
 ⟨h.os, h.tape, h.output, Nat.le_trans h.size (by simp), fun b hb hn => (Below.heap_alloc w o b (Nat.lt_of_lt_of_le hb h.size)).trans (h.block b hb hn)⟩
theorem Keep.setCell {F : List Nat} {a w : World} (h : Keep F a w) {p : Addr} (hp : p.block ∈ F ∨ a.heap.size ≤ p.block) (u : Value) : Keep F a (w.setCell p u) :=
 ⟨h.os, h.tape, h.output, by simpa [World.setCell] using h.size, fun b hb hn => (Below.heap_setCell w p u b (by
   rintro rfl
   rcases hp with hp | hp
   · exact hn hp
   · omega)).trans (h.block b hb hn)⟩
theorem Keep.set1 (w : World) (p : Addr) (u : Value) : Keep [p.block] w (w.setCell p u) := (Keep.refl _ _).setCell (.inl (by simp)) u
theorem Keep.grown {F : List Nat} {a w w' : World} {row : Option Nat} (h : Keep F a w) (hg : w.grownBy w' row) (hr : ∀ k, row = some k → k ∈ F ∨ a.heap.size ≤ k) : Keep F a w' :=
 ⟨hg.os.trans h.os, hg.tape.trans h.tape, hg.output.trans h.output, Nat.le_trans h.size hg.size, fun b hb hn =>
   (hg.block b (Nat.lt_of_lt_of_le hb h.size) (fun e => by rcases hr b e.symm with h1 | h1; exact hn h1; omega)).trans (h.block b hb hn)⟩
theorem Keep.of_below {F : List Nat} {a w : World} (h : Below a.heap.size a w) : Keep F a w := ⟨h.os, h.tape, h.output, h.size, fun b hb _ => h.block b hb⟩
theorem Keep.below {F : List Nat} {a w : World} {B : Nat} (h : Keep F a w) (hF : ∀ b ∈ F, B ≤ b) (hB : B ≤ a.heap.size) : Below B a w :=
 ⟨h.os, h.tape, h.output, h.size, fun b hb => h.block b (Nat.lt_of_lt_of_le hb hB) fun hf => by have := hF b hf; omega⟩
theorem Keep.cell {F : List Nat} {w w' : World} (h : Keep F w w') {p : Addr} (hp : p.block < w.heap.size) (hn : p.block ∉ F) : w'.cell? p = w.cell? p := World.cell?_of_block (h.block _ hp hn)
def Rd (w : World) (k : Nat) (v : Value) (n : Nat) (xs : List Value) (o : Option Nat) : Prop :=
 xs.length = n * k ∧ ∃ a c, v = .slice a n c ∧ n ≤ c ∧ c ≤ maxLen ∧
  ((n = 0 ∧ o = none) ∨ ∃ b off, a = some ⟨b, off, none⟩ ∧ o = some b ∧ ∀ i, i < n * k → w.cell? ⟨b, off + i, none⟩ = xs[i]?)
theorem Rd.keep {F : List Nat} {w w' : World} {k : Nat} {v : Value} {n : Nat} {xs : List Value} {o : Option Nat} (h : Rd w k v n xs o) (hk : Keep F w w') (hn : ∀ b, o = some b → b ∉ F) : Rd w' k v n xs o := by
 obtain ⟨hl, a, c, rfl, h1, h2, h3⟩ := h
 refine ⟨hl, a, c, rfl, h1, h2, ?_⟩
 rcases h3 with h3 | ⟨b, off, rfl, rfl, h3⟩
 ·exact .inl h3
 ·refine .inr ⟨b, off, rfl, rfl, fun i hi => ?_⟩
  have hi' := h3 i hi
  have hlt : b < w.heap.size := by
   rw [List.getElem?_eq_getElem (by omega)] at hi'
   exact World.block_lt_of_cell? _ _ hi'
  rw [hk.cell (p := ⟨b, off + i, none⟩) hlt (hn b rfl)]
  exact hi'
theorem Rd.keep0 {w w' : World} {k : Nat} {v : Value} {n : Nat} {xs : List Value} {o : Option Nat} (h : Rd w k v n xs o) (hk : Keep [] w w') : Rd w' k v n xs o := h.keep hk (by simp)
def Row (w : World) (E k : Nat) (v : Value) (n : Nat) (xs : List Value) (o : Option Nat) : Prop :=
 xs.length = n * k ∧ ((o = none ∧ v = .slice none 0 0 ∧ n = 0) ∨
 ∃ b off cap cs, o = some b ∧ v = .slice (some ⟨b, off, none⟩) n cap ∧ w.heap[b]? = some (.cells cs E (0, 0)) ∧ n ≤ cap ∧ cap ≤ maxLen ∧ off + cap * k ≤ cs.size ∧
   ∀ i, i < n * k → cs[off + i]? = xs[i]?)
theorem Row.rd {w : World} {E k : Nat} {v : Value} {n : Nat} {xs : List Value} {o : Option Nat} (h : Row w E k v n xs o) : ∃ o', Rd w k v n xs o' ∧ (o' = none ∨ o' = o) := by
 obtain ⟨hl, h⟩ := h
 rcases h with ⟨rfl, rfl, rfl⟩ | ⟨b, off, cap, cs, rfl, rfl, hb, h1, h2, h3, h5⟩
 ·exact ⟨none, ⟨hl, none, 0, rfl, Nat.le_refl _, Nat.zero_le _, .inl ⟨rfl, rfl⟩⟩, .inl rfl⟩
 ·refine ⟨some b, ⟨hl, _, cap, rfl, h1, h2, .inr ⟨b, off, rfl, rfl, fun i hi => ?_⟩⟩, .inr rfl⟩
  rw [← h5 i hi]
  simp [World.cell?, hb]
theorem Row.lt {w : World} {E k : Nat} {v : Value} {n : Nat} {xs : List Value} {o : Option Nat} (h : Row w E k v n xs o) : ∀ b, o = some b → b < w.heap.size := by
 obtain ⟨hl, h⟩ := h
 rcases h with ⟨rfl, rfl, rfl⟩ | ⟨b, off, cap, cs, rfl, rfl, hb, _⟩
 ·intro b h; cases h
 ·intro b h; cases h
  exact (Array.getElem?_eq_some_iff.1 hb).1
theorem Row.keep {F : List Nat} {w w' : World} {E k : Nat} {v : Value} {n : Nat} {xs : List Value} {o : Option Nat} (h : Row w E k v n xs o) (hk : Keep F w w') (hn : ∀ b, o = some b → b ∉ F) : Row w' E k v n xs o := by
 have hlt := h.lt
 obtain ⟨hl, h⟩ := h
 refine ⟨hl, ?_⟩
 rcases h with h | ⟨b, off, cap, cs, rfl, rfl, hb, r⟩
 ·exact .inl h
 ·exact .inr ⟨b, off, cap, cs, rfl, rfl, (hk.block b (hlt b rfl) (hn b rfl)).trans hb, r⟩
theorem Row.nil (w : World) (E k : Nat) : Row w E k (.slice none 0 0) 0 [] none := ⟨by simp, .inl ⟨rfl, rfl, rfl⟩⟩
theorem Rd.src {P : Program} {w : World} {k : Nat} {v : Value} {n : Nat} {xs : List Value} {o : Option Nat} {tx e' : TypeId} (h : Rd w k v n xs o) (hk : P.underlying tx = some (.slice e')) (hn : 0 < n) (h1 : ∀ u ∈ xs, u.oneCell' = true) : Src P k tx v n xs w := by
 obtain ⟨hl, a, c, rfl, _, h2, h3⟩ := h
 rcases h3 with ⟨h3, _⟩ | ⟨b, off, rfl, rfl, h3⟩
 ·omega
 ·refine Src.ofSlice w hk _ n c xs hl (fun j u hu => ?_) h1
  have hj : j < n * k := by
   rcases Nat.lt_or_ge j xs.length with h | h
   ·omega
   ·rw [List.getElem?_eq_none h] at hu; cases hu
  have hadd : (⟨b, off, none⟩ : Addr).add j = ⟨b, off + j, none⟩ := by unfold Addr.add; split <;> simp_all
  rw [hadd, h3 j hj, hu]
theorem run_append_row {P : Program} {w : World} {T tx ty E : TypeId} {i : TypeInfo} {z : Value} {k bytes : Nat} (ht : P.underlying T = some (.slice E)) (hi : P.info? E = some i) (hz : i.zero = some z) (hik : i.size = k) (hib : i.bytes = bytes)
  (hzs : z.cells.size = k) {v : Value} {n : Nat} {xs : List Value} {o : Option Nat} (h : Row w E k v n xs o) {x : Value} {m : Nat} {news : List Value} (hs : Src P k tx x m news w) (hpos : 0 < m)
  (h63 : n + m ≤ maxLen) (hbytes : (n + m) * bytes ≤ 140737488355328) :
  ∃ g off cap w', (Builtin.append_ #[T, tx] ty #[v, x]).run P w = .ok (.slice (some ⟨g, off, none⟩) (n + m) cap) w' ∧ Row w' E k (.slice (some ⟨g, off, none⟩) (n + m) cap) (n + m) (xs ++ news) (some g) ∧ Keep o.toList w w' ∧ (o = some g ∨ w.heap.size ≤ g) := by
 subst hik
 subst hib
 have hm := hs.newsLen
 have h1 := hs.one
 obtain ⟨hl, h⟩ := h
 have hlen : (xs ++ news).length = (n + m) * i.size := by rw [List.length_append, hl, hm, Nat.add_mul]
 have grown : ∀ (old : Nat), old < n + m → ∀ o : Option Nat,
   Row (w.drew.alloc (.cells ((xs ++ news).toArray ++ Builtin.zeroCells z.cells (grownCap w (n + m) old E - (n + m))) E)) E i.size
    (.slice (some ⟨w.heap.size, 0, none⟩) (n + m) (grownCap w (n + m) old E)) (n + m) (xs ++ news) (some w.heap.size) ∧
   Keep o.toList w (w.drew.alloc (.cells ((xs ++ news).toArray ++ Builtin.zeroCells z.cells (grownCap w (n + m) old E - (n + m))) E)) := by
  intro old ho o
  have hge := grownCap_ge w (n + m) old E
  have hcm : grownCap w (n + m) old E ≤ maxLen := grownCap_le_maxLen w (n + m) old E h63
  refine ⟨⟨hlen, .inr ⟨w.heap.size, 0, _, _, rfl, rfl, heap_alloc_new w.drew _, hge, hcm, ?_, ?_⟩⟩, (Keep.refl _ _).drew.alloc _⟩
  ·simp only [Array.size_append, List.size_toArray, size_zeroCells, hzs, hlen, ← Nat.add_mul, Nat.zero_add]
   exact Nat.mul_le_mul_right _ (by omega)
  ·intro j hj
   rw [Nat.zero_add, Array.getElem?_append_left (by simp only [List.size_toArray, hlen]; exact hj)]
   simp
 rcases h with ⟨rfl, rfl, rfl⟩ | ⟨b, off, cap, cs, rfl, rfl, hb, h2, h3, h4, h5⟩
 ·have hx : xs = [] := List.eq_nil_of_length_eq_zero (by simpa using hl)
  subst hx
  have hr := run_append_grow_src (P := P) w T tx ty E i z ht hi hz none 0 0 [] (by simp [Builtin.firstCells]) x m news hs (by omega) (by simp only [maxLen] at h63; omega) (growslice_fits (by omega) hbytes)
  have hg := grown 0 (by omega) none
  simp only [List.nil_append] at hr hg ⊢
  exact ⟨_, _, _, _, hr, hg.1, hg.2, .inr (Nat.le_refl _)⟩
 ·by_cases hroom : n + m ≤ cap
  ·have hfit : off + n * i.size + 0 + news.length ≤ cs.size := by
    have : (n + m) * i.size ≤ cap * i.size := Nat.mul_le_mul_right _ hroom
    rw [Nat.add_mul] at this
    omega
   have hst := run_storeCells_at P b (off + n * i.size) E news 0 cs w hb hfit h1
   simp only [Nat.add_zero] at hst hfit
   have hr : (Builtin.append_ #[T, tx] ty #[.slice (some ⟨b, off, none⟩) n cap, x]).run P w = .ok (.slice (some ⟨b, off, none⟩) (n + m) cap) (w.setRow b (cs.toList.take (off + n * i.size) ++ news ++ cs.toList.drop (off + n * i.size + news.length)).toArray) := by
    rcases hs.kind with ⟨e', hk⟩ | hk <;> simp [Builtin.append_, run_underlying ht, run_underlying hk, sizeOf, typeInfo, hi, hs.len, hroom, hs.cells, Addr.add_lit, hst]
   refine ⟨b, off, cap, _, hr, ⟨hlen, .inr ⟨b, off, cap, _, rfl, rfl, setRow_heap w b cs _ E _ hb, hroom, h3, ?_, ?_⟩⟩, ⟨rfl, rfl, rfl, by simp [World.setRow], fun k _ hk => setRow_other w b k _ (by simpa using hk)⟩, .inl rfl⟩
   ·simp only [List.size_toArray, List.length_append, List.length_take, List.length_drop, Array.length_toList]
    omega
   ·intro j hj
    rw [Nat.add_mul] at hj
    rw [List.getElem?_toArray, List.append_assoc]
    by_cases hjn : j < n * i.size
    ·rw [List.getElem?_append_left (by simp; omega), List.getElem?_append_left (by omega), List.getElem?_take_of_lt (by omega), Array.getElem?_toList]
     exact h5 j hjn
    ·have ht : (cs.toList.take (off + n * i.size)).length = off + n * i.size := by simp; omega
     rw [List.getElem?_append_right (by omega), ht, List.getElem?_append_left (by omega), List.getElem?_append_right (by omega)]
     congr 1
     omega
  ·have hold : (Builtin.firstCells i.size n (.slice (some ⟨b, off, none⟩) n cap)).run P w.drew = .ok xs.toArray w.drew := by
    refine run_firstCells_some (P := P) w.drew i.size n _ n cap xs hl (fun j u hu => ?_)
    have hj : j < n * i.size := by
     rcases Nat.lt_or_ge j xs.length with h | h
     ·omega
     ·rw [List.getElem?_eq_none h] at hu; cases hu
    have hadd : (⟨b, off, none⟩ : Addr).add j = ⟨b, off + j, none⟩ := by unfold Addr.add; split <;> simp_all
    rw [hadd, ← hu, ← h5 j hj]
    show w.cell? _ = _
    simp [World.cell?, hb]
   have hr := run_append_grow_src (P := P) w T tx ty E i z ht hi hz (some ⟨b, off, none⟩) n cap xs hold x m news hs (by omega) (by simp only [maxLen] at h63; omega) (growslice_fits (by omega) hbytes)
   have hg := grown cap (by omega) (some b)
   exact ⟨_, _, _, _, hr, hg.1, hg.2, .inr (Nat.le_refl _)⟩
structure KeyEnc {α : Type} [DecidableEq α] (P : Program) (K : TypeId) (enc : α → Value) : Prop where
 same : ∃ d, P.underlying K = some d ∧ ∀ x y, Instr.sameNow d (enc x) (enc y) = some (decide (x = y))
 check : ∀ em x w, (Instr.checkKey em 10000 K (enc x)).run P w = .ok () w
 stays : ∀ x w, (Instr.keyThatStays (enc x) (enc x)).run P w = .ok (enc x) w
def MapA {α : Type} (enc : α → Value) (w : World) (b : Nat) (ps : List (α × Value)) : Prop :=
 ∃ es clock, w.heap[b]? = some (.map es clock) ∧ (∀ x ∈ es.toList, x.born < clock) ∧ (es.toList.map (·.born)).Nodup ∧
  es.toList.map (fun e => (e.key, e.val)) = ps.map (fun p => (enc p.1, p.2)) ∧ (ps.map (·.1)).Nodup
theorem MapA.lt {α : Type} {enc : α → Value} {w : World} {b : Nat} {ps : List (α × Value)} (h : MapA enc w b ps) : b < w.heap.size := by
 obtain ⟨es, clock, hb, _⟩ := h
 exact (Array.getElem?_eq_some_iff.1 hb).1
theorem MapA.keep {α : Type} {enc : α → Value} {F : List Nat} {w w' : World} {b : Nat} {ps : List (α × Value)} (h : MapA enc w b ps) (hk : Keep F w w') (hn : b ∉ F) : MapA enc w' b ps := by
 have hlt := h.lt
 obtain ⟨es, clock, hb, r⟩ := h
 exact ⟨es, clock, (hk.block b hlt hn).trans hb, r⟩
theorem MapA.made {α : Type} (enc : α → Value) (w : World) : MapA enc (w.alloc (.map #[] 0)) w.heap.size [] :=
 ⟨#[], 0, (MapKept.heap_alloc w _).1, by simp, by simp, by simp, by simp⟩
section
variable {α β : Type} [DecidableEq α]
def mfind (ps : List (α × β)) (x : α) : Option β := (ps.find? fun p => decide (p.1 = x)).map (·.2)
def mput (ps : List (α × β)) (x : α) (v : β) : List (α × β) :=
 if ps.any (fun p => decide (p.1 = x)) then ps.map (fun p => if p.1 = x then (p.1, v) else p) else ps ++ [(x, v)]
theorem mput_keys (ps : List (α × β)) (x : α) (v : β) : (mput ps x v).map (·.1) = if ps.any (fun p => decide (p.1 = x)) then ps.map (·.1) else ps.map (·.1) ++ [x] := by
 unfold mput
 split
 ·rw [List.map_map]
  apply List.map_congr_left
  intro p _
  simp only [Function.comp]
  split <;> rfl
 ·simp
theorem findNow_enc {d : TypeDesc} {enc : α → Value} (hs : ∀ x y, Instr.sameNow d (enc x) (enc y) = some (decide (x = y))) (x : α) : ∀ (ps : List (α × Value)) (es : List MapEntry) (i : Nat),
  es.map (fun e => (e.key, e.val)) = ps.map (fun p => (enc p.1, p.2)) →
  Instr.findNow d (enc x) es i = some ((ps.findIdx? fun p => decide (p.1 = x)).bind fun j => (ps[j]?).map fun p => (i + j, p.2))
 | [], [], i, _ => rfl
 | [], _ :: _, _, h => by simp at h
 | _ :: _, [], _, h => by simp at h
 | p :: ps, e :: es, i, h => by
  simp only [List.map_cons, List.cons.injEq, Prod.mk.injEq] at h
  obtain ⟨⟨hk, hv⟩, h⟩ := h
  unfold Instr.findNow
  rw [hk, hs x p.1]
  by_cases hx : x = p.1
  ·subst hx
   simp [List.findIdx?_cons, hv]
  ·have hx' : ¬ p.1 = x := fun e => hx e.symm
   simp only [hx, decide_false, List.findIdx?_cons, hx']
   rw [findNow_enc hs x ps es (i + 1) h]
   cases List.findIdx? (fun p => decide (p.1 = x)) ps with
   | none => rfl
   | some j => simp [Nat.add_assoc, Nat.add_comm 1 j]
theorem mfind_idx (ps : List (α × Value)) (x : α) : mfind ps x = (ps.findIdx? fun p => decide (p.1 = x)).bind fun j => (ps[j]?).map (·.2) := by
 unfold mfind
 induction ps with
 | nil => rfl
 | cons p r ih =>
  by_cases hp : p.1 = x
  ·simp [List.findIdx?_cons, hp]
  ·simp only [List.find?_cons, hp, decide_false, List.findIdx?_cons]
   rw [ih]
   cases List.findIdx? (fun p => decide (p.1 = x)) r <;> simp
variable {P : Program} {K E T : TypeId} {enc : α → Value} {w : World} {b : Nat} {ps : List (α × Value)}
theorem MapA.look (h : MapA enc w b ps) (L : KeyEnc P K enc) (ht : P.underlying T = some (.map K E)) {z : Value} (hz : (zeroValue E).run P w = .ok z w) (x : α) (c : Bool) :
  (Instr.lookup T (.map (some b)) (enc x) c).run P w = .ok (if c then .tuple #[(mfind ps x).getD z, .bool (mfind ps x).isSome] else (mfind ps x).getD z) w := by
 obtain ⟨es, clock, hb, hlt, hnd, hps, hkn⟩ := h
 obtain ⟨d, hd, hs⟩ := L.same
 have hf := findNow_enc hs x ps es.toList 0 hps
 have hrun := MapKept.run_findKey (P := P) (w := w) hd hf
 rw [mfind_idx]
 cases hj : List.findIdx? (fun p => decide (p.1 = x)) ps with
 | none =>
  rw [hj] at hrun
  simp [Instr.lookup, run_underlying ht, MapKept.run_getObj_map hb, L.check _ x w, hrun, hz, Result.andThen]
 | some j =>
  rw [hj] at hrun
  have hjl : j < ps.length := by
   have := List.findIdx?_eq_some_iff_getElem.1 hj
   exact this.1
  simp [hjl] at hrun
  simp [Instr.lookup, run_underlying ht, MapKept.run_getObj_map hb, L.check _ x w, hrun, Result.andThen, hjl]
theorem setBlock_keep {w : World} {b : Nat} {es : Array MapEntry} {clock : Nat} (hb : w.heap[b]? = some (.map es clock)) (o : Obj) :
  Keep [b] w { w with heap := w.heap.setIfInBounds b o } ∧ ({ w with heap := w.heap.setIfInBounds b o } : World).heap[b]? = some o :=
 ⟨⟨rfl, rfl, rfl, by simp, fun i _ hi => (MapKept.heap_set hb).2 i (by simpa using hi)⟩, (MapKept.heap_set hb).1⟩
theorem idx_any {x : α} (h : ps.findIdx? (fun p => decide (p.1 = x)) = none) : ps.any (fun p => decide (p.1 = x)) = false := by
 rw [List.findIdx?_eq_none_iff] at h
 rw [List.any_eq_false]
 intro p hp
 simpa using h p hp
theorem MapA.update (h : MapA enc w b ps) (L : KeyEnc P K enc) (ht : P.underlying T = some (.map K E)) (x : α) (v : Value) :
  ∃ w', (Instr.mapUpdate T (.map (some b)) (enc x) v).run P w = .ok () w' ∧ MapA enc w' b (mput ps x v) ∧ Keep [b] w w' := by
 obtain ⟨es, clock, hb, hlt, hnd, hps, hkn⟩ := h
 obtain ⟨d, hd, hs⟩ := L.same
 have hf := findNow_enc hs x ps es.toList 0 hps
 have hrun := MapKept.run_findKey (P := P) (w := w) hd hf
 have hlen : es.size = ps.length := by have := congrArg List.length hps; simpa using this
 cases hj : List.findIdx? (fun p => decide (p.1 = x)) ps with
 | none =>
  rw [hj] at hrun
  have hany := idx_any hj
  obtain ⟨k1, k2⟩ := setBlock_keep hb (.map (es.push { key := enc x, val := v, born := clock }) (clock + 1))
  refine ⟨_, ?_, ⟨_, _, k2, ?_, ?_, ?_, ?_⟩, k1⟩
  ·simp [Instr.mapUpdate, run_underlying ht, MapKept.run_getObj_map hb, L.check _ x w, hrun, Result.andThen, MapKept.run_setObj_map _ hb]
  ·intro y hy
   simp only [Array.toList_push, List.mem_append, List.mem_singleton] at hy
   rcases hy with hy | rfl
   ·have := hlt y hy; omega
   ·simp
  ·simp only [Array.toList_push, List.map_append, List.map_cons, List.map_nil]
   rw [List.nodup_append]
   refine ⟨hnd, by simp, ?_⟩
   intro a ha c hc e
   simp only [List.mem_singleton] at hc
   obtain ⟨y, hy, rfl⟩ := List.mem_map.1 ha
   have := hlt y hy
   omega
  ·unfold mput
   rw [hany]
   simp [hps]
  ·rw [mput_keys, hany]
   simp only [Bool.false_eq_true, if_false]
   rw [List.nodup_append]
   refine ⟨hkn, by simp, ?_⟩
   intro a ha c hc e
   simp only [List.mem_singleton] at hc
   obtain ⟨y, hy, rfl⟩ := List.mem_map.1 ha
   rw [List.any_eq_false] at hany
   exact hany y hy (by simp [e, hc])
 | some j =>
  have hjl := List.findIdx?_eq_some_iff_getElem.1 hj
  obtain ⟨hjlt, hjx, hjf⟩ := hjl
  have hjx' : ps[j].1 = x := by simpa using hjx
  rw [hj] at hrun
  simp only [Option.bind_some, List.getElem?_eq_getElem hjlt, Option.map_some, Nat.zero_add] at hrun
  have hany : ps.any (fun p => decide (p.1 = x)) = true := List.any_eq_true.2 ⟨ps[j], List.getElem_mem hjlt, by simpa using hjx⟩
  have hkey : ((es[j]?).map (·.key)).getD (enc x) = enc x := by
   have h1 := congrArg (fun l => l[j]?) hps
   simp only [List.getElem?_map, List.getElem?_eq_getElem hjlt, Option.map_some] at h1
   have hje : j < es.size := by omega
   rw [Array.getElem?_toList, Array.getElem?_eq_getElem hje] at h1
   simp only [Option.map_some, Option.some.injEq, Prod.mk.injEq] at h1
   rw [Array.getElem?_eq_getElem hje]
   simp [h1.1, hjx']
  obtain ⟨k1, k2⟩ := setBlock_keep hb (.map (es.modify j fun e => { e with key := enc x, val := v }) clock)
  have hml : ∀ {β : Type} (f : MapEntry → β), ((es.modify j fun e => { e with key := enc x, val := v }).toList.map f) = es.toList.mapIdx fun i e => if i = j then f { e with key := enc x, val := v } else f e := by
   intro β f
   apply List.ext_getElem?
   intro i
   simp only [List.getElem?_map, Array.getElem?_toList, Array.getElem?_modify, List.getElem?_mapIdx]
   by_cases hij : j = i
   ·subst hij
    simp only [if_true]
    cases es[j]? <;> simp
   ·have hij' : ¬ i = j := fun e => hij e.symm
    simp only [hij, if_false, hij']
  have hborn : (es.modify j fun e => { e with key := enc x, val := v }).toList.map (·.born) = es.toList.map (·.born) := by
   rw [hml]
   apply List.ext_getElem?
   intro i
   simp only [List.getElem?_mapIdx, List.getElem?_map]
   cases es.toList[i]? with
   | none => rfl
   | some e => simp
  refine ⟨_, ?_, ⟨_, _, k2, ?_, ?_, ?_, ?_⟩, k1⟩
  ·simp [Instr.mapUpdate, run_underlying ht, MapKept.run_getObj_map hb, L.check _ x w, hrun, Result.andThen, MapKept.run_setObj_map _ hb, hkey, L.stays x w]
  ·intro y hy
   have : y.born ∈ es.toList.map (·.born) := by rw [← hborn]; exact List.mem_map.2 ⟨y, hy, rfl⟩
   obtain ⟨z, hz, hzy⟩ := List.mem_map.1 this
   rw [← hzy]
   exact hlt z hz
  ·rw [hborn]; exact hnd
  ·rw [hml]
   unfold mput
   rw [if_pos hany]
   apply List.ext_getElem?
   intro i
   have h1 := congrArg (fun l => l[i]?) hps
   simp only [List.getElem?_map] at h1
   simp only [List.getElem?_mapIdx, List.getElem?_map]
   cases hei : es.toList[i]? with
   | none =>
    rw [hei] at h1
    simp only [Option.map_none] at h1 ⊢
    cases hpi : ps[i]? with
    | none => simp
    | some p => rw [hpi] at h1; simp at h1
   | some e =>
    rw [hei] at h1
    cases hpi : ps[i]? with
    | none => rw [hpi] at h1; simp at h1
    | some p =>
     rw [hpi] at h1
     simp only [Option.map_some, Option.some.injEq, Prod.mk.injEq] at h1 ⊢
     have hil : i < ps.length := by
      rcases Nat.lt_or_ge i ps.length with h | h
      ·exact h
      ·rw [List.getElem?_eq_none h] at hpi; cases hpi
     rw [List.getElem?_eq_getElem hil] at hpi
     cases hpi
     by_cases hij : i = j
     ·subst hij
      rw [if_pos rfl, if_pos hjx', hjx']
     ·rw [if_neg hij]
      have hne : ¬ ps[i].1 = x := by
       intro e
       have hpw := List.pairwise_iff_getElem.1 (List.pairwise_map.1 hkn)
       rcases Nat.lt_or_ge i j with hlt' | hge
       ·exact hpw i j hil hjlt hlt' (e.trans hjx'.symm)
       ·exact hpw j i hjlt hil (by omega) (hjx'.trans e.symm)
      rw [if_neg hne]
      simp [h1.1, h1.2]
  ·rw [mput_keys, if_pos hany]; exact hkn
end
section
variable {P : Program} (w : World) {ops : Array Oper} {rest : List Oper} {o : Oper} {a : Act} {Q : Exit → Act → World → Prop}
theorem wpList_mapA_look_ok {α : Type} [DecidableEq α] {enc : α → Value} (hg : o.guard = none) (m x : Operand) (T : TypeId) (hop : o.op = Op.lookup T m x true)
  (K E : TypeId) (L : KeyEnc P K enc) (ht : P.underlying T = some (.map K E)) {z : Value} (hz : (zeroValue E).run P w = .ok z w) (b : Nat) (ps : List (α × Value)) (hm : a.eval m = .map (some b)) (hown : MapA enc w b ps) (key : α) (hx : a.eval x = enc key)
  (hK : wpList P ops Q rest (a.put o.dst (.tuple #[(mfind ps key).getD z, .bool (mfind ps key).isSome])) w) : wpList P ops Q (o :: rest) a w := by
 refine wpList_plain hg fun K' hK' => ?_
 have hrun := hown.look L ht hz key true
 unfold Oper.wp
 simp [execOp, hop, hm, hx, hrun, Result.andThen]
 exact hK' _ _ hK
theorem wpList_mapA_update {α : Type} [DecidableEq α] {enc : α → Value} (hg : o.guard = none) (m x v : Operand) (T : TypeId) (hop : o.op = Op.mapUpdate T m x v)
  (K E : TypeId) (L : KeyEnc P K enc) (ht : P.underlying T = some (.map K E)) (b : Nat) (ps : List (α × Value)) (hm : a.eval m = .map (some b)) (hown : MapA enc w b ps) (key : α) (hx : a.eval x = enc key) (val : Value) (hv : a.eval v = val)
  (hK : ∀ w', MapA enc w' b (mput ps key val) → Keep [b] w w' → wpList P ops Q rest (a.put o.dst undef) w') : wpList P ops Q (o :: rest) a w := by
 refine wpList_plain hg fun K' hK' => ?_
 obtain ⟨w', hrun, r1, r2⟩ := hown.update L ht key val
 unfold Oper.wp
 simp [execOp, hop, hm, hx, hv, hrun, Result.andThen]
 exact hK' _ _ (hK w' r1 r2)
theorem wpList_append_row (hgd : o.guard = none) (s x : Operand) (T tx : TypeId) (ho : o.op = .call { callee := .builtin .append, args := #[s, x], argTypes := #[T, tx] })
  (E : TypeId) (i : TypeInfo) (z : Value) (k bytes : Nat) (ht : P.underlying T = some (.slice E)) (hi : P.info? E = some i) (hz : i.zero = some z) (hik : i.size = k) (hib : i.bytes = bytes) (hzs : z.cells.size = k)
  (v : Value) (n : Nat) (xs : List Value) (r : Option Nat) (hs : a.eval s = v) (hown : Row w E k v n xs r) (xv : Value) (hx : a.eval x = xv) (m : Nat) (news : List Value) (hsrc : Src P k tx xv m news w) (hpos : 0 < m) (h63 : n + m ≤ maxLen) (hbytes : (n + m) * bytes ≤ 140737488355328)
  (h : ∀ g off cap w', Row w' E k (.slice (some ⟨g, off, none⟩) (n + m) cap) (n + m) (xs ++ news) (some g) → Keep r.toList w w' → (r = some g ∨ w.heap.size ≤ g) → wpList P ops Q rest (a.put o.dst (.slice (some ⟨g, off, none⟩) (n + m) cap)) w') : wpList P ops Q (o :: rest) a w := by
 refine wpList_plain hgd fun K' hK' => ?_
 obtain ⟨g, off, cap, w', hr, h2, h3, h4⟩ := run_append_row (P := P) (w := w) (ty := o.type) ht hi hz hik hib hzs hown hsrc hpos h63 hbytes
 unfold Oper.wp execOp
 simp only [ho, resolve, invoke, builtin, Sem.run_bind, Sem.run_pure, Result.andThen_ok, List.map_toArray, List.map_cons, List.map_nil, hs, hx, hr]
 exact hK' _ _ (h g off cap w' h2 h3 h4)
end
end Go.Emb
