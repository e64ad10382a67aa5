/- ParsePrints: a part of the proof (BaseStr, TmP, TmQ, Tm9, Tm10, ScB, Sc1, Sc2, Sc3, Sc4, Sc5, Sc6, Sc7), squeezed by squeeze.py. -/
import Derived.Test.YtdmmhfbafinkpaaGreatDoorY00
import Derived.Test.YtdmmhfbafinkpaaGreatDoorProg
import Derived.Test.YtdmmhfbafinkpaaGreatDoorY04
import Derived.Lib.Builder
import Derived.WalkSpells
import Derived.Lib.Bytealg
import Derived.Lib.ItoaNum
import Derived.Lib.Small
import Derived.RegionTactic
import Derived.Lib.UnsafeStr
import Derived.Test.YtdmmhfbafinkpaaGreatDoorY01
import Derived.Deep.QuietTactic
import Derived.BigQuiet
import Derived.Laws.Rows
import Derived.Lib.ParseIntB
set_option maxRecDepth 100000
set_option maxHeartbeats 8000000
namespace Go.Emb
open Go.RowKit
def Off0 (v : Value) : Prop := ∀ b off n c, v = .slice (some ⟨b, off, none⟩) n c → off = 0
theorem Off0.nil : Off0 (.slice none 0 0) := fun _ _ _ _ h => by cases h
theorem Off0.mk (b n c : Nat) : Off0 (.slice (some ⟨b, 0, none⟩) n c) := fun _ _ _ _ h => by cases h; rfl
theorem run_append_row0 {P : Program} {w : World} {T tx ty E : TypeId} {i : TypeInfo} {z : Value} {k bytes : Nat} (ht : P.underlying T = some (.slice E)) (hi : P.info? E = some i) (hz : i.zero = some z) (hik : i.size = k) (hib : i.bytes = bytes)
  (hzs : z.cells.size = k) {v : Value} {n : Nat} {xs : List Value} {o : Option Nat} (h : Row w E k v n xs o) (hoff : Off0 v) {x : Value} {m : Nat} {news : List Value} (hs : Src P k tx x m news w) (hpos : 0 < m)
  (h63 : n + m ≤ maxLen) (hbytes : (n + m) * bytes ≤ 140737488355328) :
  ∃ g cap w', (Builtin.append_ #[T, tx] ty #[v, x]).run P w = .ok (.slice (some ⟨g, 0, none⟩) (n + m) cap) w' ∧ Row w' E k (.slice (some ⟨g, 0, none⟩) (n + m) cap) (n + m) (xs ++ news) (some g) ∧ Keep o.toList w w' ∧ (o = some g ∨ w.heap.size ≤ g) := by
 subst hik; subst hib; have hm := hs.newsLen; have h1 := hs.one; obtain ⟨hl, h⟩ := h; have hlen : (xs ++ news).length = (n + m) * i.size := by rw [List.length_append, hl, hm, Nat.add_mul]
 have grown : ∀ (old : Nat), old < n + m → ∀ o : Option Nat,
   Row (w.drew.alloc (.cells ((xs ++ news).toArray ++ Builtin.zeroCells z.cells (grownCap w (n + m) old E - (n + m))) E)) E i.size
    (.slice (some ⟨w.heap.size, 0, none⟩) (n + m) (grownCap w (n + m) old E)) (n + m) (xs ++ news) (some w.heap.size) ∧
   Keep o.toList w (w.drew.alloc (.cells ((xs ++ news).toArray ++ Builtin.zeroCells z.cells (grownCap w (n + m) old E - (n + m))) E)) := by
  intro old ho o; have hge := grownCap_ge w (n + m) old E; have hcm : grownCap w (n + m) old E ≤ maxLen := grownCap_le_maxLen w (n + m) old E h63; refine ⟨⟨hlen, .inr ⟨w.heap.size, 0, _, _, rfl, rfl, heap_alloc_new w.drew _, hge, hcm, ?_, ?_⟩⟩, (Keep.refl _ _).drew.alloc _⟩
  ·simp only [Array.size_append, List.size_toArray, size_zeroCells, hzs, hlen, ← Nat.add_mul, Nat.zero_add]; exact Nat.mul_le_mul_right _ (by omega)
  ·intro j hj; rw [Nat.zero_add, Array.getElem?_append_left (by simp only [List.size_toArray, hlen]; exact hj)]; simp
 rcases h with ⟨rfl, rfl, rfl⟩ | ⟨b, off, cap, cs, rfl, rfl, hb, h2, h3, h4, h5⟩
 ·have hx : xs = [] := List.eq_nil_of_length_eq_zero (by simpa using hl); subst hx; have hr := run_append_grow_src (P := P) w T tx ty E i z ht hi hz none 0 0 [] (by simp [Builtin.firstCells]) x m news hs (by omega) (by simp only [maxLen] at h63; omega) (growslice_fits (by omega) hbytes); have hg := grown 0 (by omega) none; simp only [List.nil_append] at hr hg ⊢; exact ⟨_, _, _, hr, hg.1, hg.2, .inr (Nat.le_refl _)⟩
 ·obtain rfl : off = 0 := hoff _ _ _ _ rfl
  by_cases hroom : n + m ≤ cap
  ·have hfit : 0 + n * i.size + 0 + news.length ≤ cs.size := by
    have : (n + m) * i.size ≤ cap * i.size := Nat.mul_le_mul_right _ hroom; rw [Nat.add_mul] at this
    omega
   have hst := run_storeCells_at P b (0 + n * i.size) E news 0 cs w hb hfit h1; simp only [Nat.add_zero] at hst hfit; have hst' := hst; simp only [Nat.zero_add, List.append_assoc] at hst'
   have hr : (Builtin.append_ #[T, tx] ty #[.slice (some ⟨b, 0, none⟩) n cap, x]).run P w = .ok (.slice (some ⟨b, 0, none⟩) (n + m) cap) (w.setRow b (cs.toList.take (0 + n * i.size) ++ news ++ cs.toList.drop (0 + n * i.size + news.length)).toArray) := by
    rcases hs.kind with ⟨e', hk⟩ | hk <;> simp [Builtin.append_, run_underlying ht, run_underlying hk, sizeOf, typeInfo, hi, hs.len, hroom, hs.cells, Addr.add_lit, hst']
   refine ⟨b, cap, _, hr, ⟨hlen, .inr ⟨b, 0, cap, _, rfl, rfl, setRow_heap w b cs _ E _ hb, hroom, h3, ?_, ?_⟩⟩, ⟨rfl, rfl, rfl, by simp [World.setRow], fun k _ hk => setRow_other w b k _ (by simpa using hk)⟩, .inl rfl⟩
   ·simp only [List.size_toArray, List.length_append, List.length_take, List.length_drop, Array.length_toList]
    omega
   ·intro j hj; rw [Nat.add_mul] at hj; rw [List.getElem?_toArray, List.append_assoc]
    by_cases hjn : j < n * i.size
    ·rw [List.getElem?_append_left (by simp; omega), List.getElem?_append_left (by omega), List.getElem?_take_of_lt (by omega), Array.getElem?_toList]; exact h5 j hjn
    ·have ht : (cs.toList.take (0 + n * i.size)).length = 0 + n * i.size := by simp; omega
     rw [List.getElem?_append_right (by omega), ht, List.getElem?_append_left (by omega), List.getElem?_append_right (by omega)]
     congr 1
     omega
  ·have hold : (Builtin.firstCells i.size n (.slice (some ⟨b, 0, none⟩) n cap)).run P w.drew = .ok xs.toArray w.drew := by
    refine run_firstCells_some (P := P) w.drew i.size n _ n cap xs hl (fun j u hu => ?_)
    have hj : j < n * i.size := by
     rcases Nat.lt_or_ge j xs.length with h | h
     ·omega
     ·rw [List.getElem?_eq_none h] at hu; cases hu
    have hadd : (⟨b, 0, none⟩ : Addr).add j = ⟨b, 0 + j, none⟩ := by unfold Addr.add; split <;> simp_all
    rw [hadd, ← hu, ← h5 j hj]; show w.cell? _ = _; simp [World.cell?, hb]
   have hr := run_append_grow_src (P := P) w T tx ty E i z ht hi hz (some ⟨b, 0, none⟩) n cap xs hold x m news hs (by omega) (by simp only [maxLen] at h63; omega) (growslice_fits (by omega) hbytes); have hg := grown cap (by omega) (some b); exact ⟨_, _, _, hr, hg.1, hg.2, .inr (Nat.le_refl _)⟩
section
variable {P : Program} (w : World)
theorem wpList_append_row0 {ops : Array Oper} {rest : List Oper} {o : Oper} {a : Act} {Q : Exit → Act → World → Prop} (hgd : o.guard = none) (s x : Operand) (T tx : TypeId) (ho : o.op = .call { callee := .builtin .append, args := #[s, x], argTypes := #[T, tx] })
  (E : TypeId) (i : TypeInfo) (z : Value) (k bytes : Nat) (ht : P.underlying T = some (.slice E)) (hi : P.info? E = some i) (hz : i.zero = some z) (hik : i.size = k) (hib : i.bytes = bytes) (hzs : z.cells.size = k)
  (v : Value) (n : Nat) (xs : List Value) (oo : Option Nat) (hs : a.eval s = v) (hown : Row w E k v n xs oo) (hoff : Off0 v) (xv : Value) (hx : a.eval x = xv) (m : Nat) (news : List Value) (hsrc : Src P k tx xv m news w) (hpos : 0 < m) (h63 : n + m ≤ maxLen) (hbytes : (n + m) * bytes ≤ 140737488355328)
  (h : ∀ g cap' w', Row w' E k (.slice (some ⟨g, 0, none⟩) (n + m) cap') (n + m) (xs ++ news) (some g) → Keep oo.toList w w' → (oo = some g ∨ w.heap.size ≤ g) → wpList P ops Q rest (a.put o.dst (.slice (some ⟨g, 0, none⟩) (n + m) cap')) w') : wpList P ops Q (o :: rest) a w := by
 refine wpList_plain hgd fun K' hK' => ?_
 obtain ⟨g, cap', w', hr, h2, h3, h4⟩ := run_append_row0 (P := P) (w := w) (ty := o.type) ht hi hz hik hib hzs hown hoff hsrc hpos h63 hbytes; unfold Oper.wp execOp; simp only [ho, resolve, invoke, builtin, Sem.run_bind, Sem.run_pure, Result.andThen_ok, List.map_toArray, List.map_cons, List.map_nil, hs, hx, hr]; exact hK' _ _ (h g cap' w' h2 h3 h4)
end
open Go.RowKit
namespace Tm
end Tm
theorem toList_nil_iff (s : ByteArray) : s.toList = [] ↔ s.size = 0 := by
 rw [_root_.Go.ByteArray.toList_eq]; show _ ↔ s.data.size = 0; rw [← Array.length_toList, List.length_eq_zero_iff]
theorem Keep.cellOf {F : List Nat} {w w' : World} (h : Keep F w w') {p : Addr} {v : Value} (hc : w.cell? p = some v) (hn : p.block ∉ F := by simp) : w'.cell? p = some v := by
 rw [h.cell (World.block_lt_of_cell? _ _ hc) hn]; exact hc
open Go.RowKit
theorem ck4 {w w' : World} {p0 : Addr} {p1 : Addr} {p2 : Addr} {p3 : Addr} {v0 : Value} {v1 : Value} {v2 : Value} {v3 : Value} (k : Keep [] w w') (h : w.cell? p0 = some v0 ∧ w.cell? p1 = some v1 ∧ w.cell? p2 = some v2 ∧ w.cell? p3 = some v3) : w'.cell? p0 = some v0 ∧ w'.cell? p1 = some v1 ∧ w'.cell? p2 = some v2 ∧ w'.cell? p3 = some v3 := ⟨k.cellOf h.1, k.cellOf h.2.1, k.cellOf h.2.2.1, k.cellOf h.2.2.2⟩
theorem ck5 {w w' : World} {p0 : Addr} {p1 : Addr} {p2 : Addr} {p3 : Addr} {p4 : Addr} {v0 : Value} {v1 : Value} {v2 : Value} {v3 : Value} {v4 : Value} (k : Keep [] w w') (h : w.cell? p0 = some v0 ∧ w.cell? p1 = some v1 ∧ w.cell? p2 = some v2 ∧ w.cell? p3 = some v3 ∧ w.cell? p4 = some v4) : w'.cell? p0 = some v0 ∧ w'.cell? p1 = some v1 ∧ w'.cell? p2 = some v2 ∧ w'.cell? p3 = some v3 ∧ w'.cell? p4 = some v4 := ⟨k.cellOf h.1, k.cellOf h.2.1, k.cellOf h.2.2.1, k.cellOf h.2.2.2.1, k.cellOf h.2.2.2.2⟩
theorem ck7 {w w' : World} {p0 : Addr} {p1 : Addr} {p2 : Addr} {p3 : Addr} {p4 : Addr} {p5 : Addr} {p6 : Addr} {v0 : Value} {v1 : Value} {v2 : Value} {v3 : Value} {v4 : Value} {v5 : Value} {v6 : Value} (k : Keep [] w w') (h : w.cell? p0 = some v0 ∧ w.cell? p1 = some v1 ∧ w.cell? p2 = some v2 ∧ w.cell? p3 = some v3 ∧ w.cell? p4 = some v4 ∧ w.cell? p5 = some v5 ∧ w.cell? p6 = some v6) : w'.cell? p0 = some v0 ∧ w'.cell? p1 = some v1 ∧ w'.cell? p2 = some v2 ∧ w'.cell? p3 = some v3 ∧ w'.cell? p4 = some v4 ∧ w'.cell? p5 = some v5 ∧ w'.cell? p6 = some v6 := ⟨k.cellOf h.1, k.cellOf h.2.1, k.cellOf h.2.2.1, k.cellOf h.2.2.2.1, k.cellOf h.2.2.2.2.1, k.cellOf h.2.2.2.2.2.1, k.cellOf h.2.2.2.2.2.2⟩
abbrev lettersL : List UInt8 := [97, 98, 99, 100, 101, 102, 103, 104, 105, 106, 107, 108, 109, 110, 111, 112, 113, 114, 115, 116, 117, 118, 119, 120, 121, 122, 65, 66, 67, 68, 69, 70, 71, 72, 73, 74, 75, 76, 77, 78, 79, 80, 81, 82, 83, 84, 85, 86, 87, 88, 89, 90, 48, 49, 50, 51, 52, 53, 54, 55, 56, 57, 95, 64]
abbrev wordsL : List (List UInt8) := [[97, 102, 116, 101, 114], [97, 110, 100], [99, 97, 115, 101], [99, 97, 116, 99, 104], [100, 105, 118], [101, 110, 100], [102, 117, 110], [110, 111, 116], [111, 102], [111, 114], [114, 101, 99, 101, 105, 118, 101], [114, 101, 109], [116, 114, 121], [119, 104, 101, 110]]
def letterB (c : UInt8) : Bool := lettersL.contains c
def bareL (s : List UInt8) : Bool := s.all letterB && (match s with | [] => false | c :: _ => decide (97 ≤ c) && decide (c ≤ 122)) && !wordsL.contains s
abbrev hexL : List UInt8 := [48, 49, 50, 51, 52, 53, 54, 55, 56, 57, 97, 98, 99, 100, 101, 102]
def escL (c : UInt8) : List UInt8 :=
 if c = 39 ∨ c = 92 then [92, c] else if c < 32 ∨ 126 < c then [92, 120, hexL.getD (c.toNat / 16) 0, hexL.getD (c.toNat % 16) 0] else [c]
def quoteL (s : List UInt8) : List UInt8 := 39 :: (s.flatMap escL ++ [39])
def nameL (s : List UInt8) : List UInt8 := if bareL s then s else quoteL s
theorem decDigits_le (n : Nat) : ∀ u, u < 10 ^ n → 0 < n → (Lib.decDigits u).length ≤ n := by
 induction n with
 | zero => intro u _ h; omega
 | succ n ih =>
  intro u hu _; rw [Lib.decDigits]
  split
  ·simp
  ·rename_i h10; rw [List.length_append, List.length_singleton]
   have hn : 0 < n := by
    rcases Nat.eq_zero_or_pos n with rfl | h
    ·simp at hu; omega
    ·exact h
   have := ih (u / 10) (by rw [Nat.pow_succ] at hu; omega) hn
   omega
theorem escL_le (c : UInt8) : (escL c).length ≤ 4 := by unfold escL; split <;> (try split) <;> simp
theorem flatEscL_le (l : List UInt8) : (l.flatMap escL).length ≤ 4 * l.length := by
 induction l with
 | nil => simp
 | cons c l ih => rw [List.flatMap_cons, List.length_append, List.length_cons]; have := escL_le c; omega
end Go.Emb

namespace Go.Proofs.YtdmmhfbafinkpaaGreatDoor
open Go.RowKit Go.Emb
def IsB (w : World) (b : Nat) (bs : List UInt8) (F : List Nat) : Prop :=
 ∃ p v o, (p = .pointer none ∨ p = .pointer (some ⟨b, 0, none⟩)) ∧ w.heap[b]? = some (.cells #[p, v] 60 (0, 0)) ∧ Row w 5 1 v bs.length (Lib.byteCells bs) o ∧ Off0 v ∧ o ≠ some b ∧ F = b :: o.toList
theorem IsB.lt {w : World} {b : Nat} {bs : List UInt8} {F : List Nat} (h : IsB w b bs F) : ∀ x ∈ F, x < w.heap.size := by
 obtain ⟨p, v, o, -, hb, hr, -, -, rfl⟩ := h; intro x hx; rcases List.mem_cons.1 hx with rfl | hx
 ·exact (Array.getElem?_eq_some_iff.1 hb).1
 ·exact hr.lt x (by simpa using hx)
theorem IsB.keep {w w' : World} {b : Nat} {bs : List UInt8} {F G : List Nat} (h : IsB w b bs F) (k : Keep G w w') (hn : ∀ x ∈ F, x ∉ G) : IsB w' b bs F := by
 have hlt := h.lt; obtain ⟨p, v, o, hp, hb, hr, h0, ho, rfl⟩ := h; exact ⟨p, v, o, hp, (k.block b (hlt b (by simp)) (hn b (by simp))).trans hb, hr.keep k (fun x hx => hn x (by simp [hx])), h0, ho, rfl⟩
theorem byte_info : (Tryz.prog.info? 5).map (fun i => (i.zero, i.size, i.bytes)) = some (some (.int .u8 0), 1, 1) := by kernel_rfl
theorem builder_info : (Tryz.prog.info? 60).map (fun i => i.size) = some 2 := by kernel_rfl
theorem cells2b {w : World} {q : Nat} {x y : Value} {t : TypeId} (h : w.heap[q]? = some (.cells #[x, y] t (0, 0))) :
  w.cell? ⟨q, 0, none⟩ = some x ∧ w.cell? ⟨q, 1, none⟩ = some y ∧ w.frozen? ⟨q, 0, none⟩ = false ∧ w.frozen? ⟨q, 1, none⟩ = false ∧ w.shape? q = some (t, 2) := by
 refine ⟨?_, ?_, ?_, ?_, ?_⟩ <;> simp [World.cell?, World.frozen?, World.shape?, h]
theorem b_check {w : World} {b : Nat} {p v : Value} (hp : p = .pointer none ∨ p = .pointer (some ⟨b, 0, none⟩)) (hb : w.heap[b]? = some (.cells #[p, v] 60 (0, 0))) :
  Calls Tryz.prog 51 #[.pointer (some ⟨b, 0, none⟩)] w fun e w' => e = .returned (.tuple #[]) ∧ w'.heap[b]? = some (.cells #[.pointer (some ⟨b, 0, none⟩), v] 60 (0, 0)) ∧ Keep [b] w w' := by
 obtain ⟨j, hj, hjs⟩ := Option.map_eq_some_iff.1 builder_info; obtain ⟨c0, c1, f0, f1, hsh⟩ := cells2b hb; rcases hp with rfl | rfl
 ·have hset : (w.setCell ⟨b, 0, none⟩ (.pointer (some ⟨b, 0, none⟩))).heap[b]? = some (.cells #[.pointer (some ⟨b, 0, none⟩), v] 60 (0, 0)) := by rw [heap_setCell_at hb]; rfl
  have HS := hyd hset; have HJ := hyd hj; have HJS := hyd hjs; have HSH := hyd hsh; clear hset hj hjs hsh hb; go_enter Tryz.func51, Tryz.ntmps51
  go_wp2
  rw [Lib.run_to_unsafe w ⟨b, 0, none⟩ Tryz.underlying57 Tryz.underlying113 HJ.o (by rw [HJS.o]; decide) HSH.o (Nat.zero_lt_succ 1)]; simp only [Result.andThen]; rw [Oper.upon_value]
  go_wp2
  rw [run_callFunc_extern Tryz.func80 (by kernel_rfl) (by kernel_rfl) (by kernel_rfl) (e := Extern.AbiNoEscape.same) (by kernel_rfl)]; rw [Lib.run_noEscape]; simp only [Result.andThen]; rw [Oper.upon_value]
  go_wp2
  rw [Lib.run_from_unsafe w ⟨b, 0, none⟩ Tryz.underlying113 Tryz.underlying57 HJ.o HSH.o (by kernel_rfl)]; simp only [Result.andThen]; rw [Oper.upon_value]
  go_wp2
  go_end0
  exact ⟨rfl, HS.o, Keep.set1 w ⟨b, 0, none⟩ _⟩
 ·have HB := hyd hb; have HJ := hyd hj; clear hb hj hjs hsh; go_enter Tryz.func51, Tryz.ntmps51
  go_wp2
  rw [Lib.run_neq_ptr_same w _ Tryz.underlying57 HJ.o]
  go_wp2
  go_end0
  exact ⟨rfl, HB.o, Keep.refl _ _⟩
def BPost (w : World) (b : Nat) (bs : List UInt8) (F : List Nat) (r : Value) (e : Ending) (w' : World) : Prop := e = .returned r ∧ ∃ F', IsB w' b bs F' ∧ (∀ x ∈ F', x ∈ F ∨ w.heap.size ≤ x) ∧ Keep F w w'
theorem isB_put {w w1 w2 : World} {b g cap n : Nat} {bs : List UInt8} {p v : Value} {o : Option Nat} (hk1 : Keep [b] w w1) (hb1 : w1.heap[b]? = some (.cells #[p, v] 60 (0, 0))) (hp : p = .pointer (some ⟨b, 0, none⟩)) (ho : o ≠ some b) (_hob : ∀ x, o = some x → x < w.heap.size)
  {W : World} (hkW : Keep [] w1 W) (hr : Row w2 5 1 (.slice (some ⟨g, 0, none⟩) n cap) n (Lib.byteCells bs) (some g)) (hn : n = bs.length) (hk2 : Keep o.toList W w2) (hg : o = some g ∨ W.heap.size ≤ g) :
  ∃ F', IsB (w2.setCell ⟨b, 1, none⟩ (.slice (some ⟨g, 0, none⟩) n cap)) b bs F' ∧ (∀ x ∈ F', x ∈ (b :: o.toList) ∨ w.heap.size ≤ x) ∧ Keep (b :: o.toList) w (w2.setCell ⟨b, 1, none⟩ (.slice (some ⟨g, 0, none⟩) n cap)) := by
 subst hn; have hb1lt := (Array.getElem?_eq_some_iff.1 hb1).1
 have hb2 : w2.heap[b]? = some (.cells #[p, v] 60 (0, 0)) :=
  (hk2.block b (Nat.lt_of_lt_of_le hb1lt hkW.size) (by simpa using fun h => ho h)).trans ((hkW.block b hb1lt (by simp)).trans hb1)
 have hgb : g ≠ b := by
  rcases hg with h | h
  ·rintro rfl; exact ho h
  ·have := hkW.size; omega
 have hkall : Keep (b :: o.toList) w w2 := (hk1.mono (fun x hx _ => by simp at hx; simp [hx])).trans ((hkW.mono (G := o.toList) (fun _ h => nomatch h)).trans hk2 (fun x hx => .inl hx)) (fun x hx => .inl (List.mem_cons_of_mem _ hx)); have hne : (some g : Option Nat) ≠ some b := by simpa using hgb
 refine ⟨b :: [g], ⟨p, .slice (some ⟨g, 0, none⟩) bs.length cap, some g, .inr hp, ?_, ?_, Off0.mk _ _ _, hne, rfl⟩, ?_, hkall.setCell (p := ⟨b, 1, none⟩) (.inl (by simp)) _⟩
 ·rw [heap_setCell_at hb2]; rfl
 ·exact hr.keep (Keep.set1 w2 ⟨b, 1, none⟩ _) (fun x hx => by cases hx; simpa using hgb)
 ·intro x hx; simp only [List.mem_cons, List.not_mem_nil, or_false] at hx; rcases hx with rfl | rfl
  ·left; simp
  ·rcases hg with h | h
   ·left; simp [h]
   ·right; have := hk1.size; have := hkW.size; omega
theorem b_byte {w : World} {b : Nat} {bs : List UInt8} {F : List Nat} (h : IsB w b bs F) (c : UInt8) (hsz : bs.length ≤ 100000000000000) :
  Calls Tryz.prog 90 #[.pointer (some ⟨b, 0, none⟩), .int .u8 c.toNat] w (BPost w b (bs ++ [c]) F .nilIface) := by
 have hlt := h.lt; obtain ⟨p, v, o, hp, hb, hr, h0, ho, rfl⟩ := h; obtain ⟨i0, hi, hz0, hz1, hz2⟩ := info_parts byte_info; have hcall := b_check hp hb; have HC := hyd hcall; have HR := hyd hr; have HO := hyd ho; have HLT := hyd hlt; have HI := hyd hi; have H0 := hyd h0; clear hcall hr hp hb ho hlt hi h0; go_enter Tryz.func90, Tryz.ntmps90; go_wp2_with fail; refine HC.o.mono ?_; rintro e w1 ⟨rfl, hb1, hk1⟩; obtain ⟨c0, c1, -, -, -⟩ := cells2b hb1; have hr1 : Row w1 5 1 v bs.length (Lib.byteCells bs) o := HR.o.keep hk1 (fun x hx => by rintro h; simp at h; subst h; exact HO.o hx); have HB1 := hyd hb1; have HR1 := hyd hr1; have HK1 := hyd hk1; clear hb1 hr1 hk1 HC
 go_wp2_with (at_builtin; refine wpList_append_row0 _ rfl _ _ 58 58 rfl 5 i0 (.int .u8 0) 1 1 Tryz.underlying58 HI.o hz0 hz1 hz2 rfl _ _ _ o rfl (HR1.o.keep (F := []) ((Keep.refl [] _).alloc _) (by simp)) H0.o _ rfl 1 [.int .u8 c.toNat] (Src.ofSlice _ Tryz.underlying58 ⟨w1.heap.size, 0, none⟩ 1 1 [.int .u8 c.toNat] rfl ?c1 ?c2) (by omega) ?c3 ?c4 ?_)
 case c1 =>
  intro j u hj
  match j, hj with
  | 0, hj => simp at hj; subst hj; simp [Addr.add]
 case c2 => intro u hu; simp at hu; subst hu; rfl
 case c3 => unfold maxLen; omega
 case c4 => omega
 intro g cap w2 hr2 hk2 hg2; have hput := isB_put (bs := bs ++ [c]) HK1.o HB1.o rfl HO.o (fun x hx => HLT.o x (by simp [hx])) ((Keep.refl [] w1).alloc _) (by simpa [Lib.byteCells] using hr2) (by simp) hk2 (by simpa using hg2); have hd : w2.heap[b]? = some (.cells #[.pointer (some ⟨b, 0, none⟩), v] 60 (0, 0)) := (hk2.block b (by have := (Array.getElem?_eq_some_iff.1 HB1.o).1; simp; omega) (by simpa using fun h => HO.o h)).trans ((((Keep.refl [] w1).alloc _).block b (Array.getElem?_eq_some_iff.1 HB1.o).1 (by simp)).trans HB1.o); obtain ⟨d0, d1, f0, f1, -⟩ := cells2b hd; have HP := hyd hput; clear hput hd hr2 hk2 hg2; go_wp2_with fail; go_ret; obtain ⟨F', q1, q2, q3⟩ := HP.o; exact ⟨rfl, F', q1, q2, q3⟩
theorem b_string {w : World} {b : Nat} {bs : List UInt8} {F : List Nat} (h : IsB w b bs F) (s : ByteArray) (hs0 : 0 < s.size) (hsz : bs.length + s.size ≤ 100000000000000) :
  Calls Tryz.prog 22 #[.pointer (some ⟨b, 0, none⟩), .string s] w (BPost w b (bs ++ s.data.toList) F (.tuple #[.int .i64 s.size, .nilIface])) := by
 have hlt := h.lt; obtain ⟨p, v, o, hp, hb, hr, h0, ho, rfl⟩ := h; obtain ⟨i0, hi, hz0, hz1, hz2⟩ := info_parts byte_info; have hcall := b_check hp hb; have HC := hyd hcall; have HR := hyd hr; have HO := hyd ho; have HLT := hyd hlt; have HI := hyd hi; have H0 := hyd h0; clear hcall hr hp hb ho hlt hi h0; go_enter Tryz.func22, Tryz.ntmps22; go_wp2_with fail; refine HC.o.mono ?_; rintro e w1 ⟨rfl, hb1, hk1⟩; obtain ⟨c0, c1, -, -, -⟩ := cells2b hb1; have hr1 : Row w1 5 1 v bs.length (Lib.byteCells bs) o := HR.o.keep hk1 (fun x hx => by rintro h; simp at h; subst h; exact HO.o hx); have HB1 := hyd hb1; have HR1 := hyd hr1; have HK1 := hyd hk1; clear hb1 hr1 hk1 HC
 go_wp2_with (at_builtin; refine wpList_append_row0 _ rfl _ _ 58 9 rfl 5 i0 (.int .u8 0) 1 1 Tryz.underlying58 HI.o hz0 hz1 hz2 rfl _ _ _ o rfl HR1.o H0.o _ rfl s.size _ (Src.ofString _ Tryz.underlying9 s) (by omega) ?c3 ?c4 ?_)
 case c3 => unfold maxLen; omega
 case c4 => omega
 intro g cap w2 hr2 hk2 hg2; have hput := isB_put (bs := bs ++ s.data.toList) HK1.o HB1.o rfl HO.o (fun x hx => HLT.o x (by simp [hx])) (Keep.refl [] w1) (by simpa [Lib.byteCells, Go.byteCells] using hr2) (by simp) hk2 hg2; have hd : w2.heap[b]? = some (.cells #[.pointer (some ⟨b, 0, none⟩), v] 60 (0, 0)) := (hk2.block b (Array.getElem?_eq_some_iff.1 HB1.o).1 (by simpa using fun h => HO.o h)).trans HB1.o; obtain ⟨d0, d1, f0, f1, -⟩ := cells2b hd; have HP := hyd hput; clear hput hd hr2 hk2 hg2; go_wp2_with fail; go_ret2; obtain ⟨F', q1, q2, q3⟩ := HP.o; exact ⟨rfl, F', q1, q2, q3⟩
theorem keep_freeze {F : List Nat} {a w : World} (h : Keep F a w) {p : Addr} (hp : p.block ∈ F) (n : Nat) : Keep F a (w.freeze p n) := by
 unfold World.freeze
 split
 ·exact h
 ·exact ⟨h.os, h.tape, h.output, by simpa using h.size, fun b hb hn => by
    have hne : ¬ p.block = b := fun e => hn (e ▸ hp)
    simp only [Array.getElem?_modify, hne, if_false]
    exact h.block b hb hn⟩
theorem b_text {w : World} {b : Nat} {l : List UInt8} {F : List Nat} (h : IsB w b l F) (h0 : l ≠ []) :
  Calls Tryz.prog 24 #[.pointer (some ⟨b, 0, none⟩)] w fun e w' => e = .returned (.string ⟨l.toArray⟩) ∧ Keep F w w' := by
 obtain ⟨p, v, o, hp, hbk, hr, hoff, ho, rfl⟩ := h; have hl0 : l.length ≠ 0 := by simpa using h0
 obtain ⟨hrl, hr⟩ := hr; rcases hr with ⟨-, -, hz⟩ | ⟨g, off, cap, cur, rfl, rfl, hg, hnc, hcm, hcs, hcell⟩
 ·exact absurd hz hl0
 obtain rfl : off = 0 := hoff _ _ _ _ rfl
 have hc1 : w.drew.cell? ⟨b, 1, none⟩ = some (.slice (some ⟨g, 0, none⟩) l.length cap) := by
  have : w.drew.heap[b]? = some (.cells #[p, .slice (some ⟨g, 0, none⟩) l.length cap] 60 (0, 0)) := hbk; rw [Lib.cell_of_heap this]; rfl
 have hSD : (Builtin.unsafeSliceData_ #[58] 92 #[.slice (some ⟨g, 0, none⟩) l.length cap]).run Tryz.prog w.drew = .ok (.pointer (some ⟨g, 0, none⟩)) w.drew :=
  Lib.run_unsafeSliceData_row _ _ _ _ _ _ (by omega)
 have hUS : (Builtin.unsafeString_ #[92, 3] 9 #[.pointer (some ⟨g, 0, none⟩), .int .i64 l.length]).run Tryz.prog w.drew = .ok (.string ⟨l.toArray⟩) (w.drew.freeze ⟨g, 0, none⟩ l.length) := by
  refine Lib.run_unsafeString_row w.drew 92 3 9 5 Tryz.underlying92 (by kernel_rfl) g cur.size (by have hg' : w.drew.heap[g]? = some (.cells cur 5 (0, 0)) := hg; simp [World.shape?, hg']) l h0 (by omega) (by unfold maxLen at hcm; omega) ?_; intro j x hx
  have hj : j < l.length := by
   rcases Nat.lt_or_ge j l.length with h | h
   ·exact h
   ·rw [List.getElem?_eq_none h] at hx; cases hx
  have hadd : (⟨g, 0, none⟩ : Addr).add j = ⟨g, 0 + j, none⟩ := by unfold Addr.add; split <;> simp_all
  have hg' : w.drew.heap[g]? = some (.cells cur 5 (0, 0)) := hg; rw [hadd, Lib.cell_of_heap hg', hcell j (by omega)]; simp [Lib.byteCells, hx]
 clear hcell hrl hp hoff ho hcs hg; have HK := hyd (keep_freeze (F := b :: (some g).toList) (Keep.refl _ w).drew (p := ⟨g, 0, none⟩) (by simp) l.length); go_enter Tryz.func24, Tryz.ntmps24
 go_wp2
 go_region
 all_goals (go_wp2; go_ret; exact ⟨rfl, HK.o⟩)
theorem indexByte_neg (l : List UInt8) (c : UInt8) : decide (Lib.indexByte l c < 0) = !l.contains c := by
 induction l with
 | nil => simp [Lib.indexByte]
 | cons b l ih =>
  have hge := Lib.indexByte_ge l c; unfold Lib.indexByte
  by_cases hb : b = c
  ·subst hb; simp
  ·have hb1 : (b == c) = false := by simpa using hb
   have hb2 : (c == b) = false := by simpa using fun h => hb h.symm
   rw [hb1, List.contains_cons, hb2, Bool.false_or, ← ih]
   by_cases h1 : Lib.indexByte l c = -1
   ·simp [h1]
   ·have h1' : (Lib.indexByte l c == -1) = false := by simpa using h1
    simp only [h1', Bool.false_eq_true, if_false]; simp only [decide_eq_decide]
    omega
def wordsB : List ByteArray := wordsL.map fun l => ⟨l.toArray⟩
theorem contains_words (s : ByteArray) : Lib.containsS (wordsB.take 14) s = wordsL.contains s.data.toList := by
 rw [Bool.eq_iff_iff, Lib.containsS_iff, List.contains_iff_mem]; have : wordsB.take 14 = wordsB := rfl; rw [this]; unfold wordsB; rw [List.mem_map]
 constructor
 ·rintro ⟨l, hl, rfl⟩; simpa using hl
 ·intro h; exact ⟨_, h, by cases s; simp⟩
theorem words_cells (w : World) : ∀ j, j < wordsB.length → (w.alloc (.cells #[.string ⟨#[97, 102, 116, 101, 114]⟩, .string ⟨#[97, 110, 100]⟩, .string ⟨#[99, 97, 115, 101]⟩, .string ⟨#[99, 97, 116, 99, 104]⟩, .string ⟨#[100, 105, 118]⟩, .string ⟨#[101, 110, 100]⟩, .string ⟨#[102, 117, 110]⟩, .string ⟨#[110, 111, 116]⟩, .string ⟨#[111, 102]⟩, .string ⟨#[111, 114]⟩, .string ⟨#[114, 101, 99, 101, 105, 118, 101]⟩, .string ⟨#[114, 101, 109]⟩, .string ⟨#[116, 114, 121]⟩, .string ⟨#[119, 104, 101, 110]⟩] 9)).cell? ⟨w.heap.size, 0 + j, none⟩ = some (.string (wordsB.getD j ByteArray.empty)) := by
 intro j hj; have hb := heap_alloc_new w (.cells #[.string ⟨#[97, 102, 116, 101, 114]⟩, .string ⟨#[97, 110, 100]⟩, .string ⟨#[99, 97, 115, 101]⟩, .string ⟨#[99, 97, 116, 99, 104]⟩, .string ⟨#[100, 105, 118]⟩, .string ⟨#[101, 110, 100]⟩, .string ⟨#[102, 117, 110]⟩, .string ⟨#[110, 111, 116]⟩, .string ⟨#[111, 102]⟩, .string ⟨#[111, 114]⟩, .string ⟨#[114, 101, 99, 101, 105, 118, 101]⟩, .string ⟨#[114, 101, 109]⟩, .string ⟨#[116, 114, 121]⟩, .string ⟨#[119, 104, 101, 110]⟩] 9); have hj' : j < 14 := hj
 match j, hj' with
  | 0, _ => exact (Lib.cell_of_heap hb _).trans rfl
  | 1, _ => exact (Lib.cell_of_heap hb _).trans rfl
  | 2, _ => exact (Lib.cell_of_heap hb _).trans rfl
  | 3, _ => exact (Lib.cell_of_heap hb _).trans rfl
  | 4, _ => exact (Lib.cell_of_heap hb _).trans rfl
  | 5, _ => exact (Lib.cell_of_heap hb _).trans rfl
  | 6, _ => exact (Lib.cell_of_heap hb _).trans rfl
  | 7, _ => exact (Lib.cell_of_heap hb _).trans rfl
  | 8, _ => exact (Lib.cell_of_heap hb _).trans rfl
  | 9, _ => exact (Lib.cell_of_heap hb _).trans rfl
  | 10, _ => exact (Lib.cell_of_heap hb _).trans rfl
  | 11, _ => exact (Lib.cell_of_heap hb _).trans rfl
  | 12, _ => exact (Lib.cell_of_heap hb _).trans rfl
  | 13, _ => exact (Lib.cell_of_heap hb _).trans rfl
theorem index_at (s : ByteArray) (k : Nat) (h : k < s.size) : s.data.toList[k]'(by simpa using h) = s[k] := rfl
theorem p_bare (s : ByteArray) (w : World) (hs : s.size ≤ 140737488355328) : Calls Tryz.prog 87 #[.string s] w fun e w' => e = .returned (.bool (bareL s.data.toList)) ∧ Keep [] w w' := by
 have hbare : bareL s.data.toList = (s.data.toList.all letterB && (match s.data.toList with | [] => false | c :: _ => decide (97 ≤ c) && decide (c ≤ 122)) && !wordsL.contains s.data.toList) := rfl; have HB := hyd hbare; clear hbare; go_enter Tryz.func87, Tryz.ntmps87; go_wp2_with fail
 go_loop [3, 7] (fun _ i => ∃ k : Nat, k ≤ s.size ∧ i = .int .i64 k ∧ (s.data.toList.take k).all letterB = true) (fun _ i => s.size - (RowKit.intOf i).toNat)
 case atStart => exact ⟨0, Nat.zero_le _, rfl, by simp⟩
 case round =>
  obtain ⟨k, hk, rfl, hall⟩ := hrel; have HALL := hyd hall; clear hall
  by_cases hlt : k < s.size
  ·have hts : (s.data.toList.take (k + 1)).all letterB = letterB s[k] := by
    rw [List.take_succ_eq_append_getElem (by simpa using hlt), List.all_append, HALL.o, index_at s k hlt]; simp
   have hcall := (Tryz.strings_IndexByte ⟨#[97, 98, 99, 100, 101, 102, 103, 104, 105, 106, 107, 108, 109, 110, 111, 112, 113, 114, 115, 116, 117, 118, 119, 120, 121, 122, 65, 66, 67, 68, 69, 70, 71, 72, 73, 74, 75, 76, 77, 78, 79, 80, 81, 82, 83, 84, 85, 86, 87, 88, 89, 90, 48, 49, 50, 51, 52, 53, 54, 55, 56, 57, 95, 64]⟩ (s[k].toNat : Int) w).mono (R' := fun e w' => e = .returned (.int .i64 (Lib.indexByte lettersL s[k])) ∧ w = w') (fun e w' h => ⟨by rw [h.1]; simp, h.2.symm⟩); have hneg : decide (Lib.indexByte lettersL s[k] < 0) = !letterB s[k] := indexByte_neg lettersL s[k]; have HTS := hyd hts; have HC := hyd hcall; clear hts hcall; generalize Lib.indexByte lettersL s[k] = ix at *
   cases hl : letterB s[k] with
   | true =>
    rw [hl] at hneg HTS; have hd : ¬ ix < 0 := by simpa using hneg
    clear hneg hl; go_wp2_with fail; refine HC.o.mono ?_; rintro e w2 ⟨rfl, rfl⟩; go_wp2_with fail; go_round
    case rel => exact ⟨k + 1, by omega, by go_num, HTS.o⟩
    case measure => simp [RowKit.intOf]; omega
   | false =>
    rw [hl] at hneg HTS; have hd : ix < 0 := by simpa using hneg
    have hres : bareL s.data.toList = false := by
     rw [HB.o]; have := List.take_append_drop (k + 1) s.data.toList; rw [← this, List.all_append, HTS.o]; simp
    have HRES := hyd hres; clear hneg hl hres; go_wp2_with fail; refine HC.o.mono ?_; rintro e w2 ⟨rfl, rfl⟩; go_wp2_with fail; go_ret; exact ⟨by rw [HRES.o]; rfl, Keep.refl _ _⟩
  ·have hall : s.data.toList.all letterB = true := by
    have := HALL.o
    rwa [List.take_of_length_le (by simp; exact Nat.le_of_not_lt hlt)] at this
   have hcall : Calls Tryz.prog 110 #[.slice (some ⟨w.heap.size, 0, none⟩) 14 14, .string s] (w.alloc (.cells #[.string ⟨#[97, 102, 116, 101, 114]⟩, .string ⟨#[97, 110, 100]⟩, .string ⟨#[99, 97, 115, 101]⟩, .string ⟨#[99, 97, 116, 99, 104]⟩, .string ⟨#[100, 105, 118]⟩, .string ⟨#[101, 110, 100]⟩, .string ⟨#[102, 117, 110]⟩, .string ⟨#[110, 111, 116]⟩, .string ⟨#[111, 102]⟩, .string ⟨#[111, 114]⟩, .string ⟨#[114, 101, 99, 101, 105, 118, 101]⟩, .string ⟨#[114, 101, 109]⟩, .string ⟨#[116, 114, 121]⟩, .string ⟨#[119, 104, 101, 110]⟩] 9)) (fun e w' => e = .returned (.bool (wordsL.contains s.data.toList)) ∧ (w.alloc (.cells #[.string ⟨#[97, 102, 116, 101, 114]⟩, .string ⟨#[97, 110, 100]⟩, .string ⟨#[99, 97, 115, 101]⟩, .string ⟨#[99, 97, 116, 99, 104]⟩, .string ⟨#[100, 105, 118]⟩, .string ⟨#[101, 110, 100]⟩, .string ⟨#[102, 117, 110]⟩, .string ⟨#[110, 111, 116]⟩, .string ⟨#[111, 102]⟩, .string ⟨#[111, 114]⟩, .string ⟨#[114, 101, 99, 101, 105, 118, 101]⟩, .string ⟨#[114, 101, 109]⟩, .string ⟨#[116, 114, 121]⟩, .string ⟨#[119, 104, 101, 110]⟩] 9)) = w') :=
    (Tryz.slices_Contains_string w.heap.size 0 14 14 wordsB s _ (by decide) (by decide) (words_cells w)).mono (fun e w' h => ⟨by rw [h.1, contains_words], h.2.symm⟩)
   have hb2 := HB.o; rw [hall, Bool.true_and] at hb2; have HC := hyd hcall; clear hcall hall HALL HB; generalize wordsL.contains s.data.toList = wb at *
   cases hs0 : s.data.toList with
   | nil =>
    have e1 : s.toList = [] := by rw [Go.ByteArray.toList_eq]; exact hs0
    have e2 : s.toList.isEmpty = true := by rw [e1]; rfl
    have hres : bareL s.data.toList = false := by rw [hb2, hs0]; rfl
    have HRES := hyd hres; clear hs0 hb2 hres; go_wp2_with fail; go_ret; exact ⟨by rw [HRES.o]; rfl, (Keep.refl [] w).alloc _⟩
   | cons c r =>
    have hsz : 0 < s.size := by
     rcases Nat.eq_zero_or_pos s.size with h | h
     ·have := (toList_nil_iff s).2 h; rw [Go.ByteArray.toList_eq, hs0] at this; cases this
     ·exact h
    have e1 : ¬ s.toList = [] := by rw [Go.ByteArray.toList_eq, hs0]; simp
    have e2 : s.toList.isEmpty = false := by simpa using e1
    have e3 : s[0] = c := by rw [← index_at s 0 hsz]; simp [hs0]
    have i0 : (0 : Int) < (s.size : Int) := by omega
    have hn1 : decide (97 ≤ c) = decide ((97 : Int) ≤ (c.toNat : Int)) := by rw [Bool.eq_iff_iff]; simp [UInt8.le_iff_toNat_le]; omega
    have hn2 : decide (c ≤ 122) = decide ((c.toNat : Int) ≤ 122) := by rw [Bool.eq_iff_iff]; simp [UInt8.le_iff_toNat_le]; omega
    have hres : bareL s.data.toList = (decide ((97 : Int) ≤ (c.toNat : Int)) && decide ((c.toNat : Int) ≤ 122) && !wb) := by rw [hb2, hs0]; simp only [hn1, hn2]
    have HRES := hyd hres; clear hs0 hn1 hn2 hres hb2; subst e3
    by_cases h1 : (97 : Int) ≤ (s[0].toNat : Int)
    ·by_cases h2 : (s[0].toNat : Int) ≤ 122
     ·go_wp2_with fail; refine HC.o.mono ?_; rintro e w2 ⟨rfl, rfl⟩; go_wp2_with fail; go_ret; exact ⟨by rw [HRES.o]; simp [h1, h2], (Keep.refl [] w).alloc _⟩
     ·go_wp2_with fail; go_ret; exact ⟨by rw [HRES.o]; simp; intros; omega, (Keep.refl [] w).alloc _⟩
    ·go_wp2_with fail; go_ret; exact ⟨by rw [HRES.o]; simp; intros; omega, (Keep.refl [] w).alloc _⟩
end Go.Proofs.YtdmmhfbafinkpaaGreatDoor

namespace Go.Emb
def Placed (z : Nat) : Nat → List (Tk × Nat) → Prop
 | _, [] => True
 | a, (t, p) :: ts => a ≤ p ∧ 1 ≤ t.en ∧ p + t.en ≤ z ∧ Placed z (p + t.en) ts
theorem scan_placed : ∀ (ts : List (Tk × Nat)) (l : List UInt8) (a : Nat), scanL l a = .ok ts → Placed (a + l.length) a ts
 | [], _, _, _ => True.intro
 | (t, p) :: ts, l, a, h => by
  obtain ⟨h1, h2, h3, _, h5⟩ := scanL_at _ l (Nat.le_refl _) a t p ts h; refine ⟨h1, h3, h2, ?_⟩; have := scan_placed ts _ _ h5
  rwa [show p + t.en + (l.drop (p - a + t.en)).length = a + l.length by rw [List.length_drop]; omega] at this
theorem quoL_err : ∀ (n : Nat) (l : List UInt8), l.length ≤ n → ∀ (i : Nat) (b : List UInt8) (f : Nat), quoL l i b = .error f → f ≤ i + l.length := by
 intro n
 induction n with
 | zero =>
  intro l hl i b f h; have : l = [] := List.length_eq_zero_iff.1 (by omega); subst this; rw [quoL_nil] at h; cases h; omega
 | succ n ih =>
  intro l hl i b f h
  cases l with
  | nil => rw [quoL_nil] at h; cases h; omega
  | cons c r =>
   rw [quoL_cons] at h
   split at h
   ·split at h
    ·cases h; omega
    ·cases h
   ·split at h
    ·split at h
     ·cases h; omega
     ·rename_i p he; have hk := escN_pos (x := p.1) (k := p.2) he; have := ih _ (by simp at hl ⊢; omega) _ _ _ h; simp at this hk ⊢
      omega
    ·split at h
     ·cases h; omega
     ·have := ih _ (by simp at hl; omega) _ _ _ h; simp
      omega
theorem tokL_err {l : List UInt8} {e : Int} {f : Nat} (h : tokL l = .error (e, f)) : f ≤ l.length ∧ (e = 100 ∨ e = 101) := by
 unfold tokL at h
 split at h
 ·cases h; simp
 ·split at h
  ·split at h
   ·cases h
   ·cases h; simp
  ·split at h
   ·split at h
    ·cases h; simp
    ·cases h
   ·split at h
    ·split at h
     ·rename_i q hq
      cases h
      have := quoL_err _ _ (Nat.le_refl _) _ _ _ hq; simp; omega
     ·cases h
    ·split at h
     ·cases h; simp
     ·cases h
def TokOk (t : Tk) : Prop :=
 (t.kind = 1 ∧ t.text = [] ∧ ∃ n : Nat, t.num = n ∧ n ≤ 576460752303423487) ∨
 (t.num = 0 ∧ ((t.kind = 2 ∧ 1 ≤ t.text.length ∧ t.text.length ≤ 255) ∨
   (t.kind = 3 ∧ t.text.length ≤ 255 ∧ (∀ x ∈ t.text, moreB x = true) ∧ ∃ c r, t.text = c :: r ∧ greatB c = true) ∨
   (t.kind = 4 ∧ wordsS.contains t.text = true) ∨
   (t.kind = 5 ∧ ((∃ c, t.text = [c] ∧ signsL.contains c = true) ∨ ∃ c d, t.text = [c, d] ∧ sign2 c d = true))))
theorem tw_all (p : UInt8 → Bool) (l : List UInt8) : ∀ x ∈ l.takeWhile p, p x = true := fun x hx => List.all_eq_true.1 (List.all_takeWhile (l := l) (p := p)) x hx
end Go.Emb

namespace Go.Proofs.YtdmmhfbafinkpaaGreatDoor
open Go.RowKit Go.Emb
theorem set_eq {l : List UInt8} {p : UInt8 → Bool} (h : ∀ n : Fin 256, l.contains (UInt8.ofNat n.val) = p (UInt8.ofNat n.val)) (c : UInt8) : l.contains c = p c := by
 have := h ⟨c.toNat, c.toNat_lt⟩
 simpa using this
theorem set_digit (c : UInt8) : ([48, 49, 50, 51, 52, 53, 54, 55, 56, 57] : List UInt8).contains c = digitB c := set_eq (by decide +kernel) c
theorem set_blank (c : UInt8) : ([32, 9, 10, 13] : List UInt8).contains c = blankB c := set_eq (by decide +kernel) c
theorem set_hex (c : UInt8) : hexL.contains c = hexB c := set_eq (by decide +kernel) c
theorem set_great (c : UInt8) : ([65, 66, 67, 68, 69, 70, 71, 72, 73, 74, 75, 76, 77, 78, 79, 80, 81, 82, 83, 84, 85, 86, 87, 88, 89, 90, 95] : List UInt8).contains c = greatB c := set_eq (by decide +kernel) c
theorem set_letter (c : UInt8) : ([97, 98, 99, 100, 101, 102, 103, 104, 105, 106, 107, 108, 109, 110, 111, 112, 113, 114, 115, 116, 117, 118, 119, 120, 121, 122, 65, 66, 67, 68, 69, 70, 71, 72, 73, 74, 75, 76, 77, 78, 79, 80, 81, 82, 83, 84, 85, 86, 87, 88, 89, 90, 95] : List UInt8).contains c = (smallB c || greatB c) := set_eq (p := fun c => smallB c || greatB c) (by decide +kernel) c
theorem set_more (c : UInt8) : ([97, 98, 99, 100, 101, 102, 103, 104, 105, 106, 107, 108, 109, 110, 111, 112, 113, 114, 115, 116, 117, 118, 119, 120, 121, 122, 65, 66, 67, 68, 69, 70, 71, 72, 73, 74, 75, 76, 77, 78, 79, 80, 81, 82, 83, 84, 85, 86, 87, 88, 89, 90, 95, 48, 49, 50, 51, 52, 53, 54, 55, 56, 57, 64] : List UInt8).contains c = moreB c := set_eq (by decide +kernel) c
theorem hex_index (c : UInt8) (h : hexB c = true) : Lib.indexByte hexL c = (hexV c : Int) := by
 have : ∀ n : Fin 256, hexB (UInt8.ofNat n.val) = true → Lib.indexByte hexL (UInt8.ofNat n.val) = (hexV (UInt8.ofNat n.val) : Int) := by decide +kernel
 have h2 := this ⟨c.toNat, c.toNat_lt⟩; simp only [UInt8.ofNat_toNat] at h2; exact h2 h
theorem hexV_lt (c : UInt8) (h : hexB c = true) : hexV c < 16 := by
 have : ∀ n : Fin 256, hexB (UInt8.ofNat n.val) = true → hexV (UInt8.ofNat n.val) < 16 := by decide +kernel
 have h2 := this ⟨c.toNat, c.toNat_lt⟩; simp only [UInt8.ofNat_toNat] at h2; exact h2 h
def runN (l a : List UInt8) : Nat := (l.takeWhile (fun c => a.contains c)).length
theorem runN_full {l a : List UInt8} (h : l.all (fun c => a.contains c) = true) : runN l a = l.length := by
 unfold runN; have e := List.takeWhile_append_of_pos (l₂ := []) (fun x hx => List.all_eq_true.1 h x hx); rw [List.append_nil] at e; rw [e]; simp
theorem runN_at {l a : List UInt8} {k : Nat} (hk : k < l.length) (h : (l.take k).all (fun c => a.contains c) = true) (hn : a.contains l[k] = false) : runN l a = k := by
 unfold runN; have e : l = l.take k ++ l[k] :: l.drop (k + 1) := by rw [← List.drop_eq_getElem_cons hk, List.take_append_drop]
 conv => lhs; rw [e]
 rw [List.takeWhile_append_of_pos (fun x hx => List.all_eq_true.1 h x hx), List.takeWhile_cons_of_neg (by rw [hn]; simp)]; simp; omega
theorem p_run (s a : ByteArray) (w : World) (hs : s.size ≤ 140737488355328) : Calls Tryz.prog 91 #[.string s, .string a] w fun e w' => e = .returned (.int .i64 (runN s.data.toList a.data.toList : Nat)) ∧ w = w' := by
 obtain ⟨R, hR⟩ : ∃ R, R = runN s.data.toList a.data.toList := ⟨_, rfl⟩; have HR := hyd hR; rw [← hR]; clear hR; go_enter Tryz.func91, Tryz.ntmps91; go_wp2_with fail
 go_loop [5, 8] (fun _ i => ∃ k : Nat, k ≤ s.size ∧ i = .int .i64 k ∧ (s.data.toList.take k).all (fun c => a.data.toList.contains c) = true) (fun _ i => s.size - (RowKit.intOf i).toNat)
 case atStart => exact ⟨0, Nat.zero_le _, rfl, by simp⟩
 case round =>
  obtain ⟨k, hk, rfl, hall⟩ := hrel; have HALL := hyd hall; clear hall
  by_cases hlt : k < s.size
  ·have hlt' : k < s.data.toList.length := by simpa using hlt
   have hts : (s.data.toList.take (k + 1)).all (fun c => a.data.toList.contains c) = a.data.toList.contains s[k] := by
    rw [List.take_succ_eq_append_getElem hlt', List.all_append, HALL.o, index_at s k hlt]; simp
   have hcall := (Tryz.strings_IndexByte a (s[k].toNat : Int) w).mono (R' := fun e w' => e = .returned (.int .i64 (Lib.indexByte a.data.toList s[k])) ∧ w = w') (fun e w' h => ⟨by rw [h.1]; simp, h.2.symm⟩); have hneg : decide (Lib.indexByte a.data.toList s[k] < 0) = !a.data.toList.contains s[k] := indexByte_neg a.data.toList s[k]; have HTS := hyd hts; have HC := hyd hcall; clear hts hcall; generalize Lib.indexByte a.data.toList s[k] = ix at *
   cases hl : a.data.toList.contains s[k] with
   | true =>
    rw [hl] at hneg HTS; have hd : ¬ ix < 0 := by simpa using hneg
    clear hneg hl; go_wp2_with fail; refine HC.o.mono ?_; rintro e w2 ⟨rfl, rfl⟩; go_wp2_with fail; go_round
    case rel => exact ⟨k + 1, by omega, by go_num, HTS.o⟩
    case measure => simp [RowKit.intOf]; omega
   | false =>
    have hres : R = k := by rw [HR.o]; exact runN_at hlt' HALL.o (by rw [index_at s k hlt]; exact hl)
    have HRES := hyd hres; rw [hl] at hneg; have hd : ix < 0 := by simpa using hneg
    clear hneg hl hres HTS; go_wp2_with fail; refine HC.o.mono ?_; rintro e w2 ⟨rfl, rfl⟩; go_wp2_with fail; go_ret; exact ⟨by rw [HRES.o]; rfl, rfl⟩
  ·have hall := HALL.o; rw [List.take_of_length_le (by simp; exact Nat.le_of_not_lt hlt)] at hall; have hres : R = s.size := by rw [HR.o, runN_full hall]; simp
   have HRES := hyd hres; clear hall hres; go_wp2_with fail; go_ret; exact ⟨by rw [HRES.o]; rfl, rfl⟩
def escV (l : List UInt8) : Nat × Nat := match escN l with | some p => (p.1.toNat, p.2) | none => (0, 0)
theorem escN_short (s : ByteArray) (h : s.size < 2) : escN s.data.toList = none := by
 have hl : s.data.toList.length = s.size := by simp
 match e : s.data.toList with
 | [] => rfl
 | [_] => rfl
 | _ :: _ :: _ => rw [e] at hl; simp at hl; omega
theorem escN_two (s : ByteArray) (h : 1 < s.size) (h1 : s[1].toNat = 39 ∨ s[1].toNat = 92) : escN s.data.toList = some (s[1], 2) := by
 have hl : s.data.toList.length = s.size := by simp
 have h2 := index_at s 1 h
 match e : s.data.toList with
 | [] => rw [e] at hl; simp at hl; omega
 | [_] => rw [e] at hl; simp at hl; omega
 | a :: c :: r =>
  simp only [e] at h2; have h3 : c = s[1] := h2; unfold escN; simp only; rw [h3, if_pos h1]
theorem escN_none (s : ByteArray) (h : 1 < s.size) (h1 : ¬ (s[1].toNat = 39 ∨ s[1].toNat = 92)) (h2 : s[1].toNat ≠ 120 ∨ s.size < 4 ∨ runN ((s.extract 2 4).data.toList) hexL ≠ 2) : escN s.data.toList = none := by
 have hl : s.data.toList.length = s.size := by simp
 have h3 := index_at s 1 h
 match e : s.data.toList with
 | [] => rfl
 | [_] => rfl
 | a :: c :: r =>
  simp only [e] at h3; have h4 : c = s[1] := h3; unfold escN; simp only; rw [h4, if_neg h1]
  by_cases hc : s[1].toNat = 120
  ·rw [if_pos hc]
   match r with
   | [] => rfl
   | [_] => rfl
   | p :: q :: r =>
    simp only; rcases h2 with h2 | h2 | h2
    ·exact absurd hc h2
    ·rw [e] at hl; simp at hl; omega
    ·have hx : (s.extract 2 4).data.toList = [p, q] := by simp [ByteArray.data_extract, e]
     rw [hx] at h2
     by_cases hb : (hexB p && hexB q) = true
     ·exfalso
      apply h2
      simp only [Bool.and_eq_true] at hb; unfold runN; simp only [set_hex]; rw [List.takeWhile_cons_of_pos hb.1, List.takeWhile_cons_of_pos hb.2]; rfl
     ·rw [if_neg hb]
  ·rw [if_neg hc]
theorem escN_four (s : ByteArray) (h : 3 < s.size) (h1 : s[1].toNat = 120) (h2 : runN ((s.extract 2 4).data.toList) hexL = 2) : hexB s[2] = true ∧ hexB s[3] = true ∧ escN s.data.toList = some (UInt8.ofNat (16 * hexV s[2] + hexV s[3]), 4) := by
 have hl : s.data.toList.length = s.size := by simp
 have g1 := index_at s 1 (by omega); have g2 := index_at s 2 (by omega); have g3 := index_at s 3 (by omega)
 match e : s.data.toList with
 | [] => rw [e] at hl; simp at hl; omega
 | [_] => rw [e] at hl; simp at hl; omega
 | [_, _] => rw [e] at hl; simp at hl; omega
 | [_, _, _] => rw [e] at hl; simp at hl; omega
 | a :: c :: p :: q :: r =>
  simp only [e] at g1 g2 g3; have k1 : c = s[1] := g1; have k2 : p = s[2] := g2; have k3 : q = s[3] := g3; have hx : (s.extract 2 4).data.toList = [p, q] := by simp [ByteArray.data_extract, e]
  rw [hx] at h2; unfold runN at h2; simp only [set_hex] at h2
  by_cases hp : hexB p = true
  ·rw [List.takeWhile_cons_of_pos hp] at h2
   by_cases hq : hexB q = true
   ·rw [← k2, ← k3]; refine ⟨hp, hq, ?_⟩; unfold escN; simp only; rw [k1, if_neg (by omega), if_pos h1, hp, hq]; rfl
   ·rw [List.takeWhile_cons_of_neg hq] at h2; simp at h2
  ·rw [List.takeWhile_cons_of_neg hp] at h2; simp at h2
theorem hex_bits (a b : Nat) (ha : a < 16) (hb : b < 16) : IntKind.u8.wrap (bits BinOp.or IntKind.i64 (IntKind.i64.wrap ((a : Int) * 16)) (b : Int)) = ((UInt8.ofNat (16 * a + b)).toNat : Int) := by
 have h : ∀ x y : Fin 16, IntKind.u8.wrap (bits BinOp.or IntKind.i64 (IntKind.i64.wrap ((x.val : Int) * 16)) (y.val : Int)) = ((UInt8.ofNat (16 * x.val + y.val)).toNat : Int) := by decide +kernel
 exact h ⟨a, ha⟩ ⟨b, hb⟩
theorem p_escape (s : ByteArray) (w : World) (hs : s.size ≤ 140737488355328) : Calls Tryz.prog 129 #[.string s] w fun e w' => e = .returned (.tuple #[.int .u8 ((escV s.data.toList).1 : Nat), .int .i64 ((escV s.data.toList).2 : Nat)]) ∧ Keep [] w w' := by
 obtain ⟨R, hR⟩ : ∃ R, R = escV s.data.toList := ⟨_, rfl⟩; have HR := hyd hR; rw [← hR]; clear hR
 by_cases h1 : 1 < s.size
 ·have i1 : (1 : Int) < (s.size : Int) := by omega
  have i1' : (2 : Int) ≤ (s.size : Int) := by omega
  by_cases c1 : s[1].toNat = 39
  ·have hres : R = (39, 2) := by rw [HR.o]; unfold escV; rw [escN_two s h1 (.inl c1)]; simp only [c1]
   have HRES := hyd hres; have c1' : (s[1].toNat : Int) = 39 := by omega
   clear hres c1; go_enter Tryz.func129, Tryz.ntmps129; go_wp2_with fail; refine bodyPost_ret (results_tmp2 rfl _ _ _) rfl ?_; exact ⟨by rw [HRES.o]; rfl, Keep.refl _ _⟩
  ·have c1' : ((s[1].toNat : Int) == 39) = false := beq_eq_false_iff_ne.2 (by omega)
   by_cases c2 : s[1].toNat = 92
   ·have hres : R = (92, 2) := by rw [HR.o]; unfold escV; rw [escN_two s h1 (.inr c2)]; simp only [c2]
    have HRES := hyd hres; have c2' : (s[1].toNat : Int) = 92 := by omega
    clear hres c2 c1; go_enter Tryz.func129, Tryz.ntmps129; go_wp2_with fail; refine bodyPost_ret (results_tmp2 rfl _ _ _) rfl ?_; exact ⟨by rw [HRES.o]; rfl, Keep.refl _ _⟩
   ·have c2' : ((s[1].toNat : Int) == 92) = false := beq_eq_false_iff_ne.2 (by omega); have hno : ¬ (s[1].toNat = 39 ∨ s[1].toNat = 92) := fun h => h.elim c1 c2
    by_cases h4 : 3 < s.size
    ·have i4 : (4 : Int) ≤ (s.size : Int) := by omega
     have i3 : (3 : Int) < (s.size : Int) := by omega
     have i2 : (2 : Int) < (s.size : Int) := by omega
     by_cases c3 : s[1].toNat = 120
     ·have c3' : (s[1].toNat : Int) = 120 := by omega
      have hrun := p_run (s.extract 2 4) ⟨#[48, 49, 50, 51, 52, 53, 54, 55, 56, 57, 97, 98, 99, 100, 101, 102]⟩ w (by simp; omega); obtain ⟨n, hn⟩ : ∃ n, n = runN (s.extract 2 4).data.toList hexL := ⟨_, rfl⟩; simp only [← hn] at hrun; have HRUN := hyd hrun; clear hrun
      by_cases h5 : n = 2
      ·obtain ⟨b1, b2, b3⟩ := escN_four s h4 c3 (by rw [← hn]; exact h5); have hres : R = ((UInt8.ofNat (16 * hexV s[2] + hexV s[3])).toNat, 4) := by rw [HR.o]; unfold escV; rw [b3]
       have HRES := hyd hres; have hx1 := hex_index _ b1; have hx2 := hex_index _ b2; have hl1 := hexV_lt _ b1; have hl2 := hexV_lt _ b2; have HX1 := hyd hx1; have HX2 := hyd hx2; subst h5; clear hres hx1 hx2 b1 b2 b3 hn c1 c2 c3; go_enter Tryz.func129, Tryz.ntmps129; go_wp2_with fail; refine HRUN.o.mono ?_; rintro e w2 ⟨rfl, rfl⟩; go_wp2_with fail; refine wp_region_held_drew (S := fun w' => Keep [] w w') (by kernel_rfl) ((Keep.refl [] w).drew) (fun hHeld => ?_); have HS0 := hyd hHeld; clear hHeld; have hHeld := HS0.o; generalize w.drew = w8 at *; refine tkL 0 ?vE0 rfl ?runE0 hHeld ?_
       case runE0 => (intro w9 hS9; go_simp; try exact rfl)
       try simp only [Act.put, lA, lZ, lS]
       refine tkL 4 ?vE4 rfl ?runE4 hHeld ?_
       case runE4 => (intro w9 hS9; go_simp; try exact rfl)
       try simp only [Act.put, lA, lZ, lS]
       refine tkL 1 ?vE1 rfl ?runE1 hHeld ?_
       case runE1 => (intro w9 hS9; go_simp; try exact rfl)
       try simp only [Act.put, lA, lZ, lS]
       refine tkL 5 ?vE5 rfl ?runE5 hHeld ?_
       case runE5 => (intro w9 hS9; go_simp; try exact rfl)
       try simp only [Act.put, lA, lZ, lS]
       refine rdH 2 rfl (fun K hK => ?_); go_simp; refine ((Tryz.strings_IndexByte ⟨#[48, 49, 50, 51, 52, 53, 54, 55, 56, 57, 97, 98, 99, 100, 101, 102]⟩ (s[2].toNat : Int) w8).mono (R' := fun e w' => e = .returned (.int .i64 (hexV s[2])) ∧ w8 = w') (fun e w' h => ⟨by rw [h.1]; simp [HX1.o], h.2.symm⟩)).mono ?_; rintro e wn ⟨rfl, rfl⟩; clear hHeld; go_wp2_with fail; refine hK.out _ _ HS0.o (fun hHeld => ?_); clear hK K
       try simp only [Act.put, lA, lZ, lS]
       refine tkL 3 ?vE3 rfl ?runE3 hHeld ?_
       case runE3 => (intro w9 hS9; go_simp; try exact rfl)
       try simp only [Act.put, lA, lZ, lS]
       refine rdH 6 rfl (fun K hK => ?_); go_simp; refine ((Tryz.strings_IndexByte ⟨#[48, 49, 50, 51, 52, 53, 54, 55, 56, 57, 97, 98, 99, 100, 101, 102]⟩ (s[3].toNat : Int) w8).mono (R' := fun e w' => e = .returned (.int .i64 (hexV s[3])) ∧ w8 = w') (fun e w' h => ⟨by rw [h.1]; simp [HX2.o], h.2.symm⟩)).mono ?_; rintro e wn ⟨rfl, rfl⟩; clear hHeld; go_wp2_with fail; refine hK.out _ _ HS0.o (fun hHeld => ?_); clear hK K
       try simp only [Act.put, lA, lZ, lS]
       refine tkL 7 ?vE7 rfl ?runE7 hHeld ?_
       case runE7 => (intro w9 hS9; go_simp; try exact rfl)
       try simp only [Act.put, lA, lZ, lS]
       refine tkL 8 ?vE8 rfl ?runE8 hHeld ?_
       case runE8 => (intro w9 hS9; go_simp; try exact rfl)
       try simp only [Act.put, lA, lZ, lS]
       refine tkL 9 ?vE9 rfl ?runE9 hHeld ?_
       case runE9 => (intro w9 hS9; go_simp; try exact rfl)
       try simp only [Act.put, lA, lZ, lS]
       refine tkL 10 ?vE10 rfl ?runE10 hHeld ?_
       case runE10 => (intro w9 hS9; go_simp; try exact rfl)
       try simp only [Act.put, lA, lZ, lS]
       refine wpAnyH_done (by kernel_rfl) ?_ _; clear hHeld; go_wp2_with fail; refine bodyPost_ret (results_tmp2 rfl _ _ _) rfl ?_; refine ⟨?_, HS0.o⟩; rw [HRES.o]; have hb := hex_bits _ _ hl1 hl2; simp [hb]
      ·have hres : R = (0, 0) := by rw [HR.o]; unfold escV; rw [escN_none s h1 hno (.inr (.inr (by rw [← hn]; exact h5)))]
       have HRES := hyd hres; have h5' : ((n : Int) == 2) = false := beq_eq_false_iff_ne.2 (by omega); clear hres c1 c2 hn h5; go_enter Tryz.func129, Tryz.ntmps129; go_wp2_with fail; refine HRUN.o.mono ?_; rintro e w2 ⟨rfl, rfl⟩; go_wp2_with fail; refine bodyPost_ret (results_tmp2 rfl _ _ _) rfl ?_; exact ⟨by rw [HRES.o]; rfl, Keep.refl _ _⟩
     ·have c3' : ((s[1].toNat : Int) == 120) = false := beq_eq_false_iff_ne.2 (by omega); have hres : R = (0, 0) := by rw [HR.o]; unfold escV; rw [escN_none s h1 hno (.inl c3)]
      have HRES := hyd hres; clear hres c1 c2 c3; go_enter Tryz.func129, Tryz.ntmps129; go_wp2_with fail; refine bodyPost_ret (results_tmp2 rfl _ _ _) rfl ?_; exact ⟨by rw [HRES.o]; rfl, Keep.refl _ _⟩
    ·have i4 : ¬ (4 : Int) ≤ (s.size : Int) := by omega
     have hres : R = (0, 0) := by rw [HR.o]; unfold escV; rw [escN_none s h1 hno (.inr (.inl (by omega)))]
     have HRES := hyd hres; clear hres c1 c2; go_enter Tryz.func129, Tryz.ntmps129; go_wp2_with fail; refine bodyPost_ret (results_tmp2 rfl _ _ _) rfl ?_; exact ⟨by rw [HRES.o]; rfl, Keep.refl _ _⟩
 ·have i1 : ¬ (1 : Int) < (s.size : Int) := by omega
  have i1' : ¬ (2 : Int) ≤ (s.size : Int) := by omega
  have i4 : ¬ (4 : Int) ≤ (s.size : Int) := by omega
  have hres : R = (0, 0) := by rw [HR.o]; unfold escV; rw [escN_short s (by omega)]
  have HRES := hyd hres; clear hres; go_enter Tryz.func129, Tryz.ntmps129; go_wp2_with fail; refine bodyPost_ret (results_tmp2 rfl _ _ _) rfl ?_; exact ⟨by rw [HRES.o]; rfl, Keep.refl _ _⟩
theorem p_word (s : ByteArray) (w : World) : Calls Tryz.prog 113 #[.string s] w fun e w' => e = .returned (.bool (wordsS.contains s.data.toList)) ∧ w = w' := by
 go_enter Tryz.func113, Tryz.ntmps113; go_wp2_with fail
 all_goals
  first
   | (exfalso; rename_i ha hb; rw [ha] at hb; cases hb; done)
   | (refine bodyPost_ret (results_tmp rfl _ _ _) rfl ⟨?_, rfl⟩
      simp only [Go.ByteArray.toList_eq] at *; simp only [wordsS, List.contains_cons, *, Bool.or_true, Bool.true_or, Bool.or_false, Bool.false_or, List.contains_nil]
      rfl)
def sgnB : List ByteArray := [⟨#[45, 62]⟩, ⟨#[61, 61]⟩, ⟨#[47, 61]⟩, ⟨#[61, 60]⟩, ⟨#[62, 61]⟩]
theorem sgn_cells (w : World) : ∀ j, j < 5 → (w.alloc (.cells #[.string ⟨#[45, 62]⟩, .string ⟨#[61, 61]⟩, .string ⟨#[47, 61]⟩, .string ⟨#[61, 60]⟩, .string ⟨#[62, 61]⟩] 9)).cell? ⟨w.heap.size, j, none⟩ = some (.string (sgnB.getD j ByteArray.empty)) := by
 intro j hj; have hb := heap_alloc_new w (.cells #[.string ⟨#[45, 62]⟩, .string ⟨#[61, 61]⟩, .string ⟨#[47, 61]⟩, .string ⟨#[61, 60]⟩, .string ⟨#[62, 61]⟩] 9)
 match j, hj with
 | 0, _ => exact (Lib.cell_of_heap hb _).trans rfl
 | 1, _ => exact (Lib.cell_of_heap hb _).trans rfl
 | 2, _ => exact (Lib.cell_of_heap hb _).trans rfl
 | 3, _ => exact (Lib.cell_of_heap hb _).trans rfl
 | 4, _ => exact (Lib.cell_of_heap hb _).trans rfl
theorem sgn_hit {l : List UInt8} {k : Nat} (hk : k < 5) (h : Lib.hasPrefix l (sgnB.getD k ByteArray.empty).data.toList = true) : signN l = 2 ∧ (sgnB.getD k ByteArray.empty).data.toList = l.take 2 := by
 unfold Lib.hasPrefix at h
 match k, hk, h with
 | 0, _, h | 1, _, h | 2, _, h | 3, _, h | 4, _, h =>
  match l, h with
  | [], h => simp [sgnB] at h
  | [a], h => simp [sgnB, List.isPrefixOf] at h
  | a :: b :: r, h =>
   simp [sgnB, List.isPrefixOf] at h; obtain ⟨rfl, rfl⟩ := h; exact ⟨rfl, rfl⟩
theorem sgn_miss {l : List UInt8} (h : ∀ k, k < 5 → Lib.hasPrefix l (sgnB.getD k ByteArray.empty).data.toList = false) (c : UInt8) (r : List UInt8) (hl : l = c :: r) : signN l = if signsL.contains c then 1 else 0 := by
 subst hl; have h0 := h 0 (by omega); have h1 := h 1 (by omega); have h2 := h 2 (by omega); have h3 := h 3 (by omega); have h4 := h 4 (by omega)
 cases r with
 | nil => rfl
 | cons d r =>
  unfold signN; simp only
  have : sign2 c d = false := by
   unfold Lib.hasPrefix at h0 h1 h2 h3 h4; simp [sgnB, List.isPrefixOf] at h0 h1 h2 h3 h4; unfold sign2; simp only [Bool.or_eq_false_iff, Bool.and_eq_false_iff, beq_eq_false_iff_ne]; exact ⟨⟨⟨⟨Decidable.or_iff_not_imp_left.2 fun x => fun y => h0 (Decidable.not_not.1 x).symm y.symm, Decidable.or_iff_not_imp_left.2 fun x => fun y => h1 (Decidable.not_not.1 x).symm y.symm⟩, Decidable.or_iff_not_imp_left.2 fun x => fun y => h2 (Decidable.not_not.1 x).symm y.symm⟩, Decidable.or_iff_not_imp_left.2 fun x => fun y => h3 (Decidable.not_not.1 x).symm y.symm⟩, Decidable.or_iff_not_imp_left.2 fun x => fun y => h4 (Decidable.not_not.1 x).symm y.symm⟩
  rw [this]; rfl
theorem p_sign (s : ByteArray) (w : World) (hs0 : 0 < s.size) (hs : s.size ≤ 140737488355328) : Calls Tryz.prog 115 #[.string s] w fun e w' => (∃ S : ByteArray, e = .returned (.string S) ∧ S.data.toList = s.data.toList.take (signN s.data.toList)) ∧ Keep [] w w' := by
 have hcells := sgn_cells w; have HKW : Hid (Keep [] w (w.alloc (.cells #[.string ⟨#[45, 62]⟩, .string ⟨#[61, 61]⟩, .string ⟨#[47, 61]⟩, .string ⟨#[61, 60]⟩, .string ⟨#[62, 61]⟩] 9))) := hyd ((Keep.refl [] w).alloc _); have HC := hyd hcells; clear hcells; obtain ⟨R, hR⟩ : ∃ R, R = s.data.toList.take (signN s.data.toList) := ⟨_, rfl⟩; have HR := hyd hR; rw [← hR]; clear hR; go_enter Tryz.func115, Tryz.ntmps115; go_wp2_with fail; generalize w.alloc (.cells #[.string ⟨#[45, 62]⟩, .string ⟨#[61, 61]⟩, .string ⟨#[47, 61]⟩, .string ⟨#[61, 60]⟩, .string ⟨#[62, 61]⟩] 9) = w1 at *
 go_loop [4, 7] (fun _ i => ∃ k : Nat, k ≤ 5 ∧ i = .int .i64 k ∧ ∀ j, j < k → Lib.hasPrefix s.data.toList (sgnB.getD j ByteArray.empty).data.toList = false) (fun _ i => 5 - (RowKit.intOf i).toNat)
 case atStart => exact ⟨0, Nat.zero_le _, rfl, fun j hj => by omega⟩
 case round =>
  obtain ⟨k, hk, rfl, hall⟩ := hrel; have HALL := hyd hall; clear hall
  by_cases hlt : k < 5
  ·have hc := HC.o k hlt; have i0 : (0 : Int) ≤ (k : Int) := by omega
   have i1 : (k : Int) < 5 := by omega
   have hhit := fun h => sgn_hit (l := s.data.toList) hlt h
   have HHIT := hyd hhit; have hcall := fun (u : ByteArray) => (Tryz.strings_HasPrefix s u w1).mono (R' := fun e w' => e = .returned (.bool (Lib.hasPrefix s.data.toList u.data.toList)) ∧ w1 = w') (fun e w' h => ⟨h.1, h.2.symm⟩)
   obtain ⟨u, hu⟩ : ∃ u, u = sgnB.getD k ByteArray.empty := ⟨_, rfl⟩; rw [← hu] at hc; have HU := hyd hu; have HCALL := hyd (hcall u); clear hcall hhit hu; obtain ⟨b, hb⟩ : ∃ b, b = Lib.hasPrefix s.data.toList u.data.toList := ⟨_, rfl⟩; rw [← hb] at HCALL; have HB := hyd hb; clear hb
   cases b with
   | true =>
    go_wp2_with fail; refine HCALL.o.mono ?_; rintro e w2 ⟨rfl, rfl⟩; go_wp2_with fail; go_ret; have h1 := HHIT.o (by rw [← HU.o]; exact HB.o.symm); refine ⟨⟨u, rfl, ?_⟩, HKW.o⟩; rw [HR.o, HU.o, h1.1, h1.2]
   | false =>
    go_wp2_with fail; refine HCALL.o.mono ?_; rintro e w2 ⟨rfl, rfl⟩; go_wp2_with fail; go_round
    case rel => exact ⟨k + 1, by omega, by go_num, fun j hj => by
      rcases Nat.lt_or_ge j k with h | h
      · exact HALL.o j h
      · obtain rfl : j = k := by omega
        rw [← HU.o]; exact HB.o.symm⟩
    case measure => simp [RowKit.intOf]; omega
  ·obtain rfl : k = 5 := by omega
   obtain ⟨c, r, hcr⟩ : ∃ c r, s.data.toList = c :: r := by
    match e : s.data.toList with
    | [] => have : s.data.toList.length = s.size := by simp
            rw [e] at this; simp at this; omega
    | c :: r => exact ⟨c, r, rfl⟩
   have hmiss := sgn_miss HALL.o c r hcr; have hc0 : s[0] = c := by rw [← index_at s 0 hs0]; simp [hcr]
   have i0 : (0 : Int) < (s.size : Int) := by omega
   have hcall := (Tryz.strings_IndexByte ⟨#[40, 41, 91, 93, 123, 125, 44, 59, 46, 124, 33, 43, 45, 42, 60, 62, 61]⟩ (s[0].toNat : Int) w1).mono (R' := fun e w' => e = .returned (.int .i64 (Lib.indexByte signsL s[0])) ∧ w1 = w') (fun e w' h => ⟨by rw [h.1]; simp, h.2.symm⟩); have hneg : decide (Lib.indexByte signsL s[0] < 0) = !signsL.contains s[0] := indexByte_neg signsL s[0]; have HCALL := hyd hcall; have HM := hyd hmiss; have HCR := hyd hcr; have HC0 := hyd hc0; clear hcall hmiss hcr hc0 HALL HC; generalize Lib.indexByte signsL s[0] = ix at *
   cases hq : signsL.contains s[0] with
   | true =>
    rw [hq] at hneg; have hd : 0 ≤ ix := by simpa using hneg
    have HQ := hyd hq; clear hneg hq; go_wp2_with fail; refine HCALL.o.mono ?_; rintro e w2 ⟨rfl, rfl⟩; go_wp2_with fail; go_ret; refine ⟨⟨_, rfl, ?_⟩, HKW.o⟩; rw [HR.o, HM.o, ← HC0.o, HQ.o]; simp [ByteArray.data_extract]
   | false =>
    rw [hq] at hneg; have hd : ¬ 0 ≤ ix := by simpa using hneg
    have HQ := hyd hq; clear hneg hq; go_wp2_with fail; refine HCALL.o.mono ?_; rintro e w2 ⟨rfl, rfl⟩; go_wp2_with fail; go_ret; refine ⟨⟨_, rfl, ?_⟩, HKW.o⟩; rw [HR.o, HM.o, ← HC0.o, HQ.o]
    rfl
abbrev noNL : UInt8 → Bool := fun x => decide (x.toNat ≠ 10)
theorem idx_note (l : List UInt8) : (Lib.indexByte l 10 = -1 ∧ l.takeWhile noNL = l) ∨ (Lib.indexByte l 10 = ((l.takeWhile noNL).length : Nat) ∧ (l.takeWhile noNL).length < l.length) := by
 induction l with
 | nil => exact .inl ⟨rfl, rfl⟩
 | cons c r ih =>
  by_cases hc : c.toNat = 10
  ·have hc' : c = 10 := UInt8.toNat.inj hc; subst hc'; refine .inr ⟨?_, ?_⟩
   ·rw [List.takeWhile_cons_of_neg (by decide)]; simp [Lib.indexByte]
   ·rw [List.takeWhile_cons_of_neg (by decide)]; simp
  ·have hne : (c == 10) = false := by simpa using fun h => hc (by rw [h]; rfl)
   have hp : noNL c = true := by simp [noNL, hc]
   rw [List.takeWhile_cons_of_pos hp]; unfold Lib.indexByte; rw [hne]; rcases ih with ⟨h1, h2⟩ | ⟨h1, h2⟩
   ·refine .inl ⟨?_, by rw [h2]⟩; simp [h1]
   ·refine .inr ⟨?_, by simp; omega⟩; rw [h1]; have : (((r.takeWhile noNL).length : Int) == -1) = false := beq_eq_false_iff_ne.2 (by omega); simp only [this, List.length_cons]; simp
theorem take_tw (p : UInt8 → Bool) (l : List UInt8) : l.take (l.takeWhile p).length = l.takeWhile p := by
 conv => lhs; rw [← List.takeWhile_append_dropWhile (p := p) (l := l)]
 have : ∀ (x y z : List UInt8), z = x → (x ++ y).take z.length = x := fun x y z h => by subst h; simp
 exact this _ _ _ (by rw [List.takeWhile_append_dropWhile])
def CutP (w : World) (l : List UInt8) (e : Ending) (w' : World) : Prop := ∃ (S T : ByteArray) (b : Bool), e = .returned (.tuple #[.string S, .string T, .bool b]) ∧ S.data.toList = l.takeWhile noNL ∧ Keep [] w w'
theorem p_scut (s : ByteArray) (w : World) (hs : s.size ≤ 140737488355328) : Calls Tryz.prog 111 #[.string s, .string ⟨#[10]⟩] w (CutP w s.data.toList) := by
 have hcall := (Tryz.stringslite_Index_one s 10 w).mono (R' := fun e w' => e = .returned (.int .i64 (Lib.indexByte s.data.toList 10)) ∧ w = w') (fun e w' h => ⟨h.1, h.2.symm⟩); have hi := idx_note s.data.toList; have hl : s.data.toList.length = s.size := by simp
 rw [hl] at hi; obtain ⟨R, hR⟩ : ∃ R, R = s.data.toList.takeWhile noNL := ⟨_, rfl⟩; have htk := take_tw noNL s.data.toList; rw [← hR] at hi htk; unfold CutP; rw [← hR]; have HR := hyd hR; have HTK := hyd htk; have HC := hyd hcall; clear hR hcall hl htk; generalize Lib.indexByte s.data.toList 10 = ix at *; rcases hi with ⟨rfl, h2⟩ | ⟨rfl, h2⟩
 ·have H2 := hyd h2; clear h2; go_enter Tryz.func111, Tryz.ntmps111; go_wp2_with fail; refine HC.o.mono ?_; rintro e w2 ⟨rfl, rfl⟩; go_wp2_with fail; refine bodyPost_ret (results_tmp3 rfl _ _ _) rfl ?_; exact ⟨_, _, _, rfl, H2.o.symm, Keep.refl _ _⟩
 ·have i0 : (0 : Int) ≤ (R.length : Int) := by omega
  have i1 : (R.length : Int) ≤ (s.size : Int) := by omega
  have i2 : IntKind.i64.wrap ((R.length : Int) + 1) = ((R.length + 1 : Nat) : Int) := (IntWalk.i64_in _ (by omega)).trans (by omega); have i3 : ((R.length + 1 : Nat) : Int) ≤ (s.size : Int) := by omega
  have i4 : (0 : Int) ≤ ((R.length + 1 : Nat) : Int) := by omega
  go_enter Tryz.func111, Tryz.ntmps111; go_wp2_with fail; refine HC.o.mono ?_; rintro e w2 ⟨rfl, rfl⟩; go_wp2_with fail; go_quiet (fail); go_wp2_with fail; refine bodyPost_ret (results_tmp3 rfl _ _ _) rfl ?_; refine ⟨_, _, _, rfl, ?_, (Keep.refl [] w).drewN _⟩; rw [← HTK.o]; simp [ByteArray.data_extract]
theorem p_cut (s : ByteArray) (w : World) (hs : s.size ≤ 140737488355328) : Calls Tryz.prog 92 #[.string s, .string ⟨#[10]⟩] w (CutP w s.data.toList) := by
 have hcall := p_scut s w hs; have HC := hyd hcall; clear hcall; go_enter Tryz.func92, Tryz.ntmps92; go_wp2_with fail; refine HC.o.mono ?_; rintro e w2 ⟨S, T, b, rfl, hS, hk⟩; have HS := hyd hS; have HK := hyd hk; clear hS hk; go_wp2_with fail; refine bodyPost_ret (results_tmp3 rfl _ _ _) rfl ?_; exact ⟨_, _, _, rfl, HS.o, HK.o⟩
theorem isB_new (w : World) : IsB (w.alloc (.cells #[.pointer none, .slice none 0 0] 60)) w.heap.size [] [w.heap.size] :=
 ⟨.pointer none, .slice none 0 0, none, .inl rfl, heap_alloc_new w _, Row.nil _ _ _, Off0.nil, by simp, rfl⟩
theorem results_ttc {P : Program} {fn : Func} {a b p : Tmp} {ty : TypeId} (h : fn.results = #[.tmp a, .tmp b, .cell p ty]) (tmps : Array Value) (w : World) (g : Nat) (tt : TypeId) (cs : Array Value) (fr : Nat × Nat) (d : TypeDesc)
  (hp : tmps.getD p undef = .pointer (some ⟨g, 0, none⟩)) (hg : w.heap[g]? = some (.cells cs tt fr))
  (hu : P.underlying ty = some d) (hd : (match d with | .struct _ | .array _ _ => true | _ => false) = true) (hi : (P.info? ty).map (·.size) = some cs.size) :
  (results fn tmps).run P w = .ok (.tuple #[tmps.getD a undef, tmps.getD b undef, .agg cs]) w := by
 have hp' : tmps[p]?.getD undef = .pointer (some ⟨g, 0, none⟩) := by simpa using hp
 simp [results, h, hp', asAddr, run_loadVar_row w g tt ty cs fr d hg hu hd hi]
theorem results_cc {P : Program} {fn : Func} {p q : Tmp} {ty uy : TypeId} (h : fn.results = #[.cell p ty, .cell q uy]) (tmps : Array Value) (w : World) (g g' : Nat) (tt tt' : TypeId) (cs cs' : Array Value) (fr fr' : Nat × Nat) (d d' : TypeDesc)
  (hp : tmps.getD p undef = .pointer (some ⟨g, 0, none⟩)) (hg : w.heap[g]? = some (.cells cs tt fr))
  (hu : P.underlying ty = some d) (hd : (match d with | .struct _ | .array _ _ => true | _ => false) = true) (hi : (P.info? ty).map (·.size) = some cs.size)
  (hp2 : tmps.getD q undef = .pointer (some ⟨g', 0, none⟩)) (hg2 : w.heap[g']? = some (.cells cs' tt' fr'))
  (hu2 : P.underlying uy = some d') (hd2 : (match d' with | .struct _ | .array _ _ => true | _ => false) = true) (hi2 : (P.info? uy).map (·.size) = some cs'.size) :
  (results fn tmps).run P w = .ok (.tuple #[.agg cs, .agg cs']) w := by
 have hp' : tmps[p]?.getD undef = .pointer (some ⟨g, 0, none⟩) := by simpa using hp
 have hp2' : tmps[q]?.getD undef = .pointer (some ⟨g', 0, none⟩) := by simpa using hp2
 simp [results, h, hp', hp2', asAddr, run_loadVar_row w g tt ty cs fr d hg hu hd hi, run_loadVar_row w g' tt' uy cs' fr' d' hg2 hu2 hd2 hi2]
theorem fault_size : (Tryz.prog.info? 129).map (·.size) = some 2 := by kernel_rfl
theorem b_len {w : World} {b : Nat} {bs : List UInt8} {F : List Nat} (h : IsB w b bs F) : Calls Tryz.prog 128 #[.pointer (some ⟨b, 0, none⟩)] w fun e w' => e = .returned (.int .i64 bs.length) ∧ w = w' := by
 obtain ⟨p, v, o, hp, hb, hr, h0, ho, rfl⟩ := h; obtain ⟨c0, c1, -, -, -⟩ := cells2b hb
 have hv : ∃ a c, v = .slice a bs.length c := by
  obtain ⟨-, hr⟩ := hr; rcases hr with ⟨h1, h2, hz⟩ | ⟨g, off, cap, cur, h1, h2, -⟩
  ·exact ⟨none, 0, by rw [hz]; first | exact h1 | exact h2⟩
  ·first | exact ⟨_, _, h1⟩ | exact ⟨_, _, h2⟩
 obtain ⟨a, c, rfl⟩ := hv; have HX := hyd hr; clear hr h0 ho hp hb; go_enter Tryz.func128, Tryz.ntmps128; go_wp2_with fail; go_ret; exact ⟨rfl, rfl⟩
theorem blkk {w w' : World} {b : Nat} {C : Obj} (hb : w.heap[b]? = some C) (hk : Keep [] w w') : w'.heap[b]? = some C := (hk.block b (Array.getElem?_eq_some_iff.1 hb).1 (by simp)).trans hb
def QuotedP (w : World) (R : Except Nat (List UInt8 × Nat)) (e : Ending) (w' : World) : Prop :=
 (match R with
   | .ok p => ∃ S : ByteArray, e = .returned (.tuple #[.string S, .int .i64 (p.2 : Nat), .agg #[.int .i64 0, .int .i64 0]]) ∧ S.data.toList = p.1
   | .error a => e = .returned (.tuple #[.string ⟨#[]⟩, .int .i64 0, .agg #[.int .i64 100, .int .i64 (a : Nat)]])) ∧ Keep [] w w'
def QuoI (w : World) (s : ByteArray) (R : Except Nat (List UInt8 × Nat)) (k : Nat) (wr : World) : Prop := ∃ bs F, IsB wr (w.heap.size + 1) bs F ∧ (∀ x ∈ F, w.heap.size + 1 ≤ x) ∧ Keep [] w wr ∧
 wr.heap[w.heap.size]? = some (.cells #[.int .i64 0, .int .i64 0] 129 (0, 0)) ∧ quoL (s.data.toList.drop k) k bs = R ∧ bs.length ≤ k
theorem QuoI.byte {w wr w2 : World} {s : ByteArray} {R : Except Nat (List UInt8 × Nat)} {bs : List UInt8} {F : List Nat} {c : UInt8} {e : Ending} {k : Nat} (hF : ∀ x ∈ F, w.heap.size + 1 ≤ x) (hk : Keep [] w wr)
  (hf : wr.heap[w.heap.size]? = some (.cells #[.int .i64 0, .int .i64 0] 129 (0, 0))) (hp : BPost wr (w.heap.size + 1) (bs ++ [c]) F .nilIface e w2) (hq : quoL (s.data.toList.drop k) k (bs ++ [c]) = R) (hl : bs.length + 1 ≤ k) : QuoI w s R k w2 := by
 obtain ⟨-, F', q1, q2, q3⟩ := hp; refine ⟨bs ++ [c], F', q1, fun x hx => ?_, hk.trans q3 (fun x hx => .inr (by have := hF x hx; omega)), ?_, hq, by simpa using hl⟩
 ·rcases q2 x hx with h | h
  ·exact hF x h
  ·have := (Array.getElem?_eq_some_iff.1 hf).1; omega
 ·exact (q3.block _ (Array.getElem?_eq_some_iff.1 hf).1 (fun h => by have := hF _ h; omega)).trans hf
theorem p_quoted (s : ByteArray) (w : World) (hs0 : 0 < s.size) (hs : s.size ≤ 20000) : Calls Tryz.prog 114 #[.string s] w (QuotedP w (quoL (s.data.toList.drop 1) 1 [])) := by
 obtain ⟨R, hR⟩ : ∃ R, R = quoL (s.data.toList.drop 1) 1 [] := ⟨_, rfl⟩; rw [← hR]
 have hst : QuoI w s R 1 ((w.alloc (.cells #[.int .i64 0, .int .i64 0] 129)).alloc (.cells #[.pointer none, .slice none 0 0] 60)) := by
  have h1 := isB_new (w.alloc (.cells #[.int .i64 0, .int .i64 0] 129)); have hsz : (w.alloc (.cells #[.int .i64 0, .int .i64 0] 129)).heap.size = w.heap.size + 1 := by simp
  rw [hsz] at h1; refine ⟨[], [w.heap.size + 1], h1, by simp, ((Keep.refl [] w).alloc _).alloc _, ?_, hR.symm, by simp⟩; exact (((Keep.refl [] _).alloc _).block _ (by simp) (by simp)).trans (heap_alloc_new w _)
 have HST := hyd hst; have hsl : s.data.toList.length = s.size := by simp
 have HSL := hyd hsl; clear hst hR hsl; go_enter Tryz.func114, Tryz.ntmps114; go_wp2_with fail; generalize (w.alloc (.cells #[.int .i64 0, .int .i64 0] 129)).alloc (.cells #[.pointer none, .slice none 0 0] 60) = w1 at *
 go_loopw [6, 7, 8, 9] (fun i _ _ _ wr => ∃ k : Nat, 1 ≤ k ∧ k ≤ s.size ∧ i = .int .i64 k ∧ QuoI w s R k wr) (fun i _ _ _ _ => s.size - (RowKit.intOf i).toNat)
 case atStart => exact ⟨1, Nat.le_refl _, by omega, rfl, HST.o⟩
 case round =>
  obtain ⟨k, hk1, hk, rfl, bs, F, hb, hF, hkw, hf, hq, hl⟩ := hrel; clear HST; have HB := hyd hb; have HF := hyd hF; have HKW := hyd hkw; have HQ := hyd hq; have HFB := hyd hf; obtain ⟨c0, c1, f0, f1, -⟩ := cells2b hf; clear hb hF hkw hq hf
  by_cases hlt : k < s.size
  ·have hcons : s.data.toList.drop k = s[k] :: s.data.toList.drop (k + 1) := by
    rw [List.drop_eq_getElem_cons (by simpa using hlt), index_at s k hlt]
   have hqc := HQ.o; rw [hcons, quoL_cons] at hqc; have i0 : (0 : Int) ≤ (k : Int) := by omega
   have i1 : (k : Int) < (s.size : Int) := by omega
   have hes := p_escape (s.extract k s.size)
   have hel : (s.extract k s.size).data.toList = s.data.toList.drop k := by
    simp [ByteArray.data_extract]; rw [List.take_of_length_le (by simp)]
   rw [hel] at hes; have HES := hyd hes; have HC := hyd hcons; clear hes hel hcons; obtain ⟨c, hc⟩ : ∃ c, c = s[k] := ⟨_, rfl⟩; have hcl := c.toNat_lt; rw [← hc] at hqc; have HCC := hyd hc
   by_cases h39 : c.toNat = 39
   ·rw [if_pos h39] at hqc; have hlen := b_len HB.o; have HLEN := hyd hlen; have e1 : ((s[k].toNat : Int) == 39) = true := by rw [← hc]; simp [h39]
    clear hlen hc
    by_cases hz : bs.length = 0
    ·rw [if_pos (.inl hz)] at hqc; have HR := hyd hqc; have hz' : ((bs.length : Int) == 0) = true := by simp [hz]
     clear hqc h39; go_wp2_with fail; refine HLEN.o.mono ?_; rintro e w2 ⟨rfl, rfl⟩; go_wp2_with fail; have hb9 : ((wr.setCell ⟨w.heap.size, 0, none⟩ (.int .i64 100)).setCell ⟨w.heap.size, 1, none⟩ (.int .i64 0)).heap[w.heap.size]? = some (.cells #[.int .i64 100, (.int .i64 0)] 129 (0, 0)) := by rw [heap_setCell_at (heap_setCell_at HFB.o _)]; rfl
     refine bodyPost_ret (results_ttc (ty := 129) rfl _ _ w.heap.size _ _ _ _ rfl hb9 Tryz.underlying129 rfl fault_size) rfl ?_; have hk9 : Keep [] w ((wr.setCell ⟨w.heap.size, 0, none⟩ (.int .i64 100)).setCell ⟨w.heap.size, 1, none⟩ (.int .i64 0)) := (HKW.o.setCell (p := ⟨w.heap.size, 0, none⟩) (.inr (Nat.le_refl _)) _).setCell (p := ⟨w.heap.size, 1, none⟩) (.inr (Nat.le_refl _)) _; refine ⟨?_, hk9⟩; rw [← HR.o]
     rfl
    ·by_cases hz2 : 255 < bs.length
     ·rw [if_pos (.inr hz2)] at hqc; have HR := hyd hqc; have hz' : ((bs.length : Int) == 0) = false := beq_eq_false_iff_ne.2 (by omega); have hz2' : (255 : Int) < (bs.length : Int) := by omega
      clear hqc h39; go_wp2_with fail; refine HLEN.o.mono ?_; rintro e w2 ⟨rfl, rfl⟩; go_wp2_with fail; refine HLEN.o.mono ?_; rintro e w2 ⟨rfl, rfl⟩; go_wp2_with fail; have hb9 : ((wr.setCell ⟨w.heap.size, 0, none⟩ (.int .i64 100)).setCell ⟨w.heap.size, 1, none⟩ (.int .i64 0)).heap[w.heap.size]? = some (.cells #[.int .i64 100, (.int .i64 0)] 129 (0, 0)) := by rw [heap_setCell_at (heap_setCell_at HFB.o _)]; rfl
      refine bodyPost_ret (results_ttc (ty := 129) rfl _ _ w.heap.size _ _ _ _ rfl hb9 Tryz.underlying129 rfl fault_size) rfl ?_; have hk9 : Keep [] w ((wr.setCell ⟨w.heap.size, 0, none⟩ (.int .i64 100)).setCell ⟨w.heap.size, 1, none⟩ (.int .i64 0)) := (HKW.o.setCell (p := ⟨w.heap.size, 0, none⟩) (.inr (Nat.le_refl _)) _).setCell (p := ⟨w.heap.size, 1, none⟩) (.inr (Nat.le_refl _)) _; refine ⟨?_, hk9⟩; rw [← HR.o]
      rfl
     ·rw [if_neg (fun h => h.elim hz hz2)] at hqc; have HR := hyd hqc; have hz' : ((bs.length : Int) == 0) = false := beq_eq_false_iff_ne.2 (by omega); have hz2' : ¬ (255 : Int) < (bs.length : Int) := by omega
      have hkk : IntKind.i64.wrap ((k : Int) + 1) = ((k + 1 : Nat) : Int) := (IntWalk.i64_in _ (by omega)).trans (by omega); have htx := fun (W : World) (hW : Keep [] wr W) => b_text (HB.o.keep hW (by simp)) (fun h => hz (by rw [h]; rfl))
      have HTX := hyd htx; clear hqc h39 htx; go_wp2_with fail; refine HLEN.o.mono ?_; rintro e w2 ⟨rfl, rfl⟩; go_wp2_with fail; refine HLEN.o.mono ?_; rintro e w2 ⟨rfl, rfl⟩; go_wp2_with fail; clear c0 c1 f0 f1; refine wp_region_held_drew (S := fun w' => Keep [] w w' ∧ w'.heap[w.heap.size]? = some (.cells #[.int .i64 0, .int .i64 0] 129 (0, 0))) (by kernel_rfl) ⟨HKW.o.drew, HFB.o⟩ (fun hHeld => ?_); have HS0 := hyd hHeld; have HKD : Hid (Keep [] wr wr.drew) := hyd ((Keep.refl [] wr).drew); clear hHeld; have hHeld := HS0.o; generalize wr.drew = w8 at *; refine tkL 1 ?vT1 rfl ?runT1 hHeld ?_
      case runT1 => (intro w9 hS9; obtain ⟨c0, c1, -, -, -⟩ := cells2b hS9.2; go_simp; try exact rfl)
      try simp only [Act.put, lA, lZ, lS]
      refine tkL 2 ?vT2 rfl ?runT2 hHeld ?_
      case runT2 => (intro w9 hS9; obtain ⟨c0, c1, -, -, -⟩ := cells2b hS9.2; go_simp; try exact rfl)
      try simp only [Act.put, lA, lZ, lS]
      refine tkL 3 ?vT3 rfl ?runT3 hHeld ?_
      case runT3 => (intro w9 hS9; obtain ⟨c0, c1, -, -, -⟩ := cells2b hS9.2; go_simp; try exact rfl)
      try simp only [Act.put, lA, lZ, lS]
      refine rdH 0 rfl (fun K hK => ?_); go_simp; refine (HTX.o w8 HKD.o).mono ?_; rintro e wn ⟨rfl, hkn⟩; have hS1 : Keep [] w wn ∧ wn.heap[w.heap.size]? = some (.cells #[.int .i64 0, .int .i64 0] 129 (0, 0)) := ⟨HS0.o.1.trans hkn (fun x hx => .inr (by have := HF.o x hx; omega)), (hkn.block _ (Array.getElem?_eq_some_iff.1 HS0.o.2).1 (fun h => by have := HF.o _ h; omega)).trans HS0.o.2⟩; have HS1 := hyd hS1; clear hHeld hS1 hkn; go_wp2_with fail; refine hK.out _ _ HS1.o (fun hHeld => ?_); clear hK K
      try simp only [Act.put, lA, lZ, lS]
      refine tkL 4 ?vT4 rfl ?runT4 hHeld ?_
      case runT4 => (intro w9 hS9; obtain ⟨c0, c1, -, -, -⟩ := cells2b hS9.2; go_simp; try exact rfl)
      try simp only [Act.put, lA, lZ, lS]
      refine tkL 5 ?vT5 rfl ?runT5 hHeld ?_
      case runT5 => (intro w9 hS9; obtain ⟨c0, c1, -, -, -⟩ := cells2b hS9.2; go_simp; try exact rfl)
      try simp only [Act.put, lA, lZ, lS]
      obtain ⟨c0, c1, f0, f1, -⟩ := cells2b HS1.o.2; refine rdH 6 rfl (fun K hK => ?_); go_simp; have hb9 : ((wn.setCell ⟨w.heap.size, 0, none⟩ (.int .i64 0)).setCell ⟨w.heap.size, 1, none⟩ (.int .i64 0)).heap[w.heap.size]? = some (.cells #[.int .i64 0, .int .i64 0] 129 (0, 0)) := by rw [heap_setCell_at (heap_setCell_at HS1.o.2 _)]; rfl
      have hk9 : Keep [] w ((wn.setCell ⟨w.heap.size, 0, none⟩ (.int .i64 0)).setCell ⟨w.heap.size, 1, none⟩ (.int .i64 0)) := (HS1.o.1.setCell (p := ⟨w.heap.size, 0, none⟩) (.inr (Nat.le_refl _)) _).setCell (p := ⟨w.heap.size, 1, none⟩) (.inr (Nat.le_refl _)) _; refine hK.out _ _ ⟨hk9, hb9⟩ (fun hHeld => ?_); clear hK K
      try simp only [Act.put, lA, lZ, lS]
      refine wpAnyH_done (by kernel_rfl) ?_ _; go_wp2_with fail; refine bodyPost_ret (results_ttc (ty := 129) rfl _ _ w.heap.size _ _ _ _ rfl hb9 Tryz.underlying129 rfl fault_size) rfl ?_; refine ⟨?_, hk9⟩; rw [← HR.o]; exact ⟨_, rfl, rfl⟩
   ·rw [if_neg h39] at hqc; have e1 : ((s[k].toNat : Int) == 39) = false := beq_eq_false_iff_ne.2 (by rw [← hc]; omega)
    by_cases h92 : c.toNat = 92
    ·rw [if_pos h92] at hqc; have e2 : ((s[k].toNat : Int) == 92) = true := by rw [← hc]; simp [h92]
     have hcv := HC.o; rw [← hc] at hcv; rw [← hcv] at hqc; have hev : ∀ p, p = escN (s.data.toList.drop k) → escV (s.data.toList.drop k) = (match p with | some p => (p.1.toNat, p.2) | none => (0, 0)) := fun p hp => by rw [hp]; rfl
     cases hes : escN (s.data.toList.drop k) with
     | none =>
      rw [hes] at hqc; have hev2 := hev _ hes.symm; have hesc := HES.o wr (by simp; omega); rw [hev2] at hesc; have HESC := hyd hesc; have HR := hyd hqc; clear hesc hev hev2 hes hqc hcv h39 h92 hc; go_wp2_with fail; refine HESC.o.mono ?_; rintro e w2 ⟨rfl, hk2⟩; have hf2 := blkk HFB.o hk2; have HFB := hyd hf2; have HKW := hyd (HKW.o.trans hk2 (by simp)); obtain ⟨c0, c1, f0, f1, -⟩ := cells2b hf2; clear hf2 hk2; go_wp2_with fail; have hb9 : ((w2.setCell ⟨w.heap.size, 0, none⟩ (.int .i64 100)).setCell ⟨w.heap.size, 1, none⟩ (.int .i64 (k : Nat))).heap[w.heap.size]? = some (.cells #[.int .i64 100, (.int .i64 (k : Nat))] 129 (0, 0)) := by rw [heap_setCell_at (heap_setCell_at HFB.o _)]; rfl
      refine bodyPost_ret (results_ttc (ty := 129) rfl _ _ w.heap.size _ _ _ _ rfl hb9 Tryz.underlying129 rfl fault_size) rfl ?_; have hk9 : Keep [] w ((w2.setCell ⟨w.heap.size, 0, none⟩ (.int .i64 100)).setCell ⟨w.heap.size, 1, none⟩ (.int .i64 (k : Nat))) := (HKW.o.setCell (p := ⟨w.heap.size, 0, none⟩) (.inr (Nat.le_refl _)) _).setCell (p := ⟨w.heap.size, 1, none⟩) (.inr (Nat.le_refl _)) _; refine ⟨?_, hk9⟩; rw [← HR.o]
      rfl
     | some p =>
      obtain ⟨x, n⟩ := p; rw [hes] at hqc; simp only at hqc; have hps := escN_pos hes; have hev2 := hev _ hes.symm; simp only at hev2; have hesc := HES.o wr (by simp; omega); rw [hev2] at hesc; have HESC := hyd hesc; rw [List.drop_drop] at hqc; have HR := hyd hqc; have hn0 : ((n : Int) == 0) = false := beq_eq_false_iff_ne.2 (by omega); have hkn : IntKind.i64.wrap ((k : Int) + (n : Int)) = ((k + n : Nat) : Int) := (IntWalk.i64_in _ (by rw [List.length_drop, HSL.o] at hps; omega)).trans (by omega); have hkn2 : k + n ≤ s.size := by rw [List.length_drop, HSL.o] at hps; omega
      have hn2 := hps.1; clear hesc hev hev2 hes hqc hcv h39 h92 hc hps; go_wp2_with fail; refine HESC.o.mono ?_; rintro e w2 ⟨rfl, hk2⟩; have hf2 := blkk HFB.o hk2; have HFB := hyd hf2; have hby := b_byte (HB.o.keep hk2 (by simp)) x (by omega); have HBY := hyd hby; have HKW := hyd (HKW.o.trans hk2 (by simp)); clear hf2 hk2 c0 c1 f0 f1 hby; go_wp2_with fail; refine HBY.o.mono ?_; rintro e w3 hp3; obtain rfl := hp3.1; have hqi := QuoI.byte (R := R) (k := k + n) HF.o HKW.o HFB.o hp3 HR.o (by omega); have HQI := hyd hqi; clear hp3 hqi; go_wp2_with fail; go_roundw
      case rel => exact ⟨k + n, by omega, hkn2, by go_num, HQI.o⟩
      case measure => simp [intOf]; omega
    ·rw [if_neg h92] at hqc; have e2 : ((s[k].toNat : Int) == 92) = false := beq_eq_false_iff_ne.2 (by rw [← hc]; omega)
     by_cases h3 : c.toNat < 32 ∨ 126 < c.toNat
     ·rw [if_pos h3] at hqc; have HR := hyd hqc
      by_cases h32 : c.toNat < 32
      ·have e3 : (s[k].toNat : Int) < 32 := by rw [← hc]; omega
       clear hqc h39 h92 hc h3; go_wp2_with fail; have hb9 : ((wr.setCell ⟨w.heap.size, 0, none⟩ (.int .i64 100)).setCell ⟨w.heap.size, 1, none⟩ (.int .i64 (k : Nat))).heap[w.heap.size]? = some (.cells #[.int .i64 100, (.int .i64 (k : Nat))] 129 (0, 0)) := by rw [heap_setCell_at (heap_setCell_at HFB.o _)]; rfl
       refine bodyPost_ret (results_ttc (ty := 129) rfl _ _ w.heap.size _ _ _ _ rfl hb9 Tryz.underlying129 rfl fault_size) rfl ?_; have hk9 : Keep [] w ((wr.setCell ⟨w.heap.size, 0, none⟩ (.int .i64 100)).setCell ⟨w.heap.size, 1, none⟩ (.int .i64 (k : Nat))) := (HKW.o.setCell (p := ⟨w.heap.size, 0, none⟩) (.inr (Nat.le_refl _)) _).setCell (p := ⟨w.heap.size, 1, none⟩) (.inr (Nat.le_refl _)) _; refine ⟨?_, hk9⟩; rw [← HR.o]
       rfl
      ·have e3 : ¬ (s[k].toNat : Int) < 32 := by rw [← hc]; omega
       have e4 : (126 : Int) < (s[k].toNat : Int) := by rw [← hc]; omega
       clear hqc h39 h92 hc h3; go_wp2_with fail; have hb9 : ((wr.setCell ⟨w.heap.size, 0, none⟩ (.int .i64 100)).setCell ⟨w.heap.size, 1, none⟩ (.int .i64 (k : Nat))).heap[w.heap.size]? = some (.cells #[.int .i64 100, (.int .i64 (k : Nat))] 129 (0, 0)) := by rw [heap_setCell_at (heap_setCell_at HFB.o _)]; rfl
       refine bodyPost_ret (results_ttc (ty := 129) rfl _ _ w.heap.size _ _ _ _ rfl hb9 Tryz.underlying129 rfl fault_size) rfl ?_; have hk9 : Keep [] w ((wr.setCell ⟨w.heap.size, 0, none⟩ (.int .i64 100)).setCell ⟨w.heap.size, 1, none⟩ (.int .i64 (k : Nat))) := (HKW.o.setCell (p := ⟨w.heap.size, 0, none⟩) (.inr (Nat.le_refl _)) _).setCell (p := ⟨w.heap.size, 1, none⟩) (.inr (Nat.le_refl _)) _; refine ⟨?_, hk9⟩; rw [← HR.o]
       rfl
     ·rw [if_neg h3] at hqc; have e3 : ¬ (s[k].toNat : Int) < 32 := by rw [← hc]; omega
      have e4 : ¬ (126 : Int) < (s[k].toNat : Int) := by rw [← hc]; omega
      have HR := hyd hqc; have hby := b_byte HB.o c (by omega); rw [hc] at hby; have HBY := hyd hby; clear hqc h39 h92 h3 hby hc c0 c1 f0 f1; go_wp2_with fail; refine HBY.o.mono ?_; rintro e w3 hp3; obtain rfl := hp3.1; have hqi := QuoI.byte (R := R) (k := k + 1) HF.o HKW.o HFB.o hp3 (by rw [← HCC.o]; exact HR.o) (by omega); have HQI := hyd hqi; clear hp3 hqi; go_wp2_with fail; go_roundw
      case rel => exact ⟨k + 1, by omega, by omega, by go_num, HQI.o⟩
      case measure => simp [intOf]; omega
  ·obtain rfl : k = s.size := by omega
   have hqc := HQ.o; rw [List.drop_eq_nil_of_le (by simp), quoL_nil] at hqc; have HR := hyd hqc; have i1 : ¬ (s.size : Int) < (s.size : Int) := by omega
   clear hqc; go_wp2_with fail; have hb9 : ((wr.setCell ⟨w.heap.size, 0, none⟩ (.int .i64 100)).setCell ⟨w.heap.size, 1, none⟩ (.int .i64 0)).heap[w.heap.size]? = some (.cells #[.int .i64 100, (.int .i64 0)] 129 (0, 0)) := by rw [heap_setCell_at (heap_setCell_at HFB.o _)]; rfl
   refine bodyPost_ret (results_ttc (ty := 129) rfl _ _ w.heap.size _ _ _ _ rfl hb9 Tryz.underlying129 rfl fault_size) rfl ?_; have hk9 : Keep [] w ((wr.setCell ⟨w.heap.size, 0, none⟩ (.int .i64 100)).setCell ⟨w.heap.size, 1, none⟩ (.int .i64 0)) := (HKW.o.setCell (p := ⟨w.heap.size, 0, none⟩) (.inr (Nat.le_refl _)) _).setCell (p := ⟨w.heap.size, 1, none⟩) (.inr (Nat.le_refl _)) _; refine ⟨?_, hk9⟩; rw [← HR.o]
   rfl
def valD (a : Nat) (l : List UInt8) : Nat := l.foldl (fun a c => a * 10 + (c.toNat - 48)) a
theorem valD_le (l : List UInt8) : ∀ a, a ≤ valD a l := by
 induction l with
 | nil => intro a; exact Nat.le_refl _
 | cons c l ih => intro a; have := ih (a * 10 + (c.toNat - 48)); unfold valD at this ⊢; simp only [List.foldl_cons]; omega
theorem parse_digits_from (l : List UInt8) (h : ∀ x ∈ l, digitB x = true) : ∀ a, a ≤ 2 ^ 64 - 1 → Lib.parseUintM (2 ^ 64 - 1) a l = if valD a l ≤ 2 ^ 64 - 1 then .ok (valD a l) else .range := by
 induction l with
 | nil => intro a ha; rw [if_pos (show valD a [] ≤ 2 ^ 64 - 1 from ha)]; rfl
 | cons c l ih =>
  intro a ha; have hc := h c (by simp); have hle := valD_le l (a * 10 + (c.toNat - 48)); have e : valD a (c :: l) = valD (a * 10 + (c.toNat - 48)) l := rfl; unfold digitB at hc; simp only [Bool.and_eq_true, decide_eq_true_eq] at hc; unfold Lib.parseUintM; rw [if_pos hc, e]
  by_cases h1 : 1844674407370955162 ≤ a
  ·rw [if_pos h1, if_neg (by omega)]
  ·rw [if_neg h1]
   by_cases h2 : 2 ^ 64 - 1 < a * 10 + (c.toNat - 48)
   ·rw [if_pos h2, if_neg (by omega)]
   ·rw [if_neg h2, ih (fun x hx => h x (by simp [hx])) _ (by omega)]
theorem parse_digits {l : List UInt8} (hne : l ≠ []) (h : ∀ x ∈ l, digitB x = true) : Lib.parseIntB 64 l = if numD l < 2 ^ 63 then .ok (numD l : Int) else .range := by
 obtain ⟨c, r, rfl⟩ := List.exists_cons_of_ne_nil hne; have hc := h c (by simp); unfold digitB at hc; simp only [Bool.and_eq_true, decide_eq_true_eq] at hc; unfold Lib.parseIntB; simp only; rw [if_neg (by omega)]; unfold Lib.parseUintB; rw [if_neg (by simp), parse_digits_from _ h 0 (by omega)]; have e : valD 0 (c :: r) = numD (c :: r) := rfl; rw [e]
 by_cases h1 : numD (c :: r) ≤ 2 ^ 64 - 1
 ·rw [if_pos h1]; simp only
  by_cases h2 : numD (c :: r) < 2 ^ 63
  ·rw [if_neg (by omega), if_neg (by omega), if_pos h2, if_neg (by omega)]
  ·rw [if_pos (by omega), if_neg h2]
 ·rw [if_neg h1, if_neg (by omega)]
def ErrOk (w : World) : Prop := ∃ ev, w.cell? ⟨6, 0, none⟩ = some ev ∧ (ev = .nilIface ∨ ∃ te pe, ev = .iface te pe)
theorem ErrOk.keep {w w' : World} (h : ErrOk w) (k : Keep [] w w') : ErrOk w' := by
 obtain ⟨ev, h1, h2⟩ := h; exact ⟨ev, by rw [k.cell (World.block_lt_of_cell? _ _ h1) (by simp)]; exact h1, h2⟩
def ParseP (w : World) (n : Nat) (e : Ending) (w' : World) : Prop := (∃ (v : Int) (x : Value), e = .returned (.tuple #[.int .i64 v, x]) ∧ ((x = .nilIface ∧ v = n) ∨ ∃ N, x = .iface 161 (.pointer (some ⟨N, 0, none⟩)) ∧ 576460752303423487 < n)) ∧ Keep [] w w'
theorem p_parse (s : ByteArray) (w : World) (he : ErrOk w) (h0 : s.data.toList ≠ []) (hd : ∀ x ∈ s.data.toList, digitB x = true) (hs : s.size ≤ 20000) : Calls Tryz.prog 112 #[.string s, .int .i64 10, .int .i64 64] w (ParseP w (numD s.data.toList)) := by
 have hp := parse_digits h0 hd
 by_cases hn : numD s.data.toList < 2 ^ 63
 ·rw [if_pos hn] at hp; refine (Tryz.strconv_ParseInt_10_at64_ok s (by omega) _ hp w).mono (fun e w' h => ?_); refine ⟨⟨_, _, h.1, .inl ⟨rfl, rfl⟩⟩, ?_⟩; rcases h.2 with h | ⟨t, h⟩
  ·rw [h]; exact Keep.refl _ _
  ·rw [h]; exact ⟨rfl, rfl, rfl, by rw [Lib.bytesWorld_size]; omega, fun b hb _ => Lib.bytesWorld_at_old w _ _ b hb⟩
 ·rw [if_neg hn] at hp; obtain ⟨ev, h1, h2⟩ := he; refine (Tryz.strconv_ParseInt_10_at64_range s (by omega) hp ev w h1 h2).mono (fun e w' h => ?_); obtain ⟨N, h3, -, -, h4⟩ := h; exact ⟨⟨_, _, h3, .inr ⟨N, rfl, by omega⟩⟩, Keep.of_below h4⟩
end Go.Proofs.YtdmmhfbafinkpaaGreatDoor
