import Derived.Test.YtdmmhfbafinkpaaGreatDoorBase2
import Derived.Lib.Bytealg
import Derived.Lib.ItoaNum
import Derived.Lib.Small
import Derived.Test.YtdmmhfbafinkpaaGreatDoorBaseStr
import Derived.RegionTactic
import Derived.Lib.UnsafeStr
/- Terms: the plain law (no program in sight). -/
namespace Go.Emb
open Go.RowKit

/-- a term as it lies: kind, number, name, the items' slice (its value), the items -/
inductive Tm where
  | mk (kind n : Int) (name : ByteArray) (iv : Value) (items : List Tm)
namespace Tm
def kind : Tm → Int | .mk k _ _ _ _ => k
def num : Tm → Int | .mk _ n _ _ _ => n
def name : Tm → ByteArray | .mk _ _ s _ _ => s
def iv : Tm → Value | .mk _ _ _ v _ => v
def items : Tm → List Tm | .mk _ _ _ _ l => l
end Tm
mutual
def Tm.sz : Tm → Nat | .mk _ _ _ _ l => szL l + 1
def szL : List Tm → Nat | [] => 0 | x :: r => x.sz + szL r
end
theorem Tm.sz_pos (t : Tm) : 1 ≤ t.sz := by cases t; simp [Tm.sz]
theorem szL_nil : szL [] = 0 := by simp [szL]
theorem szL_cons (x : Tm) (r : List Tm) : szL (x :: r) = x.sz + szL r := by simp [szL]
theorem szL_append (l r : List Tm) : szL (l ++ r) = szL l + szL r := by
  induction l with
  | nil => simp [szL]
  | cons x l ih => simp [szL, ih, Nat.add_assoc]
theorem sz_le_of_mem {x : Tm} {l : List Tm} (h : x ∈ l) : x.sz ≤ szL l := by
  induction l with
  | nil => cases h
  | cons y l ih =>
    rw [szL_cons]
    rcases List.mem_cons.1 h with rfl | h
    · omega
    · have := ih h; omega
theorem sz_mem_lt {x t : Tm} (h : x ∈ t.items) : x.sz < t.sz := by
  cases t with
  | mk k n s v l => have := sz_le_of_mem (show x ∈ l from h); simp only [Tm.sz]; omega
theorem length_le_szL (l : List Tm) : l.length ≤ szL l := by
  induction l with
  | nil => simp
  | cons y l ih => rw [szL_cons, List.length_cons]; have := y.sz_pos; omega
theorem szL_take_succ (l : List Tm) (k : Nat) (h : k < l.length) : szL (l.take (k + 1)) = szL (l.take k) + l[k].sz := by
  rw [List.take_succ_eq_append_getElem h, szL_append, szL_cons, szL_nil]
  omega
theorem szL_take_le (l : List Tm) (k : Nat) : szL (l.take k) ≤ szL l := by
  have := szL_append (l.take k) (l.drop k)
  rw [List.take_append_drop] at this
  omega

/-! ### the order -/
def or0 (x y : Int) : Int := if x = 0 then y else x
mutual
def cmpTm : Tm → Tm → Int
  | .mk k n s _ l, .mk k' n' s' _ l' => or0 (Lib.compareInt k k') (or0 (Lib.compareInt n n') (or0 (Lib.compareBytes s.data.toList s'.data.toList) (or0 (Lib.compareInt l.length l'.length) (cmpTms l l'))))
def cmpTms : List Tm → List Tm → Int
  | [], _ => 0
  | _ :: _, [] => 0
  | x :: l, y :: l' => or0 (cmpTm x y) (cmpTms l l')
end

/-! ### what is a term -/
def HeadOk (k n : Int) (s : ByteArray) (len : Nat) : Prop :=
  (k = 1 ∧ -576460752303423488 ≤ n ∧ n ≤ 576460752303423487 ∧ s.toList = [] ∧ len = 0) ∨
  (k = 2 ∧ n = 0 ∧ ¬ s.toList = [] ∧ s.size ≤ 255 ∧ len = 0) ∨
  ((k = 3 ∨ k = 5) ∧ 0 ≤ n ∧ n ≤ 576460752303423487 ∧ s.toList = [] ∧ len = 0) ∨
  (k = 4 ∧ 0 ≤ n ∧ n ≤ 576460752303423487 ∧ s.toList = []) ∨
  (k = 6 ∧ n = 0 ∧ s.toList = []) ∨
  (k = 7 ∧ n = 0 ∧ s.toList = [] ∧ len = 0) ∨
  (k = 8 ∧ n = 0 ∧ s.toList = [] ∧ len = 2)
theorem toList_nil_iff (s : ByteArray) : s.toList = [] ↔ s.size = 0 := by
  rw [_root_.Go.ByteArray.toList_eq]
  show _ ↔ s.data.size = 0
  rw [← Array.length_toList, List.length_eq_zero_iff]
instance (k n : Int) (s : ByteArray) (len : Nat) : Decidable (HeadOk k n s len) := by unfold HeadOk; infer_instance
def headOk (k n : Int) (s : ByteArray) (len : Nat) : Bool := decide (HeadOk k n s len)
theorem headOk_1 (n : Int) (s : ByteArray) (len : Nat) : headOk 1 n s len = (decide (-576460752303423488 ≤ n) && decide (n ≤ 576460752303423487) && decide (s.size = 0) && decide (len = 0)) := by
  rw [Bool.eq_iff_iff]; simp [headOk, HeadOk, toList_nil_iff, and_assoc]
theorem headOk_2 (n : Int) (s : ByteArray) (len : Nat) : headOk 2 n s len = (decide (n = 0) && decide (s.size ≠ 0) && decide (s.size ≤ 255) && decide (len = 0)) := by
  rw [Bool.eq_iff_iff]; simp [headOk, HeadOk, toList_nil_iff, and_assoc]
theorem headOk_3 (n : Int) (s : ByteArray) (len : Nat) : headOk 3 n s len = (decide (0 ≤ n) && decide (n ≤ 576460752303423487) && decide (s.size = 0) && decide (len = 0)) := by
  rw [Bool.eq_iff_iff]; simp [headOk, HeadOk, toList_nil_iff, and_assoc]
theorem headOk_5 (n : Int) (s : ByteArray) (len : Nat) : headOk 5 n s len = (decide (0 ≤ n) && decide (n ≤ 576460752303423487) && decide (s.size = 0) && decide (len = 0)) := by
  rw [Bool.eq_iff_iff]; simp [headOk, HeadOk, toList_nil_iff, and_assoc]
theorem headOk_4 (n : Int) (s : ByteArray) (len : Nat) : headOk 4 n s len = (decide (0 ≤ n) && decide (n ≤ 576460752303423487) && decide (s.size = 0)) := by
  rw [Bool.eq_iff_iff]; simp [headOk, HeadOk, toList_nil_iff, and_assoc]
theorem headOk_6 (n : Int) (s : ByteArray) (len : Nat) : headOk 6 n s len = (decide (n = 0) && decide (s.size = 0)) := by
  rw [Bool.eq_iff_iff]; simp [headOk, HeadOk, toList_nil_iff]
theorem headOk_7 (n : Int) (s : ByteArray) (len : Nat) : headOk 7 n s len = (decide (n = 0) && decide (s.size = 0) && decide (len = 0)) := by
  rw [Bool.eq_iff_iff]; simp [headOk, HeadOk, toList_nil_iff, and_assoc]
theorem headOk_8 (n : Int) (s : ByteArray) (len : Nat) : headOk 8 n s len = (decide (n = 0) && decide (s.size = 0) && decide (len = 2)) := by
  rw [Bool.eq_iff_iff]; simp [headOk, HeadOk, toList_nil_iff, and_assoc]
theorem headOk_no {k : Int} (n : Int) (s : ByteArray) (len : Nat) (h1 : k ≠ 1) (h2 : k ≠ 2) (h3 : k ≠ 3) (h4 : k ≠ 4) (h5 : k ≠ 5) (h6 : k ≠ 6) (h7 : k ≠ 7) (h8 : k ≠ 8) : headOk k n s len = false := by
  simp [headOk, HeadOk, h1, h2, h3, h4, h5, h6, h7, h8]
theorem headOk_true {k n : Int} {s : ByteArray} {len : Nat} (h : HeadOk k n s len) : true = headOk k n s len := by simp [headOk, h]
theorem headOk_false {k n : Int} {s : ByteArray} {len : Nat} (h : ¬ HeadOk k n s len) : false = headOk k n s len := by simp [headOk, h]
theorem headOk_dec {k n : Int} {s : ByteArray} {len : Nat} {p : Bool} (h : p = true ↔ HeadOk k n s len) : p = headOk k n s len := by rw [Bool.eq_iff_iff, h]; simp [headOk]
mutual
def isTm : Tm → Bool | .mk k n s _ l => headOk k n s l.length && isTms l
def isTms : List Tm → Bool | [] => true | x :: r => isTm x && isTms r
end
theorem isTms_iff (l : List Tm) : isTms l = l.all isTm := by
  induction l with
  | nil => simp [isTms]
  | cons x l ih => simp [isTms, ih]
theorem isTms_append (l r : List Tm) : isTms (l ++ r) = (isTms l && isTms r) := by simp [isTms_iff]
theorem isTms_take_succ (l : List Tm) (k : Nat) (h : k < l.length) : isTms (l.take (k + 1)) = (isTms (l.take k) && isTm l[k]) := by
  rw [List.take_succ_eq_append_getElem h, isTms_append]; simp [isTms]
theorem isTms_take_false (l : List Tm) (k : Nat) (h : isTms (l.take k) = false) : isTms l = false := by
  have := isTms_append (l.take k) (l.drop k)
  rw [List.take_append_drop, h] at this
  simpa using this
def checkTm (l : List Tm) : Int := if szL l ≤ 4096 then (if isTms l then 0 else 70) else 6
mutual
def plainTm : Tm → Bool | .mk k _ _ _ l => plainTms l && !decide (k = 4)
def plainTms : List Tm → Bool | [] => true | x :: r => plainTm x && plainTms r
end
theorem plainTms_iff (l : List Tm) : plainTms l = l.all plainTm := by
  induction l with
  | nil => simp [plainTms]
  | cons x l ih => simp [plainTms, ih]

/-! ### as they lie in memory -/
def encTm (t : Tm) : List Value := [.int .i64 t.kind, .int .i64 t.num, .string t.name, t.iv]
def aggTm (t : Tm) : Value := .agg #[.int .i64 t.kind, .int .i64 t.num, .string t.name, t.iv]
/-- one term: its numbers, its name; its items' slice lies below B -/
def RdHead (B : Nat) (w : World) (t : Tm) : Prop :=
  (-9223372036854775808 ≤ t.num ∧ t.num ≤ 9223372036854775807) ∧ t.name.size ≤ 140737488355328 ∧ t.items.length * 48 ≤ 140737488355328 ∧
    ∃ o, Rd w 4 t.iv t.items.length (t.items.flatMap encTm) o ∧ ∀ b, o = some b → b < B
mutual
def RdTm (B : Nat) (w : World) : Tm → Prop | .mk k n s v l => RdHead B w (.mk k n s v l) ∧ RdTms B w l
def RdTms (B : Nat) (w : World) : List Tm → Prop | [] => True | x :: r => RdTm B w x ∧ RdTms B w r
end
theorem RdTms_iff {B : Nat} {w : World} (l : List Tm) : RdTms B w l ↔ ∀ x ∈ l, RdTm B w x := by
  induction l with
  | nil => simp [RdTms]
  | cons x l ih => simp [RdTms, ih]
theorem RdTm_iff {B : Nat} {w : World} (t : Tm) : RdTm B w t ↔ RdHead B w t ∧ ∀ x ∈ t.items, RdTm B w x := by
  cases t; simp only [RdTm, RdTms_iff]; rfl
theorem Rd.keepB {B k n : Nat} {w w' : World} {v : Value} {xs : List Value} {o : Option Nat} {F : List Nat} (h : Rd w k v n xs o) (hk : Keep F w w') (hF : ∀ b ∈ F, B ≤ b) (ho : ∀ b, o = some b → b < B) : Rd w' k v n xs o :=
  h.keep hk (fun b hb hf => by have := ho b hb; have := hF b hf; omega)
theorem RdHead.keep {B : Nat} {w w' : World} {F : List Nat} {t : Tm} (h : RdHead B w t) (hk : Keep F w w') (hF : ∀ b ∈ F, B ≤ b) : RdHead B w' t := by
  obtain ⟨h1, h2, h3, o, h4, h5⟩ := h
  exact ⟨h1, h2, h3, o, h4.keepB hk hF h5, h5⟩
theorem RdTm.keepN {B : Nat} {w w' : World} {F : List Nat} (hk : Keep F w w') (hF : ∀ b ∈ F, B ≤ b) : ∀ (n : Nat) (t : Tm), t.sz ≤ n → RdTm B w t → RdTm B w' t
  | 0, t, hn, _ => by have := t.sz_pos; omega
  | n + 1, t, hn, h => by
    rw [RdTm_iff] at h ⊢
    exact ⟨h.1.keep hk hF, fun x hx => RdTm.keepN hk hF n x (by have := sz_mem_lt hx; omega) (h.2 x hx)⟩
theorem RdTm.keep {B : Nat} {w w' : World} {F : List Nat} {t : Tm} (h : RdTm B w t) (hk : Keep F w w') (hF : ∀ b ∈ F, B ≤ b) : RdTm B w' t := RdTm.keepN hk hF t.sz t (Nat.le_refl _) h
theorem RdTm.keep0 {B : Nat} {w w' : World} {t : Tm} (h : RdTm B w t) (hk : Keep [] w w') : RdTm B w' t := h.keep hk (by simp)
theorem RdTms.keep {B : Nat} {w w' : World} {F : List Nat} {l : List Tm} (h : RdTms B w l) (hk : Keep F w w') (hF : ∀ b ∈ F, B ≤ b) : RdTms B w' l := by
  rw [RdTms_iff] at h ⊢
  exact fun x hx => (h x hx).keep hk hF
theorem RdHead.up {B C : Nat} {w : World} {t : Tm} (h : RdHead B w t) (hB : B ≤ C) : RdHead C w t := by
  obtain ⟨h1, h2, h3, o, h4, h5⟩ := h
  exact ⟨h1, h2, h3, o, h4, fun b hb => Nat.lt_of_lt_of_le (h5 b hb) hB⟩
theorem RdTm.upN {B C : Nat} {w : World} (hB : B ≤ C) : ∀ (n : Nat) (t : Tm), t.sz ≤ n → RdTm B w t → RdTm C w t
  | 0, t, hn, _ => by have := t.sz_pos; omega
  | n + 1, t, hn, h => by
    rw [RdTm_iff] at h ⊢
    exact ⟨h.1.up hB, fun x hx => RdTm.upN hB n x (by have := sz_mem_lt hx; omega) (h.2 x hx)⟩
theorem RdTm.up {B C : Nat} {w : World} {t : Tm} (h : RdTm B w t) (hB : B ≤ C) : RdTm C w t := RdTm.upN hB t.sz t (Nat.le_refl _) h

theorem flat4_len (l : List Tm) : (l.flatMap encTm).length = l.length * 4 := by
  induction l with
  | nil => rfl
  | cons x l ih => rw [List.flatMap_cons, List.length_append, ih, List.length_cons]; simp [encTm]; omega
theorem flat4_get (l : List Tm) (k : Nat) (h : k < l.length) : (l.flatMap encTm)[k * 4]? = some (.int .i64 l[k].kind) ∧ (l.flatMap encTm)[k * 4 + 1]? = some (.int .i64 l[k].num) ∧ (l.flatMap encTm)[k * 4 + 2]? = some (.string l[k].name) ∧ (l.flatMap encTm)[k * 4 + 3]? = some l[k].iv := by
  induction l generalizing k with
  | nil => simp at h
  | cons x l ih =>
    cases k with
    | zero => simp [List.flatMap_cons, encTm]
    | succ k =>
      have := ih k (by simpa using h)
      have e : (k + 1) * 4 = k * 4 + 4 := by omega
      rw [List.flatMap_cons]
      have hl : (encTm x).length = 4 := rfl
      simp only [List.getElem_cons_succ, e]
      rw [List.getElem?_append_right (by omega), List.getElem?_append_right (by omega), List.getElem?_append_right (by omega), List.getElem?_append_right (by omega), hl]
      simpa [show k * 4 + 4 - 4 = k * 4 by omega, show k * 4 + 4 + 1 - 4 = k * 4 + 1 by omega, show k * 4 + 4 + 2 - 4 = k * 4 + 2 by omega, show k * 4 + 4 + 3 - 4 = k * 4 + 3 by omega] using this
/-- a slice of terms that is read: its k-th element's cells -/
theorem Rd.at4 {w : World} {a : Option Addr} {n c : Nat} {l : List Tm} {o : Option Nat} (h : Rd w 4 (.slice a n c) l.length (l.flatMap encTm) o) {k : Nat} (hk : k < l.length) :
    ∃ b off, a = some ⟨b, off, none⟩ ∧ o = some b ∧ w.cell? ⟨b, off + k * 4, none⟩ = some (.int .i64 l[k].kind) ∧ w.cell? ⟨b, off + k * 4 + 1, none⟩ = some (.int .i64 l[k].num) ∧ w.cell? ⟨b, off + k * 4 + 2, none⟩ = some (.string l[k].name) ∧ w.cell? ⟨b, off + k * 4 + 3, none⟩ = some l[k].iv := by
  obtain ⟨_, a', c', hv, _, _, h3⟩ := h
  cases hv
  rcases h3 with ⟨h3, _⟩ | ⟨b, off, rfl, rfl, h3⟩
  · omega
  · obtain ⟨g0, g1, g2, g3⟩ := flat4_get l k hk
    exact ⟨b, off, rfl, rfl, (h3 (k * 4) (by omega)).trans g0, (h3 (k * 4 + 1) (by omega)).trans g1, (h3 (k * 4 + 2) (by omega)).trans g2, (h3 (k * 4 + 3) (by omega)).trans g3⟩
theorem Rd.form {w : World} {k n : Nat} {v : Value} {xs : List Value} {o : Option Nat} (h : Rd w k v n xs o) : ∃ a c, v = .slice a n c ∧ n ≤ c ∧ c ≤ maxLen := by
  obtain ⟨_, a, c, rfl, h1, h2, _⟩ := h
  exact ⟨a, c, rfl, h1, h2⟩
theorem box4 {w wr : World} {x0 x1 x2 x3 : Value} {t : TypeId} (h : Keep [] (w.alloc (.cells #[x0, x1, x2, x3] t)) wr) :
    wr.cell? ⟨w.heap.size, 0, none⟩ = some x0 ∧ wr.cell? ⟨w.heap.size, 1, none⟩ = some x1 ∧ wr.cell? ⟨w.heap.size, 2, none⟩ = some x2 ∧ wr.cell? ⟨w.heap.size, 3, none⟩ = some x3 := by
  have hb : wr.heap[w.heap.size]? = some (.cells #[x0, x1, x2, x3] t) := (h.block _ (by simp) (by simp)).trans (heap_alloc_new w _)
  refine ⟨?_, ?_, ?_, ?_⟩ <;> simp [World.cell?, hb]
theorem Keep.cellOf {F : List Nat} {w w' : World} (h : Keep F w w') {p : Addr} {v : Value} (hc : w.cell? p = some v) (hn : p.block ∉ F := by simp) : w'.cell? p = some v := by
  rw [h.cell (World.block_lt_of_cell? _ _ hc) hn]; exact hc

/-- a slice of terms that is read -/
def HasT (B : Nat) (w : World) (v : Value) (l : List Tm) : Prop := (∃ o, Rd w 4 v l.length (l.flatMap encTm) o ∧ ∀ b, o = some b → b < B) ∧ l.length * 48 ≤ 140737488355328 ∧ RdTms B w l
theorem HasT.keep {B : Nat} {w w' : World} {v : Value} {l : List Tm} {F : List Nat} (h : HasT B w v l) (hk : Keep F w w') (hF : ∀ b ∈ F, B ≤ b) : HasT B w' v l := by
  obtain ⟨⟨o, h1, h2⟩, h3, h4⟩ := h
  exact ⟨⟨o, h1.keepB hk hF h2, h2⟩, h3, h4.keep hk hF⟩
theorem HasT.keep0 {B : Nat} {w w' : World} {v : Value} {l : List Tm} (h : HasT B w v l) (hk : Keep [] w w') : HasT B w' v l := h.keep hk (by simp)
theorem HasT.form {B : Nat} {w : World} {v : Value} {l : List Tm} (h : HasT B w v l) : ∃ a c, v = .slice a l.length c ∧ l.length ≤ c ∧ c ≤ maxLen := by
  obtain ⟨⟨o, h1, h2⟩, h3, h4⟩ := h
  exact h1.form
theorem HasT.at {B : Nat} {w wr : World} {a : Option Addr} {n c : Nat} {l : List Tm} (h : HasT B w (.slice a n c) l) (hk : Keep [] w wr) {k : Nat} (hlt : k < l.length) :
    ∃ b off, a = some ⟨b, off, none⟩ ∧ wr.cell? ⟨b, off + k * 4, none⟩ = some (.int .i64 l[k].kind) ∧ wr.cell? ⟨b, off + k * 4 + 1, none⟩ = some (.int .i64 l[k].num) ∧ wr.cell? ⟨b, off + k * 4 + 2, none⟩ = some (.string l[k].name) ∧ wr.cell? ⟨b, off + k * 4 + 3, none⟩ = some l[k].iv ∧ RdTm B wr l[k] := by
  obtain ⟨⟨o, h1, h2⟩, h3, h4⟩ := h
  obtain ⟨b, off, rfl, rfl, g0, g1, g2, g3⟩ := h1.at4 hlt
  exact ⟨b, off, rfl, hk.cellOf g0, hk.cellOf g1, hk.cellOf g2, hk.cellOf g3, ((RdTms_iff l).1 h4 _ (List.getElem_mem hlt)).keep0 hk⟩
theorem RdTm.has {B : Nat} {w : World} {t : Tm} (h : RdTm B w t) : HasT B w t.iv t.items := by
  obtain ⟨⟨-, -, h3, o, h4, h5⟩, h6⟩ := (RdTm_iff t).1 h
  exact ⟨⟨o, h4, h5⟩, h3, (RdTms_iff _).2 h6⟩

end Go.Emb

/- Terms: their texts (plain). -/
namespace Go.Emb
open Go.RowKit

abbrev lettersL : List UInt8 := [97, 98, 99, 100, 101, 102, 103, 104, 105, 106, 107, 108, 109, 110, 111, 112, 113, 114, 115, 116, 117, 118, 119, 120, 121, 122, 65, 66, 67, 68, 69, 70, 71, 72, 73, 74, 75, 76, 77, 78, 79, 80, 81, 82, 83, 84, 85, 86, 87, 88, 89, 90, 48, 49, 50, 51, 52, 53, 54, 55, 56, 57, 95, 64]
/-- after, and, case, catch, div, end, fun, not, of, or, receive, rem, try, when -/
abbrev wordsL : List (List UInt8) := [[97, 102, 116, 101, 114], [97, 110, 100], [99, 97, 115, 101], [99, 97, 116, 99, 104], [100, 105, 118], [101, 110, 100], [102, 117, 110], [110, 111, 116], [111, 102], [111, 114], [114, 101, 99, 101, 105, 118, 101], [114, 101, 109], [116, 114, 121], [119, 104, 101, 110]]
def letterB (c : UInt8) : Bool := lettersL.contains c
def bareL (s : List UInt8) : Bool := s.all letterB && (match s with | [] => false | c :: _ => decide (97 ≤ c) && decide (c ≤ 122)) && !wordsL.contains s
abbrev hexL : List UInt8 := [48, 49, 50, 51, 52, 53, 54, 55, 56, 57, 97, 98, 99, 100, 101, 102]
/-- a byte of a name in quotes -/
def escL (c : UInt8) : List UInt8 :=
  if c = 39 ∨ c = 92 then [92, c] else if c < 32 ∨ 126 < c then [92, 120, hexL.getD (c.toNat / 16) 0, hexL.getD (c.toNat % 16) 0] else [c]
def quoteL (s : List UInt8) : List UInt8 := 39 :: (s.flatMap escL ++ [39])
def nameL (s : List UInt8) : List UInt8 := if bareL s then s else quoteL s
/-- a term that is no list, its items' texts in r -/
def flatL (k n : Int) (s : List UInt8) (r : List UInt8) : List UInt8 :=
  if k = 1 then Lib.itoa n
  else if k = 2 then nameL s
  else if k = 3 then 35 :: Lib.itoa n
  else if k = 5 then 60 :: (Lib.itoa n ++ [62])
  else if k = 4 then [102, 117, 110, 64] ++ Lib.itoa n ++ [40] ++ r ++ [41]
  else if k = 6 then 123 :: (r ++ [125])
  else []
mutual
def printTm : Tm → List UInt8
  | .mk k n s _ l => if k = 8 then 91 :: (restOf true l ++ [93]) else if k = 7 then [91, 93] else flatL k n s.data.toList (rowTms l)
/-- what a list's loop writes from a cons with these items on -/
def restOf : Bool → List Tm → List UInt8
  | b, [h, t] => (if b then [] else [44]) ++ printTm h ++ restTm false t
  | _, _ => []
def restTm : Bool → Tm → List UInt8
  | b, .mk k n s _ l => if k = 8 then restOf b l else if k = 7 then [] else 124 :: flatL k n s.data.toList (rowTms l)
def rowTms : List Tm → List UInt8
  | [] => []
  | [x] => printTm x
  | x :: y :: r => printTm x ++ 44 :: rowTms (y :: r)
end
theorem printTm_eq (t : Tm) : printTm t = if t.kind = 8 then 91 :: (restOf true t.items ++ [93]) else if t.kind = 7 then [91, 93] else flatL t.kind t.num t.name.data.toList (rowTms t.items) := by
  cases t; rw [printTm]; rfl
theorem restTm_eq (b : Bool) (t : Tm) : restTm b t = if t.kind = 8 then restOf b t.items else if t.kind = 7 then [] else 124 :: flatL t.kind t.num t.name.data.toList (rowTms t.items) := by
  cases t; rw [restTm]; rfl
theorem rowTms_snoc (l : List Tm) (x : Tm) : rowTms (l ++ [x]) = rowTms l ++ (if l = [] then [] else [44]) ++ printTm x := by
  induction l with
  | nil => simp [rowTms]
  | cons y l ih =>
    cases l with
    | nil => simp [rowTms]
    | cons z l =>
      simp only [List.cons_append, rowTms] at ih ⊢
      rw [ih]
      simp
theorem decDigits_le (n : Nat) : ∀ u, u < 10 ^ n → 0 < n → (Lib.decDigits u).length ≤ n := by
  induction n with
  | zero => intro u _ h; omega
  | succ n ih =>
    intro u hu _
    rw [Lib.decDigits]
    split
    · simp
    · rename_i h10
      rw [List.length_append, List.length_singleton]
      have hn : 0 < n := by
        rcases Nat.eq_zero_or_pos n with rfl | h
        · simp at hu; omega
        · exact h
      have := ih (u / 10) (by rw [Nat.pow_succ] at hu; omega) hn
      omega
theorem decDigits_pos (u : Nat) : 0 < (Lib.decDigits u).length := by
  rw [Lib.decDigits]
  split <;> simp
theorem itoa_le (n : Int) (h0 : -9223372036854775808 ≤ n) (h1 : n ≤ 9223372036854775807) : (Lib.itoa n).length ≤ 20 ∧ 0 < (Lib.itoa n).length := by
  unfold Lib.itoa
  split
  · have := decDigits_le 19 n.natAbs (by omega) (by omega)
    have := decDigits_pos n.natAbs
    simp; omega
  · have := decDigits_le 19 n.toNat (by omega) (by omega)
    have := decDigits_pos n.toNat
    omega
theorem escL_le (c : UInt8) : (escL c).length ≤ 4 := by unfold escL; split <;> (try split) <;> simp
theorem flatEscL_le (l : List UInt8) : (l.flatMap escL).length ≤ 4 * l.length := by
  induction l with
  | nil => simp
  | cons c l ih => rw [List.flatMap_cons, List.length_append, List.length_cons]; have := escL_le c; omega
theorem nameL_le (s : List UInt8) (h : s.length ≤ 255) : (nameL s).length ≤ 1022 := by
  unfold nameL quoteL
  split
  · omega
  · have := flatEscL_le s
    rw [List.length_cons, List.length_append, List.length_singleton]; omega
theorem isTm_split {t : Tm} (h : isTm t = true) : HeadOk t.kind t.num t.name t.items.length ∧ ∀ x ∈ t.items, isTm x = true := by
  cases t with
  | mk k n s v l =>
    simp only [isTm, Bool.and_eq_true, headOk, decide_eq_true_eq, isTms_iff, List.all_eq_true] at h
    exact h
theorem isTm_bd {t : Tm} (h : isTm t = true) : -9223372036854775808 ≤ t.num ∧ t.num ≤ 9223372036854775807 ∧ t.name.size ≤ 255 := by
  have h1 := (isTm_split h).1
  unfold HeadOk at h1
  simp only [toList_nil_iff] at h1
  omega
theorem flatL_le (k n : Int) (s : List UInt8) (r : List UInt8) (h0 : -9223372036854775808 ≤ n) (h1 : n ≤ 9223372036854775807) (hs : s.length ≤ 255) : (flatL k n s r).length ≤ 1100 + r.length := by
  have hi := (itoa_le n h0 h1).1
  have hn := nameL_le s hs
  unfold flatL
  split
  · omega
  split
  · omega
  split
  · rw [List.length_cons]; omega
  split
  · rw [List.length_cons, List.length_append]; simp; omega
  split
  · simp only [List.length_append, List.length_cons, List.length_nil]; omega
  split
  · rw [List.length_cons, List.length_append]; simp; omega
  · simp
theorem print_le : ∀ (N : Nat) (t : Tm), t.sz ≤ N → isTm t = true → (printTm t).length + 50 ≤ 1200 * t.sz ∧ ∀ b, (restTm b t).length + 49 ≤ 1200 * t.sz
  | 0, t, h, _ => by have := t.sz_pos; omega
  | N + 1, t, h, ht => by
    have hb := isTm_bd ht
    have hsp := (isTm_split ht).2
    have hsz : t.sz = szL t.items + 1 := by cases t; simp only [Tm.sz, Tm.items]
    have hrow : ∀ l : List Tm, (∀ x ∈ l, x ∈ t.items) → (rowTms l).length ≤ 1200 * szL l := by
      intro l
      induction l with
      | nil => intro _; simp [rowTms]
      | cons x l ih =>
        intro hl
        have hx := (print_le N x (by have := sz_mem_lt (hl x (by simp)); omega) (hsp x (hl x (by simp)))).1
        have hr := ih (fun y hy => hl y (by simp [hy]))
        rw [szL_cons]
        cases l with
        | nil => simp only [rowTms]; omega
        | cons y l => simp only [rowTms, List.length_append, List.length_cons] at hr ⊢; omega
    have hrow1 := hrow t.items (fun _ h => h)
    have hro : ∀ b, (restOf b t.items).length + 60 ≤ 1200 * t.sz := by
      intro b
      match hl : t.items with
      | [] => simp [restOf]; omega
      | [_] => simp [restOf]; omega
      | x :: y :: z :: r => simp [restOf]; omega
      | [x, y] =>
        have hx := (print_le N x (by have := sz_mem_lt (t := t) (x := x) (by simp [hl]); omega) (hsp x (by simp [hl]))).1
        have hy := (print_le N y (by have := sz_mem_lt (t := t) (x := y) (by simp [hl]); omega) (hsp y (by simp [hl]))).2 false
        rw [hl] at hsz
        simp only [szL_cons, szL_nil] at hsz
        simp only [restOf, List.length_append]
        cases b <;> simp <;> omega
    have hfl := flatL_le t.kind t.num t.name.data.toList (rowTms t.items) hb.1 hb.2.1 (by have := hb.2.2; simpa using this)
    refine ⟨?_, fun b => ?_⟩
    · rw [printTm_eq]
      split
      · have := hro true; simp; omega
      split
      · simp; omega
      · omega
    · rw [restTm_eq]
      split
      · have := hro b; omega
      split
      · simp; omega
      · simp; omega
theorem row_le (l : List Tm) (h : ∀ x ∈ l, isTm x = true) : (rowTms l).length ≤ 1200 * szL l := by
  induction l with
  | nil => simp [rowTms]
  | cons x l ih =>
    have hx := (print_le x.sz x (Nat.le_refl _) (h x (by simp))).1
    have hr := ih (fun y hy => h y (by simp [hy]))
    rw [szL_cons]
    cases l with
    | nil => simp only [rowTms]; omega
    | cons y l => simp only [rowTms, List.length_append, List.length_cons] at hr ⊢; omega
theorem print_ne {t : Tm} (h : isTm t = true) : printTm t ≠ [] := by
  have hb := isTm_bd h
  have h1 := (isTm_split h).1
  have hi := (itoa_le t.num hb.1 hb.2.1).2
  rw [printTm_eq]
  unfold HeadOk at h1
  intro he
  have hl := congrArg List.length he
  unfold flatL at hl
  rcases h1 with h1 | h1 | h1 | h1 | h1 | h1 | h1
  · rw [if_neg (by omega), if_neg (by omega), if_pos h1.1] at hl; simp at hl; simp [hl] at hi
  · rw [if_neg (by omega), if_neg (by omega), if_neg (by omega), if_pos h1.1] at hl
    unfold nameL quoteL at hl
    split at hl
    · have := h1.2.2.1
      rw [Go.ByteArray.toList_eq] at this
      exact this (List.eq_nil_of_length_eq_zero hl)
    · simp at hl
  · rcases h1.1 with h2 | h2
    · rw [if_neg (by omega), if_neg (by omega), if_neg (by omega), if_neg (by omega), if_pos h2] at hl; simp at hl
    · rw [if_neg (by omega), if_neg (by omega), if_neg (by omega), if_neg (by omega), if_neg (by omega), if_pos h2] at hl; simp at hl
  · rw [if_neg (by omega), if_neg (by omega), if_neg (by omega), if_neg (by omega), if_neg (by omega), if_neg (by omega), if_pos h1.1] at hl; simp at hl
  · rw [if_neg (by omega), if_neg (by omega), if_neg (by omega), if_neg (by omega), if_neg (by omega), if_neg (by omega), if_neg (by omega), if_pos h1.1] at hl; simp at hl
  · rw [if_neg (by omega), if_pos h1.1] at hl; simp at hl
  · rw [if_pos h1.1] at hl; simp at hl
end Go.Emb

/- strings.Builder: copyCheck, WriteByte, WriteString, String. -/
namespace Go.Proofs.YtdmmhfbafinkpaaGreatDoor
open Go.RowKit Go.Emb

/-- block b is a builder that holds these bytes; F: what it takes -/
def IsB (w : World) (b : Nat) (bs : List UInt8) (F : List Nat) : Prop :=
  ∃ p v o, (p = .pointer none ∨ p = .pointer (some ⟨b, 0, none⟩)) ∧ w.heap[b]? = some (.cells #[p, v] 60 (0, 0)) ∧ Row w 5 1 v bs.length (Lib.byteCells bs) o ∧ Off0 v ∧ o ≠ some b ∧ F = b :: o.toList
theorem IsB.lt {w : World} {b : Nat} {bs : List UInt8} {F : List Nat} (h : IsB w b bs F) : ∀ x ∈ F, x < w.heap.size := by
  obtain ⟨p, v, o, -, hb, hr, -, -, rfl⟩ := h
  intro x hx
  rcases List.mem_cons.1 hx with rfl | hx
  · exact (Array.getElem?_eq_some_iff.1 hb).1
  · exact hr.lt x (by simpa using hx)
theorem IsB.keep {w w' : World} {b : Nat} {bs : List UInt8} {F G : List Nat} (h : IsB w b bs F) (k : Keep G w w') (hn : ∀ x ∈ F, x ∉ G) : IsB w' b bs F := by
  have hlt := h.lt
  obtain ⟨p, v, o, hp, hb, hr, h0, ho, rfl⟩ := h
  exact ⟨p, v, o, hp, (k.block b (hlt b (by simp)) (hn b (by simp))).trans hb, hr.keep k (fun x hx => hn x (by simp [hx])), h0, ho, rfl⟩
theorem IsB.mem {w : World} {b : Nat} {bs : List UInt8} {F : List Nat} (h : IsB w b bs F) : b ∈ F := by
  obtain ⟨p, v, o, -, -, -, -, -, rfl⟩ := h
  simp

theorem byte_info : (Tryz.prog.info? 5).map (fun i => (i.zero, i.size, i.bytes)) = some (some (.int .u8 0), 1, 1) := by kernel_rfl
theorem builder_info : (Tryz.prog.info? 60).map (fun i => i.size) = some 2 := by kernel_rfl
theorem cells2b {w : World} {q : Nat} {x y : Value} {t : TypeId} (h : w.heap[q]? = some (.cells #[x, y] t (0, 0))) :
    w.cell? ⟨q, 0, none⟩ = some x ∧ w.cell? ⟨q, 1, none⟩ = some y ∧ w.frozen? ⟨q, 0, none⟩ = false ∧ w.frozen? ⟨q, 1, none⟩ = false ∧ w.shape? q = some (t, 2) := by
  refine ⟨?_, ?_, ?_, ?_, ?_⟩ <;> simp [World.cell?, World.frozen?, World.shape?, h]

set_option maxHeartbeats 1000000 in
set_option maxRecDepth 100000 in
/-- copyCheck: behind it the builder's first cell is its own address -/
theorem b_check {w : World} {b : Nat} {p v : Value} (hp : p = .pointer none ∨ p = .pointer (some ⟨b, 0, none⟩)) (hb : w.heap[b]? = some (.cells #[p, v] 60 (0, 0))) :
    Calls Tryz.prog 51 #[.pointer (some ⟨b, 0, none⟩)] w fun e w' => e = .returned (.tuple #[]) ∧ w'.heap[b]? = some (.cells #[.pointer (some ⟨b, 0, none⟩), v] 60 (0, 0)) ∧ Keep [b] w w' := by
  obtain ⟨j, hj, hjs⟩ := Option.map_eq_some_iff.1 builder_info
  obtain ⟨c0, c1, f0, f1, hsh⟩ := cells2b hb
  rcases hp with rfl | rfl
  · have hset : (w.setCell ⟨b, 0, none⟩ (.pointer (some ⟨b, 0, none⟩))).heap[b]? = some (.cells #[.pointer (some ⟨b, 0, none⟩), v] 60 (0, 0)) := by rw [heap_setCell_at hb]; rfl
    have HS := Lib.hid hset
    have HJ := Lib.hid hj
    have HJS := Lib.hid hjs
    have HSH := Lib.hid hsh
    clear hset hj hjs hsh hb
    go_enter Tryz.func51, Tryz.ntmps51
    go_wp2
    rw [Lib.run_to_unsafe w ⟨b, 0, none⟩ Tryz.underlying57 Tryz.underlying113 HJ.out (by rw [HJS.out]; decide) HSH.out (Nat.zero_lt_succ 1)]
    simp only [Result.andThen]
    rw [Oper.upon_value]
    go_wp2
    rw [run_callFunc_extern Tryz.func80 (by kernel_rfl) (by kernel_rfl) (by kernel_rfl) (e := Extern.AbiNoEscape.same) (by kernel_rfl)]
    rw [Lib.run_noEscape]
    simp only [Result.andThen]
    rw [Oper.upon_value]
    go_wp2
    rw [Lib.run_from_unsafe w ⟨b, 0, none⟩ Tryz.underlying113 Tryz.underlying57 HJ.out HSH.out (by kernel_rfl)]
    simp only [Result.andThen]
    rw [Oper.upon_value]
    go_wp2
    go_end0
    exact ⟨rfl, HS.out, Keep.set1 w ⟨b, 0, none⟩ _⟩
  · have HB := Lib.hid hb
    have HJ := Lib.hid hj
    clear hb hj hjs hsh
    go_enter Tryz.func51, Tryz.ntmps51
    go_wp2
    rw [Lib.run_neq_ptr_same w _ Tryz.underlying57 HJ.out]
    go_wp2
    go_end0
    exact ⟨rfl, HB.out, Keep.refl _ _⟩

def BPost (w : World) (b : Nat) (bs : List UInt8) (F : List Nat) (r : Value) (e : Ending) (w' : World) : Prop := e = .returned r ∧ ∃ F', IsB w' b bs F' ∧ (∀ x ∈ F', x ∈ F ∨ w.heap.size ≤ x) ∧ Keep F w w'

theorem isB_put {w w1 w2 : World} {b g cap n : Nat} {bs : List UInt8} {p v : Value} {o : Option Nat} (hk1 : Keep [b] w w1) (hb1 : w1.heap[b]? = some (.cells #[p, v] 60 (0, 0))) (hp : p = .pointer (some ⟨b, 0, none⟩)) (ho : o ≠ some b) (_hob : ∀ x, o = some x → x < w.heap.size)
    {W : World} (hkW : Keep [] w1 W) (hr : Row w2 5 1 (.slice (some ⟨g, 0, none⟩) n cap) n (Lib.byteCells bs) (some g)) (hn : n = bs.length) (hk2 : Keep o.toList W w2) (hg : o = some g ∨ W.heap.size ≤ g) :
    ∃ F', IsB (w2.setCell ⟨b, 1, none⟩ (.slice (some ⟨g, 0, none⟩) n cap)) b bs F' ∧ (∀ x ∈ F', x ∈ (b :: o.toList) ∨ w.heap.size ≤ x) ∧ Keep (b :: o.toList) w (w2.setCell ⟨b, 1, none⟩ (.slice (some ⟨g, 0, none⟩) n cap)) := by
  subst hn
  have hb1lt := (Array.getElem?_eq_some_iff.1 hb1).1
  have hb2 : w2.heap[b]? = some (.cells #[p, v] 60 (0, 0)) :=
    (hk2.block b (Nat.lt_of_lt_of_le hb1lt hkW.size) (by simpa using fun h => ho h)).trans ((hkW.block b hb1lt (by simp)).trans hb1)
  have hgb : g ≠ b := by
    rcases hg with h | h
    · rintro rfl; exact ho h
    · have := hkW.size; omega
  have hkall : Keep (b :: o.toList) w w2 := (hk1.mono (fun x hx _ => by simp at hx; simp [hx])).trans ((hkW.mono (G := o.toList) (fun _ h => nomatch h)).trans hk2 (fun x hx => .inl hx)) (fun x hx => .inl (List.mem_cons_of_mem _ hx))
  have hne : (some g : Option Nat) ≠ some b := by simpa using hgb
  refine ⟨b :: [g], ⟨p, .slice (some ⟨g, 0, none⟩) bs.length cap, some g, .inr hp, ?_, ?_, Off0.mk _ _ _, hne, rfl⟩, ?_, hkall.setCell (p := ⟨b, 1, none⟩) (.inl (by simp)) _⟩
  · rw [heap_setCell_at hb2]; rfl
  · exact hr.keep (Keep.set1 w2 ⟨b, 1, none⟩ _) (fun x hx => by cases hx; simpa using hgb)
  · intro x hx
    simp only [List.mem_cons, List.not_mem_nil, or_false] at hx
    rcases hx with rfl | rfl
    · left; simp
    · rcases hg with h | h
      · left; simp [h]
      · right; have := hk1.size; have := hkW.size; omega

set_option maxHeartbeats 1000000 in
set_option maxRecDepth 100000 in
theorem b_byte {w : World} {b : Nat} {bs : List UInt8} {F : List Nat} (h : IsB w b bs F) (c : UInt8) (hsz : bs.length ≤ 100000000000000) :
    Calls Tryz.prog 90 #[.pointer (some ⟨b, 0, none⟩), .int .u8 c.toNat] w (BPost w b (bs ++ [c]) F .nilIface) := by
  have hlt := h.lt
  obtain ⟨p, v, o, hp, hb, hr, h0, ho, rfl⟩ := h
  obtain ⟨i0, hi, hz0, hz1, hz2⟩ := info_parts byte_info
  have hcall := b_check hp hb
  have HC := Lib.hid hcall
  have HR := Lib.hid hr
  have HO := Lib.hid ho
  have HLT := Lib.hid hlt
  have HI := Lib.hid hi
  have H0 := Lib.hid h0
  clear hcall hr hp hb ho hlt hi h0
  go_enter Tryz.func90, Tryz.ntmps90
  go_wp2_with fail
  refine HC.out.mono ?_
  rintro e w1 ⟨rfl, hb1, hk1⟩
  obtain ⟨c0, c1, -, -, -⟩ := cells2b hb1
  have hr1 : Row w1 5 1 v bs.length (Lib.byteCells bs) o := HR.out.keep hk1 (fun x hx => by rintro h; simp at h; subst h; exact HO.out hx)
  have HB1 := Lib.hid hb1
  have HR1 := Lib.hid hr1
  have HK1 := Lib.hid hk1
  clear hb1 hr1 hk1 HC
  go_wp2_with (at_builtin; refine wpList_append_row0 _ rfl _ _ 58 58 rfl 5 i0 (.int .u8 0) 1 1 Tryz.underlying58 HI.out hz0 hz1 hz2 rfl _ _ _ o rfl (HR1.out.keep (F := []) ((Keep.refl [] _).alloc _) (by simp)) H0.out _ rfl 1 [.int .u8 c.toNat] (Src.ofSlice _ Tryz.underlying58 ⟨w1.heap.size, 0, none⟩ 1 1 [.int .u8 c.toNat] rfl ?c1 ?c2) (by omega) ?c3 ?c4 ?_)
  case c1 =>
    intro j u hj
    match j, hj with
    | 0, hj => simp at hj; subst hj; simp [Addr.add]
  case c2 => intro u hu; simp at hu; subst hu; rfl
  case c3 => unfold maxLen; omega
  case c4 => omega
  intro g cap w2 hr2 hk2 hg2
  have hput := isB_put (bs := bs ++ [c]) HK1.out HB1.out rfl HO.out (fun x hx => HLT.out x (by simp [hx])) ((Keep.refl [] w1).alloc _) (by simpa [Lib.byteCells] using hr2) (by simp) hk2 (by simpa using hg2)
  have hd : w2.heap[b]? = some (.cells #[.pointer (some ⟨b, 0, none⟩), v] 60 (0, 0)) := (hk2.block b (by have := (Array.getElem?_eq_some_iff.1 HB1.out).1; simp; omega) (by simpa using fun h => HO.out h)).trans ((((Keep.refl [] w1).alloc _).block b (Array.getElem?_eq_some_iff.1 HB1.out).1 (by simp)).trans HB1.out)
  obtain ⟨d0, d1, f0, f1, -⟩ := cells2b hd
  have HP := Lib.hid hput
  clear hput hd hr2 hk2 hg2
  go_wp2_with fail
  go_ret
  obtain ⟨F', q1, q2, q3⟩ := HP.out
  exact ⟨rfl, F', q1, q2, q3⟩

set_option maxHeartbeats 1000000 in
set_option maxRecDepth 100000 in
theorem b_string {w : World} {b : Nat} {bs : List UInt8} {F : List Nat} (h : IsB w b bs F) (s : ByteArray) (hs0 : 0 < s.size) (hsz : bs.length + s.size ≤ 100000000000000) :
    Calls Tryz.prog 22 #[.pointer (some ⟨b, 0, none⟩), .string s] w (BPost w b (bs ++ s.data.toList) F (.tuple #[.int .i64 s.size, .nilIface])) := by
  have hlt := h.lt
  obtain ⟨p, v, o, hp, hb, hr, h0, ho, rfl⟩ := h
  obtain ⟨i0, hi, hz0, hz1, hz2⟩ := info_parts byte_info
  have hcall := b_check hp hb
  have HC := Lib.hid hcall
  have HR := Lib.hid hr
  have HO := Lib.hid ho
  have HLT := Lib.hid hlt
  have HI := Lib.hid hi
  have H0 := Lib.hid h0
  clear hcall hr hp hb ho hlt hi h0
  go_enter Tryz.func22, Tryz.ntmps22
  go_wp2_with fail
  refine HC.out.mono ?_
  rintro e w1 ⟨rfl, hb1, hk1⟩
  obtain ⟨c0, c1, -, -, -⟩ := cells2b hb1
  have hr1 : Row w1 5 1 v bs.length (Lib.byteCells bs) o := HR.out.keep hk1 (fun x hx => by rintro h; simp at h; subst h; exact HO.out hx)
  have HB1 := Lib.hid hb1
  have HR1 := Lib.hid hr1
  have HK1 := Lib.hid hk1
  clear hb1 hr1 hk1 HC
  go_wp2_with (at_builtin; refine wpList_append_row0 _ rfl _ _ 58 9 rfl 5 i0 (.int .u8 0) 1 1 Tryz.underlying58 HI.out hz0 hz1 hz2 rfl _ _ _ o rfl HR1.out H0.out _ rfl s.size _ (Src.ofString _ Tryz.underlying9 s) (by omega) ?c3 ?c4 ?_)
  case c3 => unfold maxLen; omega
  case c4 => omega
  intro g cap w2 hr2 hk2 hg2
  have hput := isB_put (bs := bs ++ s.data.toList) HK1.out HB1.out rfl HO.out (fun x hx => HLT.out x (by simp [hx])) (Keep.refl [] w1) (by simpa [Lib.byteCells, Go.byteCells] using hr2) (by simp) hk2 hg2
  have hd : w2.heap[b]? = some (.cells #[.pointer (some ⟨b, 0, none⟩), v] 60 (0, 0)) := (hk2.block b (Array.getElem?_eq_some_iff.1 HB1.out).1 (by simpa using fun h => HO.out h)).trans HB1.out
  obtain ⟨d0, d1, f0, f1, -⟩ := cells2b hd
  have HP := Lib.hid hput
  clear hput hd hr2 hk2 hg2
  go_wp2_with fail
  go_ret2
  obtain ⟨F', q1, q2, q3⟩ := HP.out
  exact ⟨rfl, F', q1, q2, q3⟩

theorem keep_freeze {F : List Nat} {a w : World} (h : Keep F a w) {p : Addr} (hp : p.block ∈ F) (n : Nat) : Keep F a (w.freeze p n) := by
  unfold World.freeze
  split
  · exact h
  · exact ⟨h.os, h.tape, h.output, by simpa using h.size, fun b hb hn => by
      have hne : ¬ p.block = b := fun e => hn (e ▸ hp)
      simp only [Array.getElem?_modify, hne, if_false]
      exact h.block b hb hn⟩
set_option maxHeartbeats 1000000 in
set_option maxRecDepth 100000 in
theorem b_text {w : World} {b : Nat} {l : List UInt8} {F : List Nat} (h : IsB w b l F) (h0 : l ≠ []) :
    Calls Tryz.prog 24 #[.pointer (some ⟨b, 0, none⟩)] w fun e w' => e = .returned (.string ⟨l.toArray⟩) ∧ Keep F w w' := by
  obtain ⟨p, v, o, hp, hbk, hr, hoff, ho, rfl⟩ := h
  have hl0 : l.length ≠ 0 := by simpa using h0
  obtain ⟨hrl, hr⟩ := hr
  rcases hr with ⟨-, -, hz⟩ | ⟨g, off, cap, cur, rfl, rfl, hg, hnc, hcm, hcs, hcell⟩
  · exact absurd hz hl0
  obtain rfl : off = 0 := hoff _ _ _ _ rfl
  have hc1 : w.drew.cell? ⟨b, 1, none⟩ = some (.slice (some ⟨g, 0, none⟩) l.length cap) := by
    have : w.drew.heap[b]? = some (.cells #[p, .slice (some ⟨g, 0, none⟩) l.length cap] 60 (0, 0)) := hbk
    rw [Lib.cell_of_heap this]; rfl
  have hSD : (Builtin.unsafeSliceData_ #[58] 92 #[.slice (some ⟨g, 0, none⟩) l.length cap]).run Tryz.prog w.drew = .ok (.pointer (some ⟨g, 0, none⟩)) w.drew :=
    Lib.run_unsafeSliceData_row _ _ _ _ _ _ (by omega)
  have hUS : (Builtin.unsafeString_ #[92, 3] 9 #[.pointer (some ⟨g, 0, none⟩), .int .i64 l.length]).run Tryz.prog w.drew = .ok (.string ⟨l.toArray⟩) (w.drew.freeze ⟨g, 0, none⟩ l.length) := by
    refine Lib.run_unsafeString_row w.drew 92 3 9 5 Tryz.underlying92 (by kernel_rfl) g cur.size (by have hg' : w.drew.heap[g]? = some (.cells cur 5 (0, 0)) := hg; simp [World.shape?, hg']) l h0 (by omega) (by unfold maxLen at hcm; omega) ?_
    intro j x hx
    have hj : j < l.length := by
      rcases Nat.lt_or_ge j l.length with h | h
      · exact h
      · rw [List.getElem?_eq_none h] at hx; cases hx
    have hadd : (⟨g, 0, none⟩ : Addr).add j = ⟨g, 0 + j, none⟩ := by unfold Addr.add; split <;> simp_all
    have hg' : w.drew.heap[g]? = some (.cells cur 5 (0, 0)) := hg
    rw [hadd, Lib.cell_of_heap hg', hcell j (by omega)]
    simp [Lib.byteCells, hx]
  clear hcell hrl hp hoff ho hcs hg
  have HK := Lib.hid (keep_freeze (F := b :: (some g).toList) (Keep.refl _ w).drew (p := ⟨g, 0, none⟩) (by simp) l.length)
  go_enter Tryz.func24, Tryz.ntmps24
  go_wp2
  go_region
  all_goals (go_wp2; go_ret; exact ⟨rfl, HK.out⟩)
end Go.Proofs.YtdmmhfbafinkpaaGreatDoor

/- Terms: Bare (the program's). Printed by gen-tm10.py. -/
namespace Go.Proofs.YtdmmhfbafinkpaaGreatDoor
open Go.RowKit Go.Emb

theorem indexByte_neg (l : List UInt8) (c : UInt8) : decide (Lib.indexByte l c < 0) = !l.contains c := by
  induction l with
  | nil => simp [Lib.indexByte]
  | cons b l ih =>
    have hge := Lib.indexByte_ge l c
    unfold Lib.indexByte
    by_cases hb : b = c
    · subst hb; simp
    · have hb1 : (b == c) = false := by simpa using hb
      have hb2 : (c == b) = false := by simpa using fun h => hb h.symm
      rw [hb1, List.contains_cons, hb2, Bool.false_or, ← ih]
      by_cases h1 : Lib.indexByte l c = -1
      · simp [h1]
      · have h1' : (Lib.indexByte l c == -1) = false := by simpa using h1
        simp only [h1', Bool.false_eq_true, if_false]
        simp only [decide_eq_decide]
        omega
def wordsB : List ByteArray := wordsL.map fun l => ⟨l.toArray⟩
theorem contains_words (s : ByteArray) : Lib.containsS (wordsB.take 14) s = wordsL.contains s.data.toList := by
  rw [Bool.eq_iff_iff, Lib.containsS_iff, List.contains_iff_mem]
  have : wordsB.take 14 = wordsB := rfl
  rw [this]
  unfold wordsB
  rw [List.mem_map]
  constructor
  · rintro ⟨l, hl, rfl⟩; simpa using hl
  · intro h; exact ⟨_, h, by cases s; simp⟩
theorem words_cells (w : World) : ∀ j, j < wordsB.length → (w.alloc (.cells #[.string ⟨#[97, 102, 116, 101, 114]⟩, .string ⟨#[97, 110, 100]⟩, .string ⟨#[99, 97, 115, 101]⟩, .string ⟨#[99, 97, 116, 99, 104]⟩, .string ⟨#[100, 105, 118]⟩, .string ⟨#[101, 110, 100]⟩, .string ⟨#[102, 117, 110]⟩, .string ⟨#[110, 111, 116]⟩, .string ⟨#[111, 102]⟩, .string ⟨#[111, 114]⟩, .string ⟨#[114, 101, 99, 101, 105, 118, 101]⟩, .string ⟨#[114, 101, 109]⟩, .string ⟨#[116, 114, 121]⟩, .string ⟨#[119, 104, 101, 110]⟩] 9)).cell? ⟨w.heap.size, 0 + j, none⟩ = some (.string (wordsB.getD j ByteArray.empty)) := by
  intro j hj
  have hb := heap_alloc_new w (.cells #[.string ⟨#[97, 102, 116, 101, 114]⟩, .string ⟨#[97, 110, 100]⟩, .string ⟨#[99, 97, 115, 101]⟩, .string ⟨#[99, 97, 116, 99, 104]⟩, .string ⟨#[100, 105, 118]⟩, .string ⟨#[101, 110, 100]⟩, .string ⟨#[102, 117, 110]⟩, .string ⟨#[110, 111, 116]⟩, .string ⟨#[111, 102]⟩, .string ⟨#[111, 114]⟩, .string ⟨#[114, 101, 99, 101, 105, 118, 101]⟩, .string ⟨#[114, 101, 109]⟩, .string ⟨#[116, 114, 121]⟩, .string ⟨#[119, 104, 101, 110]⟩] 9)
  have hj' : j < 14 := hj
  match j, hj' with
    | 0, _ => exact (Lib.cell_of_heap hb _).trans rfl
    | 1, _ => exact (Lib.cell_of_heap hb _).trans rfl
    | 2, _ => exact (Lib.cell_of_heap hb _).trans rfl
    | 3, _ => exact (Lib.cell_of_heap hb _).trans rfl
    | 4, _ => exact (Lib.cell_of_heap hb _).trans rfl
    | 5, _ => exact (Lib.cell_of_heap hb _).trans rfl
    | 6, _ => exact (Lib.cell_of_heap hb _).trans rfl
    | 7, _ => exact (Lib.cell_of_heap hb _).trans rfl
    | 8, _ => exact (Lib.cell_of_heap hb _).trans rfl
    | 9, _ => exact (Lib.cell_of_heap hb _).trans rfl
    | 10, _ => exact (Lib.cell_of_heap hb _).trans rfl
    | 11, _ => exact (Lib.cell_of_heap hb _).trans rfl
    | 12, _ => exact (Lib.cell_of_heap hb _).trans rfl
    | 13, _ => exact (Lib.cell_of_heap hb _).trans rfl
theorem index_at (s : ByteArray) (k : Nat) (h : k < s.size) : s.data.toList[k]'(by simpa using h) = s[k] := rfl
set_option maxRecDepth 100000 in
set_option maxHeartbeats 1000000 in
theorem p_bare (s : ByteArray) (w : World) (hs : s.size ≤ 140737488355328) : Calls Tryz.prog 87 #[.string s] w fun e w' => e = .returned (.bool (bareL s.data.toList)) ∧ Keep [] w w' := by
  have hbare : bareL s.data.toList = (s.data.toList.all letterB && (match s.data.toList with | [] => false | c :: _ => decide (97 ≤ c) && decide (c ≤ 122)) && !wordsL.contains s.data.toList) := rfl
  have HB := Lib.hid hbare
  clear hbare
  go_enter Tryz.func87, Tryz.ntmps87
  go_wp2_with fail
  go_loop [3, 7] (fun _ i => ∃ k : Nat, k ≤ s.size ∧ i = .int .i64 k ∧ (s.data.toList.take k).all letterB = true) (fun _ i => s.size - (RowKit.intOf i).toNat)
  case atStart => exact ⟨0, Nat.zero_le _, rfl, by simp⟩
  case round =>
    obtain ⟨k, hk, rfl, hall⟩ := hrel
    have HALL := Lib.hid hall
    clear hall
    by_cases hlt : k < s.size
    · have hts : (s.data.toList.take (k + 1)).all letterB = letterB s[k] := by
        rw [List.take_succ_eq_append_getElem (by simpa using hlt), List.all_append, HALL.out, index_at s k hlt]; simp
      have hcall := (Tryz.strings_IndexByte ⟨#[97, 98, 99, 100, 101, 102, 103, 104, 105, 106, 107, 108, 109, 110, 111, 112, 113, 114, 115, 116, 117, 118, 119, 120, 121, 122, 65, 66, 67, 68, 69, 70, 71, 72, 73, 74, 75, 76, 77, 78, 79, 80, 81, 82, 83, 84, 85, 86, 87, 88, 89, 90, 48, 49, 50, 51, 52, 53, 54, 55, 56, 57, 95, 64]⟩ (s[k].toNat : Int) w).mono (R' := fun e w' => e = .returned (.int .i64 (Lib.indexByte lettersL s[k])) ∧ w = w') (fun e w' h => ⟨by rw [h.1]; simp, h.2.symm⟩)
      have hneg : decide (Lib.indexByte lettersL s[k] < 0) = !letterB s[k] := indexByte_neg lettersL s[k]
      have HTS := Lib.hid hts
      have HC := Lib.hid hcall
      clear hts hcall
      generalize Lib.indexByte lettersL s[k] = ix at *
      cases hl : letterB s[k] with
      | true =>
        rw [hl] at hneg HTS
        have hd : ¬ ix < 0 := by simpa using hneg
        clear hneg hl
        go_wp2_with fail
        refine HC.out.mono ?_
        rintro e w2 ⟨rfl, rfl⟩
        go_wp2_with fail
        go_round
        case rel => exact ⟨k + 1, by omega, by go_num, HTS.out⟩
        case measure => simp [RowKit.intOf]; omega
      | false =>
        rw [hl] at hneg HTS
        have hd : ix < 0 := by simpa using hneg
        have hres : bareL s.data.toList = false := by
          rw [HB.out]
          have := List.take_append_drop (k + 1) s.data.toList
          rw [← this, List.all_append, HTS.out]; simp
        have HRES := Lib.hid hres
        clear hneg hl hres
        go_wp2_with fail
        refine HC.out.mono ?_
        rintro e w2 ⟨rfl, rfl⟩
        go_wp2_with fail
        go_ret
        exact ⟨by rw [HRES.out]; rfl, Keep.refl _ _⟩
    · have hall : s.data.toList.all letterB = true := by
        have := HALL.out
        rwa [List.take_of_length_le (by simp; exact Nat.le_of_not_lt hlt)] at this
      have hcall : Calls Tryz.prog 110 #[.slice (some ⟨w.heap.size, 0, none⟩) 14 14, .string s] (w.alloc (.cells #[.string ⟨#[97, 102, 116, 101, 114]⟩, .string ⟨#[97, 110, 100]⟩, .string ⟨#[99, 97, 115, 101]⟩, .string ⟨#[99, 97, 116, 99, 104]⟩, .string ⟨#[100, 105, 118]⟩, .string ⟨#[101, 110, 100]⟩, .string ⟨#[102, 117, 110]⟩, .string ⟨#[110, 111, 116]⟩, .string ⟨#[111, 102]⟩, .string ⟨#[111, 114]⟩, .string ⟨#[114, 101, 99, 101, 105, 118, 101]⟩, .string ⟨#[114, 101, 109]⟩, .string ⟨#[116, 114, 121]⟩, .string ⟨#[119, 104, 101, 110]⟩] 9)) (fun e w' => e = .returned (.bool (wordsL.contains s.data.toList)) ∧ (w.alloc (.cells #[.string ⟨#[97, 102, 116, 101, 114]⟩, .string ⟨#[97, 110, 100]⟩, .string ⟨#[99, 97, 115, 101]⟩, .string ⟨#[99, 97, 116, 99, 104]⟩, .string ⟨#[100, 105, 118]⟩, .string ⟨#[101, 110, 100]⟩, .string ⟨#[102, 117, 110]⟩, .string ⟨#[110, 111, 116]⟩, .string ⟨#[111, 102]⟩, .string ⟨#[111, 114]⟩, .string ⟨#[114, 101, 99, 101, 105, 118, 101]⟩, .string ⟨#[114, 101, 109]⟩, .string ⟨#[116, 114, 121]⟩, .string ⟨#[119, 104, 101, 110]⟩] 9)) = w') :=
        (Tryz.slices_Contains_string w.heap.size 0 14 14 wordsB s _ (by decide) (by decide) (words_cells w)).mono (fun e w' h => ⟨by rw [h.1, contains_words], h.2.symm⟩)
      have hb2 := HB.out
      rw [hall, Bool.true_and] at hb2
      have HC := Lib.hid hcall
      clear hcall hall HALL HB
      generalize wordsL.contains s.data.toList = wb at *
      cases hs0 : s.data.toList with
      | nil =>
        have e1 : s.toList = [] := by rw [Go.ByteArray.toList_eq]; exact hs0
        have e2 : s.toList.isEmpty = true := by rw [e1]; rfl
        have hres : bareL s.data.toList = false := by rw [hb2, hs0]; rfl
        have HRES := Lib.hid hres
        clear hs0 hb2 hres
        go_wp2_with fail
        go_ret
        exact ⟨by rw [HRES.out]; rfl, (Keep.refl [] w).alloc _⟩
      | cons c r =>
        have hsz : 0 < s.size := by
          rcases Nat.eq_zero_or_pos s.size with h | h
          · have := (toList_nil_iff s).2 h; rw [Go.ByteArray.toList_eq, hs0] at this; cases this
          · exact h
        have e1 : ¬ s.toList = [] := by rw [Go.ByteArray.toList_eq, hs0]; simp
        have e2 : s.toList.isEmpty = false := by simpa using e1
        have e3 : s[0] = c := by rw [← index_at s 0 hsz]; simp [hs0]
        have i0 : (0 : Int) < (s.size : Int) := by omega
        have hn1 : decide (97 ≤ c) = decide ((97 : Int) ≤ (c.toNat : Int)) := by rw [Bool.eq_iff_iff]; simp [UInt8.le_iff_toNat_le]; omega
        have hn2 : decide (c ≤ 122) = decide ((c.toNat : Int) ≤ 122) := by rw [Bool.eq_iff_iff]; simp [UInt8.le_iff_toNat_le]; omega
        have hres : bareL s.data.toList = (decide ((97 : Int) ≤ (c.toNat : Int)) && decide ((c.toNat : Int) ≤ 122) && !wb) := by rw [hb2, hs0]; simp only [hn1, hn2]
        have HRES := Lib.hid hres
        clear hs0 hn1 hn2 hres hb2
        subst e3
        by_cases h1 : (97 : Int) ≤ (s[0].toNat : Int)
        · by_cases h2 : (s[0].toNat : Int) ≤ 122
          · go_wp2_with fail
            refine HC.out.mono ?_
            rintro e w2 ⟨rfl, rfl⟩
            go_wp2_with fail
            go_ret
            exact ⟨by rw [HRES.out]; simp [h1, h2], (Keep.refl [] w).alloc _⟩
          · go_wp2_with fail
            go_ret
            exact ⟨by rw [HRES.out]; simp; intros; omega, (Keep.refl [] w).alloc _⟩
        · go_wp2_with fail
          go_ret
          exact ⟨by rw [HRES.out]; simp; intros; omega, (Keep.refl [] w).alloc _⟩
end Go.Proofs.YtdmmhfbafinkpaaGreatDoor
