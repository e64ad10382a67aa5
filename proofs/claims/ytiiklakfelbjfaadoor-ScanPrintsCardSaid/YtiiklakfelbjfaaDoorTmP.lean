/- Terms: the plain law (no program in sight). -/
import Derived.Test.YtiiklakfelbjfaaDoorBase2
import Derived.Lib.Bytealg
import Derived.Lib.ItoaNum
import Derived.Lib.Small
namespace Go.Emb
open Go.RowKit

/-- a term as it lies: kind, number, name, the items' slice (its value), the items -/
inductive Tm where
  | mk (kind n : Int) (name : ByteArray) (iv : Value) (items : List Tm)
namespace Tm
def kind : Tm → Int | .mk k _ _ _ _ => k
def num : Tm → Int | .mk _ n _ _ _ => n
def name : Tm → ByteArray | .mk _ _ s _ _ => s
def iv : Tm → Value | .mk _ _ _ v _ => v
def items : Tm → List Tm | .mk _ _ _ _ l => l
end Tm
mutual
def Tm.sz : Tm → Nat | .mk _ _ _ _ l => szL l + 1
def szL : List Tm → Nat | [] => 0 | x :: r => x.sz + szL r
end
theorem Tm.sz_pos (t : Tm) : 1 ≤ t.sz := by cases t; simp [Tm.sz]
theorem szL_nil : szL [] = 0 := by simp [szL]
theorem szL_cons (x : Tm) (r : List Tm) : szL (x :: r) = x.sz + szL r := by simp [szL]
theorem szL_append (l r : List Tm) : szL (l ++ r) = szL l + szL r := by
  induction l with
  | nil => simp [szL]
  | cons x l ih => simp [szL, ih, Nat.add_assoc]
theorem sz_le_of_mem {x : Tm} {l : List Tm} (h : x ∈ l) : x.sz ≤ szL l := by
  induction l with
  | nil => cases h
  | cons y l ih =>
    rw [szL_cons]
    rcases List.mem_cons.1 h with rfl | h
    · omega
    · have := ih h; omega
theorem sz_mem_lt {x t : Tm} (h : x ∈ t.items) : x.sz < t.sz := by
  cases t with
  | mk k n s v l => have := sz_le_of_mem (show x ∈ l from h); simp only [Tm.sz]; omega
theorem length_le_szL (l : List Tm) : l.length ≤ szL l := by
  induction l with
  | nil => simp
  | cons y l ih => rw [szL_cons, List.length_cons]; have := y.sz_pos; omega
theorem szL_take_succ (l : List Tm) (k : Nat) (h : k < l.length) : szL (l.take (k + 1)) = szL (l.take k) + l[k].sz := by
  rw [List.take_succ_eq_append_getElem h, szL_append, szL_cons, szL_nil]
  omega
theorem szL_take_le (l : List Tm) (k : Nat) : szL (l.take k) ≤ szL l := by
  have := szL_append (l.take k) (l.drop k)
  rw [List.take_append_drop] at this
  omega

/-! ### the order -/
def or0 (x y : Int) : Int := if x = 0 then y else x
mutual
def cmpTm : Tm → Tm → Int
  | .mk k n s _ l, .mk k' n' s' _ l' => or0 (Lib.compareInt k k') (or0 (Lib.compareInt n n') (or0 (Lib.compareBytes s.data.toList s'.data.toList) (or0 (Lib.compareInt l.length l'.length) (cmpTms l l'))))
def cmpTms : List Tm → List Tm → Int
  | [], _ => 0
  | _ :: _, [] => 0
  | x :: l, y :: l' => or0 (cmpTm x y) (cmpTms l l')
end

/-! ### what is a term -/
def HeadOk (k n : Int) (s : ByteArray) (len : Nat) : Prop :=
  (k = 1 ∧ -576460752303423488 ≤ n ∧ n ≤ 576460752303423487 ∧ s.toList = [] ∧ len = 0) ∨
  (k = 2 ∧ n = 0 ∧ ¬ s.toList = [] ∧ s.size ≤ 255 ∧ len = 0) ∨
  ((k = 3 ∨ k = 5) ∧ 0 ≤ n ∧ n ≤ 576460752303423487 ∧ s.toList = [] ∧ len = 0) ∨
  (k = 4 ∧ 0 ≤ n ∧ n ≤ 576460752303423487 ∧ s.toList = []) ∨
  (k = 6 ∧ n = 0 ∧ s.toList = []) ∨
  (k = 7 ∧ n = 0 ∧ s.toList = [] ∧ len = 0) ∨
  (k = 8 ∧ n = 0 ∧ s.toList = [] ∧ len = 2)
theorem toList_nil_iff (s : ByteArray) : s.toList = [] ↔ s.size = 0 := by
  rw [_root_.Go.ByteArray.toList_eq]
  show _ ↔ s.data.size = 0
  rw [← Array.length_toList, List.length_eq_zero_iff]
instance (k n : Int) (s : ByteArray) (len : Nat) : Decidable (HeadOk k n s len) := by unfold HeadOk; infer_instance
def headOk (k n : Int) (s : ByteArray) (len : Nat) : Bool := decide (HeadOk k n s len)
theorem headOk_1 (n : Int) (s : ByteArray) (len : Nat) : headOk 1 n s len = (decide (-576460752303423488 ≤ n) && decide (n ≤ 576460752303423487) && decide (s.size = 0) && decide (len = 0)) := by
  rw [Bool.eq_iff_iff]; simp [headOk, HeadOk, toList_nil_iff, and_assoc]
theorem headOk_2 (n : Int) (s : ByteArray) (len : Nat) : headOk 2 n s len = (decide (n = 0) && decide (s.size ≠ 0) && decide (s.size ≤ 255) && decide (len = 0)) := by
  rw [Bool.eq_iff_iff]; simp [headOk, HeadOk, toList_nil_iff, and_assoc]
theorem headOk_3 (n : Int) (s : ByteArray) (len : Nat) : headOk 3 n s len = (decide (0 ≤ n) && decide (n ≤ 576460752303423487) && decide (s.size = 0) && decide (len = 0)) := by
  rw [Bool.eq_iff_iff]; simp [headOk, HeadOk, toList_nil_iff, and_assoc]
theorem headOk_5 (n : Int) (s : ByteArray) (len : Nat) : headOk 5 n s len = (decide (0 ≤ n) && decide (n ≤ 576460752303423487) && decide (s.size = 0) && decide (len = 0)) := by
  rw [Bool.eq_iff_iff]; simp [headOk, HeadOk, toList_nil_iff, and_assoc]
theorem headOk_4 (n : Int) (s : ByteArray) (len : Nat) : headOk 4 n s len = (decide (0 ≤ n) && decide (n ≤ 576460752303423487) && decide (s.size = 0)) := by
  rw [Bool.eq_iff_iff]; simp [headOk, HeadOk, toList_nil_iff, and_assoc]
theorem headOk_6 (n : Int) (s : ByteArray) (len : Nat) : headOk 6 n s len = (decide (n = 0) && decide (s.size = 0)) := by
  rw [Bool.eq_iff_iff]; simp [headOk, HeadOk, toList_nil_iff]
theorem headOk_7 (n : Int) (s : ByteArray) (len : Nat) : headOk 7 n s len = (decide (n = 0) && decide (s.size = 0) && decide (len = 0)) := by
  rw [Bool.eq_iff_iff]; simp [headOk, HeadOk, toList_nil_iff, and_assoc]
theorem headOk_8 (n : Int) (s : ByteArray) (len : Nat) : headOk 8 n s len = (decide (n = 0) && decide (s.size = 0) && decide (len = 2)) := by
  rw [Bool.eq_iff_iff]; simp [headOk, HeadOk, toList_nil_iff, and_assoc]
theorem headOk_no {k : Int} (n : Int) (s : ByteArray) (len : Nat) (h1 : k ≠ 1) (h2 : k ≠ 2) (h3 : k ≠ 3) (h4 : k ≠ 4) (h5 : k ≠ 5) (h6 : k ≠ 6) (h7 : k ≠ 7) (h8 : k ≠ 8) : headOk k n s len = false := by
  simp [headOk, HeadOk, h1, h2, h3, h4, h5, h6, h7, h8]
theorem headOk_true {k n : Int} {s : ByteArray} {len : Nat} (h : HeadOk k n s len) : true = headOk k n s len := by simp [headOk, h]
theorem headOk_false {k n : Int} {s : ByteArray} {len : Nat} (h : ¬ HeadOk k n s len) : false = headOk k n s len := by simp [headOk, h]
theorem headOk_dec {k n : Int} {s : ByteArray} {len : Nat} {p : Bool} (h : p = true ↔ HeadOk k n s len) : p = headOk k n s len := by rw [Bool.eq_iff_iff, h]; simp [headOk]
mutual
def isTm : Tm → Bool | .mk k n s _ l => headOk k n s l.length && isTms l
def isTms : List Tm → Bool | [] => true | x :: r => isTm x && isTms r
end
theorem isTms_iff (l : List Tm) : isTms l = l.all isTm := by
  induction l with
  | nil => simp [isTms]
  | cons x l ih => simp [isTms, ih]
theorem isTms_append (l r : List Tm) : isTms (l ++ r) = (isTms l && isTms r) := by simp [isTms_iff]
theorem isTms_take_succ (l : List Tm) (k : Nat) (h : k < l.length) : isTms (l.take (k + 1)) = (isTms (l.take k) && isTm l[k]) := by
  rw [List.take_succ_eq_append_getElem h, isTms_append]; simp [isTms]
theorem isTms_take_false (l : List Tm) (k : Nat) (h : isTms (l.take k) = false) : isTms l = false := by
  have := isTms_append (l.take k) (l.drop k)
  rw [List.take_append_drop, h] at this
  simpa using this
def checkTm (l : List Tm) : Int := if szL l ≤ 4096 then (if isTms l then 0 else 70) else 6
mutual
def plainTm : Tm → Bool | .mk k _ _ _ l => plainTms l && !decide (k = 4)
def plainTms : List Tm → Bool | [] => true | x :: r => plainTm x && plainTms r
end
theorem plainTms_iff (l : List Tm) : plainTms l = l.all plainTm := by
  induction l with
  | nil => simp [plainTms]
  | cons x l ih => simp [plainTms, ih]

/-! ### as they lie in memory -/
def encTm (t : Tm) : List Value := [.int .i64 t.kind, .int .i64 t.num, .string t.name, t.iv]
def aggTm (t : Tm) : Value := .agg #[.int .i64 t.kind, .int .i64 t.num, .string t.name, t.iv]
/-- one term: its numbers, its name; its items' slice lies below B -/
def RdHead (B : Nat) (w : World) (t : Tm) : Prop :=
  (-9223372036854775808 ≤ t.num ∧ t.num ≤ 9223372036854775807) ∧ t.name.size ≤ 140737488355328 ∧ t.items.length * 48 ≤ 140737488355328 ∧
    ∃ o, Rd w 4 t.iv t.items.length (t.items.flatMap encTm) o ∧ ∀ b, o = some b → b < B
mutual
def RdTm (B : Nat) (w : World) : Tm → Prop | .mk k n s v l => RdHead B w (.mk k n s v l) ∧ RdTms B w l
def RdTms (B : Nat) (w : World) : List Tm → Prop | [] => True | x :: r => RdTm B w x ∧ RdTms B w r
end
theorem RdTms_iff {B : Nat} {w : World} (l : List Tm) : RdTms B w l ↔ ∀ x ∈ l, RdTm B w x := by
  induction l with
  | nil => simp [RdTms]
  | cons x l ih => simp [RdTms, ih]
theorem RdTm_iff {B : Nat} {w : World} (t : Tm) : RdTm B w t ↔ RdHead B w t ∧ ∀ x ∈ t.items, RdTm B w x := by
  cases t; simp only [RdTm, RdTms_iff]; rfl
theorem Rd.keepB {B k n : Nat} {w w' : World} {v : Value} {xs : List Value} {o : Option Nat} {F : List Nat} (h : Rd w k v n xs o) (hk : Keep F w w') (hF : ∀ b ∈ F, B ≤ b) (ho : ∀ b, o = some b → b < B) : Rd w' k v n xs o :=
  h.keep hk (fun b hb hf => by have := ho b hb; have := hF b hf; omega)
theorem RdHead.keep {B : Nat} {w w' : World} {F : List Nat} {t : Tm} (h : RdHead B w t) (hk : Keep F w w') (hF : ∀ b ∈ F, B ≤ b) : RdHead B w' t := by
  obtain ⟨h1, h2, h3, o, h4, h5⟩ := h
  exact ⟨h1, h2, h3, o, h4.keepB hk hF h5, h5⟩
theorem RdTm.keepN {B : Nat} {w w' : World} {F : List Nat} (hk : Keep F w w') (hF : ∀ b ∈ F, B ≤ b) : ∀ (n : Nat) (t : Tm), t.sz ≤ n → RdTm B w t → RdTm B w' t
  | 0, t, hn, _ => by have := t.sz_pos; omega
  | n + 1, t, hn, h => by
    rw [RdTm_iff] at h ⊢
    exact ⟨h.1.keep hk hF, fun x hx => RdTm.keepN hk hF n x (by have := sz_mem_lt hx; omega) (h.2 x hx)⟩
theorem RdTm.keep {B : Nat} {w w' : World} {F : List Nat} {t : Tm} (h : RdTm B w t) (hk : Keep F w w') (hF : ∀ b ∈ F, B ≤ b) : RdTm B w' t := RdTm.keepN hk hF t.sz t (Nat.le_refl _) h
theorem RdTm.keep0 {B : Nat} {w w' : World} {t : Tm} (h : RdTm B w t) (hk : Keep [] w w') : RdTm B w' t := h.keep hk (by simp)
theorem RdTms.keep {B : Nat} {w w' : World} {F : List Nat} {l : List Tm} (h : RdTms B w l) (hk : Keep F w w') (hF : ∀ b ∈ F, B ≤ b) : RdTms B w' l := by
  rw [RdTms_iff] at h ⊢
  exact fun x hx => (h x hx).keep hk hF
theorem RdHead.up {B C : Nat} {w : World} {t : Tm} (h : RdHead B w t) (hB : B ≤ C) : RdHead C w t := by
  obtain ⟨h1, h2, h3, o, h4, h5⟩ := h
  exact ⟨h1, h2, h3, o, h4, fun b hb => Nat.lt_of_lt_of_le (h5 b hb) hB⟩
theorem RdTm.upN {B C : Nat} {w : World} (hB : B ≤ C) : ∀ (n : Nat) (t : Tm), t.sz ≤ n → RdTm B w t → RdTm C w t
  | 0, t, hn, _ => by have := t.sz_pos; omega
  | n + 1, t, hn, h => by
    rw [RdTm_iff] at h ⊢
    exact ⟨h.1.up hB, fun x hx => RdTm.upN hB n x (by have := sz_mem_lt hx; omega) (h.2 x hx)⟩
theorem RdTm.up {B C : Nat} {w : World} {t : Tm} (h : RdTm B w t) (hB : B ≤ C) : RdTm C w t := RdTm.upN hB t.sz t (Nat.le_refl _) h

theorem flat4_len (l : List Tm) : (l.flatMap encTm).length = l.length * 4 := by
  induction l with
  | nil => rfl
  | cons x l ih => rw [List.flatMap_cons, List.length_append, ih, List.length_cons]; simp [encTm]; omega
theorem flat4_get (l : List Tm) (k : Nat) (h : k < l.length) : (l.flatMap encTm)[k * 4]? = some (.int .i64 l[k].kind) ∧ (l.flatMap encTm)[k * 4 + 1]? = some (.int .i64 l[k].num) ∧ (l.flatMap encTm)[k * 4 + 2]? = some (.string l[k].name) ∧ (l.flatMap encTm)[k * 4 + 3]? = some l[k].iv := by
  induction l generalizing k with
  | nil => simp at h
  | cons x l ih =>
    cases k with
    | zero => simp [List.flatMap_cons, encTm]
    | succ k =>
      have := ih k (by simpa using h)
      have e : (k + 1) * 4 = k * 4 + 4 := by omega
      rw [List.flatMap_cons]
      have hl : (encTm x).length = 4 := rfl
      simp only [List.getElem_cons_succ, e]
      rw [List.getElem?_append_right (by omega), List.getElem?_append_right (by omega), List.getElem?_append_right (by omega), List.getElem?_append_right (by omega), hl]
      simpa [show k * 4 + 4 - 4 = k * 4 by omega, show k * 4 + 4 + 1 - 4 = k * 4 + 1 by omega, show k * 4 + 4 + 2 - 4 = k * 4 + 2 by omega, show k * 4 + 4 + 3 - 4 = k * 4 + 3 by omega] using this
/-- a slice of terms that is read: its k-th element's cells -/
theorem Rd.at4 {w : World} {a : Option Addr} {n c : Nat} {l : List Tm} {o : Option Nat} (h : Rd w 4 (.slice a n c) l.length (l.flatMap encTm) o) {k : Nat} (hk : k < l.length) :
    ∃ b off, a = some ⟨b, off, none⟩ ∧ o = some b ∧ w.cell? ⟨b, off + k * 4, none⟩ = some (.int .i64 l[k].kind) ∧ w.cell? ⟨b, off + k * 4 + 1, none⟩ = some (.int .i64 l[k].num) ∧ w.cell? ⟨b, off + k * 4 + 2, none⟩ = some (.string l[k].name) ∧ w.cell? ⟨b, off + k * 4 + 3, none⟩ = some l[k].iv := by
  obtain ⟨_, a', c', hv, _, _, h3⟩ := h
  cases hv
  rcases h3 with ⟨h3, _⟩ | ⟨b, off, rfl, rfl, h3⟩
  · omega
  · obtain ⟨g0, g1, g2, g3⟩ := flat4_get l k hk
    exact ⟨b, off, rfl, rfl, (h3 (k * 4) (by omega)).trans g0, (h3 (k * 4 + 1) (by omega)).trans g1, (h3 (k * 4 + 2) (by omega)).trans g2, (h3 (k * 4 + 3) (by omega)).trans g3⟩
theorem Rd.form {w : World} {k n : Nat} {v : Value} {xs : List Value} {o : Option Nat} (h : Rd w k v n xs o) : ∃ a c, v = .slice a n c ∧ n ≤ c ∧ c ≤ maxLen := by
  obtain ⟨_, a, c, rfl, h1, h2, _⟩ := h
  exact ⟨a, c, rfl, h1, h2⟩
theorem box4 {w wr : World} {x0 x1 x2 x3 : Value} {t : TypeId} (h : Keep [] (w.alloc (.cells #[x0, x1, x2, x3] t)) wr) :
    wr.cell? ⟨w.heap.size, 0, none⟩ = some x0 ∧ wr.cell? ⟨w.heap.size, 1, none⟩ = some x1 ∧ wr.cell? ⟨w.heap.size, 2, none⟩ = some x2 ∧ wr.cell? ⟨w.heap.size, 3, none⟩ = some x3 := by
  have hb : wr.heap[w.heap.size]? = some (.cells #[x0, x1, x2, x3] t) := (h.block _ (by simp) (by simp)).trans (heap_alloc_new w _)
  refine ⟨?_, ?_, ?_, ?_⟩ <;> simp [World.cell?, hb]
theorem Keep.cellOf {F : List Nat} {w w' : World} (h : Keep F w w') {p : Addr} {v : Value} (hc : w.cell? p = some v) (hn : p.block ∉ F := by simp) : w'.cell? p = some v := by
  rw [h.cell (World.block_lt_of_cell? _ _ hc) hn]; exact hc

/-- a slice of terms that is read -/
def HasT (B : Nat) (w : World) (v : Value) (l : List Tm) : Prop := (∃ o, Rd w 4 v l.length (l.flatMap encTm) o ∧ ∀ b, o = some b → b < B) ∧ l.length * 48 ≤ 140737488355328 ∧ RdTms B w l
theorem HasT.keep {B : Nat} {w w' : World} {v : Value} {l : List Tm} {F : List Nat} (h : HasT B w v l) (hk : Keep F w w') (hF : ∀ b ∈ F, B ≤ b) : HasT B w' v l := by
  obtain ⟨⟨o, h1, h2⟩, h3, h4⟩ := h
  exact ⟨⟨o, h1.keepB hk hF h2, h2⟩, h3, h4.keep hk hF⟩
theorem HasT.keep0 {B : Nat} {w w' : World} {v : Value} {l : List Tm} (h : HasT B w v l) (hk : Keep [] w w') : HasT B w' v l := h.keep hk (by simp)
theorem HasT.form {B : Nat} {w : World} {v : Value} {l : List Tm} (h : HasT B w v l) : ∃ a c, v = .slice a l.length c ∧ l.length ≤ c ∧ c ≤ maxLen := by
  obtain ⟨⟨o, h1, h2⟩, h3, h4⟩ := h
  exact h1.form
theorem HasT.at {B : Nat} {w wr : World} {a : Option Addr} {n c : Nat} {l : List Tm} (h : HasT B w (.slice a n c) l) (hk : Keep [] w wr) {k : Nat} (hlt : k < l.length) :
    ∃ b off, a = some ⟨b, off, none⟩ ∧ wr.cell? ⟨b, off + k * 4, none⟩ = some (.int .i64 l[k].kind) ∧ wr.cell? ⟨b, off + k * 4 + 1, none⟩ = some (.int .i64 l[k].num) ∧ wr.cell? ⟨b, off + k * 4 + 2, none⟩ = some (.string l[k].name) ∧ wr.cell? ⟨b, off + k * 4 + 3, none⟩ = some l[k].iv ∧ RdTm B wr l[k] := by
  obtain ⟨⟨o, h1, h2⟩, h3, h4⟩ := h
  obtain ⟨b, off, rfl, rfl, g0, g1, g2, g3⟩ := h1.at4 hlt
  exact ⟨b, off, rfl, hk.cellOf g0, hk.cellOf g1, hk.cellOf g2, hk.cellOf g3, ((RdTms_iff l).1 h4 _ (List.getElem_mem hlt)).keep0 hk⟩
theorem RdTm.has {B : Nat} {w : World} {t : Tm} (h : RdTm B w t) : HasT B w t.iv t.items := by
  obtain ⟨⟨-, -, h3, o, h4, h5⟩, h6⟩ := (RdTm_iff t).1 h
  exact ⟨⟨o, h4, h5⟩, h3, (RdTms_iff _).2 h6⟩

end Go.Emb
