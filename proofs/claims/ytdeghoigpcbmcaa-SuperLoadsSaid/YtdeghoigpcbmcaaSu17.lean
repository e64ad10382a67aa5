/- What a slot holds: plain laws. -/
import Derived.Test.YtdeghoigpcbmcaaSu16
namespace Go.Proofs.Ytdeghoigpcbmcaa
open Go.RowKit Go.Emb Go.Emb.Ext

/-- what slot k holds -/
def SlotIs (d : DS) (k : Nat) (ox : Option Sup) : Prop :=
  openS (blkOf d k) = ox.map (fun x => ⟨83, x.gen, loadL x⟩) ∧ ∀ x, ox = some x → okS d.n x ∧ x.gen < 18446744073709551616 ∧ x.gen % 2 = k
theorem blk_put_same {d : DS} (h : d.ok) {k : Nat} (hk : k < d.n) {p : List UInt8} (hp : p.length = d.sz) (l : Int) : blkOf { d with left := l, L := putB d k p } k = p := by
  have hle := blk_le h hk
  have hL := h.2.2.2.2.1
  show ((putB d k p).drop (k * d.sz)).take d.sz = p
  unfold putB
  rw [hp, Nat.sub_self, List.replicate_zero, List.append_nil, List.append_assoc, List.drop_append_of_le_length (by rw [List.length_take]; omega), List.drop_of_length_le (by rw [List.length_take]; omega), List.nil_append, List.take_append_of_le_length (by omega), List.take_of_length_le (by omega)]
theorem blk_put_other {d : DS} (h : d.ok) {k j : Nat} (hk : k < d.n) (hj : j < d.n) (hjk : j ≠ k) {p : List UInt8} (hp : p.length ≤ d.sz) (l : Int) : blkOf { d with left := l, L := putB d k p } j = blkOf d j := by
  have hle := blk_le h hk
  have hlj := blk_le h hj
  have hL := h.2.2.2.2.1
  show ((putB d k p).drop (j * d.sz)).take d.sz = (d.L.drop (j * d.sz)).take d.sz
  have hpl := putB_len h hk hp
  apply List.ext_getElem?
  intro i
  rw [List.getElem?_take, List.getElem?_take]
  split
  · rename_i hi
    rw [List.getElem?_drop, List.getElem?_drop]
    unfold putB
    rcases Nat.lt_or_gt_of_ne hjk with hlt | hlt
    · have : (j + 1) * d.sz ≤ k * d.sz := Nat.mul_le_mul_right _ hlt
      rw [Nat.add_mul, Nat.one_mul] at this
      rw [List.append_assoc, List.append_assoc, List.getElem?_append_left (by rw [List.length_take]; omega), List.getElem?_take_of_lt (by omega)]
    · have : (k + 1) * d.sz ≤ j * d.sz := Nat.mul_le_mul_right _ hlt
      rw [Nat.add_mul, Nat.one_mul] at this
      have hlen : (d.L.take (k * d.sz) ++ p ++ List.replicate (d.sz - p.length) 0).length = k * d.sz + d.sz := by
        simp only [List.length_append, List.length_take, List.length_replicate]; omega
      rw [List.getElem?_append_right (by rw [hlen]; omega), hlen, List.getElem?_drop]
      congr 1
      omega
  · rfl
theorem sealOkS {d : DS} {x : Sup} (h : d.ok) (hg : x.gen < 18446744073709551616) (hfit : (loadL x).length ≤ roomN d.sz) : SealOk d.sz ⟨83, x.gen, loadL x⟩ :=
  ⟨by have h1 := h.2.2.1; have h2 := h.2.2.2.1; unfold roomN; rw [if_neg (by omega)]; omega, (show (83 : UInt8) ≠ 0 by decide), hfit, hg⟩
/-- behind a superblock's write -/
theorem slot_put {d : DS} {x : Sup} (h : d.ok) (h2 : 2 ≤ d.n) (hg : x.gen < 18446744073709551616) (hx : okS d.n x) (hfit : (loadL x).length ≤ roomN d.sz) (l : Int) :
    SlotIs { d with left := l, L := putB d (x.gen % 2) (sealL d.sz ⟨83, x.gen, loadL x⟩) } (x.gen % 2) (some x) ∧
    ∀ j oy, j < 2 → j ≠ x.gen % 2 → SlotIs d j oy → SlotIs { d with left := l, L := putB d (x.gen % 2) (sealL d.sz ⟨83, x.gen, loadL x⟩) } j oy := by
  have hs := sealOkS h hg hfit
  have hl := sealL_len hs
  refine ⟨⟨?_, fun y hy => ?_⟩, fun j oy hj hne hy => ⟨?_, hy.2⟩⟩
  · rw [blk_put_same h (by omega) hl, openS_sealL hs]; rfl
  · cases hy; exact ⟨hx, hg, rfl⟩
  · rw [blk_put_other h (by omega) (by omega) hne (by omega)]; exact hy.1
theorem openS_zero (n : Nat) : openS (List.replicate n 0) = none :=
  openS_none (.inr (.inr (.inl (by unfold sealKind; cases n <;> rfl))))
theorem slot_new (n sz k : Nat) (l : Int) (o : Bool) (hk : k < n) : SlotIs ⟨n, sz, List.replicate (n * sz) 0, l, o⟩ k none := by
  refine ⟨?_, fun x hx => by cases hx⟩
  show openS (((List.replicate (n * sz) 0).drop (k * sz)).take sz) = none
  rw [List.drop_replicate, List.take_replicate]
  exact openS_zero _
def bestOf : Option Sup → Option Sup → Option Sup
  | none, b => b
  | some x, none => some x
  | some x, some y => if x.gen < y.gen then some y else some x
/-- what a write of a superblock answers, and both slots behind it -/
theorem swrite_ok {d : DS} {x : Sup} (hx : okS d.n x) (hfit : (loadL x).length ≤ roomN d.sz) (h : d.ok) (h2 : 2 ≤ d.n) (hg : x.gen < 18446744073709551616) (hoff : d.off = false) (hleft : d.left ≠ 0) :
    swrite d x = (0, { d with left := if 0 < d.left then d.left - 1 else d.left, L := putB d (x.gen % 2) (sealL d.sz ⟨83, x.gen, loadL x⟩) }) := by
  unfold swrite
  rw [if_neg (not_not_intro hx), if_neg (by omega)]
  unfold writeD
  rw [if_neg (by omega), if_neg (by rw [sealL_len (sealOkS h hg hfit)]; omega), if_neg (by rw [hoff]; simp), if_neg hleft]
  rfl
end Go.Proofs.Ytdeghoigpcbmcaa
