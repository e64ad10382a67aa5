import Derived.Test.YtdmmhfbafinkpaaGreatDoorPb6
/- ParseBack: parse/text.go: Text: leaves. -/
namespace Go.Proofs.YtdmmhfbafinkpaaGreatDoor
open Go.RowKit Go.Emb

set_option maxRecDepth 100000 in
set_option maxHeartbeats 4000000 in
theorem tx_leaf {B : Nat} {k n : Int} {x : List UInt8} (h : TokOk ⟨k, n, x, 0⟩) (h3 : k ≤ 3) : TxT B (.mk k n x [] [] []) [.t k n x] := by
  intro w S cs ht hnd
  obtain ⟨kd, nu, at1, nm, a0, b0, c0, va, vb, vc, rfl, hn, h1, h2, h4⟩ := id hnd.un7
  injection hn with e1 e2 e3 e4 e5 e6
  subst e1 e2 e3 e4 e5 e6
  obtain ⟨p1, c1, rfl⟩ := h1.form
  obtain ⟨p2, c2, rfl⟩ := h2.form
  obtain ⟨p3, c3, rfl⟩ := h4.form
  have hk5 := (Keep.refl [] w).alloc (.cells #[.int .i64 k, .int .i64 n, .string ⟨x.toArray⟩, .int .i64 at1, .slice p1 0 c1, .slice p2 0 c2, .slice p3 0 c3] 29)
  have hb5 := heap_alloc_new w (.cells #[.int .i64 k, .int .i64 n, .string ⟨x.toArray⟩, .int .i64 at1, .slice p1 0 c1, .slice p2 0 c2, .slice p3 0 c3] 29)
  obtain ⟨d0, d1, d2, d3, d4, d5, d6⟩ := cells7 hb5
  have HT5 := Lib.hid (ht.keep0 hk5)
  have HK5 := Lib.hid hk5
  have hsz : (flat [It.t k n x]) = (It.t k n x).text := by rw [flat_cons, flat_nil, List.append_nil]
  rw [hsz]
  clear hsz hb5 hk5 hnd h1 h2 h4 ht
  rcases h with ⟨h, -, m, hm, hm2⟩ | ⟨-, ⟨h, l1, l2⟩ | ⟨h, -⟩ | ⟨h, -⟩ | ⟨h, -⟩⟩
  · simp only at h hm
    subst h hm
    have hfm := fmt_any HT5.out (m : Int) (by omega) (by omega)
    have HFM := Lib.hid hfm
    clear hfm
    go_enter Tryz.func10, Tryz.ntmps10
    go_wp2_with fail
    refine HFM.out.mono ?_
    rintro e w6 ⟨rfl, hk6⟩
    have HK6 := Lib.hid (HK5.out.trans hk6 (by simp))
    clear hk6
    go_wp2_with fail
    go_ret
    exact ⟨⟨_, rfl, by simp [It.text]⟩, HK6.out⟩
  · simp only at h l2
    subst h
    have HPA := Lib.hid (fun W (k : Keep [] (w.alloc (.cells #[.int .i64 2, .int .i64 n, .string ⟨x.toArray⟩, .int .i64 at1, .slice p1 0 c1, .slice p2 0 c2, .slice p3 0 c3] 29)) W) => p_printA (w := W) ⟨x.toArray⟩ (HT5.out.keep0 k) (by show x.toArray.size ≤ 100000; rw [List.size_toArray]; omega))
    go_enter Tryz.func10, Tryz.ntmps10
    go_wp2_with fail
    refine (p_atom _ _).mono ?_
    rintro e w6 ⟨rfl, hk6⟩
    have HK6 := Lib.hid hk6
    clear hk6
    go_wp2_with fail
    refine (HPA.out _ HK6.out).mono ?_
    rintro e w7 ⟨rfl, hk7⟩
    have HK7 := Lib.hid ((HK5.out.trans HK6.out (by simp)).trans hk7 (by simp))
    clear hk7
    go_wp2_with fail
    go_ret
    exact ⟨⟨_, rfl, by simp [It.text]⟩, HK7.out⟩
  · simp only at h
    subst h
    go_enter Tryz.func10, Tryz.ntmps10
    go_wp2_with fail
    go_ret
    exact ⟨⟨_, rfl, by simp [It.text]⟩, HK5.out⟩
  · simp only at h; omega
  · simp only at h; omega
end Go.Proofs.YtdmmhfbafinkpaaGreatDoor

/- ParseBack: parse/text.go: Text: tuples. -/
namespace Go.Proofs.YtdmmhfbafinkpaaGreatDoor
open Go.RowKit Go.Emb

set_option maxRecDepth 100000 in
set_option maxHeartbeats 4000000 in
theorem tx_tuple {B : Nat} {l : List Nd} {ls : List (List It)} (hl : TL B l ls) (hlen : (flat (sepI comma ls)).length ≤ 140737488354000) : TxT B (.mk 4 0 [] l [] []) (sg 123 :: sepI comma ls ++ [sg 125]) := by
  intro w S cs ht hnd
  obtain ⟨kd, nu, at1, nm, a0, b0, c0, va, vb, vc, rfl, hn, h1, h2, h4⟩ := id hnd.un7
  injection hn with e1 e2 e3 e4 e5 e6
  subst e1 e2 e3 e4 e5 e6
  obtain ⟨p1, c1, rfl⟩ := h1.form
  obtain ⟨p2, c2, rfl⟩ := h2.form
  obtain ⟨p3, c3, rfl⟩ := h4.form
  have hk5 := (Keep.refl [] w).alloc (.cells #[.int .i64 4, .int .i64 0, .string ⟨#[]⟩, .int .i64 at1, .slice p1 l.length c1, .slice p2 0 c2, .slice p3 0 c3] 29)
  have hb5 := heap_alloc_new w (.cells #[.int .i64 4, .int .i64 0, .string ⟨#[]⟩, .int .i64 at1, .slice p1 l.length c1, .slice p2 0 c2, .slice p3 0 c3] 29)
  obtain ⟨d0, d1, d2, d3, d4, d5, d6⟩ := cells7 hb5
  have hc := p_texts (s := comma) (sep := ⟨#[44]⟩) (ht.keep0 hk5) (h1.keep hk5 (by simp)) hl.1 hl.2.2 rfl (by omega) hl.2.1
  have HC := Lib.hid hc
  have HK5 := Lib.hid hk5
  have HLEN := Lib.hid hlen
  clear hb5 hk5 hnd h1 h2 h4 ht hc hlen hl
  go_enter Tryz.func10, Tryz.ntmps10
  go_wp2_with fail
  refine HC.out.mono ?_
  rintro e w6 ⟨⟨X, rfl, hX⟩, hk6⟩
  have hxs : X.size ≤ 140737488354000 := by rw [size_list X, hX]; exact HLEN.out
  have HK6 := Lib.hid (And.intro hX (HK5.out.trans hk6 (by simp)))
  clear hX hk6
  go_wp2_with fail
  go_ret
  exact ⟨⟨_, rfl, by simp [HK6.out.1, flat_cons, flat_app, flat_nil, It.text]⟩, HK6.out.2⟩
end Go.Proofs.YtdmmhfbafinkpaaGreatDoor

/- ParseBack: what the walk of Text wants of a tree's pieces: sizes, and the claims of the induction. -/
namespace Go.Proofs.YtdmmhfbafinkpaaGreatDoor
open Go.RowKit Go.Emb

/-- pieces that are not too many -/
def Sm (x : List It) : Prop := x.length ≤ 900000 ∧ (flat x).length ≤ 140737488353000
theorem flat_sub {x y : List It} (h : x.Sublist y) : (flat x).length ≤ (flat y).length := by
  induction h with
  | slnil => exact Nat.le_refl _
  | cons a _ ih => rw [flat_cons, List.length_append]; omega
  | cons_cons a _ ih => rw [flat_cons, flat_cons, List.length_append, List.length_append]; omega
theorem Sm.sub {x y : List It} (hy : Sm y) (h : x.Sublist y) : Sm x := ⟨Nat.le_trans h.length_le hy.1, Nat.le_trans (flat_sub h) hy.2⟩
theorem Sm.inf {x y : List It} (hy : Sm y) (p q : List It) (e : p ++ x ++ q = y) : Sm x := hy.sub (List.IsInfix.sublist ⟨p, q, e⟩)
theorem sep_sub (s : List It) : ∀ (ls : List (List It)) (i : Nat) (h : i < ls.length), (ls[i]).Sublist (sepI s ls)
  | [x], 0, _ => List.Sublist.refl _
  | x :: y :: r, 0, _ => List.IsInfix.sublist ⟨[], s ++ sepI s (y :: r), by rw [sep_cons]; simp⟩
  | x :: y :: r, i + 1, h => by
    rw [sep_cons]
    exact (sep_sub s (y :: r) i (by simpa using h)).trans (List.sublist_append_right _ _)
theorem sep_many (s : List It) : ∀ (ls : List (List It)), (∀ i (h : i < ls.length), ls[i] ≠ []) → ls.length ≤ (sepI s ls).length
  | [], _ => Nat.le_refl _
  | [x], h => by
    have := List.length_pos_iff.2 (h 0 (by simp))
    show 1 ≤ x.length
    exact this
  | x :: y :: r, h => by
    have h1 := List.length_pos_iff.2 (h 0 (by simp))
    have h2 := sep_many s (y :: r) (fun i hi => h (i + 1) (by simp at hi ⊢; omega))
    rw [sep_cons]
    simp only [List.length_append, List.length_cons, List.getElem_cons_zero] at *
    omega
theorem Pr.ne {k : Nat} {n : Nd} {x : List It} (h : Pr k n x) : x ≠ [] := by
  cases h <;> simp [tailI]
theorem pl_ne {k : Nat} {l : List Nd} {ls : List (List It)} (hl : ls.length = l.length) (h : ∀ i (h : i < l.length) (h' : i < ls.length), Pr k l[i] ls[i]) : ∀ i (h : i < ls.length), ls[i] ≠ [] :=
  fun i hi => (h i (by omega) hi).ne
theorem tl_of {B : Nat} {s : List It} {l : List Nd} {ls : List (List It)} (hl : ls.length = l.length) (h : ∀ i (h : i < l.length) (h' : i < ls.length), Pr 0 l[i] ls[i]) (ih : ∀ i (h : i < l.length) (h' : i < ls.length), Sm ls[i] → TxT B l[i] ls[i])
    (hs : Sm (sepI s ls)) : TL B l ls :=
  ⟨hl, by have := sep_many s ls (pl_ne hl h); have := hs.1; omega, fun i hi hi' => ih i hi hi' (hs.sub (sep_sub s ls i hi'))⟩
/-- the claim of the induction -/
def QT (B : Nat) (k : Nat) (n : Nd) (x : List It) : Prop :=
  (k = 0 → TxT B n x) ∧ (k = 1 → ∃ nm ps gs bs, ClT B n nm ps gs bs ∧ x = sepI comma ps ++ tailI gs bs) ∧
  (k = 2 → ∃ ps gs bs, ClT B n [] ps gs bs ∧ x = sg 40 :: sepI comma ps ++ sg 41 :: tailI gs bs) ∧
  (k = 3 → ∃ nm ps gs bs, ClT B n nm ps gs bs ∧ nm ≠ [] ∧ nm.length ≤ 255 ∧ x = .t 2 0 nm :: sg 40 :: sepI comma ps ++ sg 41 :: tailI gs bs) ∧
  (k = 4 → ∃ l ls t y tl, n = consL l t ∧ TL B l ls ∧ l.length ≤ x.length ∧ t.kind ≠ 6 ∧ tl = (if t.kind = 5 then [] else 124 :: flat y) ∧ (t.kind = 5 → y = []) ∧ (t.kind ≠ 5 → TxT B t y) ∧ flat x = Lib.joinTail [44] (ls.map flat) ++ tl ++ [93])
theorem QT.tree {B : Nat} {n : Nd} {x : List It} (h : TxT B n x) : QT B 0 n x := ⟨fun _ => h, fun h => (nomatch h), fun h => (nomatch h), fun h => (nomatch h), fun h => (nomatch h)⟩
theorem QT.arm {B : Nat} {n : Nd} {x : List It} (h : ∃ nm ps gs bs, ClT B n nm ps gs bs ∧ x = sepI comma ps ++ tailI gs bs) : QT B 1 n x := ⟨fun h => (nomatch h), fun _ => h, fun h => (nomatch h), fun h => (nomatch h), fun h => (nomatch h)⟩
theorem QT.hd {B : Nat} {n : Nd} {x : List It} (h : ∃ ps gs bs, ClT B n [] ps gs bs ∧ x = sg 40 :: sepI comma ps ++ sg 41 :: tailI gs bs) : QT B 2 n x := ⟨fun h => (nomatch h), fun h => (nomatch h), fun _ => h, fun h => (nomatch h), fun h => (nomatch h)⟩
theorem QT.fhd {B : Nat} {n : Nd} {x : List It} (h : ∃ nm ps gs bs, ClT B n nm ps gs bs ∧ nm ≠ [] ∧ nm.length ≤ 255 ∧ x = .t 2 0 nm :: sg 40 :: sepI comma ps ++ sg 41 :: tailI gs bs) : QT B 3 n x := ⟨fun h => (nomatch h), fun h => (nomatch h), fun h => (nomatch h), fun _ => h, fun h => (nomatch h)⟩
theorem QT.rst {B : Nat} {n : Nd} {x : List It} (h : ∃ l ls t y tl, n = consL l t ∧ TL B l ls ∧ l.length ≤ x.length ∧ t.kind ≠ 6 ∧ tl = (if t.kind = 5 then [] else 124 :: flat y) ∧ (t.kind = 5 → y = []) ∧ (t.kind ≠ 5 → TxT B t y) ∧ flat x = Lib.joinTail [44] (ls.map flat) ++ tl ++ [93]) : QT B 4 n x := ⟨fun h => (nomatch h), fun h => (nomatch h), fun h => (nomatch h), fun h => (nomatch h), fun _ => h⟩
end Go.Proofs.YtdmmhfbafinkpaaGreatDoor
