/- ParsePrints: a part of the proof (ScP, PaP, PaQ, PaL, PaM, PaN, PaE, Base, Base2, PaH, Pa1, Pa2, PaB), squeezed by squeeze.py. -/
import Derived.Lib.ItoaNum
import Derived.WalkKit
import Derived.Outline
import Derived.Below
import Derived.Lib.Hide
import Derived.Maps.OwnSet
import Derived.Deep.Draws
import Derived.Deep.AppendSrc
import Derived.Test.YtdmmhfbafinkpaaGreatDoorProg
set_option maxRecDepth 100000
set_option maxHeartbeats 8000000
namespace Go.Emb
def smallB (c : UInt8) : Bool := decide (97 ≤ c.toNat) && decide (c.toNat ≤ 122)
def greatB (c : UInt8) : Bool := (decide (65 ≤ c.toNat) && decide (c.toNat ≤ 90)) || decide (c.toNat = 95)
def digitB (c : UInt8) : Bool := decide (48 ≤ c.toNat) && decide (c.toNat ≤ 57)
def moreB (c : UInt8) : Bool := smallB c || greatB c || digitB c || decide (c.toNat = 64)
def blankB (c : UInt8) : Bool := decide (c.toNat = 32) || decide (c.toNat = 9) || decide (c.toNat = 10) || decide (c.toNat = 13)
def hexB (c : UInt8) : Bool := digitB c || (decide (97 ≤ c.toNat) && decide (c.toNat ≤ 102))
def hexV (c : UInt8) : Nat := if c.toNat ≤ 57 then c.toNat - 48 else c.toNat - 87
def numD (l : List UInt8) : Nat := l.foldl (fun a c => a * 10 + (c.toNat - 48)) 0
abbrev wordsS : List (List UInt8) := [[97, 102, 116, 101, 114], [97, 110, 100], [99, 97, 115, 101], [99, 97, 116, 99, 104], [100, 105, 118], [101, 110, 100], [102, 117, 110], [110, 111, 116], [111, 102], [111, 114], [114, 101, 99, 101, 105, 118, 101], [114, 101, 109], [116, 114, 121], [119, 104, 101, 110]]
def escN : List UInt8 → Option (UInt8 × Nat)
 | _ :: c :: r => if c.toNat = 39 ∨ c.toNat = 92 then some (c, 2) else if c.toNat = 120 then
   match r with
   | a :: b :: _ => if hexB a && hexB b then some (UInt8.ofNat (16 * hexV a + hexV b), 4) else none
   | _ => none
  else none
 | _ => none
theorem escN_pos {l : List UInt8} {x : UInt8} {k : Nat} (h : escN l = some (x, k)) : 2 ≤ k ∧ k ≤ l.length := by
 unfold escN at h
 split at h
 ·split at h
  ·cases h; simp
  ·split at h
   ·split at h
    ·split at h
     ·cases h; simp
     ·cases h
    ·cases h
   ·cases h
 ·cases h
def quoL (l : List UInt8) (i : Nat) (b : List UInt8) : Except Nat (List UInt8 × Nat) :=
 match h : l with
 | [] => .error 0
 | c :: r =>
  if c.toNat = 39 then (if b.length = 0 ∨ 255 < b.length then .error 0 else .ok (b, i + 1))
  else if c.toNat = 92 then
   match he : escN l with
   | none => .error i
   | some (x, k) => quoL (l.drop k) (i + k) (b ++ [x])
  else if c.toNat < 32 ∨ 126 < c.toNat then .error i
  else quoL r (i + 1) (b ++ [c])
termination_by l.length
decreasing_by
 ·have := escN_pos he; subst h; simp at this ⊢; omega
 ·subst h; simp
def sign2 (c d : UInt8) : Bool := (c == 45 && d == 62) || (c == 61 && d == 61) || (c == 47 && d == 61) || (c == 61 && d == 60) || (c == 62 && d == 61)
abbrev signsL : List UInt8 := [40, 41, 91, 93, 123, 125, 44, 59, 46, 124, 33, 43, 45, 42, 60, 62, 61]
def signN : List UInt8 → Nat
 | [] => 0
 | [c] => if signsL.contains c then 1 else 0
 | c :: d :: _ => if sign2 c d then 2 else if signsL.contains c then 1 else 0
structure Tk where
 kind : Int
 num : Int
 text : List UInt8
 en : Nat
deriving DecidableEq
def tokL (l : List UInt8) : Except (Int × Nat) Tk :=
 match l with
 | [] => .error (100, 0)
 | c :: r =>
  if digitB c then
   (if numD (l.takeWhile digitB) ≤ 576460752303423487 then .ok ⟨1, numD (l.takeWhile digitB), [], (l.takeWhile digitB).length⟩ else .error (101, 0))
  else if smallB c || greatB c then
   (if 255 < (l.takeWhile moreB).length then .error (100, 0)
    else .ok ⟨if greatB c then 3 else if wordsS.contains (l.takeWhile moreB) then 4 else 2, 0, l.takeWhile moreB, (l.takeWhile moreB).length⟩)
  else if c.toNat = 39 then
   match quoL r 1 [] with
   | .error a => .error (100, a)
   | .ok (b, n) => .ok ⟨2, 0, b, n⟩
  else if signN l = 0 then .error (100, 0)
  else .ok ⟨5, 0, l.take (signN l), signN l⟩
theorem tw_le (p : UInt8 → Bool) (l : List UInt8) : (l.takeWhile p).length ≤ l.length := List.Sublist.length_le (List.takeWhile_sublist p)
theorem tw_pos {p : UInt8 → Bool} {c : UInt8} (r : List UInt8) (h : p c = true) : 1 ≤ ((c :: r).takeWhile p).length := by
 simp [h]
theorem quoL_nil (i : Nat) (b : List UInt8) : quoL [] i b = .error 0 := by rw [quoL.eq_def]
theorem quoL_cons (c : UInt8) (r : List UInt8) (i : Nat) (b : List UInt8) : quoL (c :: r) i b =
  if c.toNat = 39 then (if b.length = 0 ∨ 255 < b.length then .error 0 else .ok (b, i + 1))
  else if c.toNat = 92 then (match escN (c :: r) with | none => .error i | some p => quoL ((c :: r).drop p.2) (i + p.2) (b ++ [p.1]))
  else if c.toNat < 32 ∨ 126 < c.toNat then .error i else quoL r (i + 1) (b ++ [c]) := by
 rw [quoL.eq_def]; simp only
 split
 ·rfl
 ·split
  ·split <;> rename_i he <;> simp only [he]
  ·rfl
theorem quoL_bd : ∀ (n : Nat) (l : List UInt8), l.length ≤ n → ∀ (i : Nat) (b : List UInt8) (b' : List UInt8) (m : Nat), quoL l i b = .ok (b', m) → i + 1 ≤ m ∧ m ≤ i + l.length ∧ b'.length ≤ 255 ∧ 1 ≤ b'.length := by
 intro n
 induction n with
 | zero =>
  intro l hl i b b' m h; have : l = [] := List.length_eq_zero_iff.1 (by omega); subst this; rw [quoL_nil] at h; cases h
 | succ n ih =>
  intro l hl i b b' m h
  cases l with
  | nil => rw [quoL_nil] at h; cases h
  | cons c r =>
   rw [quoL_cons] at h
   split at h
   ·split at h
    ·cases h
    ·cases h; simp; omega
   ·split at h
    ·split at h
     ·cases h
     ·rename_i p he; have hk := escN_pos (x := p.1) (k := p.2) he; have := ih _ (by simp at hl ⊢; omega) _ _ _ _ h; simp at this hk ⊢
      omega
    ·split at h
     ·cases h
     ·have := ih _ (by simp at hl; omega) _ _ _ _ h; simp
      omega
theorem signN_le (l : List UInt8) : signN l ≤ l.length := by
 unfold signN
 split
 ·simp
 ·split <;> simp
 ·split
  ·simp
  ·split <;> simp
theorem tokL_en {l : List UInt8} {t : Tk} (h : tokL l = .ok t) : 1 ≤ t.en ∧ t.en ≤ l.length := by
 unfold tokL at h
 split at h
 ·cases h
 ·rename_i c r
  split at h
  ·rename_i hd
   split at h
   ·cases h; exact ⟨tw_pos r hd, tw_le _ _⟩
   ·cases h
  ·split at h
   ·rename_i hd
    split at h
    ·cases h
    ·cases h
     exact ⟨tw_pos r (by unfold moreB; simp at hd; rcases hd with hd | hd <;> simp [hd]), tw_le _ _⟩
   ·split at h
    ·split at h
     ·cases h
     ·rename_i b n hq
      cases h
      have := quoL_bd _ r (Nat.le_refl _) _ _ _ _ hq; simp; omega
    ·split at h
     ·cases h
     ·cases h
      have := signN_le (c :: r)
      constructor
      ·simp; omega
      ·exact this
def scanL (l : List UInt8) (a : Nat) : Except (Int × Nat) (List (Tk × Nat)) :=
 match h : l with
 | [] => .ok []
 | c :: r =>
  if blankB c then scanL r (a + 1)
  else if c.toNat = 37 then scanL (r.dropWhile (fun x => decide (x.toNat ≠ 10))) (a + 1 + (r.takeWhile (fun x => decide (x.toNat ≠ 10))).length)
  else match ht : tokL l with
   | .error (e, f) => .error (e, a + f)
   | .ok t => match scanL (l.drop t.en) (a + t.en) with
    | .error x => .error x
    | .ok ts => .ok ((t, a) :: ts)
termination_by l.length
decreasing_by
 ·subst h; simp
 ·subst h; have := List.Sublist.length_le (List.dropWhile_sublist (l := r) (fun x => decide (x.toNat ≠ 10))); simp at this ⊢; omega
 ·have := tokL_en ht; subst h; simp at this ⊢; omega
theorem scanL_nil (a : Nat) : scanL [] a = .ok [] := by rw [scanL.eq_def]
theorem scanL_blank {c : UInt8} (r : List UInt8) (a : Nat) (h : blankB c = true) : scanL (c :: r) a = scanL r (a + 1) := by
 rw [scanL.eq_def]; simp only; rw [if_pos h]
theorem scanL_note {c : UInt8} (r : List UInt8) (a : Nat) (h0 : blankB c = false) (h : c.toNat = 37) : scanL (c :: r) a = scanL (r.dropWhile (fun x => decide (x.toNat ≠ 10))) (a + 1 + (r.takeWhile (fun x => decide (x.toNat ≠ 10))).length) := by
 rw [scanL.eq_def]; simp only; rw [if_neg (by simp [h0]), if_pos h]
theorem scanL_tok {c : UInt8} (r : List UInt8) (a : Nat) (h0 : blankB c = false) (h : c.toNat ≠ 37) : scanL (c :: r) a =
  (match tokL (c :: r) with | .error p => .error (p.1, a + p.2) | .ok t => (match scanL ((c :: r).drop t.en) (a + t.en) with | .error x => .error x | .ok ts => .ok ((t, a) :: ts))) := by
 rw [scanL.eq_def]; simp only; rw [if_neg (by simp [h0]), if_neg h]
 split <;> rename_i he <;> simp only [he]
def After (v v' : List UInt8) : Prop := v' = [] ∧ v = [] ∨ (∃ c r r', v = c :: r ∧ v' = c :: r') ∨ ∃ c r', v' = c :: r' ∧ blankB c = true
theorem After.tw {p : UInt8 → Bool} {u v v' : List UInt8} (h : After v v') (hb : ∀ c, blankB c = true → p c = false) (hu : (u ++ v).takeWhile p = u) : (u ++ v').takeWhile p = u := by
 have hall : ∀ x ∈ u, p x = true := fun x hx => by rw [← hu] at hx; exact List.all_eq_true.1 (List.all_takeWhile (l := u ++ v) (p := p)) x hx
 have hno : v.takeWhile p = [] := by
  have h2 := List.takeWhile_append_of_pos (l₂ := v) hall; rw [hu] at h2; exact List.append_cancel_left (by rw [← h2]; simp)
 rw [List.takeWhile_append_of_pos hall]; rcases h with ⟨rfl, rfl⟩ | ⟨c, r, r', rfl, rfl⟩ | ⟨c, r', rfl, hc⟩
 ·simp
 ·by_cases hp : p c = true
  ·rw [List.takeWhile_cons_of_pos hp] at hno; cases hno
  ·rw [List.takeWhile_cons_of_neg hp]; simp
 ·rw [List.takeWhile_cons_of_neg (by simp [hb c hc])]; simp
theorem blank_digit (c : UInt8) (h : blankB c = true) : digitB c = false := by
 unfold blankB at h; unfold digitB; simp at h ⊢; omega
theorem blank_more (c : UInt8) (h : blankB c = true) : moreB c = false := by
 unfold blankB at h; unfold moreB smallB greatB digitB; simp at h ⊢; omega
theorem escN_app {u v v' : List UInt8} {x : UInt8} {k : Nat} (h : escN (u ++ v) = some (x, k)) (hk : k ≤ u.length) : escN (u ++ v') = some (x, k) := by
 match u, hk, h with
 | [], hk, h => have := escN_pos h; simp at hk; omega
 | [a], hk, h => have := escN_pos h; simp at hk; omega
 | a :: c :: r, hk, h =>
  simp only [List.cons_append, escN] at h ⊢
  split at h
  ·rename_i h1; rw [if_pos h1]; exact h
  ·rename_i h1; rw [if_neg h1]
   split at h
   ·rename_i h2; rw [if_pos h2]
    match r, hk, h with
    | [], hk, h =>
     exfalso
     split at h
     ·split at h
      ·cases h; simp at hk
      ·cases h
     ·cases h
    | [_], hk, h =>
     exfalso
     split at h
     ·split at h
      ·cases h; simp at hk
      ·cases h
     ·cases h
    | p :: q :: r, hk, h => exact h
   ·cases h
theorem quoL_app : ∀ (n : Nat) (u v v' : List UInt8), u.length ≤ n → ∀ (i : Nat) (b b' : List UInt8), quoL (u ++ v) i b = .ok (b', i + u.length) → quoL (u ++ v') i b = .ok (b', i + u.length) := by
 intro n
 induction n with
 | zero =>
  intro u v v' hn i b b' h; have : u = [] := List.length_eq_zero_iff.1 (by omega); subst this; have := quoL_bd _ _ (Nat.le_refl _) _ _ _ _ h; simp at this; omega
 | succ n ih =>
  intro u v v' hn i b b' h
  cases u with
  | nil =>
   have := quoL_bd _ _ (Nat.le_refl _) _ _ _ _ h; simp at this; omega
  | cons c r =>
   simp only [List.cons_append] at h ⊢; rw [quoL_cons] at h ⊢
   split at h
   ·rename_i h1; rw [if_pos h1]; exact h
   ·rename_i h1; rw [if_neg h1]
    split at h
    ·rename_i h2; rw [if_pos h2]
     split at h
     ·cases h
     ·rename_i p he; have hp := escN_pos (x := p.1) (k := p.2) he
      have hle : p.2 ≤ (c :: r).length := by
       have hb := quoL_bd _ _ (Nat.le_refl _) _ _ _ _ h; simp at hb ⊢
       omega
      have he' := escN_app (u := c :: r) (v := v) (v' := v') (x := p.1) (k := p.2) he hle; simp only [List.cons_append] at he'; simp only [he']
      have e1 : (c :: (r ++ v)).drop p.2 = (c :: r).drop p.2 ++ v := by
       rw [← List.cons_append, List.drop_append_of_le_length hle]
      have e2 : (c :: (r ++ v')).drop p.2 = (c :: r).drop p.2 ++ v' := by
       rw [← List.cons_append, List.drop_append_of_le_length hle]
      rw [e1] at h; rw [e2]
      have hlen : i + (c :: r).length = i + p.2 + ((c :: r).drop p.2).length := by
       rw [List.length_drop]; omega
      rw [hlen] at h ⊢; exact ih _ v v' (by simp at hn ⊢; omega) _ _ _ h
    ·rename_i h2; rw [if_neg h2]
     split at h
     ·cases h
     ·rename_i h3; rw [if_neg h3]; have hlen : i + (c :: r).length = i + 1 + r.length := by simp; omega
      rw [hlen] at h ⊢; exact ih _ v v' (by simp at hn; omega) _ _ _ h
theorem sign2_blank (c d : UInt8) (h : blankB d = true) : sign2 c d = false := by
 unfold blankB at h
 have hd : d ≠ 62 ∧ d ≠ 61 ∧ d ≠ 60 := by
  refine ⟨?_, ?_, ?_⟩ <;> (rintro rfl; simp at h)
 unfold sign2; simp [hd]
theorem signN_app {u v v' : List UInt8} (h : After v v') (hu : u.length = signN (u ++ v)) (h0 : u ≠ []) : signN (u ++ v') = signN (u ++ v) := by
 match u, h0, hu with
 | [c], _, hu =>
  have h1 : signN ([c] ++ v) = 1 := by simpa using hu.symm
  rw [h1]
  have hc : signsL.contains c = true := by
   cases v with
   | nil => simp only [List.cons_append, List.nil_append, signN] at h1; split at h1; (· assumption); cases h1
   | cons d r =>
    simp only [List.cons_append, List.nil_append, signN] at h1
    split at h1
    ·cases h1
    ·split at h1
     ·assumption
     ·cases h1
  rcases h with ⟨rfl, rfl⟩ | ⟨d, r, r', rfl, rfl⟩ | ⟨d, r', rfl, hd⟩
  ·exact h1
  ·simpa [signN] using h1
  ·simp only [List.cons_append, List.nil_append, signN]; rw [sign2_blank c d hd, if_pos hc]; rfl
 | c :: d :: r, _, hu =>
  simp only [List.cons_append, signN]
theorem tokL_app {u v v' : List UInt8} {t : Tk} (h : After v v') (ht : tokL (u ++ v) = .ok t) (hen : t.en = u.length) : tokL (u ++ v') = .ok t := by
 have hpos := (tokL_en ht).1
 cases u with
 | nil => simp at hen; omega
 | cons c r =>
  have h0 : c :: r ≠ [] := by simp
  unfold tokL at ht ⊢; simp only [List.cons_append] at ht ⊢; simp only [← List.cons_append] at ht ⊢
  split at ht
  ·rename_i h1; rw [if_pos h1]
   split at ht
   ·rename_i h2
    cases ht
    have hu : ((c :: r) ++ v).takeWhile digitB = c :: r := by
     have hp := List.takeWhile_prefix digitB (l := (c :: r) ++ v); exact (List.prefix_of_prefix_length_le hp (List.prefix_append _ _) (by simp only at hen; omega)).eq_of_length (by simpa using hen)
    have hu' := h.tw blank_digit hu; rw [hu] at h2; rw [hu', hu, if_pos h2]
   ·cases ht
  ·rename_i h1; rw [if_neg h1]
   split at ht
   ·rename_i h2; rw [if_pos h2]
    split at ht
    ·cases ht
    ·rename_i h3
     cases ht
     have hu : ((c :: r) ++ v).takeWhile moreB = c :: r := by
      have hp := List.takeWhile_prefix moreB (l := (c :: r) ++ v); exact (List.prefix_of_prefix_length_le hp (List.prefix_append _ _) (by simp only at hen; omega)).eq_of_length (by simpa using hen)
     have hu' := h.tw blank_more hu; rw [hu] at h3; rw [hu', hu, if_neg h3]
   ·rename_i h2; rw [if_neg h2]
    split at ht
    ·rename_i h3; rw [if_pos h3]
     split at ht
     ·cases ht
     ·rename_i b n hq
      cases ht
      simp only at hen; have hn : n = 1 + r.length := by simp at hen; omega
      rw [hn] at hq; rw [quoL_app _ r v v' (Nat.le_refl _) 1 [] b hq, hn]
    ·rename_i h3; rw [if_neg h3]
     split at ht
     ·cases ht
     ·rename_i h4
      cases ht
      simp only at hen; have hs := signN_app h hen.symm h0; rw [hs, if_neg h4]; have e1 : ∀ x, ((c :: r) ++ x).take (signN ((c :: r) ++ v)) = c :: r := fun x => by rw [hen]; simp
      rw [e1, e1]
theorem scanL_at : ∀ (n : Nat) (l : List UInt8), l.length ≤ n → ∀ (a : Nat) (t : Tk) (p : Nat) (ts : List (Tk × Nat)), scanL l a = .ok ((t, p) :: ts) → a ≤ p ∧ p + t.en ≤ a + l.length ∧ 1 ≤ t.en ∧ tokL (l.drop (p - a)) = .ok t ∧ scanL (l.drop (p - a + t.en)) (p + t.en) = .ok ts := by
 intro n
 induction n with
 | zero =>
  intro l hl a t p ts h; have : l = [] := List.length_eq_zero_iff.1 (by omega); subst this; rw [scanL_nil] at h; cases h
 | succ n ih =>
  intro l hl a t p ts h
  cases l with
  | nil => rw [scanL_nil] at h; cases h
  | cons c r =>
   by_cases hb : blankB c = true
   ·rw [scanL_blank r a hb] at h; obtain ⟨h1, h2, h3, h4, h5⟩ := ih r (by simp at hl; omega) _ _ _ _ h; have e : p - a = p - (a + 1) + 1 := by omega
    rw [e]; refine ⟨by omega, by simp; omega, h3, by simpa using h4, ?_⟩; rw [show p - (a + 1) + 1 + t.en = (p - (a + 1) + t.en) + 1 by omega]
    simpa using h5
   ·have hb' : blankB c = false := by simpa using hb
    by_cases hn : c.toNat = 37
    ·rw [scanL_note r a hb' hn] at h
     have hsum : (r.takeWhile (fun x => decide (x.toNat ≠ 10))).length + (r.dropWhile (fun x => decide (x.toNat ≠ 10))).length = r.length := by
      rw [← List.length_append, List.takeWhile_append_dropWhile]
     have hdr : r.dropWhile (fun x => decide (x.toNat ≠ 10)) = r.drop (r.takeWhile (fun x => decide (x.toNat ≠ 10))).length := by
      conv => rhs; rw [← List.takeWhile_append_dropWhile (p := fun x : UInt8 => decide (x.toNat ≠ 10)) (l := r)]
      have : ∀ (x y : List UInt8) (k : Nat), k = x.length → (x ++ y).drop k = y := fun x y k hk => by subst hk; simp
      rw [this]; rw [List.takeWhile_append_dropWhile]
     obtain ⟨k, hk⟩ : ∃ k, k = (r.takeWhile (fun x => decide (x.toNat ≠ 10))).length := ⟨_, rfl⟩; rw [← hk] at h hsum hdr; obtain ⟨h1, h2, h3, h4, h5⟩ := ih _ (by simp at hl; omega) _ _ _ _ h; rw [hdr] at h2 h4 h5; rw [List.drop_drop] at h4 h5; have e : p - a = (k + (p - (a + 1 + k))) + 1 := by omega
     rw [e]; refine ⟨by omega, by simp at h2 ⊢; omega, h3, by simpa using h4, ?_⟩; rw [show k + (p - (a + 1 + k)) + 1 + t.en = (k + (p - (a + 1 + k) + t.en)) + 1 by omega]
     simpa using h5
    ·rw [scanL_tok r a hb' hn] at h
     split at h
     ·cases h
     ·rename_i t' ht
      split at h
      ·cases h
      ·rename_i ts' hs
       cases h
       have := tokL_en ht; refine ⟨Nat.le_refl _, by omega, this.1, by simpa using ht, by simpa using hs⟩
end Go.Emb

namespace Go.Proofs.YtdmmhfbafinkpaaGreatDoor
open Go.Emb
inductive Nd where
 | mk (kind num : Int) (name : List UInt8) (a b c : List Nd)
def Nd.name : Nd → List UInt8 | .mk _ _ n _ _ _ => n
def nd0 : Nd := .mk 0 0 [] [] [] []
structure St where
 toks : List (Tk × Nat)
 en : Int
 err : Int
 at_ : Int
abbrev P (α : Type) : Type := St → α × St
def plc (s : St) : Int := match s.toks with | [] => s.en | x :: _ => (x.2 : Nat)
def failS (e : Int) (s : St) : St := if s.err = 0 then ⟨[], -1, e, plc s⟩ else s
def nextS (s : St) : List UInt8 := match s.toks with | [] => [] | x :: _ => if x.1.kind < 4 then [] else x.1.text
def takeS (l : List (List UInt8)) (s : St) : Option (List UInt8) × St :=
 if nextS s ∈ l ∧ nextS s ≠ [] then (some (nextS s), { s with toks := s.toks.tail }) else (none, s)
def hasS (x : List UInt8) (s : St) : Bool × St := ((takeS [x] s).1.isSome, (takeS [x] s).2)
def mustS (x : List UInt8) (s : St) : St := if (hasS x s).1 then (hasS x s).2 else failS 110 (hasS x s).2
def enterS (d : Nat) (s : St) : St := if 64 < d then failS 111 s else s
def leafS (s : St) : Option Nd × St :=
 match s.toks with
 | [] => (none, s)
 | x :: r => if 1 ≤ x.1.kind ∧ x.1.kind ≤ 3 then (some (.mk x.1.kind x.1.num x.1.text [] [] []), { s with toks := r }) else (none, s)
def bareS (s : St) : Bool := match s.toks with | [] => false | x :: _ => x.1.kind == 2
abbrev sEq : List UInt8 := [61]
abbrev sSend : List UInt8 := [33]
abbrev sOpen : List UInt8 := [40]
abbrev sShut : List UInt8 := [41]
abbrev sOpenC : List UInt8 := [123]
abbrev sShutC : List UInt8 := [125]
abbrev sOpenB : List UInt8 := [91]
abbrev sShutB : List UInt8 := [93]
abbrev sComma : List UInt8 := [44]
abbrev sSemi : List UInt8 := [59]
abbrev sDot : List UInt8 := [46]
abbrev sBar : List UInt8 := [124]
abbrev sTo : List UInt8 := [45, 62]
abbrev sMinus : List UInt8 := [45]
abbrev sNot : List UInt8 := [110, 111, 116]
abbrev sFun : List UInt8 := [102, 117, 110]
abbrev sCase : List UInt8 := [99, 97, 115, 101]
abbrev sOf : List UInt8 := [111, 102]
abbrev sEnd : List UInt8 := [101, 110, 100]
abbrev sWhen : List UInt8 := [119, 104, 101, 110]
abbrev sReceive : List UInt8 := [114, 101, 99, 101, 105, 118, 101]
abbrev sAfter : List UInt8 := [97, 102, 116, 101, 114]
abbrev sTry : List UInt8 := [116, 114, 121]
abbrev sCatch : List UInt8 := [99, 97, 116, 99, 104]
def levelsL : Nat → List (List UInt8)
 | 0 => [[111, 114]]
 | 1 => [[97, 110, 100]]
 | 2 => [[61, 61], [47, 61], [60], [62], [61, 60], [62, 61]]
 | 3 => [[43], [45]]
 | 4 => [[42], [100, 105, 118], [114, 101, 109]]
 | _ => []
abbrev opensL : List (List UInt8) := [sOpen, sOpenC, sOpenB, sFun, sCase, sReceive, sTry]
def nilN : Nd := .mk 5 0 [] [] [] []
def consL (l : List Nd) (t : Nd) : Nd := l.foldr (fun x t => .mk 6 0 [] [x, t] [] []) t
section
variable {α β : Type}
def bnd (p : P α) (f : α → P β) : P β := fun s => f (p s).1 (p s).2
def ret (a : α) : P α := fun s => (a, s)
def doS (g : St → St) (p : P α) : P α := fun s => p (g s)
end
mutual
def expr : Nat → Nat → P Nd
 | 0, _ => fun s => (nd0, failS 999 s)
 | n + 1, d => doS (enterS d) (bnd (binary n 0 d) fun a => bnd (takeS [sEq, sSend]) fun o => match o with
   | none => ret a
   | some t => bnd (expr n (d + 1)) fun b => ret (.mk (if t = sSend then 12 else 11) 0 [] [a, b] [] []))
def binary : Nat → Nat → Nat → P Nd
 | 0, _, _ => fun s => (nd0, failS 999 s)
 | n + 1, v, d => if v = 5 then unary n d else bnd (binary n (v + 1) d) fun a => binLoop n v d a
def binLoop : Nat → Nat → Nat → Nd → P Nd
 | 0, _, _, _ => fun s => (nd0, failS 999 s)
 | n + 1, v, d, a => bnd (takeS (levelsL v)) fun o => match o with
  | none => ret a
  | some t => bnd (binary n (v + 1) d) fun b => if v = 2 then ret (.mk 9 0 t [a, b] [] []) else binLoop n v d (.mk 9 0 t [a, b] [] [])
def unary : Nat → Nat → P Nd
 | 0, _ => fun s => (nd0, failS 999 s)
 | n + 1, d => doS (enterS d) (bnd (takeS [sMinus, sNot]) fun o => match o with
   | none => call n d
   | some t => bnd (unary n (d + 1)) fun a => ret (.mk 10 0 t [a] [] []))
def call : Nat → Nat → P Nd
 | 0, _ => fun s => (nd0, failS 999 s)
 | n + 1, d => fun s => bnd (prim n d) (fun a => callLoop n d (bareS s) a) s
def callLoop : Nat → Nat → Bool → Nd → P Nd
 | 0, _, _, _ => fun s => (nd0, failS 999 s)
 | n + 1, d, bare, a => bnd (hasS sOpen) fun o => if o then bnd (untilL n sShut (d + 1)) fun l => callLoop n d false (if bare then .mk 7 0 a.name l [] [] else .mk 8 0 [] (a :: l) [] []) else ret a
def someL : Nat → Nat → P (List Nd)
 | 0, _ => fun s => ([], failS 999 s)
 | n + 1, d => bnd (expr n d) fun x => bnd (hasS sComma) fun o => if o then bnd (someL n d) fun l => ret (x :: l) else ret [x]
def untilL : Nat → List UInt8 → Nat → P (List Nd)
 | 0, _, _ => fun s => ([], failS 999 s)
 | n + 1, e, d => bnd (hasS e) fun o => if o then ret [] else bnd (someL n d) fun l => doS (mustS e) (ret l)
def bodyP : Nat → Nat → P (List Nd × List Nd)
 | 0, _ => fun s => (([], []), failS 999 s)
 | n + 1, d => bnd (bnd (hasS sWhen) fun o => if o then someL n d else ret []) fun g => doS (mustS sTo) (bnd (someL n d) fun b => ret (g, b))
def headP : Nat → List UInt8 → Nat → P Nd
 | 0, _, _ => fun s => (nd0, failS 999 s)
 | n + 1, x, d => doS (mustS sOpen) (bnd (untilL n sShut d) fun l => bnd (bodyP n d) fun g => ret (.mk 0 0 x l g.1 g.2))
def oneC : Nat → Nat → Nat → P Nd
 | 0, _, _ => fun s => (nd0, failS 999 s)
 | n + 1, k, d => if k = 0 then bnd (expr n d) fun a => bnd (bodyP n d) fun g => ret (.mk 0 0 [] [a] g.1 g.2)
  else if k = 1 then headP n [] d
  else fun s => match s.toks with
   | [] => (nd0, failS 110 s)
   | x :: r => if x.1.kind = 2 then headP n x.1.text d { s with toks := r } else (nd0, failS 110 s)
def clausesL : Nat → Nat → Nat → P (List Nd)
 | 0, _, _ => fun s => ([], failS 999 s)
 | n + 1, k, d => bnd (oneC n k d) fun c => bnd (hasS sSemi) fun o => if o then bnd (clausesL n k d) fun l => ret (c :: l) else ret [c]
def listP : Nat → Nat → P Nd
 | 0, _ => fun s => (nd0, failS 999 s)
 | n + 1, d => bnd (hasS sShutB) fun o => if o then ret nilN else bnd (someL n d) fun l => bnd (bnd (hasS sBar) fun o => if o then expr n d else ret nilN) fun t => doS (mustS sShutB) (ret (consL l t))
def recvP : Nat → Nat → P Nd
 | 0, _ => fun s => (nd0, failS 999 s)
 | n + 1, d => bnd (fun s => if nextS s ≠ sAfter then clausesL n 0 d s else ([], s)) fun l => bnd (hasS sAfter) fun o =>
  if o then bnd (expr n d) fun a => doS (mustS sTo) (bnd (someL n d) fun b => doS (mustS sEnd) (ret (.mk 15 0 [] [a] l b)))
  else doS (mustS sEnd) (ret (.mk 15 0 [] [] l []))
def prim : Nat → Nat → P Nd
 | 0, _ => fun s => (nd0, failS 999 s)
 | n + 1, d => bnd leafS fun o => match o with
  | some x => ret x
  | none => bnd (takeS opensL) fun o => match o with
   | none => doS (failS 110) (ret nd0)
   | some t =>
    if t = sOpen then bnd (expr n (d + 1)) fun a => doS (mustS sShut) (ret a)
    else if t = sOpenC then bnd (untilL n sShutC (d + 1)) fun l => ret (.mk 4 0 [] l [] [])
    else if t = sOpenB then listP n (d + 1)
    else if t = sFun then bnd (clausesL n 1 (d + 1)) fun l => doS (mustS sEnd) (ret (.mk 13 0 [] [] l []))
    else if t = sCase then bnd (expr n (d + 1)) fun a => doS (mustS sOf) (bnd (clausesL n 0 (d + 1)) fun l => doS (mustS sEnd) (ret (.mk 14 0 [] [a] l [])))
    else if t = sReceive then recvP n (d + 1)
    else bnd (someL n (d + 1)) fun b => doS (mustS sCatch) (bnd (clausesL n 0 (d + 1)) fun l => doS (mustS sEnd) (ret (.mk 16 0 [] [] l b)))
end
def funP (n : Nat) : P (List Nd) := bnd (clausesL n 2 0) fun l => doS (mustS sDot) (ret l)
open Go.Emb
def GoodS (g : St → St) : Prop := ∀ s, (g s).toks.length ≤ s.toks.length ∧ (s.err ≠ 0 → (g s).err = s.err)
def Good {α : Type} (p : P α) : Prop := ∀ s, (p s).2.toks.length ≤ s.toks.length ∧ (s.err ≠ 0 → (p s).2.err = s.err)
section
variable {α β : Type}
theorem Good.bnd {p : P α} {f : α → P β} (hp : Good p) (hf : ∀ a, Good (f a)) : Good (bnd p f) := fun s => by
 have h1 := hp s; have h2 := hf (p s).1 (p s).2; refine ⟨Nat.le_trans h2.1 h1.1, fun h => ?_⟩; have h3 := h1.2 h; have h4 := h2.2 (by rw [h3]; exact h); show (f (p s).1 (p s).2).2.err = s.err; rw [h4, h3]
theorem Good.ret (a : α) : Good (ret a) := fun _ => ⟨Nat.le_refl _, fun _ => rfl⟩
theorem Good.doS {g : St → St} {p : P α} (hg : GoodS g) (hp : Good p) : Good (doS g p) := fun s => by
 have h1 := hg s; have h2 := hp (g s); refine ⟨Nat.le_trans h2.1 h1.1, fun h => ?_⟩; have h3 := h1.2 h; have h4 := h2.2 (by rw [h3]; exact h); show (p (g s)).2.err = s.err; rw [h4, h3]
theorem GoodS.fail (e : Int) : GoodS (failS e) := fun s => by
 unfold failS
 split
 ·exact ⟨Nat.zero_le _, fun h => absurd ‹s.err = 0› h⟩
 ·exact ⟨Nat.le_refl _, fun _ => rfl⟩
theorem Good.take (l : List (List UInt8)) : Good (takeS l) := fun s => by
 unfold takeS
 split
 ·exact ⟨by simp, fun _ => rfl⟩
 ·exact ⟨Nat.le_refl _, fun _ => rfl⟩
theorem Good.has (x : List UInt8) : Good (hasS x) := Good.take [x]
theorem GoodS.must (x : List UInt8) : GoodS (mustS x) := fun s => by
 have h1 := Good.has x s; unfold mustS
 split
 ·exact h1
 ·have h2 := GoodS.fail 110 (hasS x s).2; exact ⟨Nat.le_trans h2.1 h1.1, fun h => by rw [h2.2 (by rw [h1.2 h]; exact h), h1.2 h]⟩
theorem GoodS.enter (d : Nat) : GoodS (enterS d) := fun s => by
 unfold enterS
 split
 ·exact GoodS.fail 111 s
 ·exact ⟨Nat.le_refl _, fun _ => rfl⟩
theorem Good.leaf : Good leafS := fun s => by
 unfold leafS
 split
 ·exact ⟨Nat.le_refl _, fun _ => rfl⟩
 ·split
  ·rename_i h _; exact ⟨by simp [h], fun _ => rfl⟩
  ·exact ⟨Nat.le_refl _, fun _ => rfl⟩
end
structure AllG (n : Nat) : Prop where
 expr : ∀ d, Good (expr n d)
 binary : ∀ v d, Good (binary n v d)
 binLoop : ∀ v d a, Good (binLoop n v d a)
 unary : ∀ d, Good (unary n d)
 call : ∀ d, Good (call n d)
 callLoop : ∀ d b a, Good (callLoop n d b a)
 someL : ∀ d, Good (someL n d)
 untilL : ∀ e d, Good (untilL n e d)
 bodyP : ∀ d, Good (bodyP n d)
 headP : ∀ x d, Good (headP n x d)
 oneC : ∀ k d, Good (oneC n k d)
 clausesL : ∀ k d, Good (clausesL n k d)
 listP : ∀ d, Good (listP n d)
 recvP : ∀ d, Good (recvP n d)
 prim : ∀ d, Good (prim n d)
theorem allG : ∀ n, AllG n
 | 0 => by
  constructor
  ·intro x; rw [expr]; exact fun s => GoodS.fail 999 s
  ·intro x y; rw [binary]; exact fun s => GoodS.fail 999 s
  ·intro x y z; rw [binLoop]; exact fun s => GoodS.fail 999 s
  ·intro x; rw [unary]; exact fun s => GoodS.fail 999 s
  ·intro x; rw [call]; exact fun s => GoodS.fail 999 s
  ·intro x y z; rw [callLoop]; exact fun s => GoodS.fail 999 s
  ·intro x; rw [someL]; exact fun s => GoodS.fail 999 s
  ·intro x y; rw [untilL]; exact fun s => GoodS.fail 999 s
  ·intro x; rw [bodyP]; exact fun s => GoodS.fail 999 s
  ·intro x y; rw [headP]; exact fun s => GoodS.fail 999 s
  ·intro x y; rw [oneC]; exact fun s => GoodS.fail 999 s
  ·intro x y; rw [clausesL]; exact fun s => GoodS.fail 999 s
  ·intro x; rw [listP]; exact fun s => GoodS.fail 999 s
  ·intro x; rw [recvP]; exact fun s => GoodS.fail 999 s
  ·intro x; rw [prim]; exact fun s => GoodS.fail 999 s
 | n + 1 => by
  have ih := allG n
  constructor
  ·intro d; rw [expr]; refine .doS (.enter d) (.bnd (ih.binary _ _) fun a => .bnd (.take _) fun o => ?_)
   cases o
   ·exact .ret _
   ·exact .bnd (ih.expr _) fun b => .ret _
  ·intro v d; rw [binary]; split
   ·exact ih.unary d
   ·exact .bnd (ih.binary _ _) fun a => ih.binLoop _ _ _
  ·intro v d a; rw [binLoop]; refine .bnd (.take _) fun o => ?_
   cases o
   ·exact .ret _
   ·refine .bnd (ih.binary _ _) fun b => ?_
    split
    ·exact .ret _
    ·exact ih.binLoop _ _ _
  ·intro d; rw [unary]; refine .doS (.enter d) (.bnd (.take _) fun o => ?_)
   cases o
   ·exact ih.call d
   ·exact .bnd (ih.unary _) fun a => .ret _
  ·intro d; rw [call]; exact fun s => Good.bnd (ih.prim d) (fun a => ih.callLoop d (bareS s) a) s
  ·intro d b a; rw [callLoop]; refine .bnd (.has _) fun o => ?_
   split
   ·exact .bnd (ih.untilL _ _) fun l => ih.callLoop _ _ _
   ·exact .ret _
  ·intro d; rw [someL]; refine .bnd (ih.expr d) fun x => .bnd (.has _) fun o => ?_
   split
   ·exact .bnd (ih.someL d) fun l => .ret _
   ·exact .ret _
  ·intro e d; rw [untilL]; refine .bnd (.has _) fun o => ?_
   split
   ·exact .ret _
   ·exact .bnd (ih.someL d) fun l => .doS (.must _) (.ret _)
  ·intro d; rw [bodyP]; refine .bnd (.bnd (.has _) fun o => ?_) fun g => .doS (.must _) (.bnd (ih.someL d) fun b => .ret _)
   split
   ·exact ih.someL d
   ·exact .ret _
  ·intro x d; rw [headP]; exact .doS (.must _) (.bnd (ih.untilL _ _) fun l => .bnd (ih.bodyP d) fun g => .ret _)
  ·intro k d; rw [oneC]; split
   ·exact .bnd (ih.expr d) fun a => .bnd (ih.bodyP d) fun g => .ret _
   ·split
    ·exact ih.headP _ _
    ·intro s; simp only
     split
     ·exact GoodS.fail 110 s
     ·rename_i x r h
      split
      ·have := ih.headP x.1.text d { s with toks := r }; exact ⟨by rw [h]; exact Nat.le_trans this.1 (by simp), this.2⟩
      ·exact GoodS.fail 110 s
  ·intro k d; rw [clausesL]; refine .bnd (ih.oneC k d) fun x => .bnd (.has _) fun o => ?_
   split
   ·exact .bnd (ih.clausesL k d) fun l => .ret _
   ·exact .ret _
  ·intro d; rw [listP]; refine .bnd (.has _) fun o => ?_
   split
   ·exact .ret _
   ·refine .bnd (ih.someL d) fun l => .bnd (.bnd (.has _) fun o => ?_) fun t => .doS (.must _) (.ret _)
    split
    ·exact ih.expr d
    ·exact .ret _
  ·intro d; rw [recvP]; refine .bnd (fun s => ?_) fun l => .bnd (.has _) fun o => ?_
   ·split
    ·exact ih.clausesL 0 d s
    ·exact ⟨Nat.le_refl _, fun _ => rfl⟩
   ·split
    ·exact .bnd (ih.expr d) fun a => .doS (.must _) (.bnd (ih.someL d) fun b => .doS (.must _) (.ret _))
    ·exact .doS (.must _) (.ret _)
  ·intro d; rw [prim]; refine .bnd .leaf fun o => ?_
   cases o
   ·refine .bnd (.take _) fun o => ?_
    cases o
    ·exact .doS (.fail _) (.ret _)
    ·simp only
     repeat' split
     ·exact .bnd (ih.expr _) fun a => .doS (.must _) (.ret _)
     ·exact .bnd (ih.untilL _ _) fun l => .ret _
     ·exact ih.listP _
     ·exact .bnd (ih.clausesL _ _) fun l => .doS (.must _) (.ret _)
     ·exact .bnd (ih.expr _) fun a => .doS (.must _) (.bnd (ih.clausesL _ _) fun l => .doS (.must _) (.ret _))
     ·exact ih.recvP _
     ·exact .bnd (ih.someL _) fun b => .doS (.must _) (.bnd (ih.clausesL _ _) fun l => .doS (.must _) (.ret _))
   ·exact .ret _
open Go.Emb
theorem nextS_nil {s : St} (h : s.toks = []) : nextS s = [] := by unfold nextS; rw [h]
theorem takeS_nil {s : St} {l : List (List UInt8)} (h : s.toks = []) : takeS l s = (none, s) := by
 unfold takeS; rw [if_neg (by rw [nextS_nil h]; simp)]
theorem hasS_nil {s : St} {x : List UInt8} (h : s.toks = []) : hasS x s = (false, s) := by
 unfold hasS; rw [takeS_nil h]; rfl
theorem failS_ne (e : Int) (he : e ≠ 0) (s : St) : (failS e s).err ≠ 0 := by
 unfold failS; split
 ·exact he
 ·assumption
theorem must_ok {x : List UInt8} {s : St} (h : (mustS x s).err = 0) : s.toks ≠ [] ∧ (hasS x s).1 = true ∧ mustS x s = (hasS x s).2 := by
 unfold mustS at h ⊢
 split at h
 ·rename_i h1; refine ⟨fun hn => ?_, h1, if_pos h1⟩; rw [hasS_nil hn] at h1
  cases h1
 ·exact absurd h (failS_ne 110 (by decide) _)
def primT (n d : Nat) (t : List UInt8) : P Nd :=
 if t = sOpen then bnd (expr n (d + 1)) fun a => doS (mustS sShut) (ret a)
 else if t = sOpenC then bnd (untilL n sShutC (d + 1)) fun l => ret (.mk 4 0 [] l [] [])
 else if t = sOpenB then listP n (d + 1)
 else if t = sFun then bnd (clausesL n 1 (d + 1)) fun l => doS (mustS sEnd) (ret (.mk 13 0 [] [] l []))
 else if t = sCase then bnd (expr n (d + 1)) fun a => doS (mustS sOf) (bnd (clausesL n 0 (d + 1)) fun l => doS (mustS sEnd) (ret (.mk 14 0 [] [a] l [])))
 else if t = sReceive then recvP n (d + 1)
 else bnd (someL n (d + 1)) fun b => doS (mustS sCatch) (bnd (clausesL n 0 (d + 1)) fun l => doS (mustS sEnd) (ret (.mk 16 0 [] [] l b)))
def primO (n d : Nat) (o : Option (List UInt8)) : P Nd := match o with | none => doS (failS 110) (ret nd0) | some t => primT n d t
def primL (n d : Nat) (o : Option Nd) : P Nd := match o with | some x => ret x | none => bnd (takeS opensL) (primO n d)
theorem prim_eq (n d : Nat) : prim (n + 1) d = bnd leafS (primL n d) := by
 rw [prim]
 rfl
def Ev {α : Type} (f : Nat → P α) (s : St) (r : α) (s' : St) : Prop := ∃ N, ∀ n, N ≤ n → f n s = (r, s')
section
variable {d : Nat} {s s1 s2 s3 s4 : St} {a b r x : Nd} {l g c : List Nd}
theorem Ev.of_expr_one  (h1 : Ev (fun n => binary n 0 d) (enterS d s) a s1) (ht : (takeS [sEq, sSend] s1).1 = none) : Ev (fun n => expr n d) s a (takeS [sEq, sSend] s1).2 := by
 obtain ⟨N0, h1⟩ := h1; refine ⟨N0 + 1, fun n hn => ?_⟩; obtain ⟨m, rfl⟩ : ∃ m, n = m + 1 := ⟨n - 1, by omega⟩; have h1 : binary m 0 d (enterS d s) = (a, s1) := h1 m (by omega); show expr (m + 1) d s = (a, (takeS [sEq, sSend] s1).2); rw [expr]; simp [doS, bnd, ret, h1, ht]
theorem Ev.of_expr_two  {t : List UInt8} (h1 : Ev (fun n => binary n 0 d) (enterS d s) a s1) (ht : (takeS [sEq, sSend] s1).1 = some t) (h2 : Ev (fun n => expr n (d + 1)) (takeS [sEq, sSend] s1).2 b s2) : Ev (fun n => expr n d) s (.mk (if t = sSend then 12 else 11) 0 [] [a, b] [] []) s2 := by
 obtain ⟨N0, h1⟩ := h1; obtain ⟨N1, h2⟩ := h2; refine ⟨N0 + N1 + 1, fun n hn => ?_⟩; obtain ⟨m, rfl⟩ : ∃ m, n = m + 1 := ⟨n - 1, by omega⟩; have h1 : binary m 0 d (enterS d s) = (a, s1) := h1 m (by omega); have h2 : expr m (d + 1) (takeS [sEq, sSend] s1).2 = (b, s2) := h2 m (by omega); show expr (m + 1) d s = ((.mk (if t = sSend then 12 else 11) 0 [] [a, b] [] []), s2); rw [expr]; simp [doS, bnd, ret, h1, ht, h2]
theorem Ev.of_binary_5  (h1 : Ev (fun n => unary n d) s a s1) : Ev (fun n => binary n 5 d) s a s1 := by
 obtain ⟨N0, h1⟩ := h1; refine ⟨N0 + 1, fun n hn => ?_⟩; obtain ⟨m, rfl⟩ : ∃ m, n = m + 1 := ⟨n - 1, by omega⟩; have h1 : unary m d s = (a, s1) := h1 m (by omega); show binary (m + 1) 5 d s = (a, s1); rw [binary]; simp [doS, bnd, ret, h1]
theorem Ev.of_binary_lt  {v : Nat} (hv : v ≠ 5) (h1 : Ev (fun n => binary n (v + 1) d) s a s1) (h2 : Ev (fun n => binLoop n v d a) s1 r s2) : Ev (fun n => binary n v d) s r s2 := by
 obtain ⟨N0, h1⟩ := h1; obtain ⟨N1, h2⟩ := h2; refine ⟨N0 + N1 + 1, fun n hn => ?_⟩; obtain ⟨m, rfl⟩ : ∃ m, n = m + 1 := ⟨n - 1, by omega⟩; have h1 : binary m (v + 1) d s = (a, s1) := h1 m (by omega); have h2 : binLoop m v d a s1 = (r, s2) := h2 m (by omega); show binary (m + 1) v d s = (r, s2); rw [binary]; simp [doS, bnd, ret, hv, h1, h2]
theorem Ev.of_binLoop_none  {v : Nat} (ht : (takeS (levelsL v) s).1 = none) : Ev (fun n => binLoop n v d a) s a (takeS (levelsL v) s).2 := by
 refine ⟨1, fun n hn => ?_⟩; obtain ⟨m, rfl⟩ : ∃ m, n = m + 1 := ⟨n - 1, by omega⟩; show binLoop (m + 1) v d a s = (a, (takeS (levelsL v) s).2); rw [binLoop]; simp [doS, bnd, ret, ht]
theorem Ev.of_binLoop_two  {t : List UInt8} (ht : (takeS (levelsL 2) s).1 = some t) (h1 : Ev (fun n => binary n (2 + 1) d) (takeS (levelsL 2) s).2 b s2) : Ev (fun n => binLoop n 2 d a) s (.mk 9 0 t [a, b] [] []) s2 := by
 obtain ⟨N0, h1⟩ := h1; refine ⟨N0 + 1, fun n hn => ?_⟩; obtain ⟨m, rfl⟩ : ∃ m, n = m + 1 := ⟨n - 1, by omega⟩; have h1 : binary m (2 + 1) d (takeS (levelsL 2) s).2 = (b, s2) := h1 m (by omega); show binLoop (m + 1) 2 d a s = ((.mk 9 0 t [a, b] [] []), s2); rw [binLoop]; simp [doS, bnd, ret, ht, h1]
theorem Ev.of_binLoop_go  {v : Nat} {t : List UInt8} (hv : v ≠ 2) (ht : (takeS (levelsL v) s).1 = some t) (h1 : Ev (fun n => binary n (v + 1) d) (takeS (levelsL v) s).2 b s2) (h2 : Ev (fun n => binLoop n v d (.mk 9 0 t [a, b] [] [])) s2 r s3) : Ev (fun n => binLoop n v d a) s r s3 := by
 obtain ⟨N0, h1⟩ := h1; obtain ⟨N1, h2⟩ := h2; refine ⟨N0 + N1 + 1, fun n hn => ?_⟩; obtain ⟨m, rfl⟩ : ∃ m, n = m + 1 := ⟨n - 1, by omega⟩; have h1 : binary m (v + 1) d (takeS (levelsL v) s).2 = (b, s2) := h1 m (by omega); have h2 : binLoop m v d (.mk 9 0 t [a, b] [] []) s2 = (r, s3) := h2 m (by omega); show binLoop (m + 1) v d a s = (r, s3); rw [binLoop]; simp [doS, bnd, ret, hv, ht, h1, h2]
theorem Ev.of_unary_none  (ht : (takeS [sMinus, sNot] (enterS d s)).1 = none) (h1 : Ev (fun n => call n d) (takeS [sMinus, sNot] (enterS d s)).2 a s1) : Ev (fun n => unary n d) s a s1 := by
 obtain ⟨N0, h1⟩ := h1; refine ⟨N0 + 1, fun n hn => ?_⟩; obtain ⟨m, rfl⟩ : ∃ m, n = m + 1 := ⟨n - 1, by omega⟩; have h1 : call m d (takeS [sMinus, sNot] (enterS d s)).2 = (a, s1) := h1 m (by omega); show unary (m + 1) d s = (a, s1); rw [unary]; simp [doS, bnd, ret, ht, h1]
theorem Ev.of_unary_some  {t : List UInt8} (ht : (takeS [sMinus, sNot] (enterS d s)).1 = some t) (h1 : Ev (fun n => unary n (d + 1)) (takeS [sMinus, sNot] (enterS d s)).2 a s1) : Ev (fun n => unary n d) s (.mk 10 0 t [a] [] []) s1 := by
 obtain ⟨N0, h1⟩ := h1; refine ⟨N0 + 1, fun n hn => ?_⟩; obtain ⟨m, rfl⟩ : ∃ m, n = m + 1 := ⟨n - 1, by omega⟩; have h1 : unary m (d + 1) (takeS [sMinus, sNot] (enterS d s)).2 = (a, s1) := h1 m (by omega); show unary (m + 1) d s = ((.mk 10 0 t [a] [] []), s1); rw [unary]; simp [doS, bnd, ret, ht, h1]
theorem Ev.of_call  (h1 : Ev (fun n => prim n d) s a s1) (h2 : Ev (fun n => callLoop n d (bareS s) a) s1 r s2) : Ev (fun n => call n d) s r s2 := by
 obtain ⟨N0, h1⟩ := h1; obtain ⟨N1, h2⟩ := h2; refine ⟨N0 + N1 + 1, fun n hn => ?_⟩; obtain ⟨m, rfl⟩ : ∃ m, n = m + 1 := ⟨n - 1, by omega⟩; have h1 : prim m d s = (a, s1) := h1 m (by omega); have h2 : callLoop m d (bareS s) a s1 = (r, s2) := h2 m (by omega); show call (m + 1) d s = (r, s2); rw [call]; simp [doS, bnd, ret, h1, h2]
theorem Ev.of_callLoop_none  {bare : Bool} (ht : (hasS sOpen s).1 = false) : Ev (fun n => callLoop n d bare a) s a (hasS sOpen s).2 := by
 refine ⟨1, fun n hn => ?_⟩; obtain ⟨m, rfl⟩ : ∃ m, n = m + 1 := ⟨n - 1, by omega⟩; show callLoop (m + 1) d bare a s = (a, (hasS sOpen s).2); rw [callLoop]; simp [doS, bnd, ret, ht]
theorem Ev.of_callLoop_go  {bare : Bool} (ht : (hasS sOpen s).1 = true) (h1 : Ev (fun n => untilL n sShut (d + 1)) (hasS sOpen s).2 l s1) (h2 : Ev (fun n => callLoop n d false (if bare then .mk 7 0 a.name l [] [] else .mk 8 0 [] (a :: l) [] [])) s1 r s2) : Ev (fun n => callLoop n d bare a) s r s2 := by
 obtain ⟨N0, h1⟩ := h1; obtain ⟨N1, h2⟩ := h2; refine ⟨N0 + N1 + 1, fun n hn => ?_⟩; obtain ⟨m, rfl⟩ : ∃ m, n = m + 1 := ⟨n - 1, by omega⟩; have h1 : untilL m sShut (d + 1) (hasS sOpen s).2 = (l, s1) := h1 m (by omega); have h2 : callLoop m d false (if bare then .mk 7 0 a.name l [] [] else .mk 8 0 [] (a :: l) [] []) s1 = (r, s2) := h2 m (by omega); show callLoop (m + 1) d bare a s = (r, s2); rw [callLoop]; simp [doS, bnd, ret, ht, h1, h2]
theorem Ev.of_some_one  (h1 : Ev (fun n => expr n d) s a s1) (ht : (hasS sComma s1).1 = false) : Ev (fun n => someL n d) s [a] (hasS sComma s1).2 := by
 obtain ⟨N0, h1⟩ := h1; refine ⟨N0 + 1, fun n hn => ?_⟩; obtain ⟨m, rfl⟩ : ∃ m, n = m + 1 := ⟨n - 1, by omega⟩; have h1 : expr m d s = (a, s1) := h1 m (by omega); show someL (m + 1) d s = ([a], (hasS sComma s1).2); rw [someL]; simp [doS, bnd, ret, h1, ht]
theorem Ev.of_some_more  (h1 : Ev (fun n => expr n d) s a s1) (ht : (hasS sComma s1).1 = true) (h2 : Ev (fun n => someL n d) (hasS sComma s1).2 l s2) : Ev (fun n => someL n d) s (a :: l) s2 := by
 obtain ⟨N0, h1⟩ := h1; obtain ⟨N1, h2⟩ := h2; refine ⟨N0 + N1 + 1, fun n hn => ?_⟩; obtain ⟨m, rfl⟩ : ∃ m, n = m + 1 := ⟨n - 1, by omega⟩; have h1 : expr m d s = (a, s1) := h1 m (by omega); have h2 : someL m d (hasS sComma s1).2 = (l, s2) := h2 m (by omega); show someL (m + 1) d s = ((a :: l), s2); rw [someL]; simp [doS, bnd, ret, h1, ht, h2]
theorem Ev.of_until_nil  {e : List UInt8} (ht : (hasS e s).1 = true) : Ev (fun n => untilL n e d) s [] (hasS e s).2 := by
 refine ⟨1, fun n hn => ?_⟩; obtain ⟨m, rfl⟩ : ∃ m, n = m + 1 := ⟨n - 1, by omega⟩; show untilL (m + 1) e d s = ([], (hasS e s).2); rw [untilL]; simp [doS, bnd, ret, ht]
theorem Ev.of_until_some  {e : List UInt8} (ht : (hasS e s).1 = false) (h1 : Ev (fun n => someL n d) (hasS e s).2 l s1) : Ev (fun n => untilL n e d) s l (mustS e s1) := by
 obtain ⟨N0, h1⟩ := h1; refine ⟨N0 + 1, fun n hn => ?_⟩; obtain ⟨m, rfl⟩ : ∃ m, n = m + 1 := ⟨n - 1, by omega⟩; have h1 : someL m d (hasS e s).2 = (l, s1) := h1 m (by omega); show untilL (m + 1) e d s = (l, (mustS e s1)); rw [untilL]; simp [doS, bnd, ret, ht, h1]
theorem Ev.of_body_when  (ht : (hasS sWhen s).1 = true) (h1 : Ev (fun n => someL n d) (hasS sWhen s).2 l s1) (h2 : Ev (fun n => someL n d) (mustS sTo s1) c s2) : Ev (fun n => bodyP n d) s (l, c) s2 := by
 obtain ⟨N0, h1⟩ := h1; obtain ⟨N1, h2⟩ := h2; refine ⟨N0 + N1 + 1, fun n hn => ?_⟩; obtain ⟨m, rfl⟩ : ∃ m, n = m + 1 := ⟨n - 1, by omega⟩; have h1 : someL m d (hasS sWhen s).2 = (l, s1) := h1 m (by omega); have h2 : someL m d (mustS sTo s1) = (c, s2) := h2 m (by omega); show bodyP (m + 1) d s = ((l, c), s2); rw [bodyP]; simp [doS, bnd, ret, ht, h1, h2]
theorem Ev.of_body_bare  (ht : (hasS sWhen s).1 = false) (h2 : Ev (fun n => someL n d) (mustS sTo (hasS sWhen s).2) c s2) : Ev (fun n => bodyP n d) s ([], c) s2 := by
 obtain ⟨N0, h2⟩ := h2; refine ⟨N0 + 1, fun n hn => ?_⟩; obtain ⟨m, rfl⟩ : ∃ m, n = m + 1 := ⟨n - 1, by omega⟩; have h2 : someL m d (mustS sTo (hasS sWhen s).2) = (c, s2) := h2 m (by omega); show bodyP (m + 1) d s = (([], c), s2); rw [bodyP]; simp [doS, bnd, ret, ht, h2]
theorem Ev.of_head  {nm : List UInt8} (h1 : Ev (fun n => untilL n sShut d) (mustS sOpen s) l s1) (h2 : Ev (fun n => bodyP n d) s1 (g, c) s2) : Ev (fun n => headP n nm d) s (.mk 0 0 nm l g c) s2 := by
 obtain ⟨N0, h1⟩ := h1; obtain ⟨N1, h2⟩ := h2; refine ⟨N0 + N1 + 1, fun n hn => ?_⟩; obtain ⟨m, rfl⟩ : ∃ m, n = m + 1 := ⟨n - 1, by omega⟩; have h1 : untilL m sShut d (mustS sOpen s) = (l, s1) := h1 m (by omega); have h2 : bodyP m d s1 = ((g, c), s2) := h2 m (by omega); show headP (m + 1) nm d s = ((.mk 0 0 nm l g c), s2); rw [headP]; simp [doS, bnd, ret, h1, h2]
theorem Ev.of_one_0  (h1 : Ev (fun n => expr n d) s a s1) (h2 : Ev (fun n => bodyP n d) s1 (g, c) s2) : Ev (fun n => oneC n 0 d) s (.mk 0 0 [] [a] g c) s2 := by
 obtain ⟨N0, h1⟩ := h1; obtain ⟨N1, h2⟩ := h2; refine ⟨N0 + N1 + 1, fun n hn => ?_⟩; obtain ⟨m, rfl⟩ : ∃ m, n = m + 1 := ⟨n - 1, by omega⟩; have h1 : expr m d s = (a, s1) := h1 m (by omega); have h2 : bodyP m d s1 = ((g, c), s2) := h2 m (by omega); show oneC (m + 1) 0 d s = ((.mk 0 0 [] [a] g c), s2); rw [oneC]; simp [doS, bnd, ret, h1, h2]
theorem Ev.of_one_1  (h1 : Ev (fun n => headP n [] d) s a s1) : Ev (fun n => oneC n 1 d) s a s1 := by
 obtain ⟨N0, h1⟩ := h1; refine ⟨N0 + 1, fun n hn => ?_⟩; obtain ⟨m, rfl⟩ : ∃ m, n = m + 1 := ⟨n - 1, by omega⟩; have h1 : headP m [] d s = (a, s1) := h1 m (by omega); show oneC (m + 1) 1 d s = (a, s1); rw [oneC]; simp [doS, bnd, ret, h1]
theorem Ev.of_one_2  {y : Tk × Nat} {q : List (Tk × Nat)} (ht : s.toks = y :: q) (hk : y.1.kind = 2) (h1 : Ev (fun n => headP n y.1.text d) { s with toks := q } a s1) : Ev (fun n => oneC n 2 d) s a s1 := by
 obtain ⟨N0, h1⟩ := h1; refine ⟨N0 + 1, fun n hn => ?_⟩; obtain ⟨m, rfl⟩ : ∃ m, n = m + 1 := ⟨n - 1, by omega⟩; have h1 : headP m y.1.text d { s with toks := q } = (a, s1) := h1 m (by omega); show oneC (m + 1) 2 d s = (a, s1); rw [oneC]; simp [doS, bnd, ret, ht, hk, h1]
theorem Ev.of_one_2_nil  (ht : s.toks = []) : Ev (fun n => oneC n 2 d) s nd0 (failS 110 s) := by
 refine ⟨1, fun n hn => ?_⟩; obtain ⟨m, rfl⟩ : ∃ m, n = m + 1 := ⟨n - 1, by omega⟩; show oneC (m + 1) 2 d s = (nd0, (failS 110 s)); rw [oneC]; simp [doS, bnd, ret, ht]
theorem Ev.of_one_2_no  {y : Tk × Nat} {q : List (Tk × Nat)} (ht : s.toks = y :: q) (hk : y.1.kind ≠ 2) : Ev (fun n => oneC n 2 d) s nd0 (failS 110 s) := by
 refine ⟨1, fun n hn => ?_⟩; obtain ⟨m, rfl⟩ : ∃ m, n = m + 1 := ⟨n - 1, by omega⟩; show oneC (m + 1) 2 d s = (nd0, (failS 110 s)); rw [oneC]; simp [doS, bnd, ret, ht, hk]
theorem Ev.of_clauses_one  {k : Nat} (h1 : Ev (fun n => oneC n k d) s a s1) (ht : (hasS sSemi s1).1 = false) : Ev (fun n => clausesL n k d) s [a] (hasS sSemi s1).2 := by
 obtain ⟨N0, h1⟩ := h1; refine ⟨N0 + 1, fun n hn => ?_⟩; obtain ⟨m, rfl⟩ : ∃ m, n = m + 1 := ⟨n - 1, by omega⟩; have h1 : oneC m k d s = (a, s1) := h1 m (by omega); show clausesL (m + 1) k d s = ([a], (hasS sSemi s1).2); rw [clausesL]; simp [doS, bnd, ret, h1, ht]
theorem Ev.of_clauses_more  {k : Nat} (h1 : Ev (fun n => oneC n k d) s a s1) (ht : (hasS sSemi s1).1 = true) (h2 : Ev (fun n => clausesL n k d) (hasS sSemi s1).2 l s2) : Ev (fun n => clausesL n k d) s (a :: l) s2 := by
 obtain ⟨N0, h1⟩ := h1; obtain ⟨N1, h2⟩ := h2; refine ⟨N0 + N1 + 1, fun n hn => ?_⟩; obtain ⟨m, rfl⟩ : ∃ m, n = m + 1 := ⟨n - 1, by omega⟩; have h1 : oneC m k d s = (a, s1) := h1 m (by omega); have h2 : clausesL m k d (hasS sSemi s1).2 = (l, s2) := h2 m (by omega); show clausesL (m + 1) k d s = ((a :: l), s2); rw [clausesL]; simp [doS, bnd, ret, h1, ht, h2]
theorem Ev.of_list_nil  (ht : (hasS sShutB s).1 = true) : Ev (fun n => listP n d) s nilN (hasS sShutB s).2 := by
 refine ⟨1, fun n hn => ?_⟩; obtain ⟨m, rfl⟩ : ∃ m, n = m + 1 := ⟨n - 1, by omega⟩; show listP (m + 1) d s = (nilN, (hasS sShutB s).2); rw [listP]; simp [doS, bnd, ret, ht]
theorem Ev.of_list_bar  (ht : (hasS sShutB s).1 = false) (h1 : Ev (fun n => someL n d) (hasS sShutB s).2 l s1) (hb : (hasS sBar s1).1 = true) (h2 : Ev (fun n => expr n d) (hasS sBar s1).2 a s2) : Ev (fun n => listP n d) s (consL l a) (mustS sShutB s2) := by
 obtain ⟨N0, h1⟩ := h1; obtain ⟨N1, h2⟩ := h2; refine ⟨N0 + N1 + 1, fun n hn => ?_⟩; obtain ⟨m, rfl⟩ : ∃ m, n = m + 1 := ⟨n - 1, by omega⟩; have h1 : someL m d (hasS sShutB s).2 = (l, s1) := h1 m (by omega); have h2 : expr m d (hasS sBar s1).2 = (a, s2) := h2 m (by omega); show listP (m + 1) d s = ((consL l a), (mustS sShutB s2)); rw [listP]; simp [doS, bnd, ret, ht, h1, hb, h2]
theorem Ev.of_list_some  (ht : (hasS sShutB s).1 = false) (h1 : Ev (fun n => someL n d) (hasS sShutB s).2 l s1) (hb : (hasS sBar s1).1 = false) : Ev (fun n => listP n d) s (consL l nilN) (mustS sShutB (hasS sBar s1).2) := by
 obtain ⟨N0, h1⟩ := h1; refine ⟨N0 + 1, fun n hn => ?_⟩; obtain ⟨m, rfl⟩ : ∃ m, n = m + 1 := ⟨n - 1, by omega⟩; have h1 : someL m d (hasS sShutB s).2 = (l, s1) := h1 m (by omega); show listP (m + 1) d s = ((consL l nilN), (mustS sShutB (hasS sBar s1).2)); rw [listP]; simp [doS, bnd, ret, ht, h1, hb]
theorem Ev.of_recv_at  (hf : nextS s ≠ sAfter) (h1 : Ev (fun n => clausesL n 0 d) s l s1) (ht : (hasS sAfter s1).1 = true) (h2 : Ev (fun n => expr n d) (hasS sAfter s1).2 a s2) (h3 : Ev (fun n => someL n d) (mustS sTo s2) c s3) : Ev (fun n => recvP n d) s (.mk 15 0 [] [a] l c) (mustS sEnd s3) := by
 obtain ⟨N0, h1⟩ := h1; obtain ⟨N1, h2⟩ := h2; obtain ⟨N2, h3⟩ := h3; refine ⟨N0 + N1 + N2 + 1, fun n hn => ?_⟩; obtain ⟨m, rfl⟩ : ∃ m, n = m + 1 := ⟨n - 1, by omega⟩; have h1 : clausesL m 0 d s = (l, s1) := h1 m (by omega); have h2 : expr m d (hasS sAfter s1).2 = (a, s2) := h2 m (by omega); have h3 : someL m d (mustS sTo s2) = (c, s3) := h3 m (by omega); show recvP (m + 1) d s = ((.mk 15 0 [] [a] l c), (mustS sEnd s3)); rw [recvP]; simp only [bnd, if_pos hf]; simp [doS, bnd, ret, h1, ht, h2, h3]
theorem Ev.of_recv_an  (hf : nextS s ≠ sAfter) (h1 : Ev (fun n => clausesL n 0 d) s l s1) (ht : (hasS sAfter s1).1 = false) : Ev (fun n => recvP n d) s (.mk 15 0 [] [] l []) (mustS sEnd (hasS sAfter s1).2) := by
 obtain ⟨N0, h1⟩ := h1; refine ⟨N0 + 1, fun n hn => ?_⟩; obtain ⟨m, rfl⟩ : ∃ m, n = m + 1 := ⟨n - 1, by omega⟩; have h1 : clausesL m 0 d s = (l, s1) := h1 m (by omega); show recvP (m + 1) d s = ((.mk 15 0 [] [] l []), (mustS sEnd (hasS sAfter s1).2)); rw [recvP]; simp only [bnd, if_pos hf]; simp [doS, bnd, ret, h1, ht]
theorem Ev.of_recv_nt  (hf : nextS s = sAfter) (ht : (hasS sAfter s).1 = true) (h2 : Ev (fun n => expr n d) (hasS sAfter s).2 a s2) (h3 : Ev (fun n => someL n d) (mustS sTo s2) c s3) : Ev (fun n => recvP n d) s (.mk 15 0 [] [a] [] c) (mustS sEnd s3) := by
 obtain ⟨N0, h2⟩ := h2; obtain ⟨N1, h3⟩ := h3; refine ⟨N0 + N1 + 1, fun n hn => ?_⟩; obtain ⟨m, rfl⟩ : ∃ m, n = m + 1 := ⟨n - 1, by omega⟩; have h2 : expr m d (hasS sAfter s).2 = (a, s2) := h2 m (by omega); have h3 : someL m d (mustS sTo s2) = (c, s3) := h3 m (by omega); show recvP (m + 1) d s = ((.mk 15 0 [] [a] [] c), (mustS sEnd s3)); rw [recvP]; simp only [bnd, if_neg (fun h => h hf : ¬ (nextS s ≠ sAfter))]; simp [doS, bnd, ret, ht, h2, h3]
theorem Ev.of_recv_nn  (hf : nextS s = sAfter) (ht : (hasS sAfter s).1 = false) : Ev (fun n => recvP n d) s (.mk 15 0 [] [] [] []) (mustS sEnd (hasS sAfter s).2) := by
 refine ⟨1, fun n hn => ?_⟩; obtain ⟨m, rfl⟩ : ∃ m, n = m + 1 := ⟨n - 1, by omega⟩; show recvP (m + 1) d s = ((.mk 15 0 [] [] [] []), (mustS sEnd (hasS sAfter s).2)); rw [recvP]; simp only [bnd, if_neg (fun h => h hf : ¬ (nextS s ≠ sAfter))]; simp [doS, bnd, ret, ht]
theorem Ev.of_prim_leaf  (ht : (leafS s).1 = some a) : Ev (fun n => prim n d) s a (leafS s).2 := by
 refine ⟨1, fun n hn => ?_⟩; obtain ⟨m, rfl⟩ : ∃ m, n = m + 1 := ⟨n - 1, by omega⟩; show prim (m + 1) d s = (a, (leafS s).2); rw [prim_eq]; simp [doS, bnd, ret, ht, primL]
theorem Ev.of_prim_fail  (ht : leafS s = (none, s)) (hk : (takeS opensL s).1 = none) : Ev (fun n => prim n d) s nd0 (failS 110 (takeS opensL s).2) := by
 refine ⟨1, fun n hn => ?_⟩; obtain ⟨m, rfl⟩ : ∃ m, n = m + 1 := ⟨n - 1, by omega⟩; show prim (m + 1) d s = (nd0, (failS 110 (takeS opensL s).2)); rw [prim_eq]; simp [doS, bnd, ret, ht, hk, primL, primO]
theorem Ev.of_prim_open  (ht : leafS s = (none, s)) (hk : (takeS opensL s).1 = some sOpen) (h1 : Ev (fun n => expr n (d + 1)) (takeS opensL s).2 a s1) : Ev (fun n => prim n d) s a (mustS sShut s1) := by
 obtain ⟨N0, h1⟩ := h1; refine ⟨N0 + 1, fun n hn => ?_⟩; obtain ⟨m, rfl⟩ : ∃ m, n = m + 1 := ⟨n - 1, by omega⟩; have h1 : expr m (d + 1) (takeS opensL s).2 = (a, s1) := h1 m (by omega); show prim (m + 1) d s = (a, (mustS sShut s1)); rw [prim_eq]; simp [doS, bnd, ret, ht, hk, h1, primL, primO, primT]
theorem Ev.of_prim_tuple  (ht : leafS s = (none, s)) (hk : (takeS opensL s).1 = some sOpenC) (h1 : Ev (fun n => untilL n sShutC (d + 1)) (takeS opensL s).2 l s1) : Ev (fun n => prim n d) s (.mk 4 0 [] l [] []) s1 := by
 obtain ⟨N0, h1⟩ := h1; refine ⟨N0 + 1, fun n hn => ?_⟩; obtain ⟨m, rfl⟩ : ∃ m, n = m + 1 := ⟨n - 1, by omega⟩; have h1 : untilL m sShutC (d + 1) (takeS opensL s).2 = (l, s1) := h1 m (by omega); show prim (m + 1) d s = ((.mk 4 0 [] l [] []), s1); rw [prim_eq]; simp [doS, bnd, ret, ht, hk, h1, primL, primO, primT]
theorem Ev.of_prim_list  (ht : leafS s = (none, s)) (hk : (takeS opensL s).1 = some sOpenB) (h1 : Ev (fun n => listP n (d + 1)) (takeS opensL s).2 a s1) : Ev (fun n => prim n d) s a s1 := by
 obtain ⟨N0, h1⟩ := h1; refine ⟨N0 + 1, fun n hn => ?_⟩; obtain ⟨m, rfl⟩ : ∃ m, n = m + 1 := ⟨n - 1, by omega⟩; have h1 : listP m (d + 1) (takeS opensL s).2 = (a, s1) := h1 m (by omega); show prim (m + 1) d s = (a, s1); rw [prim_eq]; simp [doS, bnd, ret, ht, hk, h1, primL, primO, primT]
theorem Ev.of_prim_fun  (ht : leafS s = (none, s)) (hk : (takeS opensL s).1 = some sFun) (h1 : Ev (fun n => clausesL n 1 (d + 1)) (takeS opensL s).2 l s1) : Ev (fun n => prim n d) s (.mk 13 0 [] [] l []) (mustS sEnd s1) := by
 obtain ⟨N0, h1⟩ := h1; refine ⟨N0 + 1, fun n hn => ?_⟩; obtain ⟨m, rfl⟩ : ∃ m, n = m + 1 := ⟨n - 1, by omega⟩; have h1 : clausesL m 1 (d + 1) (takeS opensL s).2 = (l, s1) := h1 m (by omega); show prim (m + 1) d s = ((.mk 13 0 [] [] l []), (mustS sEnd s1)); rw [prim_eq]; simp [doS, bnd, ret, ht, hk, h1, primL, primO, primT]
theorem Ev.of_prim_case  (ht : leafS s = (none, s)) (hk : (takeS opensL s).1 = some sCase) (h1 : Ev (fun n => expr n (d + 1)) (takeS opensL s).2 a s1) (h2 : Ev (fun n => clausesL n 0 (d + 1)) (mustS sOf s1) l s2) : Ev (fun n => prim n d) s (.mk 14 0 [] [a] l []) (mustS sEnd s2) := by
 obtain ⟨N0, h1⟩ := h1; obtain ⟨N1, h2⟩ := h2; refine ⟨N0 + N1 + 1, fun n hn => ?_⟩; obtain ⟨m, rfl⟩ : ∃ m, n = m + 1 := ⟨n - 1, by omega⟩; have h1 : expr m (d + 1) (takeS opensL s).2 = (a, s1) := h1 m (by omega); have h2 : clausesL m 0 (d + 1) (mustS sOf s1) = (l, s2) := h2 m (by omega); show prim (m + 1) d s = ((.mk 14 0 [] [a] l []), (mustS sEnd s2)); rw [prim_eq]; simp [doS, bnd, ret, ht, hk, h1, h2, primL, primO, primT]
theorem Ev.of_prim_recv  (ht : leafS s = (none, s)) (hk : (takeS opensL s).1 = some sReceive) (h1 : Ev (fun n => recvP n (d + 1)) (takeS opensL s).2 a s1) : Ev (fun n => prim n d) s a s1 := by
 obtain ⟨N0, h1⟩ := h1; refine ⟨N0 + 1, fun n hn => ?_⟩; obtain ⟨m, rfl⟩ : ∃ m, n = m + 1 := ⟨n - 1, by omega⟩; have h1 : recvP m (d + 1) (takeS opensL s).2 = (a, s1) := h1 m (by omega); show prim (m + 1) d s = (a, s1); rw [prim_eq]; simp [doS, bnd, ret, ht, hk, h1, primL, primO, primT]
theorem Ev.of_prim_try  (ht : leafS s = (none, s)) (hk : (takeS opensL s).1 = some sTry) (h1 : Ev (fun n => someL n (d + 1)) (takeS opensL s).2 c s1) (h2 : Ev (fun n => clausesL n 0 (d + 1)) (mustS sCatch s1) l s2) : Ev (fun n => prim n d) s (.mk 16 0 [] [] l c) (mustS sEnd s2) := by
 obtain ⟨N0, h1⟩ := h1; obtain ⟨N1, h2⟩ := h2; refine ⟨N0 + N1 + 1, fun n hn => ?_⟩; obtain ⟨m, rfl⟩ : ∃ m, n = m + 1 := ⟨n - 1, by omega⟩; have h1 : someL m (d + 1) (takeS opensL s).2 = (c, s1) := h1 m (by omega); have h2 : clausesL m 0 (d + 1) (mustS sCatch s1) = (l, s2) := h2 m (by omega); show prim (m + 1) d s = ((.mk 16 0 [] [] l c), (mustS sEnd s2)); rw [prim_eq]; simp [doS, bnd, ret, ht, hk, h1, h2, primL, primO, primT]
end
end Go.Proofs.YtdmmhfbafinkpaaGreatDoor

namespace Go.Emb
open Go.RowKit
theorem hyd {p : Prop} (h : p) : RowKit.Hid p := h
theorem _root_.Go.RowKit.Hid.o {p : Prop} (h : RowKit.Hid p) : p := h
theorem lA {α : Type _} (l : List α) (i : Nat) (a : α) : l.toArray.setIfInBounds i a = (l.set i a).toArray := List.setIfInBounds_toArray ..
theorem lZ {α : Type _} (x : α) (xs : List α) (a : α) : (x :: xs).set 0 a = a :: xs := rfl
theorem lS {α : Type _} (x : α) (xs : List α) (i : Nat) (a : α) : (x :: xs).set (i + 1) a = x :: xs.set i a := rfl
structure Keep (F : List Nat) (w w' : World) : Prop where
 os : w'.os = w.os
 tape : w'.tape = w.tape
 output : w'.output = w.output
 size : w.heap.size ≤ w'.heap.size
 block : ∀ b, b < w.heap.size → b ∉ F → w'.heap[b]? = w.heap[b]?
theorem Keep.refl (F : List Nat) (w : World) : Keep F w w := ⟨rfl, rfl, rfl, Nat.le_refl _, fun _ _ _ => rfl⟩
theorem Keep.mono {F G : List Nat} {w w' : World} (h : Keep F w w') (hs : ∀ b ∈ F, b < w.heap.size → b ∈ G) : Keep G w w' :=
 ⟨h.os, h.tape, h.output, h.size, fun b hb hn => h.block b hb fun hf => hn (hs b hf hb)⟩
theorem Keep.trans {F G : List Nat} {a b c : World} (h : Keep F a b) (k : Keep G b c) (hs : ∀ x ∈ G, x ∈ F ∨ a.heap.size ≤ x) : Keep F a c :=
 ⟨k.os.trans h.os, k.tape.trans h.tape, k.output.trans h.output, Nat.le_trans h.size k.size, fun x hx hn =>
   (k.block x (Nat.lt_of_lt_of_le hx h.size) fun hg => by rcases hs x hg with h1 | h1; exact hn h1; omega).trans (h.block x hx hn)⟩
theorem Keep.drew {F : List Nat} {a w : World} (h : Keep F a w) : Keep F a w.drew := ⟨h.os, h.tape, h.output, h.size, h.block⟩
theorem Keep.drewN {F : List Nat} {a w : World} (h : Keep F a w) (n : Nat) : Keep F a (w.drewN n) := ⟨h.os, h.tape, h.output, h.size, h.block⟩
theorem Keep.alloc {F : List Nat} {a w : World} (h : Keep F a w) (o : Obj) : Keep F a (w.alloc o) :=
 ⟨h.os, h.tape, h.output, Nat.le_trans h.size (by simp), fun b hb hn => (Below.heap_alloc w o b (Nat.lt_of_lt_of_le hb h.size)).trans (h.block b hb hn)⟩
theorem Keep.setCell {F : List Nat} {a w : World} (h : Keep F a w) {p : Addr} (hp : p.block ∈ F ∨ a.heap.size ≤ p.block) (u : Value) : Keep F a (w.setCell p u) :=
 ⟨h.os, h.tape, h.output, by simpa [World.setCell] using h.size, fun b hb hn => (Below.heap_setCell w p u b (by
   rintro rfl; rcases hp with hp | hp
   · exact hn hp
   · omega)).trans (h.block b hb hn)⟩
theorem Keep.set1 (w : World) (p : Addr) (u : Value) : Keep [p.block] w (w.setCell p u) := (Keep.refl _ _).setCell (.inl (by simp)) u
theorem Keep.of_below {F : List Nat} {a w : World} (h : Below a.heap.size a w) : Keep F a w := ⟨h.os, h.tape, h.output, h.size, fun b hb _ => h.block b hb⟩
theorem Keep.below {F : List Nat} {a w : World} {B : Nat} (h : Keep F a w) (hF : ∀ b ∈ F, B ≤ b) (hB : B ≤ a.heap.size) : Below B a w :=
 ⟨h.os, h.tape, h.output, h.size, fun b hb => h.block b (Nat.lt_of_lt_of_le hb hB) fun hf => by have := hF b hf; omega⟩
theorem Keep.cell {F : List Nat} {w w' : World} (h : Keep F w w') {p : Addr} (hp : p.block < w.heap.size) (hn : p.block ∉ F) : w'.cell? p = w.cell? p := World.cell?_of_block (h.block _ hp hn)
def Rd (w : World) (k : Nat) (v : Value) (n : Nat) (xs : List Value) (o : Option Nat) : Prop :=
 xs.length = n * k ∧ ∃ a c, v = .slice a n c ∧ n ≤ c ∧ c ≤ maxLen ∧
  ((n = 0 ∧ o = none) ∨ ∃ b off, a = some ⟨b, off, none⟩ ∧ o = some b ∧ ∀ i, i < n * k → w.cell? ⟨b, off + i, none⟩ = xs[i]?)
theorem Rd.keep {F : List Nat} {w w' : World} {k : Nat} {v : Value} {n : Nat} {xs : List Value} {o : Option Nat} (h : Rd w k v n xs o) (hk : Keep F w w') (hn : ∀ b, o = some b → b ∉ F) : Rd w' k v n xs o := by
 obtain ⟨hl, a, c, rfl, h1, h2, h3⟩ := h; refine ⟨hl, a, c, rfl, h1, h2, ?_⟩; rcases h3 with h3 | ⟨b, off, rfl, rfl, h3⟩
 ·exact .inl h3
 ·refine .inr ⟨b, off, rfl, rfl, fun i hi => ?_⟩; have hi' := h3 i hi
  have hlt : b < w.heap.size := by
   rw [List.getElem?_eq_getElem (by omega)] at hi'; exact World.block_lt_of_cell? _ _ hi'
  rw [hk.cell (p := ⟨b, off + i, none⟩) hlt (hn b rfl)]; exact hi'
theorem Rd.keep0 {w w' : World} {k : Nat} {v : Value} {n : Nat} {xs : List Value} {o : Option Nat} (h : Rd w k v n xs o) (hk : Keep [] w w') : Rd w' k v n xs o := h.keep hk (by simp)
def Row (w : World) (E k : Nat) (v : Value) (n : Nat) (xs : List Value) (o : Option Nat) : Prop :=
 xs.length = n * k ∧ ((o = none ∧ v = .slice none 0 0 ∧ n = 0) ∨
 ∃ b off cap cs, o = some b ∧ v = .slice (some ⟨b, off, none⟩) n cap ∧ w.heap[b]? = some (.cells cs E (0, 0)) ∧ n ≤ cap ∧ cap ≤ maxLen ∧ off + cap * k ≤ cs.size ∧
   ∀ i, i < n * k → cs[off + i]? = xs[i]?)
theorem Row.rd {w : World} {E k : Nat} {v : Value} {n : Nat} {xs : List Value} {o : Option Nat} (h : Row w E k v n xs o) : ∃ o', Rd w k v n xs o' ∧ (o' = none ∨ o' = o) := by
 obtain ⟨hl, h⟩ := h; rcases h with ⟨rfl, rfl, rfl⟩ | ⟨b, off, cap, cs, rfl, rfl, hb, h1, h2, h3, h5⟩
 ·exact ⟨none, ⟨hl, none, 0, rfl, Nat.le_refl _, Nat.zero_le _, .inl ⟨rfl, rfl⟩⟩, .inl rfl⟩
 ·refine ⟨some b, ⟨hl, _, cap, rfl, h1, h2, .inr ⟨b, off, rfl, rfl, fun i hi => ?_⟩⟩, .inr rfl⟩; rw [← h5 i hi]; simp [World.cell?, hb]
theorem Row.lt {w : World} {E k : Nat} {v : Value} {n : Nat} {xs : List Value} {o : Option Nat} (h : Row w E k v n xs o) : ∀ b, o = some b → b < w.heap.size := by
 obtain ⟨hl, h⟩ := h; rcases h with ⟨rfl, rfl, rfl⟩ | ⟨b, off, cap, cs, rfl, rfl, hb, _⟩
 ·intro b h; cases h
 ·intro b h; cases h; exact (Array.getElem?_eq_some_iff.1 hb).1
theorem Row.keep {F : List Nat} {w w' : World} {E k : Nat} {v : Value} {n : Nat} {xs : List Value} {o : Option Nat} (h : Row w E k v n xs o) (hk : Keep F w w') (hn : ∀ b, o = some b → b ∉ F) : Row w' E k v n xs o := by
 have hlt := h.lt; obtain ⟨hl, h⟩ := h; refine ⟨hl, ?_⟩; rcases h with h | ⟨b, off, cap, cs, rfl, rfl, hb, r⟩
 ·exact .inl h
 ·exact .inr ⟨b, off, cap, cs, rfl, rfl, (hk.block b (hlt b rfl) (hn b rfl)).trans hb, r⟩
theorem Row.nil (w : World) (E k : Nat) : Row w E k (.slice none 0 0) 0 [] none := ⟨by simp, .inl ⟨rfl, rfl, rfl⟩⟩
theorem Rd.src {P : Program} {w : World} {k : Nat} {v : Value} {n : Nat} {xs : List Value} {o : Option Nat} {tx e' : TypeId} (h : Rd w k v n xs o) (hk : P.underlying tx = some (.slice e')) (hn : 0 < n) (h1 : ∀ u ∈ xs, u.oneCell' = true) : Src P k tx v n xs w := by
 obtain ⟨hl, a, c, rfl, _, h2, h3⟩ := h; rcases h3 with ⟨h3, _⟩ | ⟨b, off, rfl, rfl, h3⟩
 ·omega
 ·refine Src.ofSlice w hk _ n c xs hl (fun j u hu => ?_) h1
  have hj : j < n * k := by
   rcases Nat.lt_or_ge j xs.length with h | h
   ·omega
   ·rw [List.getElem?_eq_none h] at hu; cases hu
  have hadd : (⟨b, off, none⟩ : Addr).add j = ⟨b, off + j, none⟩ := by unfold Addr.add; split <;> simp_all
  rw [hadd, h3 j hj, hu]
theorem run_append_row {P : Program} {w : World} {T tx ty E : TypeId} {i : TypeInfo} {z : Value} {k bytes : Nat} (ht : P.underlying T = some (.slice E)) (hi : P.info? E = some i) (hz : i.zero = some z) (hik : i.size = k) (hib : i.bytes = bytes)
  (hzs : z.cells.size = k) {v : Value} {n : Nat} {xs : List Value} {o : Option Nat} (h : Row w E k v n xs o) {x : Value} {m : Nat} {news : List Value} (hs : Src P k tx x m news w) (hpos : 0 < m)
  (h63 : n + m ≤ maxLen) (hbytes : (n + m) * bytes ≤ 140737488355328) :
  ∃ g off cap w', (Builtin.append_ #[T, tx] ty #[v, x]).run P w = .ok (.slice (some ⟨g, off, none⟩) (n + m) cap) w' ∧ Row w' E k (.slice (some ⟨g, off, none⟩) (n + m) cap) (n + m) (xs ++ news) (some g) ∧ Keep o.toList w w' ∧ (o = some g ∨ w.heap.size ≤ g) := by
 subst hik; subst hib; have hm := hs.newsLen; have h1 := hs.one; obtain ⟨hl, h⟩ := h; have hlen : (xs ++ news).length = (n + m) * i.size := by rw [List.length_append, hl, hm, Nat.add_mul]
 have grown : ∀ (old : Nat), old < n + m → ∀ o : Option Nat,
   Row (w.drew.alloc (.cells ((xs ++ news).toArray ++ Builtin.zeroCells z.cells (grownCap w (n + m) old E - (n + m))) E)) E i.size
    (.slice (some ⟨w.heap.size, 0, none⟩) (n + m) (grownCap w (n + m) old E)) (n + m) (xs ++ news) (some w.heap.size) ∧
   Keep o.toList w (w.drew.alloc (.cells ((xs ++ news).toArray ++ Builtin.zeroCells z.cells (grownCap w (n + m) old E - (n + m))) E)) := by
  intro old ho o; have hge := grownCap_ge w (n + m) old E; have hcm : grownCap w (n + m) old E ≤ maxLen := grownCap_le_maxLen w (n + m) old E h63; refine ⟨⟨hlen, .inr ⟨w.heap.size, 0, _, _, rfl, rfl, heap_alloc_new w.drew _, hge, hcm, ?_, ?_⟩⟩, (Keep.refl _ _).drew.alloc _⟩
  ·simp only [Array.size_append, List.size_toArray, size_zeroCells, hzs, hlen, ← Nat.add_mul, Nat.zero_add]; exact Nat.mul_le_mul_right _ (by omega)
  ·intro j hj; rw [Nat.zero_add, Array.getElem?_append_left (by simp only [List.size_toArray, hlen]; exact hj)]; simp
 rcases h with ⟨rfl, rfl, rfl⟩ | ⟨b, off, cap, cs, rfl, rfl, hb, h2, h3, h4, h5⟩
 ·have hx : xs = [] := List.eq_nil_of_length_eq_zero (by simpa using hl); subst hx; have hr := run_append_grow_src (P := P) w T tx ty E i z ht hi hz none 0 0 [] (by simp [Builtin.firstCells]) x m news hs (by omega) (by simp only [maxLen] at h63; omega) (growslice_fits (by omega) hbytes); have hg := grown 0 (by omega) none; simp only [List.nil_append] at hr hg ⊢; exact ⟨_, _, _, _, hr, hg.1, hg.2, .inr (Nat.le_refl _)⟩
 ·by_cases hroom : n + m ≤ cap
  ·have hfit : off + n * i.size + 0 + news.length ≤ cs.size := by
    have : (n + m) * i.size ≤ cap * i.size := Nat.mul_le_mul_right _ hroom; rw [Nat.add_mul] at this
    omega
   have hst := run_storeCells_at P b (off + n * i.size) E news 0 cs w hb hfit h1; simp only [Nat.add_zero] at hst hfit
   have hr : (Builtin.append_ #[T, tx] ty #[.slice (some ⟨b, off, none⟩) n cap, x]).run P w = .ok (.slice (some ⟨b, off, none⟩) (n + m) cap) (w.setRow b (cs.toList.take (off + n * i.size) ++ news ++ cs.toList.drop (off + n * i.size + news.length)).toArray) := by
    rcases hs.kind with ⟨e', hk⟩ | hk <;> simp [Builtin.append_, run_underlying ht, run_underlying hk, sizeOf, typeInfo, hi, hs.len, hroom, hs.cells, Addr.add_lit, hst]
   refine ⟨b, off, cap, _, hr, ⟨hlen, .inr ⟨b, off, cap, _, rfl, rfl, setRow_heap w b cs _ E _ hb, hroom, h3, ?_, ?_⟩⟩, ⟨rfl, rfl, rfl, by simp [World.setRow], fun k _ hk => setRow_other w b k _ (by simpa using hk)⟩, .inl rfl⟩
   ·simp only [List.size_toArray, List.length_append, List.length_take, List.length_drop, Array.length_toList]
    omega
   ·intro j hj; rw [Nat.add_mul] at hj; rw [List.getElem?_toArray, List.append_assoc]
    by_cases hjn : j < n * i.size
    ·rw [List.getElem?_append_left (by simp; omega), List.getElem?_append_left (by omega), List.getElem?_take_of_lt (by omega), Array.getElem?_toList]; exact h5 j hjn
    ·have ht : (cs.toList.take (off + n * i.size)).length = off + n * i.size := by simp; omega
     rw [List.getElem?_append_right (by omega), ht, List.getElem?_append_left (by omega), List.getElem?_append_right (by omega)]
     congr 1
     omega
  ·have hold : (Builtin.firstCells i.size n (.slice (some ⟨b, off, none⟩) n cap)).run P w.drew = .ok xs.toArray w.drew := by
    refine run_firstCells_some (P := P) w.drew i.size n _ n cap xs hl (fun j u hu => ?_)
    have hj : j < n * i.size := by
     rcases Nat.lt_or_ge j xs.length with h | h
     ·omega
     ·rw [List.getElem?_eq_none h] at hu; cases hu
    have hadd : (⟨b, off, none⟩ : Addr).add j = ⟨b, off + j, none⟩ := by unfold Addr.add; split <;> simp_all
    rw [hadd, ← hu, ← h5 j hj]; show w.cell? _ = _; simp [World.cell?, hb]
   have hr := run_append_grow_src (P := P) w T tx ty E i z ht hi hz (some ⟨b, off, none⟩) n cap xs hold x m news hs (by omega) (by simp only [maxLen] at h63; omega) (growslice_fits (by omega) hbytes); have hg := grown cap (by omega) (some b); exact ⟨_, _, _, _, hr, hg.1, hg.2, .inr (Nat.le_refl _)⟩
structure KeyEnc {α : Type} [DecidableEq α] (P : Program) (K : TypeId) (enc : α → Value) : Prop where
 same : ∃ d, P.underlying K = some d ∧ ∀ x y, Instr.sameNow d (enc x) (enc y) = some (decide (x = y))
 check : ∀ em x w, (Instr.checkKey em 10000 K (enc x)).run P w = .ok () w
 stays : ∀ x w, (Instr.keyThatStays (enc x) (enc x)).run P w = .ok (enc x) w
def MapA {α : Type} (enc : α → Value) (w : World) (b : Nat) (ps : List (α × Value)) : Prop :=
 ∃ es clock, w.heap[b]? = some (.map es clock) ∧ (∀ x ∈ es.toList, x.born < clock) ∧ (es.toList.map (·.born)).Nodup ∧
  es.toList.map (fun e => (e.key, e.val)) = ps.map (fun p => (enc p.1, p.2)) ∧ (ps.map (·.1)).Nodup
theorem MapA.made {α : Type} (enc : α → Value) (w : World) : MapA enc (w.alloc (.map #[] 0)) w.heap.size [] :=
 ⟨#[], 0, (MapKept.heap_alloc w _).1, by simp, by simp, by simp, by simp⟩
section
variable {α β : Type} [DecidableEq α]
def mfind (ps : List (α × β)) (x : α) : Option β := (ps.find? fun p => decide (p.1 = x)).map (·.2)
def mput (ps : List (α × β)) (x : α) (v : β) : List (α × β) :=
 if ps.any (fun p => decide (p.1 = x)) then ps.map (fun p => if p.1 = x then (p.1, v) else p) else ps ++ [(x, v)]
theorem mfind_none {ps : List (α × β)} {x : α} : mfind ps x = none ↔ ∀ p ∈ ps, p.1 ≠ x := by
 simp [mfind, List.find?_eq_none]
theorem mput_keys (ps : List (α × β)) (x : α) (v : β) : (mput ps x v).map (·.1) = if ps.any (fun p => decide (p.1 = x)) then ps.map (·.1) else ps.map (·.1) ++ [x] := by
 unfold mput
 split
 ·rw [List.map_map]
  apply List.map_congr_left
  intro p _; simp only [Function.comp]
  split <;> rfl
 ·simp
theorem findNow_enc {d : TypeDesc} {enc : α → Value} (hs : ∀ x y, Instr.sameNow d (enc x) (enc y) = some (decide (x = y))) (x : α) : ∀ (ps : List (α × Value)) (es : List MapEntry) (i : Nat),
  es.map (fun e => (e.key, e.val)) = ps.map (fun p => (enc p.1, p.2)) →
  Instr.findNow d (enc x) es i = some ((ps.findIdx? fun p => decide (p.1 = x)).bind fun j => (ps[j]?).map fun p => (i + j, p.2))
 | [], [], i, _ => rfl
 | [], _ :: _, _, h => by simp at h
 | _ :: _, [], _, h => by simp at h
 | p :: ps, e :: es, i, h => by
  simp only [List.map_cons, List.cons.injEq, Prod.mk.injEq] at h; obtain ⟨⟨hk, hv⟩, h⟩ := h; unfold Instr.findNow; rw [hk, hs x p.1]
  by_cases hx : x = p.1
  ·subst hx; simp [List.findIdx?_cons, hv]
  ·have hx' : ¬ p.1 = x := fun e => hx e.symm
   simp only [hx, decide_false, List.findIdx?_cons, hx']; rw [findNow_enc hs x ps es (i + 1) h]
   cases List.findIdx? (fun p => decide (p.1 = x)) ps with
   | none => rfl
   | some j => simp [Nat.add_assoc, Nat.add_comm 1 j]
theorem mfind_idx (ps : List (α × Value)) (x : α) : mfind ps x = (ps.findIdx? fun p => decide (p.1 = x)).bind fun j => (ps[j]?).map (·.2) := by
 unfold mfind
 induction ps with
 | nil => rfl
 | cons p r ih =>
  by_cases hp : p.1 = x
  ·simp [List.findIdx?_cons, hp]
  ·simp only [List.find?_cons, hp, decide_false, List.findIdx?_cons]; rw [ih]
   cases List.findIdx? (fun p => decide (p.1 = x)) r <;> simp
variable {P : Program} {K E T : TypeId} {enc : α → Value} {w : World} {b : Nat} {ps : List (α × Value)}
theorem MapA.look (h : MapA enc w b ps) (L : KeyEnc P K enc) (ht : P.underlying T = some (.map K E)) {z : Value} (hz : (zeroValue E).run P w = .ok z w) (x : α) (c : Bool) :
  (Instr.lookup T (.map (some b)) (enc x) c).run P w = .ok (if c then .tuple #[(mfind ps x).getD z, .bool (mfind ps x).isSome] else (mfind ps x).getD z) w := by
 obtain ⟨es, clock, hb, hlt, hnd, hps, hkn⟩ := h; obtain ⟨d, hd, hs⟩ := L.same; have hf := findNow_enc hs x ps es.toList 0 hps; have hrun := MapKept.run_findKey (P := P) (w := w) hd hf; rw [mfind_idx]
 cases hj : List.findIdx? (fun p => decide (p.1 = x)) ps with
 | none =>
  rw [hj] at hrun; simp [Instr.lookup, run_underlying ht, MapKept.run_getObj_map hb, L.check _ x w, hrun, hz, Result.andThen]
 | some j =>
  rw [hj] at hrun
  have hjl : j < ps.length := by
   have := List.findIdx?_eq_some_iff_getElem.1 hj; exact this.1
  simp [hjl] at hrun; simp [Instr.lookup, run_underlying ht, MapKept.run_getObj_map hb, L.check _ x w, hrun, Result.andThen, hjl]
theorem setBlock_keep {w : World} {b : Nat} {es : Array MapEntry} {clock : Nat} (hb : w.heap[b]? = some (.map es clock)) (o : Obj) :
  Keep [b] w { w with heap := w.heap.setIfInBounds b o } ∧ ({ w with heap := w.heap.setIfInBounds b o } : World).heap[b]? = some o :=
 ⟨⟨rfl, rfl, rfl, by simp, fun i _ hi => (MapKept.heap_set hb).2 i (by simpa using hi)⟩, (MapKept.heap_set hb).1⟩
theorem idx_any {x : α} (h : ps.findIdx? (fun p => decide (p.1 = x)) = none) : ps.any (fun p => decide (p.1 = x)) = false := by
 rw [List.findIdx?_eq_none_iff] at h; rw [List.any_eq_false]; intro p hp
 simpa using h p hp
theorem MapA.update (h : MapA enc w b ps) (L : KeyEnc P K enc) (ht : P.underlying T = some (.map K E)) (x : α) (v : Value) :
  ∃ w', (Instr.mapUpdate T (.map (some b)) (enc x) v).run P w = .ok () w' ∧ MapA enc w' b (mput ps x v) ∧ Keep [b] w w' := by
 obtain ⟨es, clock, hb, hlt, hnd, hps, hkn⟩ := h; obtain ⟨d, hd, hs⟩ := L.same; have hf := findNow_enc hs x ps es.toList 0 hps; have hrun := MapKept.run_findKey (P := P) (w := w) hd hf; have hlen : es.size = ps.length := by have := congrArg List.length hps; simpa using this
 cases hj : List.findIdx? (fun p => decide (p.1 = x)) ps with
 | none =>
  rw [hj] at hrun; have hany := idx_any hj; obtain ⟨k1, k2⟩ := setBlock_keep hb (.map (es.push { key := enc x, val := v, born := clock }) (clock + 1)); refine ⟨_, ?_, ⟨_, _, k2, ?_, ?_, ?_, ?_⟩, k1⟩
  ·simp [Instr.mapUpdate, run_underlying ht, MapKept.run_getObj_map hb, L.check _ x w, hrun, Result.andThen, MapKept.run_setObj_map _ hb]
  ·intro y hy; simp only [Array.toList_push, List.mem_append, List.mem_singleton] at hy; rcases hy with hy | rfl
   ·have := hlt y hy; omega
   ·simp
  ·simp only [Array.toList_push, List.map_append, List.map_cons, List.map_nil]; rw [List.nodup_append]; refine ⟨hnd, by simp, ?_⟩; intro a ha c hc e; simp only [List.mem_singleton] at hc; obtain ⟨y, hy, rfl⟩ := List.mem_map.1 ha; have := hlt y hy
   omega
  ·unfold mput; rw [hany]; simp [hps]
  ·rw [mput_keys, hany]; simp only [Bool.false_eq_true, if_false]; rw [List.nodup_append]; refine ⟨hkn, by simp, ?_⟩; intro a ha c hc e; simp only [List.mem_singleton] at hc; obtain ⟨y, hy, rfl⟩ := List.mem_map.1 ha; rw [List.any_eq_false] at hany; exact hany y hy (by simp [e, hc])
 | some j =>
  have hjl := List.findIdx?_eq_some_iff_getElem.1 hj; obtain ⟨hjlt, hjx, hjf⟩ := hjl; have hjx' : ps[j].1 = x := by simpa using hjx
  rw [hj] at hrun; simp only [Option.bind_some, List.getElem?_eq_getElem hjlt, Option.map_some, Nat.zero_add] at hrun; have hany : ps.any (fun p => decide (p.1 = x)) = true := List.any_eq_true.2 ⟨ps[j], List.getElem_mem hjlt, by simpa using hjx⟩
  have hkey : ((es[j]?).map (·.key)).getD (enc x) = enc x := by
   have h1 := congrArg (fun l => l[j]?) hps; simp only [List.getElem?_map, List.getElem?_eq_getElem hjlt, Option.map_some] at h1; have hje : j < es.size := by omega
   rw [Array.getElem?_toList, Array.getElem?_eq_getElem hje] at h1; simp only [Option.map_some, Option.some.injEq, Prod.mk.injEq] at h1; rw [Array.getElem?_eq_getElem hje]; simp [h1.1, hjx']
  obtain ⟨k1, k2⟩ := setBlock_keep hb (.map (es.modify j fun e => { e with key := enc x, val := v }) clock)
  have hml : ∀ {β : Type} (f : MapEntry → β), ((es.modify j fun e => { e with key := enc x, val := v }).toList.map f) = es.toList.mapIdx fun i e => if i = j then f { e with key := enc x, val := v } else f e := by
   intro β f
   apply List.ext_getElem?
   intro i; simp only [List.getElem?_map, Array.getElem?_toList, Array.getElem?_modify, List.getElem?_mapIdx]
   by_cases hij : j = i
   ·subst hij; simp only [if_true]
    cases es[j]? <;> simp
   ·have hij' : ¬ i = j := fun e => hij e.symm
    simp only [hij, if_false, hij']
  have hborn : (es.modify j fun e => { e with key := enc x, val := v }).toList.map (·.born) = es.toList.map (·.born) := by
   rw [hml]
   apply List.ext_getElem?
   intro i; simp only [List.getElem?_mapIdx, List.getElem?_map]
   cases es.toList[i]? with
   | none => rfl
   | some e => simp
  refine ⟨_, ?_, ⟨_, _, k2, ?_, ?_, ?_, ?_⟩, k1⟩
  ·simp [Instr.mapUpdate, run_underlying ht, MapKept.run_getObj_map hb, L.check _ x w, hrun, Result.andThen, MapKept.run_setObj_map _ hb, hkey, L.stays x w]
  ·intro y hy; have : y.born ∈ es.toList.map (·.born) := by rw [← hborn]; exact List.mem_map.2 ⟨y, hy, rfl⟩
   obtain ⟨z, hz, hzy⟩ := List.mem_map.1 this; rw [← hzy]; exact hlt z hz
  ·rw [hborn]; exact hnd
  ·rw [hml]; unfold mput; rw [if_pos hany]
   apply List.ext_getElem?
   intro i; have h1 := congrArg (fun l => l[i]?) hps; simp only [List.getElem?_map] at h1; simp only [List.getElem?_mapIdx, List.getElem?_map]
   cases hei : es.toList[i]? with
   | none =>
    rw [hei] at h1; simp only [Option.map_none] at h1 ⊢
    cases hpi : ps[i]? with
    | none => simp
    | some p => rw [hpi] at h1; simp at h1
   | some e =>
    rw [hei] at h1
    cases hpi : ps[i]? with
    | none => rw [hpi] at h1; simp at h1
    | some p =>
     rw [hpi] at h1; simp only [Option.map_some, Option.some.injEq, Prod.mk.injEq] at h1 ⊢
     have hil : i < ps.length := by
      rcases Nat.lt_or_ge i ps.length with h | h
      ·exact h
      ·rw [List.getElem?_eq_none h] at hpi; cases hpi
     rw [List.getElem?_eq_getElem hil] at hpi
     cases hpi
     by_cases hij : i = j
     ·subst hij; rw [if_pos rfl, if_pos hjx', hjx']
     ·rw [if_neg hij]
      have hne : ¬ ps[i].1 = x := by
       intro e; have hpw := List.pairwise_iff_getElem.1 (List.pairwise_map.1 hkn); rcases Nat.lt_or_ge i j with hlt' | hge
       ·exact hpw i j hil hjlt hlt' (e.trans hjx'.symm)
       ·exact hpw j i hjlt hil (by omega) (hjx'.trans e.symm)
      rw [if_neg hne]; simp [h1.1, h1.2]
  ·rw [mput_keys, if_pos hany]; exact hkn
end
section
variable {P : Program} (w : World) {ops : Array Oper} {rest : List Oper} {o : Oper} {a : Act} {Q : Exit → Act → World → Prop}
theorem wpList_mapA_look_ok {α : Type} [DecidableEq α] {enc : α → Value} (hg : o.guard = none) (m x : Operand) (T : TypeId) (hop : o.op = Op.lookup T m x true)
  (K E : TypeId) (L : KeyEnc P K enc) (ht : P.underlying T = some (.map K E)) {z : Value} (hz : (zeroValue E).run P w = .ok z w) (b : Nat) (ps : List (α × Value)) (hm : a.eval m = .map (some b)) (hown : MapA enc w b ps) (key : α) (hx : a.eval x = enc key)
  (hK : wpList P ops Q rest (a.put o.dst (.tuple #[(mfind ps key).getD z, .bool (mfind ps key).isSome])) w) : wpList P ops Q (o :: rest) a w := by
 refine wpList_plain hg fun K' hK' => ?_
 have hrun := hown.look L ht hz key true; unfold Oper.wp; simp [execOp, hop, hm, hx, hrun, Result.andThen]; exact hK' _ _ hK
theorem wpList_append_row (hgd : o.guard = none) (s x : Operand) (T tx : TypeId) (ho : o.op = .call { callee := .builtin .append, args := #[s, x], argTypes := #[T, tx] })
  (E : TypeId) (i : TypeInfo) (z : Value) (k bytes : Nat) (ht : P.underlying T = some (.slice E)) (hi : P.info? E = some i) (hz : i.zero = some z) (hik : i.size = k) (hib : i.bytes = bytes) (hzs : z.cells.size = k)
  (v : Value) (n : Nat) (xs : List Value) (r : Option Nat) (hs : a.eval s = v) (hown : Row w E k v n xs r) (xv : Value) (hx : a.eval x = xv) (m : Nat) (news : List Value) (hsrc : Src P k tx xv m news w) (hpos : 0 < m) (h63 : n + m ≤ maxLen) (hbytes : (n + m) * bytes ≤ 140737488355328)
  (h : ∀ g off cap w', Row w' E k (.slice (some ⟨g, off, none⟩) (n + m) cap) (n + m) (xs ++ news) (some g) → Keep r.toList w w' → (r = some g ∨ w.heap.size ≤ g) → wpList P ops Q rest (a.put o.dst (.slice (some ⟨g, off, none⟩) (n + m) cap)) w') : wpList P ops Q (o :: rest) a w := by
 refine wpList_plain hgd fun K' hK' => ?_
 obtain ⟨g, off, cap, w', hr, h2, h3, h4⟩ := run_append_row (P := P) (w := w) (ty := o.type) ht hi hz hik hib hzs hown hsrc hpos h63 hbytes; unfold Oper.wp execOp; simp only [ho, resolve, invoke, builtin, Sem.run_bind, Sem.run_pure, Result.andThen_ok, List.map_toArray, List.map_cons, List.map_nil, hs, hx, hr]; exact hK' _ _ (h g off cap w' h2 h3 h4)
end
open Go.RowKit
theorem heap_setCell_at {w : World} {b i : Nat} {cs : Array Value} {t : TypeId} {f : Nat × Nat} (h : w.heap[b]? = some (.cells cs t f)) (u : Value) : (w.setCell ⟨b, i, none⟩ u).heap[b]? = some (.cells (cs.setIfInBounds i u) t f) := by
 have hlt := (Array.getElem?_eq_some_iff.1 h).1; simp [World.setCell, Array.getElem?_modify, h]
def sliceOff (off cap lo k : Nat) : Nat := if cap = lo then off else off + lo * k
section
variable {P : Program} (w : World)
theorem run_slice_lo {T E : TypeId} {k : Nat} (ht : P.underlying T = some (.slice E)) (hk : ∀ w, (sizeOf E).run P w = .ok k w) (b off n cap lo : Nat) (h : lo ≤ n) :
  (Instr.slice T (.slice (some ⟨b, off, none⟩) n cap) (some (.int .i64 (lo : Int))) none none).run P w = .ok (.slice (some ⟨b, sliceOff off cap lo k, none⟩) (n - lo) (cap - lo)) w := by
 have h1 : (0 : Int) ≤ (lo : Int) := by omega
 have h2 : (lo : Int) ≤ (n : Int) := by omega
 have hb := run_sliceBound (P := P) w .i64 (lo : Int) n .sliceB h1 h2; unfold Instr.slice Instr.sliceBounds sliceOff; simp [run_underlying ht, hb, hk, Result.andThen]
 by_cases hc : cap = lo
 ·simp [hc]
 ·simp [hc, Addr.add]
end
end Go.Emb

namespace Go.Proofs.YtdmmhfbafinkpaaGreatDoor
open Go.RowKit Go.Emb Go.Emb
abbrev wid (k : Bool) : Nat := if k then 5 else 7
inductive NdR (S : Nat → Prop) (w : World) : Bool → List Value → Nd → Prop
 | node {kind num at_ : Int} {name : List UInt8} {a b c : List Nd} {va vb vc : Value} {ea eb ec : List (List Value)} {oa ob oc : Option Nat}
   (ha : Rd w 7 va a.length ea.flatten oa) (hb : Rd w 5 vb b.length eb.flatten ob) (hc : Rd w 7 vc c.length ec.flatten oc)
   (sa : ∀ x, oa = some x → S x) (sb : ∀ x, ob = some x → S x) (sc : ∀ x, oc = some x → S x)
   (la : ea.length = a.length) (lb : eb.length = b.length) (lc : ec.length = c.length)
   (ra : ∀ i (h : i < ea.length) (h' : i < a.length), NdR S w false ea[i] a[i])
   (rb : ∀ i (h : i < eb.length) (h' : i < b.length), NdR S w true eb[i] b[i])
   (rc : ∀ i (h : i < ec.length) (h' : i < c.length), NdR S w false ec[i] c[i]) :
   NdR S w false [.int .i64 kind, .int .i64 num, .string ⟨name.toArray⟩, .int .i64 at_, va, vb, vc] (.mk kind num name a b c)
 | clause {at_ : Int} {name : List UInt8} {a b c : List Nd} {va vb vc : Value} {ea eb ec : List (List Value)} {oa ob oc : Option Nat}
   (ha : Rd w 7 va a.length ea.flatten oa) (hb : Rd w 7 vb b.length eb.flatten ob) (hc : Rd w 7 vc c.length ec.flatten oc)
   (sa : ∀ x, oa = some x → S x) (sb : ∀ x, ob = some x → S x) (sc : ∀ x, oc = some x → S x)
   (la : ea.length = a.length) (lb : eb.length = b.length) (lc : ec.length = c.length)
   (ra : ∀ i (h : i < ea.length) (h' : i < a.length), NdR S w false ea[i] a[i])
   (rb : ∀ i (h : i < eb.length) (h' : i < b.length), NdR S w false eb[i] b[i])
   (rc : ∀ i (h : i < ec.length) (h' : i < c.length), NdR S w false ec[i] c[i]) :
   NdR S w true [va, vb, vc, .string ⟨name.toArray⟩, .int .i64 at_] (.mk 0 0 name a b c)
def NsR (S : Nat → Prop) (w : World) (k : Bool) (v : Value) (l : List Nd) : Prop :=
 ∃ (es : List (List Value)) (o : Option Nat), Rd w (wid k) v l.length es.flatten o ∧ (∀ x, o = some x → S x) ∧ es.length = l.length ∧ ∀ i (h : i < es.length) (h' : i < l.length), NdR S w k es[i] l[i]
section
variable {S S' : Nat → Prop} {w w' : World}
theorem NdR.mono {k : Bool} {cs : List Value} {n : Nd} (h : NdR S w k cs n) (hs : ∀ b, S b → S' b) : NdR S' w k cs n := by
 induction h with
 | node ha hb hc sa sb sc la lb lc ra rb rc ia ib ic => exact .node ha hb hc (fun x h => hs x (sa x h)) (fun x h => hs x (sb x h)) (fun x h => hs x (sc x h)) la lb lc ia ib ic
 | clause ha hb hc sa sb sc la lb lc ra rb rc ia ib ic => exact .clause ha hb hc (fun x h => hs x (sa x h)) (fun x h => hs x (sb x h)) (fun x h => hs x (sc x h)) la lb lc ia ib ic
theorem NdR.keep {k : Bool} {cs : List Value} {n : Nd} {F : List Nat} (h : NdR S w k cs n) (hk : Keep F w w') (hs : ∀ b ∈ F, ¬ S b) : NdR S w' k cs n := by
 induction h with
 | node ha hb hc sa sb sc la lb lc ra rb rc ia ib ic => exact .node (ha.keep hk fun x h hf => hs x hf (sa x h)) (hb.keep hk fun x h hf => hs x hf (sb x h)) (hc.keep hk fun x h hf => hs x hf (sc x h)) sa sb sc la lb lc ia ib ic
 | clause ha hb hc sa sb sc la lb lc ra rb rc ia ib ic => exact .clause (ha.keep hk fun x h hf => hs x hf (sa x h)) (hb.keep hk fun x h hf => hs x hf (sb x h)) (hc.keep hk fun x h hf => hs x hf (sc x h)) sa sb sc la lb lc ia ib ic
theorem NdR.mk7 {kind num at_ : Int} {name : List UInt8} {a b c : List Nd} {va vb vc : Value} (ha : NsR S w false va a) (hb : NsR S w true vb b) (hc : NsR S w false vc c) :
  NdR S w false [.int .i64 kind, .int .i64 num, .string ⟨name.toArray⟩, .int .i64 at_, va, vb, vc] (.mk kind num name a b c) := by
 obtain ⟨_, _, a1, a2, a3, a4⟩ := ha; obtain ⟨_, _, b1, b2, b3, b4⟩ := hb; obtain ⟨_, _, c1, c2, c3, c4⟩ := hc; exact .node a1 b1 c1 a2 b2 c2 a3 b3 c3 a4 b4 c4
theorem NdR.mk5 {at_ : Int} {name : List UInt8} {a b c : List Nd} {va vb vc : Value} (ha : NsR S w false va a) (hb : NsR S w false vb b) (hc : NsR S w false vc c) :
  NdR S w true [va, vb, vc, .string ⟨name.toArray⟩, .int .i64 at_] (.mk 0 0 name a b c) := by
 obtain ⟨_, _, a1, a2, a3, a4⟩ := ha; obtain ⟨_, _, b1, b2, b3, b4⟩ := hb; obtain ⟨_, _, c1, c2, c3, c4⟩ := hc; exact .clause a1 b1 c1 a2 b2 c2 a3 b3 c3 a4 b4 c4
theorem NdR.un7 {cs : List Value} {n : Nd} (h : NdR S w false cs n) : ∃ kind num at_ name a b c va vb vc, cs = [.int .i64 kind, .int .i64 num, .string ⟨name.toArray⟩, .int .i64 at_, va, vb, vc] ∧ n = .mk kind num name a b c ∧ NsR S w false va a ∧ NsR S w true vb b ∧ NsR S w false vc c := by
 cases h with
 | node ha hb hc sa sb sc la lb lc ra rb rc => exact ⟨_, _, _, _, _, _, _, _, _, _, rfl, rfl, ⟨_, _, ha, sa, la, ra⟩, ⟨_, _, hb, sb, lb, rb⟩, ⟨_, _, hc, sc, lc, rc⟩⟩
theorem NdR.un5 {cs : List Value} {n : Nd} (h : NdR S w true cs n) : ∃ at_ name a b c va vb vc, cs = [va, vb, vc, .string ⟨name.toArray⟩, .int .i64 at_] ∧ n = .mk 0 0 name a b c ∧ NsR S w false va a ∧ NsR S w false vb b ∧ NsR S w false vc c := by
 cases h with
 | clause ha hb hc sa sb sc la lb lc ra rb rc => exact ⟨_, _, _, _, _, _, _, _, rfl, rfl, ⟨_, _, ha, sa, la, ra⟩, ⟨_, _, hb, sb, lb, rb⟩, ⟨_, _, hc, sc, lc, rc⟩⟩
theorem NdR.len {k : Bool} {cs : List Value} {n : Nd} (h : NdR S w k cs n) : cs.length = wid k := by cases h <;> rfl
theorem NdR.one {k : Bool} {cs : List Value} {n : Nd} (h : NdR S w k cs n) : ∀ u ∈ cs, u.oneCell' = true := by
 have hv : ∀ {k n xs o v}, Rd w k v n xs o → v.oneCell' = true := fun h => by obtain ⟨-, a, c, rfl, -⟩ := h; rfl
 intro u hu
 cases h with
 | node ha hb hc =>
  simp at hu; rcases hu with rfl | rfl | rfl | rfl | rfl | rfl | rfl
  all_goals first | rfl | exact hv ha | exact hv hb | exact hv hc
 | clause ha hb hc =>
  simp at hu; rcases hu with rfl | rfl | rfl | rfl | rfl
  all_goals first | rfl | exact hv ha | exact hv hb | exact hv hc
theorem NsR.mono {k : Bool} {v : Value} {l : List Nd} (h : NsR S w k v l) (hs : ∀ b, S b → S' b) : NsR S' w k v l := by
 obtain ⟨es, o, h1, h2, h3, h4⟩ := h; exact ⟨es, o, h1, fun x hx => hs x (h2 x hx), h3, fun i h h' => (h4 i h h').mono hs⟩
theorem NsR.keep {k : Bool} {v : Value} {l : List Nd} {F : List Nat} (h : NsR S w k v l) (hk : Keep F w w') (hs : ∀ b ∈ F, ¬ S b) : NsR S w' k v l := by
 obtain ⟨es, o, h1, h2, h3, h4⟩ := h; exact ⟨es, o, h1.keep hk fun x h hf => hs x hf (h2 x h), h2, h3, fun i h h' => (h4 i h h').keep hk hs⟩
theorem NsR.nil (S : Nat → Prop) (w : World) (k : Bool) : NsR S w k (.slice none 0 0) [] := ⟨[], none, ⟨by simp, none, 0, rfl, Nat.le_refl _, by simp [maxLen], .inl ⟨rfl, rfl⟩⟩, (by simp), rfl, fun i h => by simp at h⟩
theorem NsR.form {k : Bool} {v : Value} {l : List Nd} (h : NsR S w k v l) : ∃ a c, v = .slice a l.length c := by
 obtain ⟨es, o, ⟨-, a, c, h, -⟩, -⟩ := h; exact ⟨a, c, h⟩
end
theorem NdR.un7s {S : Nat → Prop} {w : World} {cs : List Value} {n : Nd} (h : NdR S w false cs n) : ∃ kind num at_ name p1 n1 c1 p2 n2 c2 p3 n3 c3, cs = [.int .i64 kind, .int .i64 num, .string ⟨name.toArray⟩, .int .i64 at_, .slice p1 n1 c1, .slice p2 n2 c2, .slice p3 n3 c3] ∧ n.name = name := by
 obtain ⟨kind, num, at_, name, a, b, c, va, vb, vc, rfl, rfl, h1, h2, h3⟩ := h.un7; obtain ⟨p1, c1, rfl⟩ := h1.form; obtain ⟨p2, c2, rfl⟩ := h2.form; obtain ⟨p3, c3, rfl⟩ := h3.form; exact ⟨_, _, _, _, _, _, _, _, _, _, _, _, _, rfl, rfl⟩
theorem NdR.un5s {S : Nat → Prop} {w : World} {cs : List Value} {n : Nd} (h : NdR S w true cs n) : ∃ at_ name p1 n1 c1 p2 n2 c2 p3 n3 c3, cs = [.slice p1 n1 c1, .slice p2 n2 c2, .slice p3 n3 c3, .string (⟨name⟩ : ByteArray), .int .i64 at_] := by
 obtain ⟨at_, name, a, b, c, va, vb, vc, rfl, rfl, h1, h2, h3⟩ := h.un5; obtain ⟨p1, c1, rfl⟩ := h1.form; obtain ⟨p2, c2, rfl⟩ := h2.form; obtain ⟨p3, c3, rfl⟩ := h3.form; exact ⟨_, _, _, _, _, _, _, _, _, _, _, rfl⟩
def Frs (lo : Nat) (w : World) (b : Nat) : Prop := lo ≤ b ∧ b < w.heap.size
theorem NdR.up {w w' : World} {lo lo' : Nat} {k : Bool} {cs : List Value} {n : Nd} {F : List Nat} (h : NdR (Frs lo w) w k cs n) (hk : Keep F w w') (hF : ∀ b ∈ F, b < lo) (hlo : lo' ≤ lo) : NdR (Frs lo' w') w' k cs n :=
 (h.keep hk (fun b hb h => by have := hF b hb; exact absurd h.1 (by omega))).mono (fun b h => ⟨Nat.le_trans hlo h.1, Nat.lt_of_lt_of_le h.2 hk.size⟩)
theorem NsR.up {w w' : World} {lo lo' : Nat} {k : Bool} {v : Value} {l : List Nd} {F : List Nat} (h : NsR (Frs lo w) w k v l) (hk : Keep F w w') (hF : ∀ b ∈ F, b < lo) (hlo : lo' ≤ lo) : NsR (Frs lo' w') w' k v l :=
 (h.keep hk (fun b hb h => by have := hF b hb; exact absurd h.1 (by omega))).mono (fun b h => ⟨Nat.le_trans hlo h.1, Nat.lt_of_lt_of_le h.2 hk.size⟩)
def FrsX (lo : Nat) (w : World) (o : Option Nat) (b : Nat) : Prop := lo ≤ b ∧ b < w.heap.size ∧ o ≠ some b
def RowN (lo : Nat) (w : World) (k : Bool) (v : Value) (l : List Nd) (o : Option Nat) : Prop :=
 ∃ (es : List (List Value)), Row w (if k then 52 else 29) (wid k) v l.length es.flatten o ∧ es.length = l.length ∧ (∀ i (h : i < es.length) (h' : i < l.length), NdR (FrsX lo w o) w k es[i] l[i]) ∧ ∀ b, o = some b → lo ≤ b
theorem RowN.nil (lo : Nat) (w : World) (k : Bool) : RowN lo w k (.slice none 0 0) [] none := ⟨[], Row.nil _ _ _, rfl, fun i h => by simp at h, by simp⟩
theorem RowN.lt {lo : Nat} {w : World} {k : Bool} {v : Value} {l : List Nd} {o : Option Nat} (h : RowN lo w k v l o) : ∀ b, o = some b → b < w.heap.size := by
 obtain ⟨es, h1, -⟩ := h; exact Row.lt h1
theorem RowN.keep {lo : Nat} {w w' : World} {k : Bool} {v : Value} {l : List Nd} {o : Option Nat} {F : List Nat} (h : RowN lo w k v l o) (hk : Keep F w w') (hF : ∀ b ∈ F, b < lo) : RowN lo w' k v l o := by
 obtain ⟨es, h1, h2, h3, h4⟩ := h; exact ⟨es, h1.keep hk (fun b hb hf => absurd (h4 b hb) (by have := hF b hf; omega)), h2, fun i h h' => ((h3 i h h').keep hk (fun b hb h => absurd h.1 (by have := hF b hb; omega))).mono (fun b h => ⟨h.1, Nat.lt_of_lt_of_le h.2.1 hk.size, h.2.2⟩), h4⟩
theorem RowN.form {lo : Nat} {w : World} {k : Bool} {v : Value} {l : List Nd} {o : Option Nat} (h : RowN lo w k v l o) : ∃ a c, v = .slice a l.length c := by
 obtain ⟨es, h1, -⟩ := h; obtain ⟨o', ⟨-, a, c, hv, -⟩, -⟩ := Row.rd h1; exact ⟨a, c, hv⟩
theorem RowN.push {lo lo' : Nat} {w w' : World} {k : Bool} {v' : Value} {l : List Nd} {o : Option Nat} {g : Nat} {cs : List Value} {n : Nd} {es : List (List Value)}
  (he : es.length = l.length) (ht : ∀ i (h : i < es.length) (h' : i < l.length), NdR (FrsX lo w o) w k es[i] l[i]) (ho : ∀ b, o = some b → lo ≤ b) (hx : NdR (Frs lo' w) w k cs n) (hlo : lo ≤ lo') (hlo2 : lo' ≤ w.heap.size) (hol : ∀ b, o = some b → b < lo')
  (hk : Keep o.toList w w') (hg : o = some g ∨ w.heap.size ≤ g) (hr : Row w' (if k then 52 else 29) (wid k) v' (l.length + 1) (es.flatten ++ cs) (some g)) : RowN lo w' k v' (l ++ [n]) (some g) := by
 have hS : ∀ b, FrsX lo w o b → FrsX lo w' (some g) b := fun b h => ⟨h.1, Nat.lt_of_lt_of_le h.2.1 hk.size, fun e => by
   cases e
   rcases hg with hg | hg
   · exact h.2.2 hg
   · have := h.2.1; omega⟩
 have hX : ∀ b, Frs lo' w b → FrsX lo w' (some g) b := fun b h => ⟨Nat.le_trans hlo h.1, Nat.lt_of_lt_of_le h.2 hk.size, fun e => by
   cases e
   rcases hg with hg | hg
   · have := hol _ hg; have := h.1; omega
   · have := h.2; omega⟩
 refine ⟨es ++ [cs], by simpa using hr, by simp [he], fun i h h' => ?_, fun b hb => ?_⟩
 ·by_cases hi : i < es.length
  ·rw [List.getElem_append_left hi, List.getElem_append_left (by omega)]; exact ((ht i hi (by omega)).keep hk (fun b hb h => by simp at hb; exact h.2.2 hb)).mono hS
  ·obtain rfl : i = es.length := by simp at h; omega
   have e1 : (es ++ [cs])[es.length]'h = cs := by simp
   have e2 : (l ++ [n])[es.length]'h' = n := by rw [List.getElem_append_right (by omega)]; simp [he]
   rw [e1, e2]; exact (hx.keep hk (fun b hb h => by simp at hb; have := hol _ hb; have := h.1; omega)).mono hX
 ·cases hb
  rcases hg with hg | hg
  ·exact ho _ hg
  ·omega
theorem RowN.ns {lo : Nat} {w : World} {k : Bool} {v : Value} {l : List Nd} {o : Option Nat} (h : RowN lo w k v l o) : NsR (Frs lo w) w k v l := by
 have hlt := h.lt; obtain ⟨es, h1, h2, h3, h4⟩ := h; obtain ⟨o', h5, h6⟩ := Row.rd h1; refine ⟨es, o', h5, fun x hx => ?_, h2, fun i h h' => (h3 i h h').mono (fun b hb => ⟨hb.1, hb.2.1⟩)⟩; rcases h6 with h6 | h6
 ·rw [h6] at hx; cases hx
 ·rw [h6] at hx; exact ⟨h4 x hx, hlt x hx⟩
open Go.RowKit Go.Emb
def encK (x : Tk × Nat) : List Value := [.int .i64 x.1.kind, .int .i64 x.1.num, .string ⟨x.1.text.toArray⟩, .int .i64 (x.2 : Nat), .int .i64 (x.2 + x.1.en : Nat)]
def strV (x : List UInt8) : Value := .string ⟨x.toArray⟩
def LvT (B : Nat) (w : World) : Prop := ∀ v, v < 5 → ∃ sv o, w.cell? ⟨0, v, none⟩ = some sv ∧ Rd w 1 sv (levelsL v).length ((levelsL v).map strV) o ∧ (0 < B) ∧ ∀ b, o = some b → b < B
theorem LvT.keep {B : Nat} {w w' : World} {F : List Nat} (h : LvT B w) (hk : Keep F w w') (hF : ∀ b ∈ F, B ≤ b) : LvT B w' := fun v hv => by
 obtain ⟨sv, o, h1, h2, h3, h4⟩ := h v hv; exact ⟨sv, o, by rw [hk.cell (World.block_lt_of_cell? _ _ h1) (fun hm => by have := hF _ hm; simp only at this; omega)]; exact h1, h2.keep hk (fun b hb hm => by have := hF _ hm; have := h4 b hb; omega), h3, h4⟩
structure PS (lo : Nat) (w : World) (pb : Nat) (s : St) : Prop where
 blk : ∃ v o, w.heap[pb]? = some (.cells #[v, .int .i64 s.en, .int .i64 s.err, .int .i64 s.at_] 79 (0, 0)) ∧ Rd w 5 v s.toks.length (s.toks.flatMap encK) o ∧ ∀ b, o = some b → b < lo ∧ b ≠ pb
 plo : pb < lo
 lv : LvT pb w
theorem blkK {w w' : World} {q : Nat} {ob : Obj} {F : List Nat} (h : w.heap[q]? = some ob) (hk : Keep F w w') (hn : q ∉ F) : w'.heap[q]? = some ob := by
 rw [hk.block q (Array.getElem?_eq_some_iff.1 h).1 hn, h]
theorem PS.keep {lo : Nat} {w w' : World} {pb : Nat} {s : St} {F : List Nat} (h : PS lo w pb s) (hk : Keep F w w') (hF : ∀ b ∈ F, lo ≤ b) : PS lo w' pb s := by
 obtain ⟨v, o, h1, h2, h3⟩ := h.blk; have hp := h.plo; exact ⟨⟨v, o, blkK h1 hk (fun hm => by have := hF _ hm; omega), h2.keep hk (fun b hb hm => by have := hF _ hm; have := (h3 b hb).1; omega), h3⟩, hp, h.lv.keep hk (fun b hb => by have := hF b hb; omega)⟩
theorem PS.keep0 {lo : Nat} {w w' : World} {pb : Nat} {s : St} (h : PS lo w pb s) (hk : Keep [] w w') : PS lo w' pb s := h.keep hk (by simp)
theorem cells4p {w : World} {q : Nat} {a b c d : Value} {t : TypeId} (h : w.heap[q]? = some (.cells #[a, b, c, d] t (0, 0))) : w.cell? ⟨q, 0, none⟩ = some a ∧ w.cell? ⟨q, 1, none⟩ = some b ∧ w.cell? ⟨q, 2, none⟩ = some c ∧ w.cell? ⟨q, 3, none⟩ = some d := by
 refine ⟨?_, ?_, ?_, ?_⟩ <;> simp [World.cell?, h]
theorem frozenP {w : World} {q : Nat} {cs : Array Value} {t : TypeId} (h : w.heap[q]? = some (.cells cs t (0, 0))) : ∀ i, w.frozen? ⟨q, i, none⟩ = false := fun i => by simp [World.frozen?, h]
theorem toks_at {w : World} {v : Value} {x : Tk × Nat} {r : List (Tk × Nat)} {o : Option Nat} (h : Rd w 5 v (x :: r).length ((x :: r).flatMap encK) o) :
  ∃ b off c, v = .slice (some ⟨b, off, none⟩) (r.length + 1) c ∧ o = some b ∧ r.length + 1 ≤ c ∧ w.cell? ⟨b, off, none⟩ = some (.int .i64 x.1.kind) ∧ w.cell? ⟨b, off + 1, none⟩ = some (.int .i64 x.1.num) ∧ w.cell? ⟨b, off + 2, none⟩ = some (.string ⟨x.1.text.toArray⟩) ∧ w.cell? ⟨b, off + 3, none⟩ = some (.int .i64 (x.2 : Nat))
   ∧ Rd w 5 (.slice (some ⟨b, sliceOff off c 1 5, none⟩) r.length (c - 1)) r.length (r.flatMap encK) o := by
 obtain ⟨hl, a, c, rfl, h1, h2, h3⟩ := h; rcases h3 with ⟨h3, _⟩ | ⟨b, off, rfl, rfl, h3⟩
 ·cases h3
 have hr : (r.flatMap encK).length = r.length * 5 := by
  rw [List.flatMap_cons, List.length_append, List.length_cons, show (encK x).length = 5 from rfl] at hl
  omega
 have hl5 : (x :: r).length = r.length + 1 := rfl; rw [hl5] at h3 h1; refine ⟨b, off, c, rfl, rfl, h1, by simpa [encK] using h3 0 (by omega), by simpa [encK] using h3 1 (by omega), by simpa [encK] using h3 2 (by omega), by simpa [encK] using h3 3 (by omega), hr, _, _, rfl, by omega, by omega, ?_⟩
 by_cases hc : c = 1
 ·have : r.length = 0 := by omega
  exact .inr ⟨b, _, rfl, rfl, fun i hi => by omega⟩
 ·refine .inr ⟨b, _, rfl, rfl, fun i hi => ?_⟩; unfold sliceOff; rw [if_neg hc, show off + 1 * 5 + i = off + (5 + i) by omega, h3 (5 + i) (by omega), List.flatMap_cons, List.getElem?_append_right (by show 5 ≤ 5 + i; omega)]
  congr 1
  show 5 + i - 5 = i
  omega
theorem toks_nil {w : World} {v : Value} {o : Option Nat} (h : Rd w 5 v 0 [] o) : ∃ a c, v = .slice a 0 c := by obtain ⟨-, a, c, h, -⟩ := h; exact ⟨a, c, h⟩
theorem p_place {lo : Nat} {w : World} {pb : Nat} {s : St} (h : PS lo w pb s) : Calls Tryz.prog 67 #[.pointer (some ⟨pb, 0, none⟩)] w fun e w' => e = .returned (.int .i64 (plc s)) ∧ w = w' := by
 obtain ⟨v, o, h1, h2, -⟩ := h.blk; obtain ⟨s0, s1, s2, s3⟩ := cells4p h1; obtain ⟨toks, en, err, at_⟩ := s
 cases toks with
 | nil =>
  obtain ⟨a, c, rfl⟩ := toks_nil h2; clear h1 h2 h; simp only at s0 s1 s2 s3; go_enter Tryz.func67, Tryz.ntmps67; go_wp2_with fail; go_ret; exact ⟨rfl, rfl⟩
 | cons x r =>
  obtain ⟨b, off, c, rfl, -, -, c0, c1, c2, c3, -⟩ := toks_at h2; clear h1 h2 h; simp only at s0 s1 s2 s3; go_enter Tryz.func67, Tryz.ntmps67; go_wp2_with fail; go_ret; exact ⟨rfl, rfl⟩
theorem p_next {lo : Nat} {w : World} {pb : Nat} {s : St} (h : PS lo w pb s) : Calls Tryz.prog 99 #[.pointer (some ⟨pb, 0, none⟩)] w fun e w' => e = .returned (.string ⟨(nextS s).toArray⟩) ∧ w = w' := by
 obtain ⟨v, o, h1, h2, -⟩ := h.blk; obtain ⟨s0, s1, s2, s3⟩ := cells4p h1; obtain ⟨toks, en, err, at_⟩ := s
 cases toks with
 | nil =>
  obtain ⟨a, c, rfl⟩ := toks_nil h2; clear h1 h2 h; simp only at s0 s1 s2 s3; go_enter Tryz.func99, Tryz.ntmps99; go_wp2_with fail; go_ret; exact ⟨rfl, rfl⟩
 | cons x r =>
  obtain ⟨b, off, c, rfl, -, -, c0, c1, c2, c3, -⟩ := toks_at h2; clear h1 h2 h; simp only at s0 s1 s2 s3
  by_cases hk : x.1.kind < 4
  ·go_enter Tryz.func99, Tryz.ntmps99; go_wp2_with fail; go_ret; exact ⟨by simp [nextS, hk], rfl⟩
  ·go_enter Tryz.func99, Tryz.ntmps99; go_wp2_with fail; go_ret; exact ⟨by simp [nextS]; intro h; omega, rfl⟩
theorem PS.written {lo : Nat} {w w' : World} {pb : Nat} {s s' : St} {v' : Value} {o' : Option Nat} (h : PS lo w pb s) (hk : Keep [pb] w w') (hb : w'.heap[pb]? = some (.cells #[v', .int .i64 s'.en, .int .i64 s'.err, .int .i64 s'.at_] 79 (0, 0)))
  (hr : Rd w 5 v' s'.toks.length (s'.toks.flatMap encK) o') (ho : ∀ b, o' = some b → b < lo ∧ b ≠ pb) : PS lo w' pb s' :=
 ⟨⟨v', o', hb, hr.keep hk (fun b hb => by simpa using (ho b hb).2), ho⟩, h.plo, h.lv.keep hk (by simp)⟩
theorem p_fails {lo : Nat} {w : World} {pb : Nat} {s : St} (h : PS lo w pb s) (x : Int) : Calls Tryz.prog 44 #[.pointer (some ⟨pb, 0, none⟩), .int .i64 x] w fun e w' => e = .returned (.tuple #[]) ∧ PS lo w' pb (failS x s) ∧ Keep [pb] w w' := by
 have HPL := hyd (p_place h); have H := hyd h; obtain ⟨v, o, h1, h2, h3⟩ := h.blk; obtain ⟨s0, s1, s2, s3⟩ := cells4p h1; have f0 := frozenP h1; obtain ⟨pl, hpl⟩ : ∃ pl, pl = plc s := ⟨_, rfl⟩; rw [← hpl] at HPL; have HB := hyd h1; obtain ⟨er, her⟩ : ∃ er, er = s.err := ⟨_, rfl⟩; rw [← her] at s2; have HE := hyd her; have HP := hyd hpl; clear h1 h2 h3 h her hpl
 by_cases he : er = 0
 ·have he' : (er == 0) = true := by simp [he]
  go_enter Tryz.func44, Tryz.ntmps44
  go_wp2_with (go_at_call 67; refine HPL.o.mono ?_; rintro e w1 ⟨rfl, rfl⟩)
  go_end0
  refine ⟨rfl, ?_, (((Keep.refl [pb] w).setCell (.inl (by simp)) _).setCell (.inl (by simp)) _).setCell (.inl (by simp)) _ |>.setCell (.inl (by simp)) _⟩; unfold failS; rw [if_pos (by rw [← HE.o]; exact he), ← HP.o]; refine H.o.written (v' := .slice none 0 0) (o' := none) ((((Keep.refl [pb] w).setCell (.inl (by simp)) _).setCell (.inl (by simp)) _).setCell (.inl (by simp)) _ |>.setCell (.inl (by simp)) _) ?_ ⟨rfl, none, 0, rfl, Nat.le_refl _, by simp [maxLen], .inl ⟨rfl, rfl⟩⟩ (by simp)
  simpa using heap_setCell_at (i := 1) (heap_setCell_at (i := 0) (heap_setCell_at (i := 3) (heap_setCell_at (i := 2) HB.o (.int .i64 x)) (.int .i64 pl)) (.slice none 0 0)) (.int .i64 (-1))
 ·have he' : (er == 0) = false := beq_eq_false_iff_ne.2 he; go_enter Tryz.func44, Tryz.ntmps44; go_wp2_with fail
  go_end0
  unfold failS; rw [if_neg (by rw [← HE.o]; exact he)]; exact ⟨rfl, H.o, Keep.refl _ _⟩
theorem bl_list (x : List UInt8) : (⟨x.toArray⟩ : ByteArray).toList = x := by rw [_root_.Go.ByteArray.toList_eq]
def RdT (w : World) (v : Value) (l : List (List UInt8)) : Prop := ∃ o, Rd w 1 v l.length (l.map strV) o
theorem RdT.form {w : World} {v : Value} {l : List (List UInt8)} (h : RdT w v l) : ∃ a c, v = .slice a l.length c := by obtain ⟨o, -, a, c, h, -⟩ := h; exact ⟨a, c, h⟩
theorem RdT.at {w : World} {a : Option Addr} {n c : Nat} {l : List (List UInt8)} (h : RdT w (.slice a n c) l) {k : Nat} (hk : k < l.length) : ∃ b off, a = some ⟨b, off, none⟩ ∧ w.cell? ⟨b, off + k, none⟩ = some (.string ⟨l[k].toArray⟩) := by
 obtain ⟨o, -, a', c', hv, -, -, h3⟩ := h
 cases hv
 rcases h3 with ⟨h3, _⟩ | ⟨b, off, rfl, -, h3⟩
 ·omega
 ·exact ⟨b, off, rfl, by rw [h3 k (by omega)]; simp [hk, strV]⟩
def TakeP (lo : Nat) (w : World) (pb : Nat) (r : Option (List UInt8)) (s : St) (e : Ending) (w' : World) : Prop :=
 e = .returned (.tuple #[.string ⟨(r.getD []).toArray⟩, .bool r.isSome]) ∧ PS lo w' pb s ∧ Keep [pb] w w'
theorem takeS_none {l : List (List UInt8)} {s : St} (h : ∀ x ∈ l, ¬ (nextS s = x ∧ nextS s ≠ [])) : takeS l s = (none, s) := by
 unfold takeS; rw [if_neg (fun hc => h _ hc.1 ⟨rfl, hc.2⟩)]
theorem takeS_some {l : List (List UInt8)} {s : St} {x : List UInt8} (hx : x ∈ l) (h : nextS s = x) (h0 : nextS s ≠ []) : takeS l s = (some x, { s with toks := s.toks.tail }) := by
 unfold takeS; rw [if_pos ⟨by rw [h]; exact hx, h0⟩, h]
theorem next_cons {s : St} (h : nextS s ≠ []) : ∃ x r, s.toks = x :: r := by
 match hs : s.toks with
 | [] => exact absurd (nextS_nil hs) h
 | x :: r => exact ⟨x, r, rfl⟩
theorem p_take {lo : Nat} {w : World} {pb : Nat} {s : St} (h : PS lo w pb s) {v : Value} {l : List (List UInt8)} (hr : RdT w v l) :
  Calls Tryz.prog 68 #[.pointer (some ⟨pb, 0, none⟩), v] w (TakeP lo w pb (takeS l s).1 (takeS l s).2) := by
 obtain ⟨la, lc, rfl⟩ := hr.form; have hlm : l.length ≤ 9223372036854775807 := by obtain ⟨o, -, a, c, e, h1, h2, -⟩ := hr; cases e; unfold maxLen at h2; omega
 have HN := hyd (p_next h); have H := hyd h; have HR := hyd hr; obtain ⟨nx, hnx⟩ : ∃ nx, nx = nextS s := ⟨_, rfl⟩; rw [← hnx] at HN; have HX := hyd hnx; clear hnx hr h; go_enter Tryz.func68, Tryz.ntmps68
 go_wp2_with (go_at_call 99; refine HN.o.mono ?_; rintro e w1 ⟨rfl, rfl⟩)
 go_loop [13] (fun s13 => ∃ k : Nat, s13 = .int .i64 k ∧ k ≤ l.length ∧ ∀ j (hj : j < l.length), j < k → ¬ (nx = l[j] ∧ nx ≠ [])) (fun s13 => l.length - (RowKit.intOf s13).toNat)
 case atStart => exact ⟨0, rfl, Nat.zero_le _, fun j _ hj => by omega⟩
 case round =>
  obtain ⟨k, rfl, hk, hno⟩ := hrel; have HNO := hyd hno; clear hno
  by_cases hlt : k < l.length
  ·have hlt' : (k : Int) < (l.length : Int) := by omega
   obtain ⟨b, off, rfl, hc⟩ := HR.o.at hlt; obtain ⟨x, hx⟩ : ∃ x, x = l[k] := ⟨_, rfl⟩; rw [← hx] at hc; obtain ⟨NX, hNX⟩ : ∃ NX : ByteArray, NX = ⟨nx.toArray⟩ := ⟨_, rfl⟩; obtain ⟨X, hX⟩ : ∃ X : ByteArray, X = ⟨x.toArray⟩ := ⟨_, rfl⟩; rw [← hNX]; rw [← hX] at hc; have hin : x ∈ l := by rw [hx]; exact List.getElem_mem _
   have HIN := hyd hin
   by_cases h1 : nx = x
   ·have q1 : NX = X := by rw [hNX, hX, h1]
    by_cases h0 : nx = []
    ·have q2 : X.toList.isEmpty = true := by rw [← q1, hNX, bl_list, h0]; rfl
     have HX0 := hyd h0; clear h1 h0 hNX hX hx hin; go_wp2_with fail; go_round
     case rel => exact ⟨k + 1, by go_num, by omega, fun j hj hlt => by
       by_cases hjk : j < k
       · exact HNO.o j hj hjk
       · exact fun hc => hc.2 HX0.o⟩
     case measure => simp [RowKit.intOf]; omega
    ·have q2 : X.toList.isEmpty = false := by
      rw [← q1, hNX, bl_list]
      cases nx with
      | nil => exact absurd rfl h0
      | cons _ _ => rfl
     have hs0 : nextS s ≠ [] := by rw [← HX.o]; exact h0
     obtain ⟨y, r, hyr⟩ := next_cons hs0; obtain ⟨pv, po, hb, hrd, ho⟩ := H.o.blk; rw [hyr] at hrd; obtain ⟨tb, toff, tc, rfl, rfl, htc, -, -, -, -, hrd2⟩ := toks_at hrd; obtain ⟨s0, s1, s2, s3⟩ := cells4p hb; have f0 := frozenP hb
     have hsl : ∀ W, (Instr.slice 46 (.slice (some ⟨tb, toff, none⟩) (r.length + 1) tc) (some (.int .i64 1)) none none).run Tryz.prog W = .ok (.slice (some ⟨tb, sliceOff toff tc 1 5, none⟩) r.length (tc - 1)) W := by
      intro W; exact run_slice_lo W Tryz.underlying46 (fun _ => by kernel_rfl) tb toff (r.length + 1) tc 1 (by omega)
     have hko : Keep [pb] w (w.setCell ⟨pb, 0, none⟩ (.slice (some ⟨tb, sliceOff toff tc 1 5, none⟩) r.length (tc - 1))) := Keep.set1 w ⟨pb, 0, none⟩ _
     have hps : PS lo (w.setCell ⟨pb, 0, none⟩ (.slice (some ⟨tb, sliceOff toff tc 1 5, none⟩) r.length (tc - 1))) pb { s with toks := s.toks.tail } := by
      rw [hyr]; exact H.o.written hko (by simpa using heap_setCell_at (i := 0) hb (.slice (some ⟨tb, sliceOff toff tc 1 5, none⟩) r.length (tc - 1))) hrd2 ho
     have HPS := hyd hps; have HKO := hyd hko; have hres := takeS_some hin (by rw [← HX.o]; exact h1) hs0; have HRES := hyd hres; have HXX := hyd hX; clear h1 h0 hNX hX hx hin hs0 hyr hb hrd ho htc hrd2 hko hps hres; go_wp2_with fail; go_ret2; rw [HRES.o]; exact ⟨by rw [HXX.o]; rfl, HPS.o, HKO.o⟩
   ·have q1 : ¬ NX.toList = X.toList := by
     rw [hNX, hX, bl_list, bl_list]; exact h1
    have HX0 := hyd h1; have HX1 := hyd hx; clear h1 hNX hX hx hin; go_wp2_with fail; go_round
    case rel => exact ⟨k + 1, by go_num, by omega, fun j hj hlt => by
        by_cases hjk : j < k
        · exact HNO.o j hj hjk
        · obtain rfl : j = k := by omega
          rw [← HX1.o]
          exact fun hc => HX0.o hc.1⟩
    case measure => simp [RowKit.intOf]; omega
  ·obtain rfl : k = l.length := by omega
   go_wp2_with fail; go_ret2
   have hres := takeS_none (l := l) (s := s) (fun x hx => by
     obtain ⟨j, hj, rfl⟩ := List.mem_iff_getElem.1 hx; rw [← HX.o]
     exact HNO.o j hj (by omega))
   rw [hres]; exact ⟨rfl, H.o, Keep.refl _ _⟩
theorem rdT_lit (w : World) (l : List (List UInt8)) (n : Nat) (hn : n = l.length) (hm : n ≤ maxLen) (t : TypeId) (cs : Array Value) (hcs : cs = (l.map strV).toArray) : RdT (w.alloc (.cells cs t)) (.slice (some ⟨w.heap.size, 0, none⟩) n n) l := by
 subst hn hcs; refine ⟨some w.heap.size, by simp, _, _, rfl, Nat.le_refl _, hm, .inr ⟨_, 0, rfl, rfl, fun i hi => ?_⟩⟩; have h := heap_alloc_new w (.cells (l.map strV).toArray t); rw [World.cell?, h]; simp
theorem p_has {lo : Nat} {w : World} {pb : Nat} {s : St} (h : PS lo w pb s) (hlo : lo ≤ w.heap.size) (x : List UInt8) :
  Calls Tryz.prog 94 #[.pointer (some ⟨pb, 0, none⟩), .string ⟨x.toArray⟩] w fun e w' => e = .returned (.bool (hasS x s).1) ∧ PS lo w' pb (hasS x s).2 ∧ Keep [pb] w w' := by
 have hk := (Keep.refl [] w).alloc (.cells #[.string ⟨x.toArray⟩] 9); have HK := hyd hk; have HT := hyd (p_take (h.keep0 hk) (rdT_lit w [x] 1 rfl (by simp [maxLen]) 9 #[.string ⟨x.toArray⟩] rfl)); clear hk h; go_enter Tryz.func94, Tryz.ntmps94; go_wp2_with fail; refine HT.o.mono ?_; rintro e w2 ⟨rfl, hps, hk2⟩; have HPS := hyd hps; have HK2 := hyd ((HK.o.mono (G := [pb]) (by simp)).trans hk2 (by simp)); clear hps hk2; go_wp2_with fail; go_ret; exact ⟨rfl, HPS.o, HK2.o⟩
theorem p_must {lo : Nat} {w : World} {pb : Nat} {s : St} (h : PS lo w pb s) (hlo : lo ≤ w.heap.size) (x : List UInt8) :
  Calls Tryz.prog 63 #[.pointer (some ⟨pb, 0, none⟩), .string ⟨x.toArray⟩] w fun e w' => e = .returned (.tuple #[]) ∧ PS lo w' pb (mustS x s) ∧ Keep [pb] w w' := by
 have HT := hyd (p_has h hlo x); obtain ⟨bo, hbo⟩ : ∃ bo, bo = (hasS x s).1 := ⟨_, rfl⟩; rw [← hbo] at HT; have HB := hyd hbo; clear hbo h; go_enter Tryz.func63, Tryz.ntmps63; go_wp2_with fail; refine HT.o.mono ?_; rintro e w2 ⟨rfl, hps, hk2⟩; have HPS := hyd hps; have HK2 := hyd hk2; have HF := hyd (p_fails hps 110); clear hps hk2
 cases bo
 ·go_wp2_with (go_at_call 44; refine HF.o.mono ?_; rintro e w3 ⟨rfl, h3, hk3⟩; have H3 := hyd h3; have HK3 := hyd hk3; clear h3 hk3)
  go_end0
  unfold mustS; rw [if_neg (by rw [← HB.o]; decide)]; exact ⟨rfl, H3.o, HK2.o.trans HK3.o (by simp)⟩
 ·go_wp2_with fail
  go_end0
  unfold mustS; rw [if_pos HB.o.symm]; exact ⟨rfl, HPS.o, HK2.o⟩
theorem p_enter {lo : Nat} {w : World} {pb : Nat} {s : St} (h : PS lo w pb s) (d : Nat) :
  Calls Tryz.prog 65 #[.pointer (some ⟨pb, 0, none⟩), .int .i64 d] w fun e w' => e = .returned (.tuple #[]) ∧ PS lo w' pb (enterS d s) ∧ Keep [pb] w w' := by
 have HF := hyd (p_fails h 111); have H := hyd h; clear h
 by_cases hd : 64 < d
 ·have hd' : (64 : Int) < (d : Int) := by omega
  go_enter Tryz.func65, Tryz.ntmps65
  go_wp2_with (go_at_call 44; refine HF.o.mono ?_; rintro e w3 ⟨rfl, h3, hk3⟩; have H3 := hyd h3; have HK3 := hyd hk3; clear h3 hk3)
  go_end0
  unfold enterS; rw [if_pos hd]; exact ⟨rfl, H3.o, HK3.o⟩
 ·have hd' : ¬ (64 : Int) < (d : Int) := by omega
  go_enter Tryz.func65, Tryz.ntmps65; go_wp2_with fail
  go_end0
  unfold enterS; rw [if_neg hd]; exact ⟨rfl, H.o, Keep.refl _ _⟩
theorem size_alloc (w : World) (o : Obj) : (w.alloc o).heap.size = w.heap.size + 1 := by simp
theorem node_size : (Tryz.prog.info? 29).map (·.size) = some 7 := by kernel_rfl
theorem clause_size : (Tryz.prog.info? 52).map (·.size) = some 5 := by kernel_rfl
theorem cells7 {w : World} {q : Nat} {a b c d e f g : Value} {t : TypeId} (h : w.heap[q]? = some (.cells #[a, b, c, d, e, f, g] t (0, 0))) : w.cell? ⟨q, 0, none⟩ = some a ∧ w.cell? ⟨q, 1, none⟩ = some b ∧ w.cell? ⟨q, 2, none⟩ = some c ∧ w.cell? ⟨q, 3, none⟩ = some d ∧ w.cell? ⟨q, 4, none⟩ = some e ∧ w.cell? ⟨q, 5, none⟩ = some f ∧ w.cell? ⟨q, 6, none⟩ = some g := by
 refine ⟨?_, ?_, ?_, ?_, ?_, ?_, ?_⟩ <;> simp [World.cell?, h]
theorem cells5 {w : World} {q : Nat} {a b c d e : Value} {t : TypeId} (h : w.heap[q]? = some (.cells #[a, b, c, d, e] t (0, 0))) : w.cell? ⟨q, 0, none⟩ = some a ∧ w.cell? ⟨q, 1, none⟩ = some b ∧ w.cell? ⟨q, 2, none⟩ = some c ∧ w.cell? ⟨q, 3, none⟩ = some d ∧ w.cell? ⟨q, 4, none⟩ = some e := by
 refine ⟨?_, ?_, ?_, ?_, ?_⟩ <;> simp [World.cell?, h]
theorem set7 {w : World} {q : Nat} {a b c d e f g : Value} {t : TypeId} (h : w.heap[q]? = some (.cells #[a, b, c, d, e, f, g] t (0, 0))) (a' b' c' d' e' f' g' : Value) :
  (((((((w.setCell ⟨q, 0, none⟩ a').setCell ⟨q, 1, none⟩ b').setCell ⟨q, 2, none⟩ c').setCell ⟨q, 3, none⟩ d').setCell ⟨q, 4, none⟩ e').setCell ⟨q, 5, none⟩ f').setCell ⟨q, 6, none⟩ g').heap[q]? = some (.cells #[a', b', c', d', e', f', g'] t (0, 0))
  ∧ Keep [q] w (((((((w.setCell ⟨q, 0, none⟩ a').setCell ⟨q, 1, none⟩ b').setCell ⟨q, 2, none⟩ c').setCell ⟨q, 3, none⟩ d').setCell ⟨q, 4, none⟩ e').setCell ⟨q, 5, none⟩ f').setCell ⟨q, 6, none⟩ g') :=
 ⟨by simpa using heap_setCell_at (i := 6) (heap_setCell_at (i := 5) (heap_setCell_at (i := 4) (heap_setCell_at (i := 3) (heap_setCell_at (i := 2) (heap_setCell_at (i := 1) (heap_setCell_at (i := 0) h a') b') c') d') e') f') g',
  ((((((Keep.set1 w ⟨q, 0, none⟩ a').setCell (.inl (by simp)) _).setCell (.inl (by simp)) _).setCell (.inl (by simp)) _).setCell (.inl (by simp)) _).setCell (.inl (by simp)) _).setCell (.inl (by simp)) _⟩
theorem flat_get (m : Nat) : ∀ (es : List (List Value)), (∀ e ∈ es, e.length = m) → es.flatten.length = es.length * m
 | [], _ => by simp
 | e :: es, h => by
  rw [List.flatten_cons, List.length_append, flat_get m es (fun x hx => h x (by simp [hx])), h e (by simp), List.length_cons, Nat.succ_mul]
  omega
theorem NsR.lit {lo : Nat} {w : World} {k : Bool} {es : List (List Value)} {ns : List Nd} {n : Nat} {cs : Array Value} (t : TypeId) (hlo : lo ≤ w.heap.size) (hlen : es.length = ns.length) (hn : n = ns.length) (hm : n ≤ maxLen) (hcs : cs = es.flatten.toArray)
  (h : ∀ i (h : i < es.length) (h' : i < ns.length), NdR (Frs lo w) w k es[i] ns[i]) :
  NsR (Frs lo (w.alloc (.cells cs t))) (w.alloc (.cells cs t)) k (.slice (some ⟨w.heap.size, 0, none⟩) n n) ns := by
 subst hn hcs; have hk := (Keep.refl [] w).alloc (.cells es.flatten.toArray t); have hsz : (w.alloc (.cells es.flatten.toArray t)).heap.size = w.heap.size + 1 := by simp
 have hfl : es.flatten.length = es.length * wid k := flat_get _ _ (fun e he => by
   obtain ⟨i, hi, rfl⟩ := List.mem_iff_getElem.1 he
   exact (h i hi (by omega)).len)
 refine ⟨es, some w.heap.size, ⟨by rw [hfl, hlen], _, _, rfl, Nat.le_refl _, hm, .inr ⟨_, 0, rfl, rfl, fun i hi => ?_⟩⟩, fun x hx => ?_, hlen, fun i h1 h2 => (h i h1 h2).up hk (by simp) (Nat.le_refl _)⟩
 ·have h := heap_alloc_new w (.cells es.flatten.toArray t); rw [World.cell?, h]; simp
 ·cases hx
  exact ⟨hlo, by omega⟩
theorem NsR.lit1 {lo : Nat} {w : World} {k : Bool} {e : List Value} {n : Nd} {cs : Array Value} (t : TypeId) (hlo : lo ≤ w.heap.size) (hcs : cs = e.toArray) (h : NdR (Frs lo w) w k e n) :
  NsR (Frs lo (w.alloc (.cells cs t))) (w.alloc (.cells cs t)) k (.slice (some ⟨w.heap.size, 0, none⟩) 1 1) [n] :=
 NsR.lit t hlo (es := [e]) rfl rfl (by simp [maxLen]) (by simpa using hcs) (fun i h1 h2 => by
   have : i = 0 := by simp at h1; omega
   subst this
   exact h)
theorem NsR.lit2 {lo : Nat} {w : World} {k : Bool} {e e' : List Value} {n n' : Nd} {cs : Array Value} (t : TypeId) (hlo : lo ≤ w.heap.size) (hcs : cs = (e ++ e').toArray) (h : NdR (Frs lo w) w k e n) (h' : NdR (Frs lo w) w k e' n') :
  NsR (Frs lo (w.alloc (.cells cs t))) (w.alloc (.cells cs t)) k (.slice (some ⟨w.heap.size, 0, none⟩) 2 2) [n, n'] :=
 NsR.lit t hlo (es := [e, e']) rfl rfl (by simp [maxLen]) (by simpa using hcs) (fun i h1 h2 => by
   have : i = 0 ∨ i = 1 := by simp at h1; omega
   rcases this with rfl | rfl
   · exact h
   · exact h')
def FrI (a b x : Nat) : Prop := a ≤ x ∧ x < b
theorem NdR.fix {lo : Nat} {w : World} {k : Bool} {cs : List Value} {n : Nd} (h : NdR (Frs lo w) w k cs n) : NdR (FrI lo w.heap.size) w k cs n := h
theorem NdR.keepI {a b : Nat} {w w' : World} {k : Bool} {cs : List Value} {n : Nd} {F : List Nat} (h : NdR (FrI a b) w k cs n) (hk : Keep F w w') (hF : ∀ x ∈ F, x < a ∨ b ≤ x) : NdR (FrI a b) w' k cs n :=
 h.keep hk (fun x hx hc => by have := hF x hx; have h1 := hc.1; have h2 := hc.2; omega)
theorem NdR.fin {a b lo : Nat} {w : World} {k : Bool} {cs : List Value} {n : Nd} (h : NdR (FrI a b) w k cs n) (ha : lo ≤ a) (hb : b ≤ w.heap.size) : NdR (Frs lo w) w k cs n :=
 h.mono (fun x hx => ⟨Nat.le_trans ha hx.1, Nat.lt_of_lt_of_le hx.2 hb⟩)
def FrII (a b c d e x : Nat) : Prop := FrI a b x ∨ FrI c d x ∨ x = e
theorem NsR.lit2I {a b c d : Nat} {w : World} {k : Bool} {e e' : List Value} {n n' : Nd} {cs : Array Value} (t : TypeId) (hcs : cs = (e ++ e').toArray) (h : NdR (FrI a b) w k e n) (h' : NdR (FrI c d) w k e' n') :
  NsR (FrII a b c d w.heap.size) (w.alloc (.cells cs t)) k (.slice (some ⟨w.heap.size, 0, none⟩) 2 2) [n, n'] := by
 subst hcs; have hk := (Keep.refl [] w).alloc (.cells (e ++ e').toArray t); have h1 := h.keepI hk (by simp); have h2 := h'.keepI hk (by simp); refine ⟨[e, e'], some w.heap.size, ⟨by simp [h.len, h'.len]; omega, _, _, rfl, Nat.le_refl _, by simp [maxLen], .inr ⟨_, 0, rfl, rfl, fun i hi => ?_⟩⟩, fun x hx => ?_, rfl, fun i h3 h4 => ?_⟩
 ·have h := heap_alloc_new w (.cells (e ++ e').toArray t); rw [World.cell?, h]; simp
 ·cases hx
  exact .inr (.inr rfl)
 ·have : i = 0 ∨ i = 1 := by simp at h3; omega
  rcases this with rfl | rfl
  ·exact h1.mono (fun x hx => .inl hx)
  ·exact h2.mono (fun x hx => .inr (.inl hx))
theorem NsR.finII {a b c d e lo : Nat} {w w' : World} {k : Bool} {v : Value} {l : List Nd} {F : List Nat} (h : NsR (FrII a b c d e) w k v l) (hk : Keep F w w') (hF : ∀ x ∈ F, (x < a ∨ b ≤ x) ∧ (x < c ∨ d ≤ x) ∧ x ≠ e) (ha : lo ≤ a) (hc : lo ≤ c) (he : lo ≤ e) (hb : b ≤ w'.heap.size) (hd : d ≤ w'.heap.size) (he' : e < w'.heap.size) : NsR (Frs lo w') w' k v l := by
 refine (h.keep hk (fun x hx hs => ?_)).mono (fun x hx => ?_)
 ·have h0 := hF x hx; rcases hs with hs | hs | hs
  ·have h1 := hs.1; have h2 := hs.2; omega
  ·have h1 := hs.1; have h2 := hs.2; omega
  ·exact h0.2.2 hs
 ·rcases hx with hs | hs | hs
  ·have h1 := hs.1; have h2 := hs.2; exact ⟨by omega, by omega⟩
  ·have h1 := hs.1; have h2 := hs.2; exact ⟨by omega, by omega⟩
  ·subst hs; exact ⟨he, he'⟩
theorem NdR.keepX {lo : Nat} {w w' : World} {o : Option Nat} {k : Bool} {cs : List Value} {n : Nd} {F : List Nat} (h : NdR (FrsX lo w o) w k cs n) (hk : Keep F w w') (hF : ∀ x ∈ F, x < lo ∨ o = some x) : NdR (FrsX lo w' o) w' k cs n :=
 (h.keep hk (fun x hx hc => by
   rcases hF x hx with h1 | h1
   · have := hc.1; omega
   · exact hc.2.2 h1)).mono (fun b h => ⟨h.1, Nat.lt_of_lt_of_le h.2.1 hk.size, h.2.2⟩)
theorem NsR.keepX {lo : Nat} {w w' : World} {o : Option Nat} {k : Bool} {v : Value} {l : List Nd} {F : List Nat} (h : NsR (FrsX lo w o) w k v l) (hk : Keep F w w') (hF : ∀ x ∈ F, x < lo ∨ o = some x) : NsR (FrsX lo w' o) w' k v l :=
 (h.keep hk (fun x hx hc => by
   rcases hF x hx with h1 | h1
   · have := hc.1; omega
   · exact hc.2.2 h1)).mono (fun b h => ⟨h.1, Nat.lt_of_lt_of_le h.2.1 hk.size, h.2.2⟩)
theorem NsR.lit2X {lo : Nat} {w : World} {o : Option Nat} {k : Bool} {e e' : List Value} {n n' : Nd} {cs : Array Value} (t : TypeId) (hcs : cs = (e ++ e').toArray) (hlo : lo ≤ w.heap.size) (ho : ∀ b, o = some b → b < w.heap.size) (h : NdR (FrsX lo w o) w k e n) (h' : NdR (FrsX lo w o) w k e' n') :
  NsR (FrsX lo (w.alloc (.cells cs t)) o) (w.alloc (.cells cs t)) k (.slice (some ⟨w.heap.size, 0, none⟩) 2 2) [n, n'] := by
 subst hcs; have hk := (Keep.refl [] w).alloc (.cells (e ++ e').toArray t); have h1 := h.keepX hk (by simp); have h2 := h'.keepX hk (by simp); refine ⟨[e, e'], some w.heap.size, ⟨by simp [h.len, h'.len]; omega, _, _, rfl, Nat.le_refl _, by simp [maxLen], .inr ⟨_, 0, rfl, rfl, fun i hi => ?_⟩⟩, fun x hx => ?_, rfl, fun i h3 h4 => ?_⟩
 ·have h := heap_alloc_new w (.cells (e ++ e').toArray t); rw [World.cell?, h]; simp
 ·cases hx
  exact ⟨hlo, by rw [size_alloc]; omega, fun e => by have := ho _ e; omega⟩
 ·have : i = 0 ∨ i = 1 := by simp at h3; omega
  rcases this with rfl | rfl
  ·exact h1
  ·exact h2
theorem NsR.lit1X {lo : Nat} {w : World} {o : Option Nat} {k : Bool} {e : List Value} {n : Nd} {cs : Array Value} (t : TypeId) (hcs : cs = e.toArray) (hlo : lo ≤ w.heap.size) (ho : ∀ b, o = some b → b < w.heap.size) (h : NdR (FrsX lo w o) w k e n) :
  NsR (FrsX lo (w.alloc (.cells cs t)) o) (w.alloc (.cells cs t)) k (.slice (some ⟨w.heap.size, 0, none⟩) 1 1) [n] := by
 subst hcs; have hk := (Keep.refl [] w).alloc (.cells e.toArray t); have h1 := h.keepX hk (by simp); refine ⟨[e], some w.heap.size, ⟨by simp [h.len], _, _, rfl, Nat.le_refl _, by simp [maxLen], .inr ⟨_, 0, rfl, rfl, fun i hi => ?_⟩⟩, fun x hx => ?_, rfl, fun i h3 h4 => ?_⟩
 ·have h := heap_alloc_new w (.cells e.toArray t); rw [World.cell?, h]; simp
 ·cases hx
  exact ⟨hlo, by rw [size_alloc]; omega, fun e => by have := ho _ e; omega⟩
 ·have : i = 0 := by simp at h3; omega
  subst this; exact h1
theorem NsR.consApp {lo : Nat} {w1 w3 : World} {o : Option Nat} {csa : List Value} {a : Nd} {es : List (List Value)} {l : List Nd} {v' : Value} {g : Nat} {ob : Obj} (ha : NdR (FrsX lo w1 o) w1 false csa a) (hes : es.length = l.length) (hl : ∀ i (h : i < es.length) (h' : i < l.length), NdR (FrsX lo w1 o) w1 false es[i] l[i])
  (hk : Keep [w1.heap.size] (w1.alloc ob) w3) (hr : Row w3 29 7 v' (1 + l.length) (csa ++ es.flatten) (some g)) (hg : w1.heap.size = g ∨ (w1.alloc ob).heap.size ≤ g) (hlo : lo ≤ w1.heap.size) (ho : ∀ b, o = some b → b < w1.heap.size) : NsR (FrsX lo w3 o) w3 false v' (a :: l) := by
 have hlt := Row.lt hr g rfl; obtain ⟨o', h5, h6⟩ := Row.rd hr; have hk0 := (Keep.refl [] w1).alloc ob; have hsz := hk.size; rw [size_alloc] at hsz hg
 have hup : ∀ {cs n}, NdR (FrsX lo w1 o) w1 false cs n → NdR (FrsX lo w3 o) w3 false cs n := fun h =>
  ((h.keep hk0 (by simp)).keep hk (fun b hb hc => by simp at hb; have := hc.2.1; omega)).mono (fun b h => ⟨h.1, by have := h.2.1; omega, h.2.2⟩)
 refine ⟨csa :: es, o', ?_, fun x hx => ?_, by simp [hes], fun i h h' => ?_⟩
 ·rw [List.flatten_cons, List.length_cons, Nat.add_comm]; exact h5
 ·rcases h6 with h6 | h6
  ·rw [h6] at hx; cases hx
  ·rw [h6] at hx
   cases hx
   exact ⟨by omega, hlt, fun e => by have := ho _ e; omega⟩
 ·cases i with
  | zero => exact hup ha
  | succ i => exact hup (hl i (by simpa using h) (by simpa using h'))
theorem NdR.toX {a lo : Nat} {w : World} {o : Option Nat} {k : Bool} {cs : List Value} {n : Nd} (h : NdR (Frs a w) w k cs n) (ha : lo ≤ a) (ho : ∀ b, o = some b → b < a) : NdR (FrsX lo w o) w k cs n :=
 h.mono (fun b h => ⟨Nat.le_trans ha h.1, h.2, fun e => by have := ho _ e; have := h.1; omega⟩)
theorem NsR.toX {a lo : Nat} {w : World} {o : Option Nat} {k : Bool} {v : Value} {l : List Nd} (h : NsR (Frs a w) w k v l) (ha : lo ≤ a) (ho : ∀ b, o = some b → b < a) : NsR (FrsX lo w o) w k v l :=
 h.mono (fun b h => ⟨Nat.le_trans ha h.1, h.2, fun e => by have := ho _ e; have := h.1; omega⟩)
end Go.Proofs.YtdmmhfbafinkpaaGreatDoor
