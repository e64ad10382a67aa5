import Derived.Lib.ItoaNum
/- Scanning: what the tokens of a text are (plain); what stands behind a token; blanks and notes between tokens. -/
namespace Go.Emb

/-! ## the language's tokens, plainly -/
def smallB (c : UInt8) : Bool := decide (97 ≤ c.toNat) && decide (c.toNat ≤ 122)
def greatB (c : UInt8) : Bool := (decide (65 ≤ c.toNat) && decide (c.toNat ≤ 90)) || decide (c.toNat = 95)
def digitB (c : UInt8) : Bool := decide (48 ≤ c.toNat) && decide (c.toNat ≤ 57)
def moreB (c : UInt8) : Bool := smallB c || greatB c || digitB c || decide (c.toNat = 64)
def blankB (c : UInt8) : Bool := decide (c.toNat = 32) || decide (c.toNat = 9) || decide (c.toNat = 10) || decide (c.toNat = 13)
def hexB (c : UInt8) : Bool := digitB c || (decide (97 ≤ c.toNat) && decide (c.toNat ≤ 102))
def hexV (c : UInt8) : Nat := if c.toNat ≤ 57 then c.toNat - 48 else c.toNat - 87
def numD (l : List UInt8) : Nat := l.foldl (fun a c => a * 10 + (c.toNat - 48)) 0
/-- after, and, case, catch, div, end, fun, not, of, or, receive, rem, try, when -/
abbrev wordsS : List (List UInt8) := [[97, 102, 116, 101, 114], [97, 110, 100], [99, 97, 115, 101], [99, 97, 116, 99, 104], [100, 105, 118], [101, 110, 100], [102, 117, 110], [110, 111, 116], [111, 102], [111, 114], [114, 101, 99, 101, 105, 118, 101], [114, 101, 109], [116, 114, 121], [119, 104, 101, 110]]
/-- the byte for which a text with a \ at the front stands, and its length -/
def escN : List UInt8 → Option (UInt8 × Nat)
  | _ :: c :: r => if c.toNat = 39 ∨ c.toNat = 92 then some (c, 2) else if c.toNat = 120 then
      match r with
      | a :: b :: _ => if hexB a && hexB b then some (UInt8.ofNat (16 * hexV a + hexV b), 4) else none
      | _ => none
    else none
  | _ => none
theorem escN_pos {l : List UInt8} {x : UInt8} {k : Nat} (h : escN l = some (x, k)) : 2 ≤ k ∧ k ≤ l.length := by
  unfold escN at h
  split at h
  · split at h
    · cases h; simp
    · split at h
      · split at h
        · split at h
          · cases h; simp
          · cases h
        · cases h
      · cases h
  · cases h
/-- a name in quotes, from the byte at i on, behind the name's part b: the name and where it ends, or the fault's place -/
def quoL (l : List UInt8) (i : Nat) (b : List UInt8) : Except Nat (List UInt8 × Nat) :=
  match h : l with
  | [] => .error 0
  | c :: r =>
    if c.toNat = 39 then (if b.length = 0 ∨ 255 < b.length then .error 0 else .ok (b, i + 1))
    else if c.toNat = 92 then
      match he : escN l with
      | none => .error i
      | some (x, k) => quoL (l.drop k) (i + k) (b ++ [x])
    else if c.toNat < 32 ∨ 126 < c.toNat then .error i
    else quoL r (i + 1) (b ++ [c])
termination_by l.length
decreasing_by
  · have := escN_pos he; subst h; simp at this ⊢; omega
  · subst h; simp
/-- how long the sign at the front is; 0: there is none -/
def sign2 (c d : UInt8) : Bool := (c == 45 && d == 62) || (c == 61 && d == 61) || (c == 47 && d == 61) || (c == 61 && d == 60) || (c == 62 && d == 61)
abbrev signsL : List UInt8 := [40, 41, 91, 93, 123, 125, 44, 59, 46, 124, 33, 43, 45, 42, 60, 62, 61]
def signN : List UInt8 → Nat
  | [] => 0
  | [c] => if signsL.contains c then 1 else 0
  | c :: d :: _ => if sign2 c d then 2 else if signsL.contains c then 1 else 0
/-- a token without its place; en: its length -/
structure Tk where
  kind : Int
  num : Int
  text : List UInt8
  en : Nat
deriving DecidableEq
/-- the token at the front of a text, or an error and its place -/
def tokL (l : List UInt8) : Except (Int × Nat) Tk :=
  match l with
  | [] => .error (100, 0)
  | c :: r =>
    if digitB c then
      (if numD (l.takeWhile digitB) ≤ 576460752303423487 then .ok ⟨1, numD (l.takeWhile digitB), [], (l.takeWhile digitB).length⟩ else .error (101, 0))
    else if smallB c || greatB c then
      (if 255 < (l.takeWhile moreB).length then .error (100, 0)
       else .ok ⟨if greatB c then 3 else if wordsS.contains (l.takeWhile moreB) then 4 else 2, 0, l.takeWhile moreB, (l.takeWhile moreB).length⟩)
    else if c.toNat = 39 then
      match quoL r 1 [] with
      | .error a => .error (100, a)
      | .ok (b, n) => .ok ⟨2, 0, b, n⟩
    else if signN l = 0 then .error (100, 0)
    else .ok ⟨5, 0, l.take (signN l), signN l⟩
theorem tw_le (p : UInt8 → Bool) (l : List UInt8) : (l.takeWhile p).length ≤ l.length := List.Sublist.length_le (List.takeWhile_sublist p)
theorem tw_pos {p : UInt8 → Bool} {c : UInt8} (r : List UInt8) (h : p c = true) : 1 ≤ ((c :: r).takeWhile p).length := by
  simp [h]
theorem quoL_nil (i : Nat) (b : List UInt8) : quoL [] i b = .error 0 := by rw [quoL.eq_def]
theorem quoL_cons (c : UInt8) (r : List UInt8) (i : Nat) (b : List UInt8) : quoL (c :: r) i b =
    if c.toNat = 39 then (if b.length = 0 ∨ 255 < b.length then .error 0 else .ok (b, i + 1))
    else if c.toNat = 92 then (match escN (c :: r) with | none => .error i | some p => quoL ((c :: r).drop p.2) (i + p.2) (b ++ [p.1]))
    else if c.toNat < 32 ∨ 126 < c.toNat then .error i else quoL r (i + 1) (b ++ [c]) := by
  rw [quoL.eq_def]
  simp only
  split
  · rfl
  · split
    · split <;> rename_i he <;> simp only [he]
    · rfl
theorem quoL_bd : ∀ (n : Nat) (l : List UInt8), l.length ≤ n → ∀ (i : Nat) (b : List UInt8) (b' : List UInt8) (m : Nat), quoL l i b = .ok (b', m) → i + 1 ≤ m ∧ m ≤ i + l.length ∧ b'.length ≤ 255 ∧ 1 ≤ b'.length := by
  intro n
  induction n with
  | zero =>
    intro l hl i b b' m h
    have : l = [] := List.length_eq_zero_iff.1 (by omega)
    subst this
    rw [quoL_nil] at h; cases h
  | succ n ih =>
    intro l hl i b b' m h
    cases l with
    | nil => rw [quoL_nil] at h; cases h
    | cons c r =>
      rw [quoL_cons] at h
      split at h
      · split at h
        · cases h
        · cases h; simp; omega
      · split at h
        · split at h
          · cases h
          · rename_i p he
            have hk := escN_pos (x := p.1) (k := p.2) he
            have := ih _ (by simp at hl ⊢; omega) _ _ _ _ h
            simp at this hk ⊢
            omega
        · split at h
          · cases h
          · have := ih _ (by simp at hl; omega) _ _ _ _ h
            simp
            omega
theorem signN_le (l : List UInt8) : signN l ≤ l.length := by
  unfold signN
  split
  · simp
  · split <;> simp
  · split
    · simp
    · split <;> simp
theorem tokL_en {l : List UInt8} {t : Tk} (h : tokL l = .ok t) : 1 ≤ t.en ∧ t.en ≤ l.length := by
  unfold tokL at h
  split at h
  · cases h
  · rename_i c r
    split at h
    · rename_i hd
      split at h
      · cases h; exact ⟨tw_pos r hd, tw_le _ _⟩
      · cases h
    · split at h
      · rename_i hd
        split at h
        · cases h
        · cases h
          exact ⟨tw_pos r (by unfold moreB; simp at hd; rcases hd with hd | hd <;> simp [hd]), tw_le _ _⟩
      · split at h
        · split at h
          · cases h
          · rename_i b n hq
            cases h
            have := quoL_bd _ r (Nat.le_refl _) _ _ _ _ hq
            simp; omega
        · split at h
          · cases h
          · cases h
            have := signN_le (c :: r)
            constructor
            · simp; omega
            · exact this
/-- all tokens, from the place a on -/
def scanL (l : List UInt8) (a : Nat) : Except (Int × Nat) (List (Tk × Nat)) :=
  match h : l with
  | [] => .ok []
  | c :: r =>
    if blankB c then scanL r (a + 1)
    else if c.toNat = 37 then scanL (r.dropWhile (fun x => decide (x.toNat ≠ 10))) (a + 1 + (r.takeWhile (fun x => decide (x.toNat ≠ 10))).length)
    else match ht : tokL l with
      | .error (e, f) => .error (e, a + f)
      | .ok t => match scanL (l.drop t.en) (a + t.en) with
        | .error x => .error x
        | .ok ts => .ok ((t, a) :: ts)
termination_by l.length
decreasing_by
  · subst h; simp
  · subst h; have := List.Sublist.length_le (List.dropWhile_sublist (l := r) (fun x => decide (x.toNat ≠ 10))); simp at this ⊢; omega
  · have := tokL_en ht; subst h; simp at this ⊢; omega
theorem scanL_nil (a : Nat) : scanL [] a = .ok [] := by rw [scanL.eq_def]
theorem scanL_blank {c : UInt8} (r : List UInt8) (a : Nat) (h : blankB c = true) : scanL (c :: r) a = scanL r (a + 1) := by
  rw [scanL.eq_def]; simp only; rw [if_pos h]
theorem scanL_note {c : UInt8} (r : List UInt8) (a : Nat) (h0 : blankB c = false) (h : c.toNat = 37) : scanL (c :: r) a = scanL (r.dropWhile (fun x => decide (x.toNat ≠ 10))) (a + 1 + (r.takeWhile (fun x => decide (x.toNat ≠ 10))).length) := by
  rw [scanL.eq_def]; simp only; rw [if_neg (by simp [h0]), if_pos h]
theorem scanL_tok {c : UInt8} (r : List UInt8) (a : Nat) (h0 : blankB c = false) (h : c.toNat ≠ 37) : scanL (c :: r) a =
    (match tokL (c :: r) with | .error p => .error (p.1, a + p.2) | .ok t => (match scanL ((c :: r).drop t.en) (a + t.en) with | .error x => .error x | .ok ts => .ok ((t, a) :: ts))) := by
  rw [scanL.eq_def]; simp only; rw [if_neg (by simp [h0]), if_neg h]
  split <;> rename_i he <;> simp only [he]
/-! ## what follows a token -/
/-- what may stand behind a token in place of v -/
def After (v v' : List UInt8) : Prop := v' = [] ∧ v = [] ∨ (∃ c r r', v = c :: r ∧ v' = c :: r') ∨ ∃ c r', v' = c :: r' ∧ blankB c = true
theorem After.tw {p : UInt8 → Bool} {u v v' : List UInt8} (h : After v v') (hb : ∀ c, blankB c = true → p c = false) (hu : (u ++ v).takeWhile p = u) : (u ++ v').takeWhile p = u := by
  have hall : ∀ x ∈ u, p x = true := fun x hx => by rw [← hu] at hx; exact List.all_eq_true.1 (List.all_takeWhile (l := u ++ v) (p := p)) x hx
  have hno : v.takeWhile p = [] := by
    have h2 := List.takeWhile_append_of_pos (l₂ := v) hall
    rw [hu] at h2
    exact List.append_cancel_left (by rw [← h2]; simp)
  rw [List.takeWhile_append_of_pos hall]
  rcases h with ⟨rfl, rfl⟩ | ⟨c, r, r', rfl, rfl⟩ | ⟨c, r', rfl, hc⟩
  · simp
  · by_cases hp : p c = true
    · rw [List.takeWhile_cons_of_pos hp] at hno; cases hno
    · rw [List.takeWhile_cons_of_neg hp]; simp
  · rw [List.takeWhile_cons_of_neg (by simp [hb c hc])]; simp
theorem blank_digit (c : UInt8) (h : blankB c = true) : digitB c = false := by
  unfold blankB at h; unfold digitB; simp at h ⊢; omega
theorem blank_more (c : UInt8) (h : blankB c = true) : moreB c = false := by
  unfold blankB at h; unfold moreB smallB greatB digitB; simp at h ⊢; omega
theorem escN_app {u v v' : List UInt8} {x : UInt8} {k : Nat} (h : escN (u ++ v) = some (x, k)) (hk : k ≤ u.length) : escN (u ++ v') = some (x, k) := by
  match u, hk, h with
  | [], hk, h => have := escN_pos h; simp at hk; omega
  | [a], hk, h => have := escN_pos h; simp at hk; omega
  | a :: c :: r, hk, h =>
    simp only [List.cons_append, escN] at h ⊢
    split at h
    · rename_i h1; rw [if_pos h1]; exact h
    · rename_i h1
      rw [if_neg h1]
      split at h
      · rename_i h2
        rw [if_pos h2]
        match r, hk, h with
        | [], hk, h =>
          exfalso
          split at h
          · split at h
            · cases h; simp at hk
            · cases h
          · cases h
        | [_], hk, h =>
          exfalso
          split at h
          · split at h
            · cases h; simp at hk
            · cases h
          · cases h
        | p :: q :: r, hk, h => exact h
      · cases h
theorem quoL_app : ∀ (n : Nat) (u v v' : List UInt8), u.length ≤ n → ∀ (i : Nat) (b b' : List UInt8), quoL (u ++ v) i b = .ok (b', i + u.length) → quoL (u ++ v') i b = .ok (b', i + u.length) := by
  intro n
  induction n with
  | zero =>
    intro u v v' hn i b b' h
    have : u = [] := List.length_eq_zero_iff.1 (by omega)
    subst this
    have := quoL_bd _ _ (Nat.le_refl _) _ _ _ _ h
    simp at this; omega
  | succ n ih =>
    intro u v v' hn i b b' h
    cases u with
    | nil =>
      have := quoL_bd _ _ (Nat.le_refl _) _ _ _ _ h
      simp at this; omega
    | cons c r =>
      simp only [List.cons_append] at h ⊢
      rw [quoL_cons] at h ⊢
      split at h
      · rename_i h1
        rw [if_pos h1]
        exact h
      · rename_i h1
        rw [if_neg h1]
        split at h
        · rename_i h2
          rw [if_pos h2]
          split at h
          · cases h
          · rename_i p he
            have hp := escN_pos (x := p.1) (k := p.2) he
            have hle : p.2 ≤ (c :: r).length := by
              have hb := quoL_bd _ _ (Nat.le_refl _) _ _ _ _ h
              simp at hb ⊢
              omega
            have he' := escN_app (u := c :: r) (v := v) (v' := v') (x := p.1) (k := p.2) he hle
            simp only [List.cons_append] at he'
            simp only [he']
            have e1 : (c :: (r ++ v)).drop p.2 = (c :: r).drop p.2 ++ v := by
              rw [← List.cons_append, List.drop_append_of_le_length hle]
            have e2 : (c :: (r ++ v')).drop p.2 = (c :: r).drop p.2 ++ v' := by
              rw [← List.cons_append, List.drop_append_of_le_length hle]
            rw [e1] at h
            rw [e2]
            have hlen : i + (c :: r).length = i + p.2 + ((c :: r).drop p.2).length := by
              rw [List.length_drop]; omega
            rw [hlen] at h ⊢
            exact ih _ v v' (by simp at hn ⊢; omega) _ _ _ h
        · rename_i h2
          rw [if_neg h2]
          split at h
          · cases h
          · rename_i h3
            rw [if_neg h3]
            have hlen : i + (c :: r).length = i + 1 + r.length := by simp; omega
            rw [hlen] at h ⊢
            exact ih _ v v' (by simp at hn; omega) _ _ _ h
theorem sign2_blank (c d : UInt8) (h : blankB d = true) : sign2 c d = false := by
  unfold blankB at h
  have hd : d ≠ 62 ∧ d ≠ 61 ∧ d ≠ 60 := by
    refine ⟨?_, ?_, ?_⟩ <;> (rintro rfl; simp at h)
  unfold sign2
  simp [hd]
theorem signN_app {u v v' : List UInt8} (h : After v v') (hu : u.length = signN (u ++ v)) (h0 : u ≠ []) : signN (u ++ v') = signN (u ++ v) := by
  match u, h0, hu with
  | [c], _, hu =>
    have h1 : signN ([c] ++ v) = 1 := by simpa using hu.symm
    rw [h1]
    have hc : signsL.contains c = true := by
      cases v with
      | nil => simp only [List.cons_append, List.nil_append, signN] at h1; split at h1; (· assumption); cases h1
      | cons d r =>
        simp only [List.cons_append, List.nil_append, signN] at h1
        split at h1
        · cases h1
        · split at h1
          · assumption
          · cases h1
    rcases h with ⟨rfl, rfl⟩ | ⟨d, r, r', rfl, rfl⟩ | ⟨d, r', rfl, hd⟩
    · exact h1
    · simpa [signN] using h1
    · simp only [List.cons_append, List.nil_append, signN]
      rw [sign2_blank c d hd, if_pos hc]; rfl
  | c :: d :: r, _, hu =>
    simp only [List.cons_append, signN]
theorem tokL_app {u v v' : List UInt8} {t : Tk} (h : After v v') (ht : tokL (u ++ v) = .ok t) (hen : t.en = u.length) : tokL (u ++ v') = .ok t := by
  have hpos := (tokL_en ht).1
  cases u with
  | nil => simp at hen; omega
  | cons c r =>
    have h0 : c :: r ≠ [] := by simp
    unfold tokL at ht ⊢
    simp only [List.cons_append] at ht ⊢
    simp only [← List.cons_append] at ht ⊢
    split at ht
    · rename_i h1
      rw [if_pos h1]
      split at ht
      · rename_i h2
        cases ht
        have hu : ((c :: r) ++ v).takeWhile digitB = c :: r := by
          have hp := List.takeWhile_prefix digitB (l := (c :: r) ++ v)
          exact (List.prefix_of_prefix_length_le hp (List.prefix_append _ _) (by simp only at hen; omega)).eq_of_length (by simpa using hen)
        have hu' := h.tw blank_digit hu
        rw [hu] at h2
        rw [hu', hu, if_pos h2]
      · cases ht
    · rename_i h1
      rw [if_neg h1]
      split at ht
      · rename_i h2
        rw [if_pos h2]
        split at ht
        · cases ht
        · rename_i h3
          cases ht
          have hu : ((c :: r) ++ v).takeWhile moreB = c :: r := by
            have hp := List.takeWhile_prefix moreB (l := (c :: r) ++ v)
            exact (List.prefix_of_prefix_length_le hp (List.prefix_append _ _) (by simp only at hen; omega)).eq_of_length (by simpa using hen)
          have hu' := h.tw blank_more hu
          rw [hu] at h3
          rw [hu', hu, if_neg h3]
      · rename_i h2
        rw [if_neg h2]
        split at ht
        · rename_i h3
          rw [if_pos h3]
          split at ht
          · cases ht
          · rename_i b n hq
            cases ht
            simp only at hen
            have hn : n = 1 + r.length := by simp at hen; omega
            rw [hn] at hq
            rw [quoL_app _ r v v' (Nat.le_refl _) 1 [] b hq, hn]
        · rename_i h3
          rw [if_neg h3]
          split at ht
          · cases ht
          · rename_i h4
            cases ht
            simp only at hen
            have hs := signN_app h hen.symm h0
            rw [hs, if_neg h4]
            have e1 : ∀ x, ((c :: r) ++ x).take (signN ((c :: r) ++ v)) = c :: r := fun x => by rw [hen]; simp
            rw [e1, e1]
/-! ## blanks and notes between tokens -/
/-- a text that may be laid ahead of a token -/
def padL : List (List UInt8) := [[], [32], [9, 10], [32, 37, 32, 110, 111, 116, 101, 32, 39, 10], [13, 32]]
theorem scan_pad {p : List UInt8} (hp : p ∈ padL) (l : List UInt8) (a : Nat) : scanL (p ++ l) a = scanL l (a + p.length) := by
  unfold padL at hp
  simp only [List.mem_cons, List.not_mem_nil, or_false] at hp
  rcases hp with rfl | rfl | rfl | rfl | rfl
  · rfl
  · simp only [List.cons_append, List.nil_append]
    rw [scanL_blank _ _ (by decide)]; rfl
  · simp only [List.cons_append, List.nil_append]
    rw [scanL_blank _ _ (by decide), scanL_blank _ _ (by decide)]; rfl
  · simp only [List.cons_append, List.nil_append]
    rw [scanL_blank _ _ (by decide), scanL_note _ _ (by decide) (by decide)]
    have e1 : ([32, 110, 111, 116, 101, 32, 39] ++ 10 :: l : List UInt8).takeWhile (fun x => decide (x.toNat ≠ 10)) = [32, 110, 111, 116, 101, 32, 39] := by simp
    have e2 : ([32, 110, 111, 116, 101, 32, 39] ++ 10 :: l : List UInt8).dropWhile (fun x => decide (x.toNat ≠ 10)) = 10 :: l := by simp
    simp only [List.cons_append, List.nil_append] at e1 e2
    rw [e1, e2, scanL_blank _ _ (by decide)]
    simp only [List.length_cons, List.length_nil]
  · simp only [List.cons_append, List.nil_append]
    rw [scanL_blank _ _ (by decide), scanL_blank _ _ (by decide)]; rfl
/-- the text l (from the place a on) whose tokens are ts, with pads ahead of its tokens -/
def weave : List UInt8 → Nat → List (Tk × Nat) → List (List UInt8) → List UInt8
  | l, _, [], _ => l ++ [32]
  | l, a, (t, p) :: ts, pads => l.take (p - a) ++ (pads.headD []) ++ (l.drop (p - a)).take t.en ++ weave (l.drop (p - a + t.en)) (p + t.en) ts pads.tail
theorem scanL_at : ∀ (n : Nat) (l : List UInt8), l.length ≤ n → ∀ (a : Nat) (t : Tk) (p : Nat) (ts : List (Tk × Nat)), scanL l a = .ok ((t, p) :: ts) → a ≤ p ∧ p + t.en ≤ a + l.length ∧ 1 ≤ t.en ∧ tokL (l.drop (p - a)) = .ok t ∧ scanL (l.drop (p - a + t.en)) (p + t.en) = .ok ts := by
  intro n
  induction n with
  | zero =>
    intro l hl a t p ts h
    have : l = [] := List.length_eq_zero_iff.1 (by omega)
    subst this
    rw [scanL_nil] at h; cases h
  | succ n ih =>
    intro l hl a t p ts h
    cases l with
    | nil => rw [scanL_nil] at h; cases h
    | cons c r =>
      by_cases hb : blankB c = true
      · rw [scanL_blank r a hb] at h
        obtain ⟨h1, h2, h3, h4, h5⟩ := ih r (by simp at hl; omega) _ _ _ _ h
        have e : p - a = p - (a + 1) + 1 := by omega
        rw [e]
        refine ⟨by omega, by simp; omega, h3, by simpa using h4, ?_⟩
        rw [show p - (a + 1) + 1 + t.en = (p - (a + 1) + t.en) + 1 by omega]
        simpa using h5
      · have hb' : blankB c = false := by simpa using hb
        by_cases hn : c.toNat = 37
        · rw [scanL_note r a hb' hn] at h
          have hsum : (r.takeWhile (fun x => decide (x.toNat ≠ 10))).length + (r.dropWhile (fun x => decide (x.toNat ≠ 10))).length = r.length := by
            rw [← List.length_append, List.takeWhile_append_dropWhile]
          have hdr : r.dropWhile (fun x => decide (x.toNat ≠ 10)) = r.drop (r.takeWhile (fun x => decide (x.toNat ≠ 10))).length := by
            conv => rhs; rw [← List.takeWhile_append_dropWhile (p := fun x : UInt8 => decide (x.toNat ≠ 10)) (l := r)]
            have : ∀ (x y : List UInt8) (k : Nat), k = x.length → (x ++ y).drop k = y := fun x y k hk => by subst hk; simp
            rw [this]
            rw [List.takeWhile_append_dropWhile]
          obtain ⟨k, hk⟩ : ∃ k, k = (r.takeWhile (fun x => decide (x.toNat ≠ 10))).length := ⟨_, rfl⟩
          rw [← hk] at h hsum hdr
          obtain ⟨h1, h2, h3, h4, h5⟩ := ih _ (by simp at hl; omega) _ _ _ _ h
          rw [hdr] at h2 h4 h5
          rw [List.drop_drop] at h4 h5
          have e : p - a = (k + (p - (a + 1 + k))) + 1 := by omega
          rw [e]
          refine ⟨by omega, by simp at h2 ⊢; omega, h3, by simpa using h4, ?_⟩
          rw [show k + (p - (a + 1 + k)) + 1 + t.en = (k + (p - (a + 1 + k) + t.en)) + 1 by omega]
          simpa using h5
        · rw [scanL_tok r a hb' hn] at h
          split at h
          · cases h
          · rename_i t' ht
            split at h
            · cases h
            · rename_i ts' hs
              cases h
              have := tokL_en ht
              refine ⟨Nat.le_refl _, by omega, this.1, by simpa using ht, by simpa using hs⟩
/-- the same tokens, at other places -/
def SimT (ts ts' : List (Tk × Nat)) : Prop := ts'.map (·.1) = ts.map (·.1)
theorem weave_cons_blank (c : UInt8) (r : List UInt8) (a : Nat) (ts : List (Tk × Nat)) (pads : List (List UInt8)) (h : ∀ t p ts', ts = (t, p) :: ts' → a + 1 ≤ p) : weave (c :: r) a ts pads = c :: weave r (a + 1) ts pads := by
  cases ts with
  | nil => simp [weave]
  | cons x ts =>
    obtain ⟨t, p⟩ := x
    have := h t p ts rfl
    simp only [weave]
    obtain ⟨k, rfl⟩ : ∃ k, p = a + 1 + k := ⟨p - (a + 1), by omega⟩
    rw [show a + 1 + k - a = k + 1 by omega, show a + 1 + k - (a + 1) = k by omega, show k + 1 + t.en = (k + t.en) + 1 by omega]
    simp
theorem weave_app (u v : List UInt8) (a : Nat) (ts : List (Tk × Nat)) (pads : List (List UInt8)) (h : ∀ t p ts', ts = (t, p) :: ts' → a + u.length ≤ p) : weave (u ++ v) a ts pads = u ++ weave v (a + u.length) ts pads := by
  induction u generalizing a with
  | nil => rfl
  | cons c u ih =>
    rw [List.cons_append, weave_cons_blank _ _ _ _ _ (fun t p ts' e => by have := h t p ts' e; simp at this; omega), ih (a + 1) (fun t p ts' e => by have := h t p ts' e; simp at this; omega)]
    simp [Nat.add_assoc, Nat.add_comm 1]
theorem weave_after {l : List UInt8} {a : Nat} {ts : List (Tk × Nat)} {pads : List (List UInt8)} (hp : ∀ p ∈ pads, p ∈ padL) (h : scanL l a = .ok ts) : After l (weave l a ts pads) := by
  have hh : ∀ (q : List UInt8), q ∈ padL → q = [] ∨ ∃ c r, q = c :: r ∧ blankB c = true := by
    intro q hq
    unfold padL at hq
    simp only [List.mem_cons, List.not_mem_nil, or_false] at hq
    rcases hq with rfl | rfl | rfl | rfl | rfl
    · exact .inl rfl
    all_goals exact .inr ⟨_, _, rfl, by decide⟩
  cases ts with
  | nil =>
    simp only [weave]
    cases l with
    | nil => exact .inr (.inr ⟨32, [], rfl, by decide⟩)
    | cons c r => exact .inr (.inl ⟨c, r, _, rfl, rfl⟩)
  | cons x ts =>
    obtain ⟨t, p⟩ := x
    obtain ⟨h1, h2, h3, h4, h5⟩ := scanL_at _ l (Nat.le_refl _) a t p ts h
    cases l with
    | nil => simp at h2; omega
    | cons c r =>
      by_cases hpa : p - a = 0
      · have hq : pads.headD [] ∈ padL := by
          cases pads with
          | nil => simp [padL]
          | cons q pads => exact hp q (by simp)
        simp only [weave]
        rw [hpa]
        rcases hh _ hq with he | ⟨d, r', he, hd⟩
        · rw [he]
          obtain ⟨k, hk⟩ : ∃ k, t.en = k + 1 := ⟨t.en - 1, by omega⟩
          rw [hk]
          exact .inr (.inl ⟨c, r, _, rfl, rfl⟩)
        · rw [he]
          exact .inr (.inr ⟨d, _, rfl, hd⟩)
      · obtain ⟨k, hk⟩ : ∃ k, p - a = k + 1 := ⟨p - a - 1, by omega⟩
        simp only [weave]
        rw [hk]
        exact .inr (.inl ⟨c, r, _, rfl, rfl⟩)
theorem scan_weave : ∀ (n : Nat) (l : List UInt8), l.length ≤ n → ∀ (a a' : Nat) (ts : List (Tk × Nat)) (pads : List (List UInt8)), (∀ p ∈ pads, p ∈ padL) → scanL l a = .ok ts → ∃ ts', scanL (weave l a ts pads) a' = .ok ts' ∧ SimT ts ts' := by
  intro n
  induction n with
  | zero =>
    intro l hl a a' ts pads hp h
    have : l = [] := List.length_eq_zero_iff.1 (by omega)
    subst this
    rw [scanL_nil] at h; cases h
    refine ⟨[], ?_, rfl⟩
    simp only [weave, List.nil_append]
    rw [scanL_blank _ _ (by decide), scanL_nil]
  | succ n ih =>
    intro l hl a a' ts pads hp h
    have hat := fun t p ts' (e : ts = (t, p) :: ts') => scanL_at _ l (Nat.le_refl _) a t p ts' (e ▸ h)
    cases l with
    | nil =>
      rw [scanL_nil] at h; cases h
      refine ⟨[], ?_, rfl⟩
      simp only [weave, List.nil_append]
      rw [scanL_blank _ _ (by decide), scanL_nil]
    | cons c r =>
      by_cases hb : blankB c = true
      · rw [scanL_blank r a hb] at h
        have hat' := fun t p ts' (e : ts = (t, p) :: ts') => scanL_at _ r (Nat.le_refl _) (a + 1) t p ts' (e ▸ h)
        rw [weave_cons_blank c r a ts pads (fun t p ts' e => (hat' t p ts' e).1), scanL_blank _ _ hb]
        exact ih r (by simp at hl; omega) _ _ _ _ hp h
      · have hb' : blankB c = false := by simpa using hb
        by_cases hn : c.toNat = 37
        · rw [scanL_note r a hb' hn] at h
          obtain ⟨u, hu⟩ : ∃ u, u = r.takeWhile (fun x => decide (x.toNat ≠ 10)) := ⟨_, rfl⟩
          obtain ⟨v, hv⟩ : ∃ v, v = r.dropWhile (fun x => decide (x.toNat ≠ 10)) := ⟨_, rfl⟩
          have hr : r = u ++ v := by rw [hu, hv, List.takeWhile_append_dropWhile]
          have hu1 : ∀ x ∈ u, (decide (x.toNat ≠ 10)) = true := fun x hx => by
            rw [hu] at hx; exact List.all_eq_true.1 (List.all_takeWhile (l := r) (p := fun x => decide (x.toNat ≠ 10))) x hx
          rw [← hu, ← hv] at h
          have hat' := fun t p ts' (e : ts = (t, p) :: ts') => scanL_at _ v (Nat.le_refl _) (a + 1 + u.length) t p ts' (e ▸ h)
          have hw : weave (c :: r) a ts pads = c :: u ++ weave v (a + 1 + u.length) ts pads := by
            rw [hr, ← List.cons_append, weave_app (c :: u) v a ts pads (fun t p ts' e => by have := (hat' t p ts' e).1; simp; omega)]
            simp [Nat.add_assoc, Nat.add_comm 1]
          rw [hw, List.cons_append, scanL_note _ _ hb' hn]
          rw [List.dropWhile_append_of_pos hu1]
          have hlen : v.length ≤ n := by
            have : v.length ≤ r.length := by rw [hr]; simp
            simp at hl; omega
          cases hvv : v with
          | nil =>
            subst hvv
            rw [scanL_nil] at h; cases h
            refine ⟨[], ?_, rfl⟩
            simp only [weave, List.nil_append]
            rw [List.dropWhile_cons_of_pos (by decide), List.dropWhile_nil, scanL_nil]
          | cons d v' =>
            have hd : d.toNat = 10 := by
              have := List.head?_dropWhile_not (fun x : UInt8 => decide (x.toNat ≠ 10)) r
              rw [← hv, hvv] at this
              simpa using this
            have hdb : blankB d = true := by unfold blankB; simp [hd]
            rw [← hvv]
            have hwv : ∃ W, weave v (a + 1 + u.length) ts pads = d :: W := by
              rw [hvv]
              rw [hvv, scanL_blank _ _ hdb] at h
              exact ⟨_, weave_cons_blank d v' _ ts pads (fun t p ts' e => (scanL_at _ v' (Nat.le_refl _) _ t p ts' (e ▸ h)).1)⟩
            obtain ⟨W, hW⟩ := hwv
            have hdw : (weave v (a + 1 + u.length) ts pads).dropWhile (fun x => decide (x.toNat ≠ 10)) = weave v (a + 1 + u.length) ts pads := by
              rw [hW, List.dropWhile_cons_of_neg (by simp [hd])]
            rw [hdw]
            exact ih v hlen _ _ _ _ hp h
        · have h' := h
          rw [scanL_tok r a hb' hn] at h'
          split at h'
          · cases h'
          · rename_i t ht
            split at h'
            · cases h'
            · rename_i ts' hs
              cases h'
              have hen := tokL_en ht
              simp only [weave, Nat.sub_self, List.take_zero, List.drop_zero, List.nil_append, Nat.zero_add]
              have hq : pads.headD [] ∈ padL := by
                cases pads with
                | nil => simp [padL]
                | cons q pads => exact hp q (by simp)
              rw [List.append_assoc, scan_pad hq]
              have hp' : ∀ q ∈ pads.tail, q ∈ padL := fun q hq => hp q (List.mem_of_mem_tail hq)
              obtain ⟨ts2, h2, hs2⟩ := ih ((c :: r).drop t.en) (by simp at hl ⊢; omega) (a + t.en) (a' + (pads.headD []).length + t.en) ts' pads.tail hp' hs
              have haf := weave_after hp' hs
              have htk : tokL ((c :: r).take t.en ++ weave ((c :: r).drop t.en) (a + t.en) ts' pads.tail) = .ok t :=
                tokL_app haf (by rw [List.take_append_drop]; exact ht) (by rw [List.length_take]; omega)
              obtain ⟨k, hk⟩ : ∃ k, t.en = k + 1 := ⟨t.en - 1, by omega⟩
              refine ⟨(t, a' + (pads.headD []).length) :: ts2, ?_, by unfold SimT at hs2 ⊢; simp [hs2]⟩
              have htake : (c :: r).take t.en = c :: r.take k := by rw [hk]; rfl
              have hlen : ((c :: r).take t.en).length = t.en := by rw [List.length_take]; omega
              rw [htake] at htk ⊢
              rw [List.cons_append] at htk ⊢
              rw [scanL_tok _ _ hb' hn, htk]
              simp only
              rw [← List.cons_append, ← htake]
              have hdrop : ((c :: r).take t.en ++ weave ((c :: r).drop t.en) (a + t.en) ts' pads.tail).drop t.en = weave ((c :: r).drop t.en) (a + t.en) ts' pads.tail := by
                have : ∀ (x y : List UInt8) (k : Nat), x.length = k → (x ++ y).drop k = y := fun x y k hk => by subst hk; simp
                exact this _ _ _ hlen
              rw [hdrop, h2]
end Go.Emb
