import Derived.Test.YtdmmhfbafinkpaaGreatDoorPaE
import Derived.Test.YtdmmhfbafinkpaaGreatDoorScB
import Derived.Test.YtdmmhfbafinkpaaGreatDoorPa20
import Derived.WalkKit
/- Parse: the plain law: what is left are the last of the tokens. -/
namespace Go.Proofs.YtdmmhfbafinkpaaGreatDoor
open Go.Emb

def SufS (g : St → St) : Prop := ∀ s, (g s).toks <:+ s.toks
def Suf {α : Type} (p : P α) : Prop := ∀ s, (p s).2.toks <:+ s.toks
section
variable {α β : Type}
theorem Suf.bnd {p : P α} {f : α → P β} (hp : Suf p) (hf : ∀ a, Suf (f a)) : Suf (bnd p f) := fun s => (hf (p s).1 (p s).2).trans (hp s)
theorem Suf.ret (a : α) : Suf (ret a) := fun _ => List.suffix_refl _
theorem Suf.doS {g : St → St} {p : P α} (hg : SufS g) (hp : Suf p) : Suf (doS g p) := fun s => (hp (g s)).trans (hg s)
theorem SufS.fail (e : Int) : SufS (failS e) := fun s => by
  unfold failS
  split
  · exact List.nil_suffix
  · exact List.suffix_refl _
theorem Suf.take (l : List (List UInt8)) : Suf (takeS l) := fun s => by
  unfold takeS
  split
  · exact List.tail_suffix _
  · exact List.suffix_refl _
theorem Suf.has (x : List UInt8) : Suf (hasS x) := Suf.take [x]
theorem SufS.must (x : List UInt8) : SufS (mustS x) := fun s => by
  unfold mustS
  split
  · exact Suf.has x s
  · exact (SufS.fail 110 _).trans (Suf.has x s)
theorem SufS.enter (d : Nat) : SufS (enterS d) := fun s => by
  unfold enterS
  split
  · exact SufS.fail 111 s
  · exact List.suffix_refl _
theorem Suf.leaf : Suf leafS := fun s => by
  unfold leafS
  split
  · exact List.suffix_refl _
  · split
    · rename_i h _
      simp only [h]
      exact List.suffix_cons _ _
    · exact List.suffix_refl _
end
structure AllS (n : Nat) : Prop where
  expr : ∀ d, Suf (expr n d)
  binary : ∀ v d, Suf (binary n v d)
  binLoop : ∀ v d a, Suf (binLoop n v d a)
  unary : ∀ d, Suf (unary n d)
  call : ∀ d, Suf (call n d)
  callLoop : ∀ d b a, Suf (callLoop n d b a)
  someL : ∀ d, Suf (someL n d)
  untilL : ∀ e d, Suf (untilL n e d)
  bodyP : ∀ d, Suf (bodyP n d)
  headP : ∀ x d, Suf (headP n x d)
  oneC : ∀ k d, Suf (oneC n k d)
  clausesL : ∀ k d, Suf (clausesL n k d)
  listP : ∀ d, Suf (listP n d)
  recvP : ∀ d, Suf (recvP n d)
  prim : ∀ d, Suf (prim n d)
theorem allS : ∀ n, AllS n
  | 0 => by
    constructor
    · intro x; rw [expr]; exact fun s => SufS.fail 999 s
    · intro x y; rw [binary]; exact fun s => SufS.fail 999 s
    · intro x y z; rw [binLoop]; exact fun s => SufS.fail 999 s
    · intro x; rw [unary]; exact fun s => SufS.fail 999 s
    · intro x; rw [call]; exact fun s => SufS.fail 999 s
    · intro x y z; rw [callLoop]; exact fun s => SufS.fail 999 s
    · intro x; rw [someL]; exact fun s => SufS.fail 999 s
    · intro x y; rw [untilL]; exact fun s => SufS.fail 999 s
    · intro x; rw [bodyP]; exact fun s => SufS.fail 999 s
    · intro x y; rw [headP]; exact fun s => SufS.fail 999 s
    · intro x y; rw [oneC]; exact fun s => SufS.fail 999 s
    · intro x y; rw [clausesL]; exact fun s => SufS.fail 999 s
    · intro x; rw [listP]; exact fun s => SufS.fail 999 s
    · intro x; rw [recvP]; exact fun s => SufS.fail 999 s
    · intro x; rw [prim]; exact fun s => SufS.fail 999 s
  | n + 1 => by
    have ih := allS n
    constructor
    · intro d; rw [expr]; refine .doS (.enter d) (.bnd (ih.binary _ _) fun a => .bnd (.take _) fun o => ?_)
      cases o
      · exact .ret _
      · exact .bnd (ih.expr _) fun b => .ret _
    · intro v d; rw [binary]; split
      · exact ih.unary d
      · exact .bnd (ih.binary _ _) fun a => ih.binLoop _ _ _
    · intro v d a; rw [binLoop]; refine .bnd (.take _) fun o => ?_
      cases o
      · exact .ret _
      · refine .bnd (ih.binary _ _) fun b => ?_
        split
        · exact .ret _
        · exact ih.binLoop _ _ _
    · intro d; rw [unary]; refine .doS (.enter d) (.bnd (.take _) fun o => ?_)
      cases o
      · exact ih.call d
      · exact .bnd (ih.unary _) fun a => .ret _
    · intro d; rw [call]; exact fun s => Suf.bnd (ih.prim d) (fun a => ih.callLoop d (bareS s) a) s
    · intro d b a; rw [callLoop]; refine .bnd (.has _) fun o => ?_
      split
      · exact .bnd (ih.untilL _ _) fun l => ih.callLoop _ _ _
      · exact .ret _
    · intro d; rw [someL]; refine .bnd (ih.expr d) fun x => .bnd (.has _) fun o => ?_
      split
      · exact .bnd (ih.someL d) fun l => .ret _
      · exact .ret _
    · intro e d; rw [untilL]; refine .bnd (.has _) fun o => ?_
      split
      · exact .ret _
      · exact .bnd (ih.someL d) fun l => .doS (.must _) (.ret _)
    · intro d; rw [bodyP]; refine .bnd (.bnd (.has _) fun o => ?_) fun g => .doS (.must _) (.bnd (ih.someL d) fun b => .ret _)
      split
      · exact ih.someL d
      · exact .ret _
    · intro x d; rw [headP]; exact .doS (.must _) (.bnd (ih.untilL _ _) fun l => .bnd (ih.bodyP d) fun g => .ret _)
    · intro k d; rw [oneC]; split
      · exact .bnd (ih.expr d) fun a => .bnd (ih.bodyP d) fun g => .ret _
      · split
        · exact ih.headP _ _
        · intro s
          simp only
          split
          · exact SufS.fail 110 s
          · rename_i x r h
            split
            · have h1 : (headP n x.1.text d { s with toks := r }).2.toks <:+ r := ih.headP x.1.text d { s with toks := r }
              exact h ▸ h1.trans (List.suffix_cons _ _)
            · exact SufS.fail 110 s
    · intro k d; rw [clausesL]; refine .bnd (ih.oneC k d) fun x => .bnd (.has _) fun o => ?_
      split
      · exact .bnd (ih.clausesL k d) fun l => .ret _
      · exact .ret _
    · intro d; rw [listP]; refine .bnd (.has _) fun o => ?_
      split
      · exact .ret _
      · refine .bnd (ih.someL d) fun l => .bnd (.bnd (.has _) fun o => ?_) fun t => .doS (.must _) (.ret _)
        split
        · exact ih.expr d
        · exact .ret _
    · intro d; rw [recvP]; refine .bnd (fun s => ?_) fun l => .bnd (.has _) fun o => ?_
      · split
        · exact ih.clausesL 0 d s
        · exact List.suffix_refl _
      · split
        · exact .bnd (ih.expr d) fun a => .doS (.must _) (.bnd (ih.someL d) fun b => .doS (.must _) (.ret _))
        · exact .doS (.must _) (.ret _)
    · intro d; rw [prim]; refine .bnd .leaf fun o => ?_
      cases o
      · refine .bnd (.take _) fun o => ?_
        cases o
        · exact .doS (.fail _) (.ret _)
        · simp only
          repeat' split
          · exact .bnd (ih.expr _) fun a => .doS (.must _) (.ret _)
          · exact .bnd (ih.untilL _ _) fun l => .ret _
          · exact ih.listP _
          · exact .bnd (ih.clausesL _ _) fun l => .doS (.must _) (.ret _)
          · exact .bnd (ih.expr _) fun a => .doS (.must _) (.bnd (ih.clausesL _ _) fun l => .doS (.must _) (.ret _))
          · exact ih.recvP _
          · exact .bnd (ih.someL _) fun b => .doS (.must _) (.bnd (ih.clausesL _ _) fun l => .doS (.must _) (.ret _))
      · exact .ret _
end Go.Proofs.YtdmmhfbafinkpaaGreatDoor

/- Parse: the plain law: scanning what is put together. -/
namespace Go.Proofs.YtdmmhfbafinkpaaGreatDoor
open Go.Emb

theorem scan_one {c : UInt8} {r : List UInt8} {a : Nat} {t : Tk} {ts : List (Tk × Nat)} (hb : blankB c = false) (h : c.toNat ≠ 37) (ht : tokL (c :: r) = .ok t) (hs : scanL ((c :: r).drop t.en) (a + t.en) = .ok ts) : scanL (c :: r) a = .ok ((t, a) :: ts) := by
  rw [scanL_tok r a hb h, ht]
  simp only
  rw [hs]
theorem note_app (l1 r : List UInt8) : ((l1 ++ 10 :: r).takeWhile (fun x => decide (x.toNat ≠ 10))) = l1.takeWhile (fun x => decide (x.toNat ≠ 10)) ∧ ((l1 ++ 10 :: r).dropWhile (fun x => decide (x.toNat ≠ 10))) = l1.dropWhile (fun x => decide (x.toNat ≠ 10)) ++ 10 :: r := by
  induction l1 with
  | nil => constructor <;> simp
  | cons x l1 ih =>
    simp only [List.cons_append, List.takeWhile_cons, List.dropWhile_cons]
    split
    · exact ⟨by rw [ih.1], ih.2⟩
    · exact ⟨rfl, by simp⟩
/-- two texts, with a new line between -/
theorem scan_join : ∀ (n : Nat) (l : List UInt8), l.length ≤ n → ∀ (a : Nat) (ts : List (Tk × Nat)) (r : List UInt8) (us : List (Tk × Nat)), scanL l a = .ok ts → scanL (10 :: r) (a + l.length) = .ok us → scanL (l ++ 10 :: r) a = .ok (ts ++ us) := by
  intro n
  induction n with
  | zero =>
    intro l hl a ts r us h hu
    have : l = [] := List.length_eq_zero_iff.1 (by omega)
    subst this
    rw [scanL_nil] at h
    cases h
    simpa using hu
  | succ n ih =>
    intro l hl a ts r us h hu
    cases l with
    | nil =>
      rw [scanL_nil] at h
      cases h
      simpa using hu
    | cons x l1 =>
      simp only [List.length_cons] at hl hu
      by_cases hb : blankB x = true
      · rw [scanL_blank l1 a hb] at h
        rw [List.cons_append, scanL_blank _ a hb]
        exact ih l1 (by omega) _ _ _ _ h (by rw [show a + 1 + l1.length = a + (l1.length + 1) by omega]; exact hu)
      · have hb' : blankB x = false := by simpa using hb
        by_cases hn : x.toNat = 37
        · rw [scanL_note l1 a hb' hn] at h
          rw [List.cons_append, scanL_note _ a hb' hn, (note_app l1 r).1, (note_app l1 r).2]
          have hsum : (l1.takeWhile (fun x => decide (x.toNat ≠ 10))).length + (l1.dropWhile (fun x => decide (x.toNat ≠ 10))).length = l1.length := by
            rw [← List.length_append, List.takeWhile_append_dropWhile]
          refine ih _ (by omega) _ _ _ _ h ?_
          rw [show a + 1 + (l1.takeWhile (fun x => decide (x.toNat ≠ 10))).length + (l1.dropWhile (fun x => decide (x.toNat ≠ 10))).length = a + (l1.length + 1) by omega]
          exact hu
        · rw [scanL_tok l1 a hb' hn] at h
          split at h
          · cases h
          · rename_i t ht
            split at h
            · cases h
            · rename_i ts' hs
              cases h
              obtain ⟨h1, h2⟩ := tokL_en ht
              have hsp : (x :: l1).take t.en ++ (x :: l1).drop t.en = x :: l1 := List.take_append_drop _ _
              have haf : After ((x :: l1).drop t.en) ((x :: l1).drop t.en ++ 10 :: r) := by
                cases hd : (x :: l1).drop t.en with
                | nil => exact .inr (.inr ⟨10, r, rfl, by decide⟩)
                | cons y q => exact .inr (.inl ⟨y, q, q ++ 10 :: r, rfl, rfl⟩)
              have ht' : tokL ((x :: l1) ++ 10 :: r) = .ok t := by
                have := tokL_app (u := (x :: l1).take t.en) haf (by rw [hsp]; exact ht) (by rw [List.length_take]; simp at h2 ⊢; omega)
                rwa [← List.append_assoc, hsp] at this
              have hl2 : ((x :: l1).drop t.en).length = l1.length + 1 - t.en := by simp
              have hrec := ih ((x :: l1).drop t.en) (by simp at h2; omega) (a + t.en) ts' r us hs (by rw [hl2]; simp at h2; rw [show a + t.en + (l1.length + 1 - t.en) = a + (l1.length + 1) by omega]; exact hu)
              have := scan_one (r := l1 ++ 10 :: r) hb' hn (by simpa using ht') (ts := ts' ++ us) (a := a) (by
                rw [← List.cons_append, List.drop_append_of_le_length (by simpa using h2)]
                exact hrec)
              simpa using this
/-- elsewhere the same tokens -/
theorem scan_move : ∀ (n : Nat) (l : List UInt8), l.length ≤ n → ∀ (a b : Nat) (ts : List (Tk × Nat)), scanL l a = .ok ts → ∃ ts', scanL l b = .ok ts' ∧ ts'.map (·.1) = ts.map (·.1) := by
  intro n
  induction n with
  | zero =>
    intro l hl a b ts h
    have : l = [] := List.length_eq_zero_iff.1 (by omega)
    subst this
    rw [scanL_nil] at h
    cases h
    exact ⟨[], scanL_nil b, rfl⟩
  | succ n ih =>
    intro l hl a b ts h
    cases l with
    | nil =>
      rw [scanL_nil] at h
      cases h
      exact ⟨[], scanL_nil b, rfl⟩
    | cons x l1 =>
      simp only [List.length_cons] at hl
      by_cases hb : blankB x = true
      · rw [scanL_blank l1 a hb] at h
        rw [scanL_blank _ b hb]
        exact ih l1 (by omega) _ _ _ h
      · have hb' : blankB x = false := by simpa using hb
        by_cases hn : x.toNat = 37
        · rw [scanL_note l1 a hb' hn] at h
          rw [scanL_note _ b hb' hn]
          have := List.Sublist.length_le (List.dropWhile_sublist (l := l1) (fun x => decide (x.toNat ≠ 10)))
          exact ih _ (by omega) _ _ _ h
        · rw [scanL_tok l1 a hb' hn] at h
          split at h
          · cases h
          · rename_i t ht
            split at h
            · cases h
            · rename_i ts' hs
              cases h
              obtain ⟨h1, h2⟩ := tokL_en ht
              obtain ⟨us, hu, he⟩ := ih ((x :: l1).drop t.en) (by simp at h2 ⊢; omega) (a + t.en) (b + t.en) ts' hs
              exact ⟨(t, b) :: us, scan_one hb' hn ht hu, by simp [he]⟩
end Go.Proofs.YtdmmhfbafinkpaaGreatDoor

/- Parse: the plain law: brackets, tuples, matches. -/
namespace Go.Proofs.YtdmmhfbafinkpaaGreatDoor
open Go.Emb

theorem take_none {l : List (List UInt8)} {s : St} (h : nextS s = [] ∨ nextS s ∉ l) : takeS l s = (none, s) := by
  unfold takeS
  rw [if_neg (fun hc => h.elim (fun h => hc.2 h) (fun h => h hc.1))]
theorem has_no {x : List UInt8} {s : St} (h : nextS s = [] ∨ nextS s ≠ x) : hasS x s = (false, s) := by
  unfold hasS
  rw [take_none (h.imp id (fun h => by simpa using h))]
  rfl
theorem next_at {s : St} {x : Tk × Nat} {r : List (Tk × Nat)} (h : s.toks = x :: r) : nextS s = if x.1.kind < 4 then [] else x.1.text := by
  unfold nextS; rw [h]
theorem has_yes {x : List UInt8} {s : St} {t : Tk × Nat} {r : List (Tk × Nat)} (h : s.toks = t :: r) (hk : ¬ t.1.kind < 4) (ht : t.1.text = x) (hx : x ≠ []) : hasS x s = (true, { s with toks := r }) := by
  have h1 : nextS s = x := by rw [next_at h, if_neg hk, ht]
  unfold hasS takeS
  rw [if_pos ⟨by rw [h1]; simp, by rw [h1]; exact hx⟩, h]
  rfl
theorem must_yes {x : List UInt8} {s : St} {t : Tk × Nat} {r : List (Tk × Nat)} (h : s.toks = t :: r) (hk : ¬ t.1.kind < 4) (ht : t.1.text = x) (hx : x ≠ []) : mustS x s = { s with toks := r } := by
  unfold mustS
  rw [has_yes h hk ht hx]
  rfl
theorem take_yes {l : List (List UInt8)} {s : St} {t : Tk × Nat} {r : List (Tk × Nat)} (h : s.toks = t :: r) (hk : ¬ t.1.kind < 4) (ht : t.1.text ∈ l) (hx : t.1.text ≠ []) : takeS l s = (some t.1.text, { s with toks := r }) := by
  have h1 : nextS s = t.1.text := by rw [next_at h, if_neg hk]
  unfold takeS
  rw [if_pos ⟨by rw [h1]; exact ht, by rw [h1]; exact hx⟩, h1, h]
  rfl
/-- no operator, no call behind it -/
structure OffB (s : St) : Prop where
  lv : ∀ v, takeS (levelsL v) s = (none, s)
  op : hasS sOpen s = (false, s)
structure Off (s : St) : Prop extends OffB s where
  eq : takeS [sEq, sSend] s = (none, s)
theorem Off.nil {s : St} (h : s.toks = []) : Off s := ⟨⟨fun _ => takeS_nil h, hasS_nil h⟩, takeS_nil h⟩
theorem Off.at {s : St} {x : Tk × Nat} {r : List (Tk × Nat)} (h : s.toks = x :: r) (hk : ¬ x.1.kind < 4) (hx : x.1.text ∈ [sShut, sComma, sDot, sShutC]) : Off s := by
  have h1 : nextS s = x.1.text := by rw [next_at h, if_neg hk]
  refine ⟨⟨fun v => take_none (.inr ?_), has_no (.inr ?_)⟩, take_none (.inr ?_)⟩
  · rw [h1]; exact levels_no v _ hx
  · rw [h1]; rintro e; rw [e] at hx; revert hx; decide
  · rw [h1]; intro hc; revert hx; simp at hc; rcases hc with e | e <;> rw [e] <;> decide
theorem OffB.eqs {s : St} {x : Tk × Nat} {r : List (Tk × Nat)} (h : s.toks = x :: r) (hk : ¬ x.1.kind < 4) (hx : x.1.text = sEq) : OffB s := by
  have h1 : nextS s = sEq := by rw [next_at h, if_neg hk, hx]
  refine ⟨fun v => take_none (.inr ?_), has_no (.inr ?_)⟩
  · rw [h1]
    match v with
    | 0 => decide
    | 1 => decide
    | 2 => decide
    | 3 => decide
    | 4 => decide
    | n + 5 => simp [levelsL]
  · rw [h1]; decide
section
variable {m d : Nat} {s s1 : St} {a : Nd}
theorem call_of (hp : prim (m + 1) d s = (a, s1)) (ho : OffB s1) : call (m + 2) d s = (a, s1) := by
  rw [call]
  show (bnd (prim (m + 1) d) (fun a => callLoop (m + 1) d (bareS s) a)) s = (a, s1)
  unfold bnd
  rw [hp]
  simp only
  rw [callLoop]
  unfold bnd
  rw [ho.op]
  rfl
theorem enter_le (hd : d ≤ 64) : enterS d s = s := if_neg (by omega)
theorem unary_of (hd : d ≤ 64) (h0 : takeS [sMinus, sNot] s = (none, s)) (hp : call (m + 2) d s = (a, s1)) : unary (m + 3) d s = (a, s1) := by
  rw [unary]
  unfold doS bnd
  rw [enter_le hd, h0]
  exact hp
theorem bin_of {k v : Nat} (hv : v < 5) (hp : binary (k + 1) (v + 1) d s = (a, s1)) (ho : OffB s1) : binary (k + 2) v d s = (a, s1) := by
  rw [binary, if_neg (by omega)]
  unfold bnd
  rw [hp]
  simp only
  rw [binLoop]
  unfold bnd
  rw [ho.lv v]
  rfl
theorem binary_of (hd : d ≤ 64) (h0 : takeS [sMinus, sNot] s = (none, s)) (hp : prim (m + 1) d s = (a, s1)) (ho : OffB s1) : binary (m + 9) 0 d s = (a, s1) := by
  have h1 : binary (m + 4) 5 d s = (a, s1) := by rw [binary, if_pos rfl]; exact unary_of hd h0 (call_of hp ho)
  exact bin_of (by omega) (bin_of (by omega) (bin_of (by omega) (bin_of (by omega) (bin_of (by omega) h1 ho) ho) ho) ho) ho
theorem expr_of (hd : d ≤ 64) (h0 : takeS [sMinus, sNot] s = (none, s)) (hp : prim (m + 1) d s = (a, s1)) (ho : Off s1) : expr (m + 10) d s = (a, s1) := by
  rw [expr]
  unfold doS bnd
  rw [enter_le hd, binary_of hd h0 hp ho.toOffB]
  simp only
  rw [ho.eq]
  rfl
/-- an error stays -/
theorem stick {α β : Type} {p : P α} {f : α → P β} (gf : ∀ a, Good (f a)) {e : Int} (he : e ≠ 0) (h : (p s).2.err = e) : (bnd p f s).2.err = e := by
  show (f (p s).1 (p s).2).2.err = e
  rw [(gf (p s).1 (p s).2).2 (by rw [h]; exact he), h]
theorem binary_err {e : Int} (he : e ≠ 0) (hd : d ≤ 64) (h0 : takeS [sMinus, sNot] s = (none, s)) (hp : (prim (m + 1) d s).2.err = e) : (binary (m + 9) 0 d s).2.err = e := by
  have h2 : (call (m + 2) d s).2.err = e := by
    rw [call]
    exact stick (p := prim (m + 1) d) (f := fun a => callLoop (m + 1) d (bareS s) a) (fun a => (allG _).callLoop _ _ _) he hp
  have h3 : (unary (m + 3) d s).2.err = e := by
    rw [unary]
    unfold doS bnd
    rw [enter_le hd, h0]
    exact h2
  have h4 : (binary (m + 4) 5 d s).2.err = e := by rw [binary, if_pos rfl]; exact h3
  have st : ∀ k v, v < 5 → (binary (k + 1) (v + 1) d s).2.err = e → (binary (k + 2) v d s).2.err = e := fun k v hv h => by
    rw [binary, if_neg (by omega)]
    exact stick (fun a => (allG _).binLoop _ _ _) he h
  exact st _ 0 (by omega) (st _ 1 (by omega) (st _ 2 (by omega) (st _ 3 (by omega) (st _ 4 (by omega) h4))))
theorem expr_err {e : Int} (he : e ≠ 0) (hd : d ≤ 64) (h0 : takeS [sMinus, sNot] s = (none, s)) (hp : (prim (m + 1) d s).2.err = e) : (expr (m + 10) d s).2.err = e := by
  rw [expr]
  unfold doS
  rw [enter_le hd]
  refine stick (fun a => .bnd (.take _) fun o => ?_) he (binary_err he hd h0 hp)
  cases o
  · exact .ret _
  · exact .bnd ((allG _).expr _) fun b => .ret _
theorem prim_leaf {x : Tk × Nat} {r : List (Tk × Nat)} (hs : s.toks = x :: r) (hk : 1 ≤ x.1.kind ∧ x.1.kind ≤ 3) : prim (m + 1) d s = (.mk x.1.kind x.1.num x.1.text [] [] [], { s with toks := r }) := by
  rw [prim]
  have : leafS s = (some (.mk x.1.kind x.1.num x.1.text [] [] []), { s with toks := r }) := by
    unfold leafS
    rw [hs]
    simp only
    rw [if_pos hk]
  unfold bnd
  rw [this]
  rfl
theorem leaf_take {x : Tk × Nat} {r : List (Tk × Nat)} {l : List (List UInt8)} (hs : s.toks = x :: r) (hk : x.1.kind ≤ 3) : takeS l s = (none, s) := take_none (.inl (by rw [next_at hs, if_pos (by omega)]))
theorem expr_leaf {x : Tk × Nat} {r : List (Tk × Nat)} (hd : d ≤ 64) (hs : s.toks = x :: r) (hk : 1 ≤ x.1.kind ∧ x.1.kind ≤ 3) (ho : Off { s with toks := r }) : expr (m + 10) d s = (.mk x.1.kind x.1.num x.1.text [] [] [], { s with toks := r }) :=
  expr_of hd (leaf_take hs hk.2) (prim_leaf hs hk) ho
theorem leaf_no {x : Tk × Nat} {r : List (Tk × Nat)} (hs : s.toks = x :: r) (hk : 4 ≤ x.1.kind) : leafS s = (none, s) := by
  unfold leafS
  rw [hs]
  simp only
  rw [if_neg (by omega)]
theorem prim_open {x : Tk × Nat} {r : List (Tk × Nat)} (hs : s.toks = x :: r) (hk : 4 ≤ x.1.kind) (hx : x.1.text = sOpen) : prim (m + 1) d s = bnd (expr m (d + 1)) (fun a => doS (mustS sShut) (ret a)) { s with toks := r } := by
  rw [prim]
  unfold bnd
  rw [leaf_no hs hk]
  simp only
  rw [take_yes hs (by omega) (by rw [hx]; decide) (by rw [hx]; decide), hx]
  simp only [if_true]
theorem prim_tuple {x : Tk × Nat} {r : List (Tk × Nat)} (hs : s.toks = x :: r) (hk : 4 ≤ x.1.kind) (hx : x.1.text = sOpenC) : prim (m + 1) d s = bnd (untilL m sShutC (d + 1)) (fun l => ret (.mk 4 0 [] l [] [])) { s with toks := r } := by
  rw [prim]
  unfold bnd
  rw [leaf_no hs hk]
  simp only
  rw [take_yes hs (by omega) (by rw [hx]; decide) (by rw [hx]; decide), hx]
  simp only [if_neg (show ¬ sOpenC = sOpen by decide), if_true]
theorem sign_take {x : Tk × Nat} {r : List (Tk × Nat)} (hs : s.toks = x :: r) (hx : x.1.text = sOpen ∨ x.1.text = sOpenC) (hk : 4 ≤ x.1.kind) : takeS [sMinus, sNot] s = (none, s) :=
  take_none (.inr (by rw [next_at hs, if_neg (by omega)]; rcases hx with e | e <;> rw [e] <;> decide))
theorem some_more {k : Nat} {s2 : St} (h : expr k d s = (a, s1)) (hc : hasS sComma s1 = (true, s2)) : someL (k + 1) d s = bnd (someL k d) (fun l => ret (a :: l)) s2 := by
  rw [someL]
  show (bnd (hasS sComma) (fun o => if o then bnd (someL k d) fun l => ret ((expr k d s).1 :: l) else ret [(expr k d s).1])) (expr k d s).2 = _
  rw [h]
  unfold bnd
  simp only
  rw [hc]
  simp only [if_true]
theorem some_one {k : Nat} (h : expr k d s = (a, s1)) (hc : hasS sComma s1 = (false, s1)) : someL (k + 1) d s = ([a], s1) := by
  rw [someL]
  show (bnd (hasS sComma) (fun o => if o then bnd (someL k d) fun l => ret ((expr k d s).1 :: l) else ret [(expr k d s).1])) (expr k d s).2 = _
  rw [h]
  unfold bnd
  simp only
  rw [hc]
  rfl
theorem some_err {k : Nat} {e : Int} (he : e ≠ 0) (h : (expr k d s).2.err = e) : (someL (k + 1) d s).2.err = e := by
  rw [someL]
  refine stick (fun a => .bnd (.has _) fun o => ?_) he h
  split
  · exact .bnd ((allG _).someL d) fun _ => .ret _
  · exact .ret _
theorem until_some {k : Nat} {e : List UInt8} (h : hasS e s = (false, s)) : untilL (k + 1) e d s = bnd (someL k d) (fun l => doS (mustS e) (ret l)) s := by
  rw [untilL]
  show (if (hasS e s).1 = true then ret [] else bnd (someL k d) fun l => doS (mustS e) (ret l)) (hasS e s).2 = _
  rw [h]
  rfl
theorem until_nil {k : Nat} {e : List UInt8} {s2 : St} (h : hasS e s = (true, s2)) : untilL (k + 1) e d s = ([], s2) := by
  rw [untilL]
  show (if (hasS e s).1 = true then ret [] else bnd (someL k d) fun l => doS (mustS e) (ret l)) (hasS e s).2 = _
  rw [h]
  rfl
end
end Go.Proofs.YtdmmhfbafinkpaaGreatDoor

/- Parse: the plain law: an expression in brackets, in a tuple, on a match's right side. -/
namespace Go.Proofs.YtdmmhfbafinkpaaGreatDoor
open Go.Emb

/-- a text that is an expression -/
def ExOk (l : List UInt8) (n : Nd) : Prop := ∃ ts s1, scanL l 0 = .ok ts ∧ Ev (fun k => expr k 0) ⟨ts, l.length, 0, 0⟩ n s1 ∧ s1.err = 0 ∧ s1.toks = []
theorem begin_ok {l : List UInt8} {ts : List (Tk × Nat)} (h : scanL l 0 = .ok ts) : beginS l = ⟨ts, l.length, 0, 0⟩ := by unfold beginS; rw [h]
theorem tokL_ne {l : List UInt8} {e : Int} {f : Nat} (h : tokL l = .error (e, f)) : e ≠ 0 := by
  have := (tokL_err h).2; omega
theorem begin_err {l : List UInt8} (h : (beginS l).err = 0) : ∃ ts, scanL l 0 = .ok ts := by
  rcases hR : scanL l 0 with p | ts
  · unfold beginS at h
    rw [hR] at h
    have := (scan_err _ l (Nat.le_refl _) 0 p.1 p.2 hR).2.2
    simp only at h
    omega
  · exact ⟨ts, rfl⟩
theorem ExR.ok {l : List UInt8} {n : Nd} {s' : St} (h : ExR l n s') (he : s'.err = 0) : ExOk l n := by
  rcases h with ⟨h0, s1, hev, hs⟩ | ⟨h0, hs⟩
  · obtain ⟨ts, hts⟩ := begin_err h0
    rw [begin_ok hts] at hev
    by_cases ht : s1.toks = []
    · rw [if_pos ht] at hs
      subst hs
      exact ⟨ts, s', hts, hev, he, ht⟩
    · rw [if_neg ht] at hs
      subst hs
      exact absurd he (failS_ne 110 (by decide) _)
  · subst hs; exact absurd he h0
/-- what the text put together comes to, if it is scanned so -/
theorem ExR.go {l : List UInt8} {n : Nd} {s' : St} {ts : List (Tk × Nat)} (h : ExR l n s') (hts : scanL l 0 = .ok ts) : ∃ s1, Ev (fun k => expr k 0) ⟨ts, l.length, 0, 0⟩ n s1 ∧ s' = if s1.toks = [] then s1 else failS 110 s1 := by
  rw [ExR, begin_ok hts] at h
  rcases h with ⟨-, s1, hev, hs⟩ | ⟨h0, -⟩
  · exact ⟨s1, hev, hs⟩
  · exact absurd rfl h0
theorem fin_err {s1 : St} (h : s1.err = 111) : (if s1.toks = [] then s1 else failS 110 s1).err = 111 := by
  split
  · exact h
  · unfold failS; rw [if_neg (by rw [h]; decide)]; exact h
theorem map_snoc {ts ys : List (Tk × Nat)} {post : List Tk} (h : ys.map (·.1) = ts.map (·.1) ++ post) (en en' : Int) : Rel post ⟨ts, en, 0, 0⟩ ⟨ys, en', 0, 0⟩ := ⟨rfl, rfl, h⟩
section
variable {l : List UInt8} {n : Nd}
theorem law_brack (h : ExOk l n) {l2 : List UInt8} {x : Tk × Nat} {ys : List (Tk × Nat)} {c : Tk} (h2 : scanL l2 0 = .ok (x :: ys)) (hx : 4 ≤ x.1.kind ∧ x.1.text = sOpen) (hc : 4 ≤ c.kind ∧ c.text = sShut)
    (hys : ∀ ts, scanL l 0 = .ok ts → ys.map (·.1) = ts.map (·.1) ++ [c]) {n2 : Nd} {s2 : St} (hr : ExR l2 n2 s2) : s2.err = 111 ∨ (s2.err = 0 ∧ n2 = n) := by
  obtain ⟨ts, s1, hts, ⟨N, hev⟩, he1, ht1⟩ := h
  obtain ⟨sf, ⟨N2, hev2⟩, rfl⟩ := hr.go h2
  have hm := hev (N + N2) (by omega)
  have hm2 := hev2 (N + N2 + 10) (by omega)
  simp only at hm hm2
  have hl := (allL True [c] (N + N2)).expr 0 1 ⟨by omega, .inr trivial⟩ _ ⟨ys, l2.length, 0, 0⟩ (map_snoc (hys ts hts) l.length _) (by rw [hm]; exact he1) (.inr (.inr (by unfold nxt; simp; rw [if_neg (by omega), hc.2]; simp)))
  have hp := prim_open (m := N + N2) (d := 0) (s := ⟨x :: ys, l2.length, 0, 0⟩) rfl hx.1 hx.2
  have h0 := sign_take (s := ⟨x :: ys, l2.length, 0, 0⟩) rfl (.inl hx.2) hx.1
  rw [hm] at hl
  rcases hl with ⟨-, hl⟩ | ⟨hv, hrel⟩
  · left
    have h3 : (prim (N + N2 + 1) 0 ⟨x :: ys, l2.length, 0, 0⟩).2.err = 111 := by
      rw [hp]
      exact stick (fun a => .doS (.must _) (.ret _)) (by decide) hl
    have h4 := expr_err (by decide) (by omega) h0 h3
    rw [hm2] at h4
    exact fin_err h4
  · right
    have ht := hrel.toks
    rw [ht1] at ht
    simp only [List.map_nil, List.nil_append] at ht
    obtain ⟨q, hq⟩ : ∃ q, (expr (N + N2) 1 ⟨ys, l2.length, 0, 0⟩).2 = q := ⟨_, rfl⟩
    rw [hq] at ht hrel
    match hqt : q.toks with
    | [] => rw [hqt] at ht; simp at ht
    | _ :: _ :: _ => rw [hqt] at ht; simp at ht
    | [z] =>
      rw [hqt] at ht
      simp at ht
      have hmu := must_yes (x := sShut) hqt (by rw [ht]; omega) (by rw [ht]; exact hc.2) (by decide)
      have h3 : prim (N + N2 + 1) 0 ⟨x :: ys, l2.length, 0, 0⟩ = (n, { q with toks := [] }) := by
        rw [hp]
        show ((expr (N + N2) 1 ⟨ys, l2.length, 0, 0⟩).1, mustS sShut (expr (N + N2) 1 ⟨ys, l2.length, 0, 0⟩).2) = _
        rw [hq, hmu, hv]
      have h4 := expr_of (by omega) h0 h3 (Off.nil rfl)
      rw [hm2] at h4
      cases h4
      simp only [if_true]
      exact ⟨hrel.err', trivial⟩
theorem law_tuple (h : ExOk l n) {l2 : List UInt8} {x xa cm : Tk × Nat} {ys : List (Tk × Nat)} {c1 c2 c3 : Tk} (h2 : scanL l2 0 = .ok (x :: xa :: cm :: ys)) (hx : 4 ≤ x.1.kind ∧ x.1.text = sOpenC) (hxa : xa.1.kind = 2) (hcm : 4 ≤ cm.1.kind ∧ cm.1.text = sComma)
    (hc1 : 4 ≤ c1.kind ∧ c1.text = sComma) (hc2 : c2.kind = 2) (hc3 : 4 ≤ c3.kind ∧ c3.text = sShutC)
    (hys : ∀ ts, scanL l 0 = .ok ts → ys.map (·.1) = ts.map (·.1) ++ [c1, c2, c3]) {n2 : Nd} {s2 : St} (hr : ExR l2 n2 s2) : s2.err = 111 ∨ (s2.err = 0 ∧ ∃ a b, n2 = .mk 4 0 [] [a, n, b] [] []) := by
  obtain ⟨ts, s1, hts, ⟨N, hev⟩, he1, ht1⟩ := h
  obtain ⟨sf, ⟨N2, hev2⟩, rfl⟩ := hr.go h2
  have hm := hev (N + N2 + 20) (by omega)
  have hm2 := hev2 (N + N2 + 33) (by omega)
  simp only at hm hm2
  have hl := (allL True [c1, c2, c3] (N + N2 + 20)).expr 0 1 ⟨by omega, .inr trivial⟩ _ ⟨ys, l2.length, 0, 0⟩ (map_snoc (hys ts hts) l.length _) (by rw [hm]; exact he1) (.inr (.inr (by unfold nxt; simp; rw [if_neg (by omega), hc1.2]; simp)))
  have hp := prim_tuple (m := N + N2 + 23) (d := 0) (s := ⟨x :: xa :: cm :: ys, l2.length, 0, 0⟩) rfl hx.1 hx.2
  have h0 := sign_take (s := ⟨x :: xa :: cm :: ys, l2.length, 0, 0⟩) rfl (.inr hx.2) hx.1
  have hu := until_some (k := N + N2 + 22) (e := sShutC) (d := 1) (s := ⟨xa :: cm :: ys, l2.length, 0, 0⟩) (has_no (.inl (by rw [next_at rfl, if_pos (by omega)])))
  have ex := expr_leaf (m := N + N2 + 11) (d := 1) (s := ⟨xa :: cm :: ys, l2.length, 0, 0⟩) (by omega) rfl (by omega) (Off.at (x := cm) rfl (by omega) (by rw [hcm.2]; simp))
  have hs := some_more ex (has_yes (x := sComma) (t := cm) rfl (by omega) hcm.2 (by decide))
  simp only at hs
  rw [hm] at hl
  obtain ⟨q, hq⟩ : ∃ q, expr (N + N2 + 20) 1 ⟨ys, l2.length, 0, 0⟩ = q := ⟨_, rfl⟩
  rw [hq] at hl
  rcases hl with ⟨-, hl⟩ | ⟨hv, hrel⟩
  · left
    have e1 : (someL (N + N2 + 21) 1 ⟨ys, l2.length, 0, 0⟩).2.err = 111 := some_err (by decide) (by rw [hq]; exact hl)
    have e2 : (someL (N + N2 + 22) 1 ⟨xa :: cm :: ys, l2.length, 0, 0⟩).2.err = 111 := by
      rw [hs]
      exact stick (fun a => .ret _) (by decide) e1
    have e3 : (untilL (N + N2 + 23) sShutC 1 ⟨xa :: cm :: ys, l2.length, 0, 0⟩).2.err = 111 := by
      rw [hu]
      exact stick (fun a => .doS (.must _) (.ret _)) (by decide) e2
    have h3 : (prim (N + N2 + 23 + 1) 0 ⟨x :: xa :: cm :: ys, l2.length, 0, 0⟩).2.err = 111 := by
      rw [hp]
      exact stick (fun a => .ret _) (by decide) e3
    have h4 := expr_err (by decide) (by omega) h0 h3
    rw [hm2] at h4
    exact fin_err h4
  · right
    have ht := hrel.toks
    rw [ht1] at ht
    simp only [List.map_nil, List.nil_append] at ht
    obtain ⟨v, q⟩ := q
    simp only at hv ht hrel
    rw [hv] at hq
    match hqt : q.toks with
    | [] => rw [hqt] at ht; simp at ht
    | [_] => rw [hqt] at ht; simp at ht
    | [_, _] => rw [hqt] at ht; simp at ht
    | _ :: _ :: _ :: _ :: _ => rw [hqt] at ht; simp at ht
    | [z1, z2, z3] =>
      rw [hqt] at ht
      simp at ht
      obtain ⟨g1, g2, g3⟩ := ht
      have hb := some_more hq (has_yes (x := sComma) hqt (by rw [g1]; omega) (by rw [g1]; exact hc1.2) (by decide))
      have ey := expr_leaf (m := N + N2 + 9) (d := 1) (s := { q with toks := [z2, z3] }) (by omega) rfl (by rw [g2]; omega) (Off.at (x := z3) rfl (by rw [g3]; omega) (by rw [g3, hc3.2]; simp))
      have hy := some_one ey (has_no (.inr (by rw [next_at rfl, if_neg (by rw [g3]; omega), g3, hc3.2]; decide)))
      have hmu := must_yes (x := sShutC) (s := { q with toks := [z3] }) rfl (by rw [g3]; omega) (by rw [g3]; exact hc3.2) (by decide)
      have e1 : someL (N + N2 + 21) 1 ⟨ys, l2.length, 0, 0⟩ = ([n, .mk z2.1.kind z2.1.num z2.1.text [] [] []], { q with toks := [z3] }) := by
        rw [hb]
        unfold bnd
        rw [hy]
        rfl
      have e2 : someL (N + N2 + 22) 1 ⟨xa :: cm :: ys, l2.length, 0, 0⟩ = ([.mk xa.1.kind xa.1.num xa.1.text [] [] [], n, .mk z2.1.kind z2.1.num z2.1.text [] [] []], { q with toks := [z3] }) := by
        rw [hs]
        unfold bnd
        rw [e1]
        rfl
      have e3 : untilL (N + N2 + 23) sShutC 1 ⟨xa :: cm :: ys, l2.length, 0, 0⟩ = ([.mk xa.1.kind xa.1.num xa.1.text [] [] [], n, .mk z2.1.kind z2.1.num z2.1.text [] [] []], { q with toks := [] }) := by
        rw [hu]
        unfold bnd doS
        rw [e2]
        simp only
        rw [hmu]
        rfl
      have h3 : prim (N + N2 + 23 + 1) 0 ⟨x :: xa :: cm :: ys, l2.length, 0, 0⟩ = (.mk 4 0 [] [.mk xa.1.kind xa.1.num xa.1.text [] [] [], n, .mk z2.1.kind z2.1.num z2.1.text [] [] []] [] [], { q with toks := [] }) := by
        rw [hp]
        unfold bnd
        rw [e3]
        rfl
      have h4 := expr_of (by omega) h0 h3 (Off.nil rfl)
      rw [hm2] at h4
      cases h4
      simp only [if_true]
      exact ⟨hrel.err', _, _, rfl⟩
theorem law_match (h : ExOk l n) {l2 : List UInt8} {xz xe : Tk × Nat} {ys : List (Tk × Nat)} (h2 : scanL l2 0 = .ok (xz :: xe :: ys)) (hxz : xz.1.kind = 3) (hxe : 4 ≤ xe.1.kind ∧ xe.1.text = sEq)
    (hys : ∀ ts, scanL l 0 = .ok ts → ys.map (·.1) = ts.map (·.1)) {n2 : Nd} {s2 : St} (hr : ExR l2 n2 s2) : s2.err = 111 ∨ (s2.err = 0 ∧ ∃ a, n2 = .mk 11 0 [] [a, n] [] []) := by
  obtain ⟨ts, s1, hts, ⟨N, hev⟩, he1, ht1⟩ := h
  obtain ⟨sf, ⟨N2, hev2⟩, rfl⟩ := hr.go h2
  have hm := hev (N + N2 + 9) (by omega)
  have hm2 := hev2 (N + N2 + 10) (by omega)
  simp only at hm hm2
  have hl := (allL True [] (N + N2 + 9)).expr 0 1 ⟨by omega, .inr trivial⟩ _ ⟨ys, l2.length, 0, 0⟩ (map_snoc (by simpa using hys ts hts) l.length _) (by rw [hm]; exact he1) (.inr (.inl rfl))
  have hb := binary_of (m := N + N2) (d := 0) (s := ⟨xz :: xe :: ys, l2.length, 0, 0⟩) (by omega) (leaf_take rfl (by omega)) (prim_leaf rfl (by omega)) (OffB.eqs rfl (by omega) hxe.2)
  have htk := take_yes (l := [sEq, sSend]) (s := ⟨xe :: ys, l2.length, 0, 0⟩) rfl (by omega) (by rw [hxe.2]; simp) (by rw [hxe.2]; decide)
  have hx : expr (N + N2 + 10) 0 ⟨xz :: xe :: ys, l2.length, 0, 0⟩ = bnd (expr (N + N2 + 9) 1) (fun b => ret (.mk 11 0 [] [.mk xz.1.kind xz.1.num xz.1.text [] [] [], b] [] [])) ⟨ys, l2.length, 0, 0⟩ := by
    rw [expr]
    unfold doS bnd
    rw [enter_le (by omega)]
    simp only
    rw [hb]
    simp only
    rw [htk, hxe.2]
    simp only [if_neg (show ¬ sEq = sSend by decide)]
  rw [hm] at hl
  obtain ⟨q, hq⟩ : ∃ q, expr (N + N2 + 9) 1 ⟨ys, l2.length, 0, 0⟩ = q := ⟨_, rfl⟩
  rw [hq] at hl
  rcases hl with ⟨-, hl⟩ | ⟨hv, hrel⟩
  · left
    have h4 : (expr (N + N2 + 10) 0 ⟨xz :: xe :: ys, l2.length, 0, 0⟩).2.err = 111 := by
      rw [hx]
      exact stick (fun a => .ret _) (by decide) (by rw [hq]; exact hl)
    rw [hm2] at h4
    exact fin_err h4
  · right
    have ht := hrel.toks
    rw [ht1] at ht
    obtain ⟨v, q⟩ := q
    simp only at hv ht hrel
    rw [hv] at hq
    have hq0 : q.toks = [] := by simpa using ht
    unfold bnd at hx
    rw [hq] at hx
    rw [hm2] at hx
    cases hx
    rw [if_pos hq0]
    exact ⟨hrel.err', _, rfl⟩
end
end Go.Proofs.YtdmmhfbafinkpaaGreatDoor

/- Parse: the plain law: scanning the texts that the statements put together. -/
namespace Go.Proofs.YtdmmhfbafinkpaaGreatDoor
open Go.Emb

theorem tok_sign {c : UInt8} (v : List UInt8) (h : (digitB c || smallB c || greatB c || decide (c.toNat = 39)) = false) (hs : signsL.contains c = true) (h2 : ∀ d, sign2 c d = false) : tokL (c :: v) = .ok ⟨5, 0, [c], 1⟩ := by
  simp only [Bool.or_eq_false_iff] at h
  obtain ⟨⟨⟨h3, h4⟩, h5⟩, h6⟩ := h
  have h6' : ¬ c.toNat = 39 := by simpa using h6
  have hn : signN (c :: v) = 1 := by
    cases v with
    | nil => simp only [signN]; rw [if_pos hs]
    | cons d r => simp only [signN]; rw [h2 d, if_neg (by simp), if_pos hs]
  unfold tokL
  simp only [h3, h4, h5, Bool.or_self, Bool.false_eq_true, if_false, if_neg h6', hn, if_neg (show ¬ (1 : Nat) = 0 by decide)]
  rfl
abbrev tSign (c : UInt8) : Tk := ⟨5, 0, [c], 1⟩
abbrev tTo : Tk := ⟨5, 0, [45, 62], 2⟩
abbrev tAtom (c : UInt8) : Tk := ⟨2, 0, [c], 1⟩
abbrev tVar (c : UInt8) : Tk := ⟨3, 0, [c], 1⟩
abbrev tNum (n : Int) : Tk := ⟨1, n, [], 1⟩
theorem s2_of {c : UInt8} (h : c ≠ 45 ∧ c ≠ 61 ∧ c ≠ 47 ∧ c ≠ 62) (d : UInt8) : sign2 c d = false := by
  obtain ⟨h1, h2, h3, h4⟩ := h
  simp [sign2, h1, h2, h3, h4]
section
variable {a : Nat} {ts : List (Tk × Nat)} {v : List UInt8}
theorem scan_sign {c : UInt8} (hc : c ∈ [40, 41, 123, 125, 44, 46]) (h : scanL v (a + 1) = .ok ts) : scanL (c :: v) a = .ok ((tSign c, a) :: ts) := by
  have hk : blankB c = false ∧ c.toNat ≠ 37 ∧ (digitB c || smallB c || greatB c || decide (c.toNat = 39)) = false ∧ signsL.contains c = true ∧ c ≠ 45 ∧ c ≠ 61 ∧ c ≠ 47 ∧ c ≠ 62 := by
    simp at hc
    rcases hc with rfl | rfl | rfl | rfl | rfl | rfl <;> decide
  exact scan_one hk.1 hk.2.1 (tok_sign v hk.2.2.1 hk.2.2.2.1 (s2_of hk.2.2.2.2)) (by simpa using h)
theorem scan_blk {c : UInt8} (hc : blankB c = true) (h : scanL v (a + 1) = .ok ts) : scanL (c :: v) a = .ok ts := by rw [scanL_blank v a hc]; exact h
/-- a token that ends ahead of a blank -/
theorem scan_app {c : UInt8} {u w' : List UInt8} {t : Tk} (h1 : tokL (c :: u) = .ok t) (hen : t.en = (c :: u).length) (hb : blankB c = false) (hn : c.toNat ≠ 37) (haf : After [] v) (h : scanL v (a + t.en) = .ok ts) (he : w' = c :: u ++ v) : scanL w' a = .ok ((t, a) :: ts) := by
  subst he
  have ht := tokL_app (u := c :: u) (v := []) (v' := v) haf (by simpa using h1) hen
  refine scan_one (r := u ++ v) hb hn (by simpa using ht) ?_
  rw [show c :: (u ++ v) = (c :: u) ++ v from rfl, hen, List.drop_left]
  rw [hen] at h
  exact h
theorem after_blank {c : UInt8} {r : List UInt8} (h : blankB c = true) : After [] (c :: r) := .inr (.inr ⟨c, r, rfl, h⟩)
theorem scan_letter {c d : UInt8} {r : List UInt8} {t : Tk} (h1 : tokL [c, d] = .ok t) (hen : t.en = 1) (hb : blankB c = false) (hn : c.toNat ≠ 37) (h : scanL (d :: r) (a + 1) = .ok ts) : scanL (c :: d :: r) a = .ok ((t, a) :: ts) := by
  have ht := tokL_app (u := [c]) (v := [d]) (v' := d :: r) (.inr (.inl ⟨d, [], r, rfl, rfl⟩)) h1 hen
  refine scan_one hb hn (by simpa using ht) ?_
  rw [hen]
  exact h
end
theorem scan_end1 (b : Nat) : scanL [10, 41] b = .ok [(tSign 41, b + 1)] := scan_blk (by decide) (scan_sign (by decide) (scanL_nil _))
theorem scan_dot (b : Nat) : scanL [10, 46] b = .ok [(tSign 46, b + 1)] := scan_blk (by decide) (scan_sign (by decide) (scanL_nil _))
theorem scan_end3 (b : Nat) : scanL [10, 44, 32, 121, 125] b = .ok [(tSign 44, b + 1), (tAtom 121, b + 3), (tSign 125, b + 4)] :=
  scan_blk (by decide) (scan_sign (by decide) (scan_blk (by decide) (scan_letter (by rfl) rfl (by decide) (by decide) (scan_sign (by decide) (scanL_nil _)))))
theorem scan_fun (b : Nat) : scanL [10, 120, 40, 41, 32, 45, 62, 32, 49] b = .ok [(tAtom 120, b + 1), (tSign 40, b + 2), (tSign 41, b + 3), (tTo, b + 5), (tNum 1, b + 8)] :=
  scan_blk (by decide) (scan_letter (by rfl) rfl (by decide) (by decide) (scan_sign (by decide) (scan_sign (by decide) (scan_blk (by decide) (scan_app (c := 45) (u := [62]) (by rfl) rfl (by decide) (by decide) (after_blank (by decide)) (scan_blk (by decide) (scan_app (c := 49) (u := []) (v := []) (by rfl) rfl (by decide) (by decide) (.inl ⟨rfl, rfl⟩) (scanL_nil _) rfl)) rfl)))))
theorem scan_funD (b : Nat) : scanL [10, 120, 40, 41, 32, 45, 62, 32, 49, 46] b = .ok [(tAtom 120, b + 1), (tSign 40, b + 2), (tSign 41, b + 3), (tTo, b + 5), (tNum 1, b + 8), (tSign 46, b + 9)] :=
  scan_blk (by decide) (scan_letter (by rfl) rfl (by decide) (by decide) (scan_sign (by decide) (scan_sign (by decide) (scan_blk (by decide) (scan_app (c := 45) (u := [62]) (by rfl) rfl (by decide) (by decide) (after_blank (by decide)) (scan_blk (by decide) (scan_letter (by rfl) rfl (by decide) (by decide) (scan_sign (by decide) (scanL_nil _)))) rfl)))))
section
variable {l : List UInt8} {ts : List (Tk × Nat)}
theorem scan_brack (h : scanL l 0 = .ok ts) : ∃ ys, scanL ([40] ++ l ++ [10, 41]) 0 = .ok ((tSign 40, 0) :: ys) ∧ ys.map (·.1) = ts.map (·.1) ++ [tSign 41] := by
  obtain ⟨ts', h1, h2⟩ := scan_move _ l (Nat.le_refl _) 0 1 ts h
  have h3 := scan_join _ l (Nat.le_refl _) 1 ts' [41] _ h1 (scan_end1 _)
  exact ⟨_, by simpa using scan_sign (c := 40) (a := 0) (by decide) h3, by simp [h2]⟩
theorem scan_tuple (h : scanL l 0 = .ok ts) : ∃ ys, scanL ([123, 120, 44, 32] ++ l ++ [10, 44, 32, 121, 125]) 0 = .ok ((tSign 123, 0) :: (tAtom 120, 1) :: (tSign 44, 2) :: ys) ∧ ys.map (·.1) = ts.map (·.1) ++ [tSign 44, tAtom 121, tSign 125] := by
  obtain ⟨ts', h1, h2⟩ := scan_move _ l (Nat.le_refl _) 0 4 ts h
  have h3 := scan_join _ l (Nat.le_refl _) 4 ts' [44, 32, 121, 125] _ h1 (scan_end3 _)
  exact ⟨_, by simpa using scan_sign (c := 123) (a := 0) (by decide) (scan_letter (c := 120) (d := 44) (by rfl) rfl (by decide) (by decide) (scan_sign (by decide) (scan_blk (c := 32) (by decide) h3))), by simp [h2]⟩
theorem scan_match (h : scanL l 0 = .ok ts) : ∃ ys, scanL ([90, 32, 61, 32] ++ l) 0 = .ok ((tVar 90, 0) :: (tSign 61, 2) :: ys) ∧ ys.map (·.1) = ts.map (·.1) := by
  obtain ⟨ts', h1, h2⟩ := scan_move _ l (Nat.le_refl _) 0 4 ts h
  exact ⟨_, scan_app (c := 90) (u := []) (by rfl) rfl (by decide) (by decide) (after_blank (c := 32) (by decide)) (scan_blk (by decide) (scan_app (c := 61) (u := []) (by rfl) rfl (by decide) (by decide) (after_blank (c := 32) (by decide)) (scan_blk (by decide) h1) rfl)) rfl, h2⟩
theorem scan_body (h : scanL l 0 = .ok ts) : ∃ ys, scanL ([103, 40, 41, 32, 45, 62, 32] ++ l ++ [10, 46]) 0 = .ok ((tAtom 103, 0) :: (tSign 40, 1) :: (tSign 41, 2) :: (tTo, 4) :: ys) ∧ ys.map (·.1) = ts.map (·.1) ++ [tSign 46] := by
  obtain ⟨ts', h1, h2⟩ := scan_move _ l (Nat.le_refl _) 0 7 ts h
  have h3 := scan_join _ l (Nat.le_refl _) 7 ts' [46] _ h1 (scan_dot _)
  exact ⟨_, by simpa using scan_letter (a := 0) (c := 103) (d := 40) (by rfl) rfl (by decide) (by decide) (scan_sign (by decide) (scan_sign (by decide) (scan_blk (c := 32) (by decide) (scan_app (c := 45) (u := [62]) (by rfl) rfl (by decide) (by decide) (after_blank (c := 32) (by decide)) (scan_blk (by decide) h3) rfl)))), by simp [h2]⟩
end
end Go.Proofs.YtdmmhfbafinkpaaGreatDoor

/- Parse: the plain law: programs, one behind the other; a body; what is cut off. -/
namespace Go.Proofs.YtdmmhfbafinkpaaGreatDoor
open Go.Emb

theorem funP_lift (post : List Tk) (m : Nat) : Lift False True post (funP m) (funP m) :=
  .seqN ((allL False post m).clausesL 2 0 0 ⟨Nat.le_refl _, .inl rfl⟩) (fun _ => .doS (.must _) (.ret _)) (fun _ => .doS (.must _) (.ret _)) (fun _ => .must (.ret _)) fun l => .must (.ret _) (.ret _)
theorem Good.funs : ∀ (m : Nat) (b : Bool), Good (funsL m b)
  | 0, b => by rw [funsL]; exact fun s => GoodS.fail 999 s
  | m + 1, b => by
    rw [funsL]
    intro s
    simp only
    split
    · exact Good.bnd (Good.fun m) (fun _ => .bnd (Good.funs m false) fun _ => .ret _) s
    · exact ⟨Nat.le_refl _, fun _ => rfl⟩
theorem Suf.funs : ∀ (m : Nat) (b : Bool), Suf (funsL m b)
  | 0, b => by rw [funsL]; exact fun s => SufS.fail 999 s
  | m + 1, b => by
    rw [funsL]
    intro s
    simp only
    split
    · exact Suf.bnd (.bnd ((allS m).clausesL _ _) fun _ => .doS (.must _) (.ret _)) (fun _ => .bnd (Suf.funs m false) fun _ => .ret _) s
    · exact List.suffix_refl _
theorem funs_go {m : Nat} {b : Bool} {s : St} (h : s.err = 0 ∧ (b = true ∨ s.toks ≠ [])) : funsL (m + 1) b s = ((funP m s).1 :: (funsL m false (funP m s).2).1, (funsL m false (funP m s).2).2) := by
  rw [funsL]
  simp only [if_pos h]
  rfl
theorem funs_stop {m : Nat} {b : Bool} {s : St} (h : ¬ (s.err = 0 ∧ (b = true ∨ s.toks ≠ []))) : funsL (m + 1) b s = ([], s) := by
  rw [funsL]
  simp only [if_neg h]
/-- functions, with something behind -/
theorem funs_app (post : List Tk) : ∀ (m : Nat) (b : Bool) (s s' : St), Rel post s s' → (funsL m b s).2.err = 0 →
    ∃ k s1', m = k + (funsL m b s).1.length ∧ 1 ≤ k ∧ funsL m b s' = ((funsL m b s).1 ++ (funsL k (decide (b = true ∧ (funsL m b s).1 = [])) s1').1, (funsL k (decide (b = true ∧ (funsL m b s).1 = [])) s1').2) ∧ Rel post (funsL m b s).2 s1' ∧ (funsL m b s).2.toks = [] ∧ s1'.toks <:+ s'.toks
  | 0, b, s, s', hr, he => by
    rw [funsL] at he
    exact absurd he (failS_ne 999 (by decide) s)
  | m + 1, b, s, s', hr, he => by
    by_cases hc : s.err = 0 ∧ (b = true ∨ s.toks ≠ [])
    · have hc' : s'.err = 0 ∧ (b = true ∨ s'.toks ≠ []) := ⟨hr.err', hc.2.imp id (fun h h0 => by
        have ht := hr.toks
        rw [h0] at ht
        simp at ht
        exact h ht.1)⟩
      rw [funs_go hc] at he ⊢
      have he1 : (funP m s).2.err = 0 := (Good.funs m false).ne he
      rcases funP_lift post m s s' hr he1 (.inr trivial) with ⟨hF, -⟩ | ⟨h1, h2⟩
      · exact hF.elim
      · obtain ⟨k, s1', hk, hk1, hfun, hrel, ht, hsuf⟩ := funs_app post m false _ _ h2 he
        refine ⟨k, s1', by simp only [List.length_cons]; omega, hk1, ?_, hrel, ht, hsuf.trans (Suf.bnd ((allS m).clausesL _ _) (fun _ => .doS (.must _) (.ret _)) s')⟩
        have e : ∀ (x : List Nd) (l : List (List Nd)), decide (b = true ∧ x :: l = []) = false := fun x l => by simp
        rw [funs_go hc', hfun, h1]
        simp
    · rw [funs_stop hc] at he ⊢
      refine ⟨m + 1, s', by simp, by omega, ?_, hr, ?_, List.suffix_refl _⟩
      · have hb : b = false := by
          cases b
          · rfl
          · exact absurd ⟨hr.err, .inl rfl⟩ hc
        subst hb
        simp
      · exact Classical.byContradiction fun h => hc ⟨hr.err, .inr h⟩
/-- a text that is a program -/
def PrOk (l : List UInt8) (fs : List (List Nd)) : Prop := ∃ ts s1, scanL l 0 = .ok ts ∧ Ev (fun k => funsL k true) ⟨ts, l.length, 0, 0⟩ fs s1 ∧ s1.err = 0
theorem PrOk.of {l : List UInt8} {fs : List (List Nd)} {s1 : St} (h : Ev (fun k => funsL k true) (beginS l) fs s1) (he : s1.err = 0) : PrOk l fs := by
  have h0 : (beginS l).err = 0 := by
    have hg := h.le (fun n => Good.funs n true)
    exact Classical.byContradiction fun hn => hn (by rw [← hg.2 hn, he])
  obtain ⟨ts, hts⟩ := begin_err h0
  rw [begin_ok hts] at h
  exact ⟨ts, s1, hts, h, he⟩
theorem PrOk.ne {l : List UInt8} {fs : List (List Nd)} (h : PrOk l fs) : fs ≠ [] := by
  obtain ⟨ts, s1, -, ⟨N, hev⟩, he⟩ := h
  have h1 := hev (N + 1) (by omega)
  simp only at h1
  rw [funs_go (by simp)] at h1
  injection h1 with h1 h2
  rw [← h1]
  simp
/-- what a program and more comes to -/
theorem law_more {l l2 : List UInt8} {fs : List (List Nd)} (h : PrOk l fs) {ys : List (Tk × Nat)} {post : List Tk} (h2 : scanL l2 0 = .ok ys) (hys : ∀ ts, scanL l 0 = .ok ts → ys.map (·.1) = ts.map (·.1) ++ post) {gs : List (List Nd)} {s2 : St} (hr : Ev (fun k => funsL k true) (beginS l2) gs s2) (M : Nat) :
    ∃ k s1', M ≤ k ∧ s1'.err = 0 ∧ s1'.toks.map (·.1) = post ∧ s1'.toks <:+ ys ∧ gs = fs ++ (funsL k false s1').1 ∧ s2 = (funsL k false s1').2 := by
  have hne := h.ne
  obtain ⟨ts, s1, hts, ⟨N, hev⟩, he1⟩ := h
  obtain ⟨N2, hev2⟩ := hr
  rw [begin_ok h2] at hev2
  have hm := hev (N + N2 + M + fs.length) (by omega)
  have hm2 := hev2 (N + N2 + M + fs.length) (by omega)
  simp only at hm hm2
  obtain ⟨k, s1', hk, -, hf, hrel, ht, hsuf⟩ := funs_app post (N + N2 + M + fs.length) true _ ⟨ys, l2.length, 0, 0⟩ (map_snoc (hys ts hts) l.length _) (by rw [hm]; exact he1)
  rw [hm] at hk hf hrel ht
  rw [hm2] at hf
  have hd : decide (True ∧ fs = []) = false := by simp [hne]
  simp only [true_and, decide_eq_false hne] at hf
  injection hf with hf1 hf2
  refine ⟨k, s1', by simp only at hk; omega, hrel.err', ?_, hsuf, hf1, hf2⟩
  have := hrel.toks
  rw [ht] at this
  simpa using this
end Go.Proofs.YtdmmhfbafinkpaaGreatDoor

/- Parse: the plain law: two programs; a body; what is cut off. -/
namespace Go.Proofs.YtdmmhfbafinkpaaGreatDoor
open Go.Emb

theorem funs_flag {k : Nat} {b : Bool} {s : St} (h : s.toks ≠ []) : funsL k b s = funsL k true s := by
  cases k with
  | zero => rw [funsL, funsL]
  | succ k =>
    rw [funsL, funsL]
    simp [h]
theorem Nil.fun (m : Nat) : Nil (funP m) := .seq ((allN m).clausesL 2 0) fun _ => .doS (.must _) (.ret _)
theorem law_parts {l t : List UInt8} {fs gs : List (List Nd)} (h : PrOk l fs) (ht : PrOk t gs) {cs : List (List Nd)} {s3 : St} (hr : Ev (fun k => funsL k true) (beginS (l ++ 10 :: t)) cs s3) : s3.err = 0 ∧ cs = fs ++ gs := by
  obtain ⟨ts2, st, hts2, ⟨N3, hev3⟩, het⟩ := ht
  have hsc : ∃ ts, scanL l 0 = .ok ts := by obtain ⟨ts, _, h1, -⟩ := h; exact ⟨ts, h1⟩
  obtain ⟨ts, hts⟩ := hsc
  obtain ⟨us, hus, hum⟩ := scan_move _ t (Nat.le_refl _) 0 (0 + l.length + 1) ts2 hts2
  have h3 := scan_join _ l (Nat.le_refl _) 0 ts t us hts (by rw [scanL_blank _ _ (by decide)]; exact hus)
  obtain ⟨k, s1', hk, he1, ht1, -, rfl, rfl⟩ := law_more h h3 (post := us.map (·.1)) (fun ts' h' => by rw [hts] at h'; cases h'; simp) hr (N3 + gs.length + 1)
  have hne : ts2 ≠ [] := by
    rintro rfl
    have h1 := hev3 (N3 + 1) (by omega)
    simp only at h1
    rw [funs_go (by simp)] at h1
    injection h1 with h1 h2
    have h4 := Nil.fun N3 ⟨[], t.length, 0, 0⟩ rfl
    have h5 := (Good.funs N3 false _).2 h4
    rw [h2, het] at h5
    exact h4 h5.symm
  have hm3 := hev3 k (by omega)
  simp only at hm3
  rw [hum] at ht1
  obtain ⟨k', s1'', hk', hk1, hf, hrel, ht2, -⟩ := funs_app [] k true ⟨ts2, t.length, 0, 0⟩ s1' ⟨rfl, he1, by simpa using ht1⟩ (by rw [hm3]; exact het)
  rw [hm3] at hk' hf hrel ht2
  have hne1 : s1'.toks ≠ [] := fun h0 => hne (by rw [h0] at ht1; simpa using ht1.symm)
  have hgs : gs ≠ [] := PrOk.ne ⟨ts2, st, hts2, ⟨N3, hev3⟩, het⟩
  simp only [true_and, decide_eq_false hgs] at hf
  have ht3 : s1''.toks = [] := by have := hrel.toks; rw [ht2] at this; simpa using this
  obtain ⟨k2, rfl⟩ : ∃ k2, k' = k2 + 1 := ⟨k' - 1, by omega⟩
  rw [funs_stop (by simp [ht3])] at hf
  rw [funs_flag hne1, hf]
  exact ⟨hrel.err', by simp⟩
section
variable {j : Nat} {s s1 : St} {b : List Nd}
theorem fun_of {g o c t : Tk × Nat} {r : List (Tk × Nat)} (hs : s.toks = g :: o :: c :: t :: r) (hg : g.1.kind = 2) (ho : 4 ≤ o.1.kind ∧ o.1.text = sOpen) (hc : 4 ≤ c.1.kind ∧ c.1.text = sShut) (ht : 4 ≤ t.1.kind ∧ t.1.text = sTo)
    (hb : someL (j + 11) 0 { s with toks := r } = (b, s1)) (hsemi : hasS sSemi s1 = (false, s1)) : funP (j + 15) s = ([.mk 0 0 g.1.text [] [] b], mustS sDot s1) := by
  have e1 : bodyP (j + 12) 0 { s with toks := t :: r } = (([], b), s1) := by
    rw [bodyP]
    unfold bnd doS
    rw [has_no (s := { s with toks := t :: r }) (x := sWhen) (.inr (by rw [next_at rfl, if_neg (by omega), ht.2]; decide))]
    simp only [Bool.false_eq_true, if_false, ret]
    rw [must_yes (x := sTo) (s := { s with toks := t :: r }) rfl (by omega) ht.2 (by decide)]
    simp only
    rw [hb]
  have e2 : headP (j + 13) g.1.text 0 { s with toks := o :: c :: t :: r } = (.mk 0 0 g.1.text [] [] b, s1) := by
    rw [headP]
    unfold bnd doS
    rw [must_yes (x := sOpen) (s := { s with toks := o :: c :: t :: r }) rfl (by omega) ho.2 (by decide)]
    simp only
    rw [until_nil (has_yes (x := sShut) (s := { s with toks := c :: t :: r }) rfl (by omega) hc.2 (by decide))]
    simp only
    rw [e1]
    rfl
  have e3 : oneC (j + 14) 2 0 s = (.mk 0 0 g.1.text [] [] b, s1) := by
    rw [oneC, if_neg (by decide), if_neg (by decide)]
    simp only [hs]
    rw [if_pos hg]
    exact e2
  unfold funP
  show doS (mustS sDot) (ret (clausesL (j + 15) 2 0 s).1) (clausesL (j + 15) 2 0 s).2 = _
  have e4 : clausesL (j + 15) 2 0 s = ([.mk 0 0 g.1.text [] [] b], s1) := by
    rw [clausesL]
    unfold bnd
    rw [e3]
    simp only
    rw [hsemi]
    rfl
  rw [e4]
  rfl
end
theorem law_body {x : List UInt8} {n : Nd} (h : ExOk x n) {fs : List (List Nd)} {s2 : St} (hr : Ev (fun k => funsL k true) (beginS ([103, 40, 41, 32, 45, 62, 32] ++ x ++ [10, 46])) fs s2) : s2.err = 0 ∧ fs = [[.mk 0 0 [103] [] [] [n]]] := by
  obtain ⟨ts, s1, hts, ⟨N, hev⟩, he1, ht1⟩ := h
  obtain ⟨ys, h2, hys⟩ := scan_body hts
  rw [begin_ok h2] at hr
  obtain ⟨N2, hev2⟩ := hr
  have hm := hev (N + N2 + 10) (by omega)
  have hm2 := hev2 (N + N2 + 15 + 1) (by omega)
  simp only at hm hm2
  obtain ⟨en, hen⟩ : ∃ en : Int, en = (([103, 40, 41, 32, 45, 62, 32] ++ x ++ [10, 46] : List UInt8).length : Int) := ⟨_, rfl⟩
  rw [← hen] at hm2
  have hl := (allL False [tSign 46] (N + N2 + 10)).expr 0 0 ⟨Nat.le_refl _, .inl rfl⟩ _ ⟨ys, en, 0, 0⟩ (map_snoc hys x.length _) (by rw [hm]; exact he1) (.inr (.inr (by decide)))
  rw [hm] at hl
  rcases hl with ⟨hF, -⟩ | ⟨hv, hrel⟩
  · exact hF.elim
  obtain ⟨q, hq⟩ : ∃ q, expr (N + N2 + 10) 0 ⟨ys, en, 0, 0⟩ = q := ⟨_, rfl⟩
  rw [hq] at hv hrel
  obtain ⟨v, q⟩ := q
  simp only at hv hrel
  rw [hv] at hq
  have ht := hrel.toks
  rw [ht1] at ht
  simp only [List.map_nil, List.nil_append] at ht
  match hqt : q.toks with
  | [] => rw [hqt] at ht; simp at ht
  | _ :: _ :: _ => rw [hqt] at ht; simp at ht
  | [z] =>
    rw [hqt] at ht
    simp only [List.map_cons, List.map_nil, List.cons.injEq, and_true] at ht
    have hsome := some_one hq (has_no (x := sComma) (.inr (by rw [next_at hqt, ht]; decide)))
    have hf := fun_of (j := N + N2) (s := ⟨(tAtom 103, 0) :: (tSign 40, 1) :: (tSign 41, 2) :: (tTo, 4) :: ys, en, 0, 0⟩) rfl rfl (by decide) (by decide) (by decide) hsome (has_no (x := sSemi) (.inr (by rw [next_at hqt, ht]; decide)))
    have hmu := must_yes (x := sDot) hqt (by rw [ht]; decide) (by rw [ht]) (by decide)
    rw [hmu] at hf
    rw [funs_go (by simp), hf] at hm2
    simp only at hm2
    rw [show N + N2 + 15 = N + N2 + 14 + 1 from rfl, funs_stop (by simp)] at hm2
    injection hm2 with h1 h2
    exact ⟨by rw [← h2]; exact hrel.err', h1.symm⟩
section
variable {l : List UInt8} {fs gs : List (List Nd)} {s2 : St}
theorem law_dot (h : PrOk l fs) (hr : Ev (fun k => funsL k true) (beginS (l ++ [10, 46])) gs s2) : s2.err = 110 ∧ s2.at_ = (l.length + 1 : Nat) := by
  obtain ⟨ts, hts⟩ : ∃ ts, scanL l 0 = .ok ts := by obtain ⟨ts, _, h1, -⟩ := h; exact ⟨ts, h1⟩
  have h3 := scan_join _ l (Nat.le_refl _) 0 ts [46] _ hts (scan_dot _)
  obtain ⟨k, s1', hk, he1, ht1, hsuf, -, rfl⟩ := law_more h h3 (post := [tSign 46]) (fun ts' h' => by rw [hts] at h'; cases h'; simp) hr 3
  match hqt : s1'.toks with
  | [] => rw [hqt] at ht1; simp at ht1
  | _ :: _ :: _ => rw [hqt] at ht1; simp at ht1
  | [z] =>
    rw [hqt] at ht1 hsuf
    have hz : z = (tSign 46, 0 + l.length + 1) := by
      obtain ⟨p, hp⟩ := hsuf
      have := congrArg List.getLast? hp
      simpa using this
    obtain ⟨j, rfl⟩ : ∃ j, k = j + 2 + 1 := ⟨k - 3, by omega⟩
    have hfail : failS 110 s1' = ⟨[], -1, 110, (l.length + 1 : Nat)⟩ := by
      unfold failS
      rw [if_pos he1]
      unfold plc
      rw [hqt, hz]
      simp
    have e1 : oneC (j + 1) 2 0 s1' = (nd0, ⟨[], -1, 110, (l.length + 1 : Nat)⟩) := by
      rw [oneC, if_neg (by decide), if_neg (by decide)]
      simp only [hqt, hz]
      rw [if_neg (by decide), hfail]
    have e2 : funP (j + 2) s1' = ([nd0], ⟨[], -1, 110, (l.length + 1 : Nat)⟩) := by
      unfold funP
      have e4 : clausesL (j + 2) 2 0 s1' = ([nd0], ⟨[], -1, 110, (l.length + 1 : Nat)⟩) := by
        rw [clausesL]
        unfold bnd
        rw [e1]
        simp only
        rw [hasS_nil rfl]
        rfl
      show doS (mustS sDot) (ret (clausesL (j + 2) 2 0 s1').1) (clausesL (j + 2) 2 0 s1').2 = _
      rw [e4]
      unfold doS mustS
      rw [hasS_nil rfl]
      rfl
    rw [funs_go ⟨he1, .inr (by rw [hqt]; simp)⟩, e2]
    simp only
    rw [show j + 2 = j + 1 + 1 from rfl, funs_stop (by simp)]
    exact ⟨rfl, rfl⟩
theorem law_cut (h : PrOk l fs) (hr : Ev (fun k => funsL k true) (beginS (l ++ [10, 120, 40, 41, 32, 45, 62, 32, 49])) gs s2) : s2.err = 110 := by
  obtain ⟨ts, hts⟩ : ∃ ts, scanL l 0 = .ok ts := by obtain ⟨ts, _, h1, -⟩ := h; exact ⟨ts, h1⟩
  have h3 := scan_join _ l (Nat.le_refl _) 0 ts _ _ hts (scan_fun _)
  obtain ⟨k, s1', hk, he1, ht1, -, -, rfl⟩ := law_more h h3 (post := [tAtom 120, tSign 40, tSign 41, tTo, tNum 1]) (fun ts' h' => by rw [hts] at h'; cases h'; simp) hr 16
  obtain ⟨j, rfl⟩ : ∃ j, k = j + 15 + 1 := ⟨k - 16, by omega⟩
  match hqt : s1'.toks with
  | [] => rw [hqt] at ht1; simp at ht1
  | [_] => rw [hqt] at ht1; simp at ht1
  | [_, _] => rw [hqt] at ht1; simp at ht1
  | [_, _, _] => rw [hqt] at ht1; simp at ht1
  | [_, _, _, _] => rw [hqt] at ht1; simp at ht1
  | _ :: _ :: _ :: _ :: _ :: _ :: _ => rw [hqt] at ht1; simp at ht1
  | [z1, z2, z3, z4, z5] =>
    rw [hqt] at ht1
    simp only [List.map_cons, List.map_nil, List.cons.injEq, and_true] at ht1
    obtain ⟨g1, g2, g3, g4, g5⟩ := ht1
    have ey := expr_leaf (m := j) (d := 0) (s := { s1' with toks := [z5] }) (by omega) rfl (by rw [g5]; decide) (Off.nil rfl)
    have hsome := some_one ey (hasS_nil rfl)
    have hf := fun_of (j := j) hqt (by rw [g1]) (by rw [g2]; decide) (by rw [g3]; decide) (by rw [g4]; decide) hsome (hasS_nil rfl)
    have hmu : mustS sDot ({ s1' with toks := [] } : St) = ⟨[], -1, 110, s1'.en⟩ := by
      unfold mustS
      rw [hasS_nil rfl]
      simp only [Bool.false_eq_true, if_false]
      unfold failS
      rw [if_pos he1]
      rfl
    rw [hmu] at hf
    rw [funs_go ⟨he1, .inr (by rw [hqt]; simp)⟩, hf]
    simp only
    rw [show j + 15 = j + 14 + 1 from rfl, funs_stop (by simp)]
theorem law_more1 (h : PrOk l fs) (hr : Ev (fun k => funsL k true) (beginS (l ++ [10, 120, 40, 41, 32, 45, 62, 32, 49, 46])) gs s2) : s2.err = 0 ∧ 1 < gs.length := by
  have hne := h.ne
  obtain ⟨ts, hts⟩ : ∃ ts, scanL l 0 = .ok ts := by obtain ⟨ts, _, h1, -⟩ := h; exact ⟨ts, h1⟩
  have h3 := scan_join _ l (Nat.le_refl _) 0 ts _ _ hts (scan_funD _)
  obtain ⟨k, s1', hk, he1, ht1, -, rfl, rfl⟩ := law_more h h3 (post := [tAtom 120, tSign 40, tSign 41, tTo, tNum 1, tSign 46]) (fun ts' h' => by rw [hts] at h'; cases h'; simp) hr 16
  obtain ⟨j, rfl⟩ : ∃ j, k = j + 15 + 1 := ⟨k - 16, by omega⟩
  match hqt : s1'.toks with
  | [] => rw [hqt] at ht1; simp at ht1
  | [_] => rw [hqt] at ht1; simp at ht1
  | [_, _] => rw [hqt] at ht1; simp at ht1
  | [_, _, _] => rw [hqt] at ht1; simp at ht1
  | [_, _, _, _] => rw [hqt] at ht1; simp at ht1
  | [_, _, _, _, _] => rw [hqt] at ht1; simp at ht1
  | _ :: _ :: _ :: _ :: _ :: _ :: _ :: _ => rw [hqt] at ht1; simp at ht1
  | [z1, z2, z3, z4, z5, z6] =>
    rw [hqt] at ht1
    simp only [List.map_cons, List.map_nil, List.cons.injEq, and_true] at ht1
    obtain ⟨g1, g2, g3, g4, g5, g6⟩ := ht1
    have ey := expr_leaf (m := j) (d := 0) (s := { s1' with toks := [z5, z6] }) (by omega) rfl (by rw [g5]; decide) (Off.at (x := z6) rfl (by rw [g6]; decide) (by rw [g6]; decide))
    have hsome := some_one ey (has_no (x := sComma) (.inr (by rw [next_at rfl, g6]; decide)))
    have hf := fun_of (j := j) hqt (by rw [g1]) (by rw [g2]; decide) (by rw [g3]; decide) (by rw [g4]; decide) hsome (has_no (x := sSemi) (.inr (by rw [next_at rfl, g6]; decide)))
    rw [must_yes (x := sDot) (s := { s1' with toks := [z6] }) rfl (by rw [g6]; decide) (by rw [g6]) (by decide)] at hf
    rw [funs_go ⟨he1, .inr (by rw [hqt]; simp)⟩, hf]
    simp only
    rw [show j + 15 = j + 14 + 1 from rfl, funs_stop (by simp)]
    have := List.length_pos_iff.2 hne
    exact ⟨he1, by simp; omega⟩
end
end Go.Proofs.YtdmmhfbafinkpaaGreatDoor

/- Parse: the plain law: the three texts of live. -/
namespace Go.Proofs.YtdmmhfbafinkpaaGreatDoor
open Go.Emb

theorem scan_l1 : scanL [49, 32, 43, 32, 50, 32, 42, 32, 88] 0 = .ok [(tNum 1, 0), (tSign 43, 2), (tNum 2, 4), (tSign 42, 6), (tVar 88, 8)] :=
  scan_app (c := 49) (u := []) (by rfl) rfl (by decide) (by decide) (after_blank (c := 32) (by decide)) (scan_blk (by decide) (scan_app (c := 43) (u := []) (by rfl) rfl (by decide) (by decide) (after_blank (c := 32) (by decide)) (scan_blk (by decide) (scan_app (c := 50) (u := []) (by rfl) rfl (by decide) (by decide) (after_blank (c := 32) (by decide)) (scan_blk (by decide) (scan_app (c := 42) (u := []) (by rfl) rfl (by decide) (by decide) (after_blank (c := 32) (by decide)) (scan_blk (by decide) (scan_app (c := 88) (u := []) (v := []) (by rfl) rfl (by decide) (by decide) (.inl ⟨rfl, rfl⟩) (scanL_nil _) rfl)) rfl)) rfl)) rfl)) rfl
theorem scan_l2 : scanL [102, 40, 49, 41, 40, 50, 41] 0 = .ok [(tAtom 102, 0), (tSign 40, 1), (tNum 1, 2), (tSign 41, 3), (tSign 40, 4), (tNum 2, 5), (tSign 41, 6)] :=
  scan_letter (by rfl) rfl (by decide) (by decide) (scan_sign (by decide) (scan_letter (by rfl) rfl (by decide) (by decide) (scan_sign (by decide) (scan_sign (by decide) (scan_letter (by rfl) rfl (by decide) (by decide) (scan_sign (by decide) (scanL_nil _)))))))
theorem scan_l3 : scanL [102, 40, 41, 32, 45, 62, 32, 49] 0 = .ok [(tAtom 102, 0), (tSign 40, 1), (tSign 41, 2), (tTo, 4), (tNum 1, 7)] :=
  scan_letter (by rfl) rfl (by decide) (by decide) (scan_sign (by decide) (scan_sign (by decide) (scan_blk (by decide) (scan_app (c := 45) (u := [62]) (by rfl) rfl (by decide) (by decide) (after_blank (by decide)) (scan_blk (by decide) (scan_app (c := 49) (u := []) (v := []) (by rfl) rfl (by decide) (by decide) (.inl ⟨rfl, rfl⟩) (scanL_nil _) rfl)) rfl))))
abbrev n1 : Nd := .mk 1 1 [] [] [] []
abbrev n2 : Nd := .mk 1 2 [] [] [] []
set_option maxRecDepth 10000 in
set_option maxHeartbeats 4000000 in
theorem ex_l1 (N : Nat) : expr (N + 40) 0 ⟨[(tNum 1, 0), (tSign 43, 2), (tNum 2, 4), (tSign 42, 6), (tVar 88, 8)], 9, 0, 0⟩ = (.mk 9 0 [43] [n1, .mk 9 0 [42] [n2, .mk 3 0 [88] [] [] []] [] []] [] [], ⟨[], 9, 0, 0⟩) := by
  simp [expr, binary, binLoop, unary, call, callLoop, prim, leafS, takeS, hasS, mustS, enterS, failS, nextS, bnd, ret, doS, levelsL, untilL, someL, bareS, Nd.name]
set_option maxRecDepth 10000 in
set_option maxHeartbeats 4000000 in
theorem ex_l2 (N : Nat) : expr (N + 40) 0 ⟨[(tAtom 102, 0), (tSign 40, 1), (tNum 1, 2), (tSign 41, 3), (tSign 40, 4), (tNum 2, 5), (tSign 41, 6)], 7, 0, 0⟩ = (.mk 8 0 [] [.mk 7 0 [102] [n1] [] [], n2] [] [], ⟨[], 7, 0, 0⟩) := by
  simp [expr, binary, binLoop, unary, call, callLoop, prim, leafS, takeS, hasS, mustS, enterS, failS, nextS, bnd, ret, doS, levelsL, untilL, someL, bareS, Nd.name]
set_option maxRecDepth 10000 in
set_option maxHeartbeats 4000000 in
theorem ex_l3 (N : Nat) : (funsL (N + 40) true ⟨[(tAtom 102, 0), (tSign 40, 1), (tSign 41, 2), (tTo, 4), (tNum 1, 7)], 8, 0, 0⟩).2 = ⟨[], -1, 110, 8⟩ := by
  simp [expr, binary, binLoop, unary, call, callLoop, prim, leafS, takeS, hasS, mustS, enterS, failS, nextS, bnd, ret, doS, levelsL, untilL, someL, bareS, Nd.name, funsL, funP, clausesL, oneC, headP, bodyP, plc]
theorem live1 {n : Nd} {s' : St} (h : ExR [49, 32, 43, 32, 50, 32, 42, 32, 88] n s') : s'.err = 0 ∧ n = .mk 9 0 [43] [n1, .mk 9 0 [42] [n2, .mk 3 0 [88] [] [] []] [] []] [] [] := by
  obtain ⟨s1, ⟨N, hev⟩, rfl⟩ := h.go scan_l1
  have h1 := (ex_l1 N).symm.trans (hev (N + 40) (by omega))
  injection h1 with h1 h2
  subst h2
  exact ⟨rfl, h1.symm⟩
theorem live2 {n : Nd} {s' : St} (h : ExR [102, 40, 49, 41, 40, 50, 41] n s') : s'.err = 0 ∧ n = .mk 8 0 [] [.mk 7 0 [102] [n1] [] [], n2] [] [] := by
  obtain ⟨s1, ⟨N, hev⟩, rfl⟩ := h.go scan_l2
  have h1 := (ex_l2 N).symm.trans (hev (N + 40) (by omega))
  injection h1 with h1 h2
  subst h2
  exact ⟨rfl, h1.symm⟩
theorem live3 {l : List (List Nd)} {s' : St} (h : Ev (fun n => funsL n true) (beginS [102, 40, 41, 32, 45, 62, 32, 49]) l s') : s'.err = 110 ∧ s'.at_ = 8 := by
  rw [begin_ok scan_l3] at h
  obtain ⟨N, hev⟩ := h
  have h1 := (ex_l3 N).symm.trans (congrArg (·.2) (hev (N + 40) (by omega)))
  simp only at h1
  subst h1
  exact ⟨rfl, rfl⟩
end Go.Proofs.YtdmmhfbafinkpaaGreatDoor
