import Derived.Test.YtdmmhfbafinkpaaGreatDoorScP
/- Parse: the plain law: trees without places, the parser as a function of tokens (by fuel). -/
namespace Go.Proofs.YtdmmhfbafinkpaaGreatDoor
open Go.Emb

/-- a tree: of a node its head, Kids, Clauses, Body; of a clause its name, Patterns, Guards, Body -/
inductive Nd where
  | mk (kind num : Int) (name : List UInt8) (a b c : List Nd)
def Nd.name : Nd → List UInt8 | .mk _ _ n _ _ _ => n
def nd0 : Nd := .mk 0 0 [] [] [] []
/-- a parser -/
structure St where
  toks : List (Tk × Nat)
  en : Int
  err : Int
  at_ : Int
abbrev P (α : Type) : Type := St → α × St
def plc (s : St) : Int := match s.toks with | [] => s.en | x :: _ => (x.2 : Nat)
def failS (e : Int) (s : St) : St := if s.err = 0 then ⟨[], -1, e, plc s⟩ else s
def nextS (s : St) : List UInt8 := match s.toks with | [] => [] | x :: _ => if x.1.kind < 4 then [] else x.1.text
def takeS (l : List (List UInt8)) (s : St) : Option (List UInt8) × St :=
  if nextS s ∈ l ∧ nextS s ≠ [] then (some (nextS s), { s with toks := s.toks.tail }) else (none, s)
def hasS (x : List UInt8) (s : St) : Bool × St := ((takeS [x] s).1.isSome, (takeS [x] s).2)
def mustS (x : List UInt8) (s : St) : St := if (hasS x s).1 then (hasS x s).2 else failS 110 (hasS x s).2
def enterS (d : Nat) (s : St) : St := if 64 < d then failS 111 s else s
def leafS (s : St) : Option Nd × St :=
  match s.toks with
  | [] => (none, s)
  | x :: r => if 1 ≤ x.1.kind ∧ x.1.kind ≤ 3 then (some (.mk x.1.kind x.1.num x.1.text [] [] []), { s with toks := r }) else (none, s)
def bareS (s : St) : Bool := match s.toks with | [] => false | x :: _ => x.1.kind == 2
abbrev sEq : List UInt8 := [61]
abbrev sSend : List UInt8 := [33]
abbrev sOpen : List UInt8 := [40]
abbrev sShut : List UInt8 := [41]
abbrev sOpenC : List UInt8 := [123]
abbrev sShutC : List UInt8 := [125]
abbrev sOpenB : List UInt8 := [91]
abbrev sShutB : List UInt8 := [93]
abbrev sComma : List UInt8 := [44]
abbrev sSemi : List UInt8 := [59]
abbrev sDot : List UInt8 := [46]
abbrev sBar : List UInt8 := [124]
abbrev sTo : List UInt8 := [45, 62]
abbrev sMinus : List UInt8 := [45]
abbrev sNot : List UInt8 := [110, 111, 116]
abbrev sFun : List UInt8 := [102, 117, 110]
abbrev sCase : List UInt8 := [99, 97, 115, 101]
abbrev sOf : List UInt8 := [111, 102]
abbrev sEnd : List UInt8 := [101, 110, 100]
abbrev sWhen : List UInt8 := [119, 104, 101, 110]
abbrev sReceive : List UInt8 := [114, 101, 99, 101, 105, 118, 101]
abbrev sAfter : List UInt8 := [97, 102, 116, 101, 114]
abbrev sTry : List UInt8 := [116, 114, 121]
abbrev sCatch : List UInt8 := [99, 97, 116, 99, 104]
def levelsL : Nat → List (List UInt8)
  | 0 => [[111, 114]]
  | 1 => [[97, 110, 100]]
  | 2 => [[61, 61], [47, 61], [60], [62], [61, 60], [62, 61]]
  | 3 => [[43], [45]]
  | 4 => [[42], [100, 105, 118], [114, 101, 109]]
  | _ => []
abbrev opensL : List (List UInt8) := [sOpen, sOpenC, sOpenB, sFun, sCase, sReceive, sTry]
def nilN : Nd := .mk 5 0 [] [] [] []
def consL (l : List Nd) (t : Nd) : Nd := l.foldr (fun x t => .mk 6 0 [] [x, t] [] []) t
section
variable {α β : Type}
def bnd (p : P α) (f : α → P β) : P β := fun s => f (p s).1 (p s).2
def ret (a : α) : P α := fun s => (a, s)
def doS (g : St → St) (p : P α) : P α := fun s => p (g s)
end
mutual
def expr : Nat → Nat → P Nd
  | 0, _ => fun s => (nd0, failS 999 s)
  | n + 1, d => doS (enterS d) (bnd (binary n 0 d) fun a => bnd (takeS [sEq, sSend]) fun o => match o with
    | none => ret a
    | some t => bnd (expr n (d + 1)) fun b => ret (.mk (if t = sSend then 12 else 11) 0 [] [a, b] [] []))
def binary : Nat → Nat → Nat → P Nd
  | 0, _, _ => fun s => (nd0, failS 999 s)
  | n + 1, v, d => if v = 5 then unary n d else bnd (binary n (v + 1) d) fun a => binLoop n v d a
def binLoop : Nat → Nat → Nat → Nd → P Nd
  | 0, _, _, _ => fun s => (nd0, failS 999 s)
  | n + 1, v, d, a => bnd (takeS (levelsL v)) fun o => match o with
    | none => ret a
    | some t => bnd (binary n (v + 1) d) fun b => if v = 2 then ret (.mk 9 0 t [a, b] [] []) else binLoop n v d (.mk 9 0 t [a, b] [] [])
def unary : Nat → Nat → P Nd
  | 0, _ => fun s => (nd0, failS 999 s)
  | n + 1, d => doS (enterS d) (bnd (takeS [sMinus, sNot]) fun o => match o with
    | none => call n d
    | some t => bnd (unary n (d + 1)) fun a => ret (.mk 10 0 t [a] [] []))
def call : Nat → Nat → P Nd
  | 0, _ => fun s => (nd0, failS 999 s)
  | n + 1, d => fun s => bnd (prim n d) (fun a => callLoop n d (bareS s) a) s
def callLoop : Nat → Nat → Bool → Nd → P Nd
  | 0, _, _, _ => fun s => (nd0, failS 999 s)
  | n + 1, d, bare, a => bnd (hasS sOpen) fun o => if o then bnd (untilL n sShut (d + 1)) fun l => callLoop n d false (if bare then .mk 7 0 a.name l [] [] else .mk 8 0 [] (a :: l) [] []) else ret a
def someL : Nat → Nat → P (List Nd)
  | 0, _ => fun s => ([], failS 999 s)
  | n + 1, d => bnd (expr n d) fun x => bnd (hasS sComma) fun o => if o then bnd (someL n d) fun l => ret (x :: l) else ret [x]
def untilL : Nat → List UInt8 → Nat → P (List Nd)
  | 0, _, _ => fun s => ([], failS 999 s)
  | n + 1, e, d => bnd (hasS e) fun o => if o then ret [] else bnd (someL n d) fun l => doS (mustS e) (ret l)
def bodyP : Nat → Nat → P (List Nd × List Nd)
  | 0, _ => fun s => (([], []), failS 999 s)
  | n + 1, d => bnd (bnd (hasS sWhen) fun o => if o then someL n d else ret []) fun g => doS (mustS sTo) (bnd (someL n d) fun b => ret (g, b))
def headP : Nat → List UInt8 → Nat → P Nd
  | 0, _, _ => fun s => (nd0, failS 999 s)
  | n + 1, x, d => doS (mustS sOpen) (bnd (untilL n sShut d) fun l => bnd (bodyP n d) fun g => ret (.mk 0 0 x l g.1 g.2))
def oneC : Nat → Nat → Nat → P Nd
  | 0, _, _ => fun s => (nd0, failS 999 s)
  | n + 1, k, d => if k = 0 then bnd (expr n d) fun a => bnd (bodyP n d) fun g => ret (.mk 0 0 [] [a] g.1 g.2)
    else if k = 1 then headP n [] d
    else fun s => match s.toks with
      | [] => (nd0, failS 110 s)
      | x :: r => if x.1.kind = 2 then headP n x.1.text d { s with toks := r } else (nd0, failS 110 s)
def clausesL : Nat → Nat → Nat → P (List Nd)
  | 0, _, _ => fun s => ([], failS 999 s)
  | n + 1, k, d => bnd (oneC n k d) fun c => bnd (hasS sSemi) fun o => if o then bnd (clausesL n k d) fun l => ret (c :: l) else ret [c]
def listP : Nat → Nat → P Nd
  | 0, _ => fun s => (nd0, failS 999 s)
  | n + 1, d => bnd (hasS sShutB) fun o => if o then ret nilN else bnd (someL n d) fun l => bnd (bnd (hasS sBar) fun o => if o then expr n d else ret nilN) fun t => doS (mustS sShutB) (ret (consL l t))
def recvP : Nat → Nat → P Nd
  | 0, _ => fun s => (nd0, failS 999 s)
  | n + 1, d => bnd (fun s => if nextS s ≠ sAfter then clausesL n 0 d s else ([], s)) fun l => bnd (hasS sAfter) fun o =>
    if o then bnd (expr n d) fun a => doS (mustS sTo) (bnd (someL n d) fun b => doS (mustS sEnd) (ret (.mk 15 0 [] [a] l b)))
    else doS (mustS sEnd) (ret (.mk 15 0 [] [] l []))
def prim : Nat → Nat → P Nd
  | 0, _ => fun s => (nd0, failS 999 s)
  | n + 1, d => bnd leafS fun o => match o with
    | some x => ret x
    | none => bnd (takeS opensL) fun o => match o with
      | none => doS (failS 110) (ret nd0)
      | some t =>
        if t = sOpen then bnd (expr n (d + 1)) fun a => doS (mustS sShut) (ret a)
        else if t = sOpenC then bnd (untilL n sShutC (d + 1)) fun l => ret (.mk 4 0 [] l [] [])
        else if t = sOpenB then listP n (d + 1)
        else if t = sFun then bnd (clausesL n 1 (d + 1)) fun l => doS (mustS sEnd) (ret (.mk 13 0 [] [] l []))
        else if t = sCase then bnd (expr n (d + 1)) fun a => doS (mustS sOf) (bnd (clausesL n 0 (d + 1)) fun l => doS (mustS sEnd) (ret (.mk 14 0 [] [a] l [])))
        else if t = sReceive then recvP n (d + 1)
        else bnd (someL n (d + 1)) fun b => doS (mustS sCatch) (bnd (clausesL n 0 (d + 1)) fun l => doS (mustS sEnd) (ret (.mk 16 0 [] [] l b)))
end
/-- a function: its clauses -/
def funP (n : Nat) : P (List Nd) := bnd (clausesL n 2 0) fun l => doS (mustS sDot) (ret l)
end Go.Proofs.YtdmmhfbafinkpaaGreatDoor

/- Parse: the plain law: what the parser never does: it puts no token back, and the first error stays. -/
namespace Go.Proofs.YtdmmhfbafinkpaaGreatDoor
open Go.Emb

def GoodS (g : St → St) : Prop := ∀ s, (g s).toks.length ≤ s.toks.length ∧ (s.err ≠ 0 → (g s).err = s.err)
def Good {α : Type} (p : P α) : Prop := ∀ s, (p s).2.toks.length ≤ s.toks.length ∧ (s.err ≠ 0 → (p s).2.err = s.err)
section
variable {α β : Type}
theorem Good.bnd {p : P α} {f : α → P β} (hp : Good p) (hf : ∀ a, Good (f a)) : Good (bnd p f) := fun s => by
  have h1 := hp s
  have h2 := hf (p s).1 (p s).2
  refine ⟨Nat.le_trans h2.1 h1.1, fun h => ?_⟩
  have h3 := h1.2 h
  have h4 := h2.2 (by rw [h3]; exact h)
  show (f (p s).1 (p s).2).2.err = s.err
  rw [h4, h3]
theorem Good.ret (a : α) : Good (ret a) := fun _ => ⟨Nat.le_refl _, fun _ => rfl⟩
theorem Good.doS {g : St → St} {p : P α} (hg : GoodS g) (hp : Good p) : Good (doS g p) := fun s => by
  have h1 := hg s
  have h2 := hp (g s)
  refine ⟨Nat.le_trans h2.1 h1.1, fun h => ?_⟩
  have h3 := h1.2 h
  have h4 := h2.2 (by rw [h3]; exact h)
  show (p (g s)).2.err = s.err
  rw [h4, h3]
theorem GoodS.fail (e : Int) : GoodS (failS e) := fun s => by
  unfold failS
  split
  · exact ⟨Nat.zero_le _, fun h => absurd ‹s.err = 0› h⟩
  · exact ⟨Nat.le_refl _, fun _ => rfl⟩
theorem Good.take (l : List (List UInt8)) : Good (takeS l) := fun s => by
  unfold takeS
  split
  · exact ⟨by simp, fun _ => rfl⟩
  · exact ⟨Nat.le_refl _, fun _ => rfl⟩
theorem Good.has (x : List UInt8) : Good (hasS x) := Good.take [x]
theorem GoodS.must (x : List UInt8) : GoodS (mustS x) := fun s => by
  have h1 := Good.has x s
  unfold mustS
  split
  · exact h1
  · have h2 := GoodS.fail 110 (hasS x s).2
    exact ⟨Nat.le_trans h2.1 h1.1, fun h => by rw [h2.2 (by rw [h1.2 h]; exact h), h1.2 h]⟩
theorem GoodS.enter (d : Nat) : GoodS (enterS d) := fun s => by
  unfold enterS
  split
  · exact GoodS.fail 111 s
  · exact ⟨Nat.le_refl _, fun _ => rfl⟩
theorem Good.leaf : Good leafS := fun s => by
  unfold leafS
  split
  · exact ⟨Nat.le_refl _, fun _ => rfl⟩
  · split
    · rename_i h _
      exact ⟨by simp [h], fun _ => rfl⟩
    · exact ⟨Nat.le_refl _, fun _ => rfl⟩
end
structure AllG (n : Nat) : Prop where
  expr : ∀ d, Good (expr n d)
  binary : ∀ v d, Good (binary n v d)
  binLoop : ∀ v d a, Good (binLoop n v d a)
  unary : ∀ d, Good (unary n d)
  call : ∀ d, Good (call n d)
  callLoop : ∀ d b a, Good (callLoop n d b a)
  someL : ∀ d, Good (someL n d)
  untilL : ∀ e d, Good (untilL n e d)
  bodyP : ∀ d, Good (bodyP n d)
  headP : ∀ x d, Good (headP n x d)
  oneC : ∀ k d, Good (oneC n k d)
  clausesL : ∀ k d, Good (clausesL n k d)
  listP : ∀ d, Good (listP n d)
  recvP : ∀ d, Good (recvP n d)
  prim : ∀ d, Good (prim n d)
theorem allG : ∀ n, AllG n
  | 0 => by
    constructor
    · intro x; rw [expr]; exact fun s => GoodS.fail 999 s
    · intro x y; rw [binary]; exact fun s => GoodS.fail 999 s
    · intro x y z; rw [binLoop]; exact fun s => GoodS.fail 999 s
    · intro x; rw [unary]; exact fun s => GoodS.fail 999 s
    · intro x; rw [call]; exact fun s => GoodS.fail 999 s
    · intro x y z; rw [callLoop]; exact fun s => GoodS.fail 999 s
    · intro x; rw [someL]; exact fun s => GoodS.fail 999 s
    · intro x y; rw [untilL]; exact fun s => GoodS.fail 999 s
    · intro x; rw [bodyP]; exact fun s => GoodS.fail 999 s
    · intro x y; rw [headP]; exact fun s => GoodS.fail 999 s
    · intro x y; rw [oneC]; exact fun s => GoodS.fail 999 s
    · intro x y; rw [clausesL]; exact fun s => GoodS.fail 999 s
    · intro x; rw [listP]; exact fun s => GoodS.fail 999 s
    · intro x; rw [recvP]; exact fun s => GoodS.fail 999 s
    · intro x; rw [prim]; exact fun s => GoodS.fail 999 s
  | n + 1 => by
    have ih := allG n
    constructor
    · intro d; rw [expr]; refine .doS (.enter d) (.bnd (ih.binary _ _) fun a => .bnd (.take _) fun o => ?_)
      cases o
      · exact .ret _
      · exact .bnd (ih.expr _) fun b => .ret _
    · intro v d; rw [binary]; split
      · exact ih.unary d
      · exact .bnd (ih.binary _ _) fun a => ih.binLoop _ _ _
    · intro v d a; rw [binLoop]; refine .bnd (.take _) fun o => ?_
      cases o
      · exact .ret _
      · refine .bnd (ih.binary _ _) fun b => ?_
        split
        · exact .ret _
        · exact ih.binLoop _ _ _
    · intro d; rw [unary]; refine .doS (.enter d) (.bnd (.take _) fun o => ?_)
      cases o
      · exact ih.call d
      · exact .bnd (ih.unary _) fun a => .ret _
    · intro d; rw [call]; exact fun s => Good.bnd (ih.prim d) (fun a => ih.callLoop d (bareS s) a) s
    · intro d b a; rw [callLoop]; refine .bnd (.has _) fun o => ?_
      split
      · exact .bnd (ih.untilL _ _) fun l => ih.callLoop _ _ _
      · exact .ret _
    · intro d; rw [someL]; refine .bnd (ih.expr d) fun x => .bnd (.has _) fun o => ?_
      split
      · exact .bnd (ih.someL d) fun l => .ret _
      · exact .ret _
    · intro e d; rw [untilL]; refine .bnd (.has _) fun o => ?_
      split
      · exact .ret _
      · exact .bnd (ih.someL d) fun l => .doS (.must _) (.ret _)
    · intro d; rw [bodyP]; refine .bnd (.bnd (.has _) fun o => ?_) fun g => .doS (.must _) (.bnd (ih.someL d) fun b => .ret _)
      split
      · exact ih.someL d
      · exact .ret _
    · intro x d; rw [headP]; exact .doS (.must _) (.bnd (ih.untilL _ _) fun l => .bnd (ih.bodyP d) fun g => .ret _)
    · intro k d; rw [oneC]; split
      · exact .bnd (ih.expr d) fun a => .bnd (ih.bodyP d) fun g => .ret _
      · split
        · exact ih.headP _ _
        · intro s
          simp only
          split
          · exact GoodS.fail 110 s
          · rename_i x r h
            split
            · have := ih.headP x.1.text d { s with toks := r }
              exact ⟨by rw [h]; exact Nat.le_trans this.1 (by simp), this.2⟩
            · exact GoodS.fail 110 s
    · intro k d; rw [clausesL]; refine .bnd (ih.oneC k d) fun x => .bnd (.has _) fun o => ?_
      split
      · exact .bnd (ih.clausesL k d) fun l => .ret _
      · exact .ret _
    · intro d; rw [listP]; refine .bnd (.has _) fun o => ?_
      split
      · exact .ret _
      · refine .bnd (ih.someL d) fun l => .bnd (.bnd (.has _) fun o => ?_) fun t => .doS (.must _) (.ret _)
        split
        · exact ih.expr d
        · exact .ret _
    · intro d; rw [recvP]; refine .bnd (fun s => ?_) fun l => .bnd (.has _) fun o => ?_
      · split
        · exact ih.clausesL 0 d s
        · exact ⟨Nat.le_refl _, fun _ => rfl⟩
      · split
        · exact .bnd (ih.expr d) fun a => .doS (.must _) (.bnd (ih.someL d) fun b => .doS (.must _) (.ret _))
        · exact .doS (.must _) (.ret _)
    · intro d; rw [prim]; refine .bnd .leaf fun o => ?_
      cases o
      · refine .bnd (.take _) fun o => ?_
        cases o
        · exact .doS (.fail _) (.ret _)
        · simp only
          repeat' split
          · exact .bnd (ih.expr _) fun a => .doS (.must _) (.ret _)
          · exact .bnd (ih.untilL _ _) fun l => .ret _
          · exact ih.listP _
          · exact .bnd (ih.clausesL _ _) fun l => .doS (.must _) (.ret _)
          · exact .bnd (ih.expr _) fun a => .doS (.must _) (.bnd (ih.clausesL _ _) fun l => .doS (.must _) (.ret _))
          · exact ih.recvP _
          · exact .bnd (ih.someL _) fun b => .doS (.must _) (.bnd (ih.clausesL _ _) fun l => .doS (.must _) (.ret _))
      · exact .ret _
end Go.Proofs.YtdmmhfbafinkpaaGreatDoor

/- Parse: the plain law: deeper, and with something behind: the same trees, or nested too deep. -/
namespace Go.Proofs.YtdmmhfbafinkpaaGreatDoor
open Go.Emb

def nxt (post : List Tk) : List UInt8 := match post with | [] => [] | t :: _ => if t.kind < 4 then [] else t.text
/-- what ends an expression -/
def StopE (post : List Tk) : Prop := nxt post = [] ∨ nxt post ∈ [sShut, sComma, sDot, sShutC]
structure Rel (post : List Tk) (s s' : St) : Prop where
  err : s.err = 0
  err' : s'.err = 0
  toks : s'.toks.map (·.1) = s.toks.map (·.1) ++ post
theorem Rel.next {post : List Tk} {s s' : St} (h : Rel post s s') (hn : s.toks ≠ []) : nextS s' = nextS s := by
  have ht := h.toks
  unfold nextS
  match hs : s.toks, hs' : s'.toks with
  | [], _ => exact absurd hs hn
  | x :: r, [] => rw [hs, hs'] at ht; simp at ht
  | x :: r, y :: q =>
    rw [hs, hs'] at ht
    simp at ht
    simp only [ht.1]
theorem Rel.nextN {post : List Tk} {s s' : St} (h : Rel post s s') (hn : s.toks = []) : nextS s' = nxt post := by
  have ht := h.toks
  rw [hn] at ht
  simp only [List.map_nil, List.nil_append] at ht
  unfold nextS nxt
  rw [← ht]
  match s'.toks with
  | [] => rfl
  | x :: r => rfl
theorem Rel.tail {post : List Tk} {s s' : St} (h : Rel post s s') (hn : s.toks ≠ []) : Rel post { s with toks := s.toks.tail } { s' with toks := s'.toks.tail } := by
  refine ⟨h.err, h.err', ?_⟩
  have ht := h.toks
  match hs : s.toks, hs' : s'.toks with
  | [], _ => exact absurd hs hn
  | x :: r, [] => rw [hs, hs'] at ht; simp at ht
  | x :: r, y :: q =>
    rw [hs, hs'] at ht
    simp at ht
    simpa [hs, hs'] using ht.2
theorem nextS_nil {s : St} (h : s.toks = []) : nextS s = [] := by unfold nextS; rw [h]
theorem takeS_nil {s : St} {l : List (List UInt8)} (h : s.toks = []) : takeS l s = (none, s) := by
  unfold takeS; rw [if_neg (by rw [nextS_nil h]; simp)]
theorem hasS_nil {s : St} {x : List UInt8} (h : s.toks = []) : hasS x s = (false, s) := by
  unfold hasS; rw [takeS_nil h]; rfl
theorem Rel.take {post : List Tk} {s s' : St} (h : Rel post s s') (l : List (List UInt8)) (hn : s.toks ≠ []) : (takeS l s').1 = (takeS l s).1 ∧ Rel post (takeS l s).2 (takeS l s').2 := by
  unfold takeS
  rw [h.next hn]
  split
  · exact ⟨rfl, h.tail hn⟩
  · exact ⟨rfl, h⟩
theorem Rel.has {post : List Tk} {s s' : St} (h : Rel post s s') (x : List UInt8) (hn : s.toks ≠ []) : (hasS x s').1 = (hasS x s).1 ∧ Rel post (hasS x s).2 (hasS x s').2 := by
  have := h.take [x] hn
  unfold hasS
  simp only
  exact ⟨by rw [this.1], this.2⟩
theorem failS_ne (e : Int) (he : e ≠ 0) (s : St) : (failS e s).err ≠ 0 := by
  unfold failS; split
  · exact he
  · assumption
theorem must_ok {x : List UInt8} {s : St} (h : (mustS x s).err = 0) : s.toks ≠ [] ∧ (hasS x s).1 = true ∧ mustS x s = (hasS x s).2 := by
  unfold mustS at h ⊢
  split at h
  · rename_i h1
    refine ⟨fun hn => ?_, h1, if_pos h1⟩
    rw [hasS_nil hn] at h1
    cases h1
  · exact absurd h (failS_ne 110 (by decide) _)
theorem fail_err {e : Int} {s : St} (h : s.err = 0) : (failS e s).err = e := by unfold failS; rw [if_pos h]
/-- at the end of all tokens it fails -/
def Nil {α : Type} (p : P α) : Prop := ∀ s, s.toks = [] → (p s).2.err ≠ 0
section
variable {α β : Type}
theorem Good.ne {p : P α} (h : Good p) {s : St} (he : (p s).2.err = 0) : s.err = 0 := by
  rcases Int.decEq s.err 0 with h1 | h1
  · exact absurd he (by rw [(h s).2 h1]; exact h1)
  · exact h1
theorem Nil.seq {p : P α} {f : α → P β} (h : Nil p) (hf : ∀ a, Good (f a)) : Nil (bnd p f) := fun s hs => by
  have h1 := h s hs
  exact fun h2 => h1 ((hf _).ne h2)
theorem Nil.pre {g : St → St} {p : P α} (hg : ∀ s, s.toks = [] → (g s).toks = []) (h : Nil p) : Nil (doS g p) := fun s hs => h _ (hg s hs)
theorem Nil.must {x : List UInt8} {p : P α} (gp : Good p) : Nil (doS (mustS x) p) := fun _ hs h => (must_ok (gp.ne h)).1 hs
theorem Nil.fail {e : Int} {p : P α} (he : e ≠ 0) (gp : Good p) : Nil (doS (failS e) p) := fun s _ h => failS_ne e he s (gp.ne h)
theorem Nil.take {l : List (List UInt8)} {f : Option (List UInt8) → P α} (h : Nil (f none)) : Nil (bnd (takeS l) f) := fun s hs => by
  show (f (takeS l s).1 (takeS l s).2).2.err ≠ 0
  rw [takeS_nil hs]
  exact h s hs
theorem Nil.has {x : List UInt8} {f : Bool → P α} (h : Nil (f false)) : Nil (bnd (hasS x) f) := fun s hs => by
  show (f (hasS x s).1 (hasS x s).2).2.err ≠ 0
  rw [hasS_nil hs]
  exact h s hs
theorem Nil.leaf {f : Option Nd → P α} (h : Nil (f none)) : Nil (bnd leafS f) := fun s hs => by
  have e : leafS s = (none, s) := by unfold leafS; rw [hs]
  show (f (leafS s).1 (leafS s).2).2.err ≠ 0
  rw [e]
  exact h s hs
end
theorem enter_nil (d : Nat) (s : St) (h : s.toks = []) : (enterS d s).toks = [] := by
  unfold enterS failS
  split
  · split
    · rfl
    · exact h
  · exact h
structure AllN (n : Nat) : Prop where
  expr : ∀ d, Nil (expr n d)
  binary : ∀ v d, Nil (binary n v d)
  unary : ∀ d, Nil (unary n d)
  call : ∀ d, Nil (call n d)
  someL : ∀ d, Nil (someL n d)
  oneC : ∀ k d, Nil (oneC n k d)
  clausesL : ∀ k d, Nil (clausesL n k d)
  prim : ∀ d, Nil (prim n d)
theorem Nil.spent {α : Type} {a : α} : Nil fun s => (a, failS 999 s) := fun s _ => failS_ne 999 (by decide) s
theorem allN : ∀ n, AllN n
  | 0 => by
    constructor
    · intro d; rw [expr]; exact .spent
    · intro v d; rw [binary]; exact .spent
    · intro d; rw [unary]; exact .spent
    · intro d; rw [call]; exact .spent
    · intro d; rw [someL]; exact .spent
    · intro k d; rw [oneC]; exact .spent
    · intro k d; rw [clausesL]; exact .spent
    · intro d; rw [prim]; exact .spent
  | n + 1 => by
    have ih := allN n
    have g := allG n
    constructor
    · intro d; rw [expr]; refine .pre (enter_nil d) (.seq (ih.binary _ _) fun a => .bnd (.take _) fun o => ?_)
      cases o
      · exact .ret _
      · exact .bnd (g.expr _) fun b => .ret _
    · intro v d; rw [binary]; split
      · exact ih.unary d
      · exact .seq (ih.binary _ _) fun a => g.binLoop _ _ _
    · intro d; rw [unary]; exact .pre (enter_nil d) (.take (ih.call d))
    · intro d; rw [call]; exact fun s => Nil.seq (ih.prim d) (fun a => g.callLoop d (bareS s) a) s
    · intro d; rw [someL]; refine .seq (ih.expr d) fun x => .bnd (.has _) fun o => ?_
      split
      · exact .bnd (g.someL d) fun l => .ret _
      · exact .ret _
    · intro k d; rw [oneC]; split
      · exact .seq (ih.expr d) fun a => .bnd (g.bodyP d) fun g => .ret _
      · split
        · cases n with
          | zero => rw [headP]; exact .spent
          | succ m => rw [headP]; exact .must (.bnd ((allG m).untilL _ _) fun l => .bnd ((allG m).bodyP d) fun g => .ret _)
        · intro s hs
          simp only [hs]
          exact failS_ne 110 (by decide) s
    · intro k d; rw [clausesL]; refine .seq (ih.oneC k d) fun x => .bnd (.has _) fun o => ?_
      split
      · exact .bnd (g.clausesL k d) fun l => .ret _
      · exact .ret _
    · intro d; rw [prim]; exact .leaf (.take (.fail (by decide) (.ret _)))
end Go.Proofs.YtdmmhfbafinkpaaGreatDoor

/- Parse: the plain law: deeper, and with something behind: the same trees, or nested too deep. -/
namespace Go.Proofs.YtdmmhfbafinkpaaGreatDoor
open Go.Emb

def Lift {α : Type} (D C : Prop) (post : List Tk) (p p' : P α) : Prop :=
  ∀ s s', Rel post s s' → (p s).2.err = 0 → ((p s).2.toks ≠ [] ∨ C) → (D ∧ (p' s').2.err = 111) ∨ ((p' s').1 = (p s).1 ∧ Rel post (p s).2 (p' s').2)
/-- as deep, or deeper (D: it may be nested too deep) -/
def Up (D : Prop) (d d' : Nat) : Prop := d ≤ d' ∧ (d = d' ∨ D)
theorem Up.succ {D : Prop} {d d' : Nat} (h : Up D d d') : Up D (d + 1) (d' + 1) := ⟨Nat.succ_le_succ h.1, h.2.imp (fun e => by rw [e]) id⟩
section
variable {α β : Type} {D C C1 : Prop} {post : List Tk}
theorem len_ne {l m : List (Tk × Nat)} (h : l.length ≤ m.length) (hl : l ≠ []) : m ≠ [] := by
  rintro rfl
  exact hl (List.length_eq_zero_iff.1 (by simpa using h))
theorem Lift.seqC {p p' : P α} {f f' : α → P β} (hp : Lift D C1 post p p') (gf : ∀ a, Good (f a)) (gf' : ∀ a, Good (f' a)) (hf : ∀ a, Lift D C post (f a) (f' a))
    (hc : ∀ a s, (f a s).2.err = 0 → C → s.toks ≠ [] ∨ C1) : Lift D C post (bnd p f) (bnd p' f') := by
  intro s s' hr he hn
  have he1 : (p s).2.err = 0 := (gf (p s).1).ne he
  have hn1 : (p s).2.toks ≠ [] ∨ C1 := by
    rcases hn with h | h
    · exact .inl (len_ne (gf (p s).1 (p s).2).1 h)
    · exact hc (p s).1 (p s).2 he h
  rcases hp s s' hr he1 hn1 with h | ⟨h1, h2⟩
  · refine .inl ⟨h.1, ?_⟩
    have h := h.2
    show (f' (p' s').1 (p' s').2).2.err = 111
    rw [(gf' (p' s').1 (p' s').2).2 (by rw [h]; decide), h]
  · show (D ∧ (f' (p' s').1 (p' s').2).2.err = 111) ∨ ((f' (p' s').1 (p' s').2).1 = _ ∧ Rel post _ (f' (p' s').1 (p' s').2).2)
    rw [h1]
    exact hf (p s).1 (p s).2 (p' s').2 h2 he hn
theorem Lift.seq {p p' : P α} {f f' : α → P β} (hp : Lift D C post p p') (gf : ∀ a, Good (f a)) (gf' : ∀ a, Good (f' a)) (hf : ∀ a, Lift D C post (f a) (f' a)) : Lift D C post (bnd p f) (bnd p' f') :=
  hp.seqC gf gf' hf (fun _ _ _ h => .inr h)
/-- what comes behind fails at the end -/
theorem Lift.seqN {p p' : P α} {f f' : α → P β} (hp : Lift D C1 post p p') (gf : ∀ a, Good (f a)) (gf' : ∀ a, Good (f' a)) (hn : ∀ a, Nil (f a)) (hf : ∀ a, Lift D C post (f a) (f' a)) : Lift D C post (bnd p f) (bnd p' f') :=
  hp.seqC gf gf' hf (fun a s he _ => .inl fun h0 => hn a s h0 he)
theorem Lift.ret (a : α) : Lift D C post (ret a) (ret a) := fun _ _ hr _ _ => .inr ⟨rfl, hr⟩
theorem Lift.up {p p' : P α} (hp : Lift D C1 post p p') (h : C → C1) : Lift D C post p p' := fun s s' hr he hn => hp s s' hr he (hn.imp id h)
theorem Lift.must {x : List UInt8} {p p' : P α} (gp : Good p) (hp : Lift D C post p p') : Lift D C post (doS (mustS x) p) (doS (mustS x) p') := by
  intro s s' hr he hn
  have h0 : (mustS x s).err = 0 := gp.ne he
  obtain ⟨h1, h2, h3⟩ := must_ok h0
  obtain ⟨h4, h5⟩ := hr.has x h1
  have e : mustS x s' = (hasS x s').2 := by unfold mustS; rw [if_pos (by rw [h4]; exact h2)]
  have h6 : Rel post (mustS x s) (mustS x s') := by rw [e, h3]; exact h5
  exact hp _ _ h6 he hn
theorem Lift.enter {d d' : Nat} {p p' : P α} (hd : Up D d d') (gp : Good p) (gp' : Good p') (hp : Lift D C post p p') : Lift D C post (doS (enterS d) p) (doS (enterS d') p') := by
  intro s s' hr he hn
  have h0 : (enterS d s).err = 0 := gp.ne he
  have hd64 : ¬ 64 < d := fun h => by
    unfold enterS at h0
    rw [if_pos h] at h0
    exact failS_ne 111 (by decide) _ h0
  have e : enterS d s = s := if_neg hd64
  by_cases h : 64 < d'
  · refine .inl ⟨hd.2.resolve_left (fun e => hd64 (by omega)), ?_⟩
    have e2 : (enterS d' s').err = 111 := by unfold enterS; rw [if_pos h]; exact fail_err hr.err'
    show (p' (enterS d' s')).2.err = 111
    rw [(gp' (enterS d' s')).2 (by rw [e2]; decide), e2]
  · have e2 : enterS d' s' = s' := if_neg h
    have he' : (p s).2.err = 0 := by have : (p (enterS d s)).2.err = 0 := he; rwa [e] at this
    have hn' : (p s).2.toks ≠ [] ∨ C := by have : (p (enterS d s)).2.toks ≠ [] ∨ C := hn; rwa [e] at this
    show (D ∧ (p' (enterS d' s')).2.err = 111) ∨ ((p' (enterS d' s')).1 = (p (enterS d s)).1 ∧ Rel post (p (enterS d s)).2 (p' (enterS d' s')).2)
    rw [e, e2]
    exact hp s s' hr he' hn'
theorem Lift.fail {e : Int} {p p' : P α} (he : e ≠ 0) (gp : Good p) : Lift D C post (doS (failS e) p) p' := fun s _ _ h _ => absurd (gp.ne h) (failS_ne e he s)
def takeNo (post : List Tk) (l : List (List UInt8)) : Prop := ¬ (nxt post ∈ l ∧ nxt post ≠ [])
theorem take_no {s s' : St} {l : List (List UInt8)} (hr : Rel post s s') (hs : s.toks = []) (h : takeNo post l) : takeS l s' = (none, s') := by
  unfold takeS
  rw [hr.nextN hs]
  exact if_neg h
theorem Lift.take {l : List (List UInt8)} {f f' : Option (List UInt8) → P α} (hf : ∀ o, Lift D C post (f o) (f' o))
    (h : ∀ s, s.toks = [] → (f none s).2.err = 0 → ((f none s).2.toks ≠ [] ∨ C) → takeNo post l) : Lift D C post (bnd (takeS l) f) (bnd (takeS l) f') := by
  intro s s' hr he hn
  by_cases hs : s.toks = []
  · have e := takeS_nil (l := l) hs
    have he' : (f (takeS l s).1 (takeS l s).2).2.err = 0 := he
    have hn' : (f (takeS l s).1 (takeS l s).2).2.toks ≠ [] ∨ C := hn
    rw [e] at he' hn'
    have e2 := take_no hr hs (h s hs he' hn')
    show (D ∧ (f' (takeS l s').1 (takeS l s').2).2.err = 111) ∨ ((f' (takeS l s').1 (takeS l s').2).1 = (f (takeS l s).1 (takeS l s).2).1 ∧ Rel post (f (takeS l s).1 (takeS l s).2).2 (f' (takeS l s').1 (takeS l s').2).2)
    rw [e, e2]
    exact hf none s s' hr he' hn'
  · obtain ⟨h1, h2⟩ := hr.take l hs
    show (D ∧ (f' (takeS l s').1 (takeS l s').2).2.err = 111) ∨ ((f' (takeS l s').1 (takeS l s').2).1 = (f (takeS l s).1 (takeS l s).2).1 ∧ Rel post (f (takeS l s).1 (takeS l s).2).2 (f' (takeS l s').1 (takeS l s').2).2)
    rw [h1]
    exact hf _ _ _ h2 he hn
theorem Lift.has {x : List UInt8} {f f' : Bool → P α} (hf : ∀ o, Lift D C post (f o) (f' o))
    (h : ∀ s, s.toks = [] → (f false s).2.err = 0 → ((f false s).2.toks ≠ [] ∨ C) → takeNo post [x]) : Lift D C post (bnd (hasS x) f) (bnd (hasS x) f') := by
  have := Lift.take (D := D) (C := C) (post := post) (l := [x]) (f := fun o => f o.isSome) (f' := fun o => f' o.isSome) (fun o => hf _) h
  exact this
theorem Lift.leaf {f f' : Option Nd → P α} (hf : ∀ o, Lift D C post (f o) (f' o)) (hn : Nil (f none)) : Lift D C post (bnd leafS f) (bnd leafS f') := by
  intro s s' hr he hne
  have ht := hr.toks
  by_cases hs : s.toks = []
  · have e : leafS s = (none, s) := by unfold leafS; rw [hs]
    have he' : (f (leafS s).1 (leafS s).2).2.err = 0 := he
    rw [e] at he'
    exact absurd he' (hn s hs)
  · have h1 : (leafS s').1 = (leafS s).1 ∧ Rel post (leafS s).2 (leafS s').2 := by
      have htl := hr.tail hs
      unfold leafS
      match h1 : s.toks, h2 : s'.toks with
      | [], _ => exact absurd h1 hs
      | x :: r, [] => rw [h1, h2] at ht; simp at ht
      | x :: r, y :: q =>
        rw [h1, h2] at ht
        simp at ht
        rw [h1, h2] at htl
        simp only [ht.1]
        split
        · exact ⟨rfl, htl⟩
        · exact ⟨rfl, hr⟩
    show (D ∧ (f' (leafS s').1 (leafS s').2).2.err = 111) ∨ ((f' (leafS s').1 (leafS s').2).1 = _ ∧ Rel post _ (f' (leafS s').1 (leafS s').2).2)
    rw [h1.1]
    exact hf _ _ _ h1.2 he hne
theorem Rel.bare {s s' : St} (hr : Rel post s s') (hs : s.toks ≠ []) : bareS s' = bareS s := by
  have ht := hr.toks
  unfold bareS
  match h1 : s.toks, h2 : s'.toks with
  | [], _ => exact absurd h1 hs
  | x :: r, [] => rw [h1, h2] at ht; simp at ht
  | x :: r, y :: q =>
    rw [h1, h2] at ht
    simp at ht
    simp only [ht.1]
end
theorem StopE.no {post : List Tk} (h : StopE post) {l : List (List UInt8)} (hl : ∀ x ∈ [sShut, sComma, sDot, sShutC], x ∉ l) : takeNo post l := by
  rintro ⟨h1, h2⟩
  rcases h with h | h
  · exact h2 h
  · exact hl _ h h1
theorem levels_no (v : Nat) : ∀ x ∈ [sShut, sComma, sDot, sShutC], x ∉ levelsL v := by
  match v with
  | 0 => decide
  | 1 => decide
  | 2 => decide
  | 3 => decide
  | 4 => decide
  | n + 5 => intro x _; simp [levelsL]
theorem nil_no {C : Prop} {s : St} (hs : s.toks = []) (h : s.toks ≠ [] ∨ C) : C := h.resolve_left (fun h => h hs)
structure AllL (D : Prop) (post : List Tk) (n : Nat) : Prop where
  expr : ∀ d d', Up D d d' → Lift D (StopE post) post (expr n d) (expr n d')
  binary : ∀ v d d', Up D d d' → Lift D (StopE post) post (binary n v d) (binary n v d')
  binLoop : ∀ v d d' a, Up D d d' → Lift D (StopE post) post (binLoop n v d a) (binLoop n v d' a)
  unary : ∀ d d', Up D d d' → Lift D (StopE post) post (unary n d) (unary n d')
  call : ∀ d d', Up D d d' → Lift D (StopE post) post (call n d) (call n d')
  callLoop : ∀ d d' b a, Up D d d' → Lift D (StopE post) post (callLoop n d b a) (callLoop n d' b a)
  someL : ∀ d d', Up D d d' → Lift D False post (someL n d) (someL n d')
  untilL : ∀ e d d', Up D d d' → Lift D True post (untilL n e d) (untilL n e d')
  bodyP : ∀ d d', Up D d d' → Lift D False post (bodyP n d) (bodyP n d')
  headP : ∀ x d d', Up D d d' → Lift D False post (headP n x d) (headP n x d')
  oneC : ∀ k d d', Up D d d' → Lift D False post (oneC n k d) (oneC n k d')
  clausesL : ∀ k d d', Up D d d' → Lift D False post (clausesL n k d) (clausesL n k d')
  listP : ∀ d d', Up D d d' → Lift D True post (listP n d) (listP n d')
  recvP : ∀ d d', Up D d d' → Lift D True post (recvP n d) (recvP n d')
  prim : ∀ d d', Up D d d' → Lift D True post (prim n d) (prim n d')
theorem Lift.spent {α : Type} {D C : Prop} {post : List Tk} {a : α} {p' : P α} : Lift D C post (fun s => (a, failS 999 s)) p' := fun s _ _ h _ => absurd h (failS_ne 999 (by decide) s)
end Go.Proofs.YtdmmhfbafinkpaaGreatDoor

/- Parse: the plain law: the lifting, rule by rule. -/
namespace Go.Proofs.YtdmmhfbafinkpaaGreatDoor
open Go.Emb

/-- what stands behind its first sign -/
def primT (n d : Nat) (t : List UInt8) : P Nd :=
  if t = sOpen then bnd (expr n (d + 1)) fun a => doS (mustS sShut) (ret a)
  else if t = sOpenC then bnd (untilL n sShutC (d + 1)) fun l => ret (.mk 4 0 [] l [] [])
  else if t = sOpenB then listP n (d + 1)
  else if t = sFun then bnd (clausesL n 1 (d + 1)) fun l => doS (mustS sEnd) (ret (.mk 13 0 [] [] l []))
  else if t = sCase then bnd (expr n (d + 1)) fun a => doS (mustS sOf) (bnd (clausesL n 0 (d + 1)) fun l => doS (mustS sEnd) (ret (.mk 14 0 [] [a] l [])))
  else if t = sReceive then recvP n (d + 1)
  else bnd (someL n (d + 1)) fun b => doS (mustS sCatch) (bnd (clausesL n 0 (d + 1)) fun l => doS (mustS sEnd) (ret (.mk 16 0 [] [] l b)))
def primO (n d : Nat) (o : Option (List UInt8)) : P Nd := match o with | none => doS (failS 110) (ret nd0) | some t => primT n d t
def primL (n d : Nat) (o : Option Nd) : P Nd := match o with | some x => ret x | none => bnd (takeS opensL) (primO n d)
theorem prim_eq (n d : Nat) : prim (n + 1) d = bnd leafS (primL n d) := by
  rw [prim]
  rfl
theorem primT_good (n d : Nat) (t : List UInt8) : Good (primT n d t) := by
  have g := allG n
  unfold primT
  repeat' split
  · exact .bnd (g.expr _) fun a => .doS (.must _) (.ret _)
  · exact .bnd (g.untilL _ _) fun l => .ret _
  · exact g.listP _
  · exact .bnd (g.clausesL _ _) fun l => .doS (.must _) (.ret _)
  · exact .bnd (g.expr _) fun a => .doS (.must _) (.bnd (g.clausesL _ _) fun l => .doS (.must _) (.ret _))
  · exact g.recvP _
  · exact .bnd (g.someL _) fun b => .doS (.must _) (.bnd (g.clausesL _ _) fun l => .doS (.must _) (.ret _))
theorem primO_good (n d : Nat) : ∀ o, Good (primO n d o)
  | none => show Good (doS (failS 110) (ret nd0)) from .doS (.fail _) (.ret _)
  | some t => primT_good n d t
theorem primT_lift {D : Prop} {post : List Tk} {n d d' : Nat} (ih : AllL D post n) (hd : Up D d d') (t : List UInt8) : Lift D True post (primT n d t) (primT n d' t) := by
  have g := allG n
  have h1 := hd.succ
  have gc : ∀ d (f : List Nd → Nd), Good (bnd (clausesL n 0 (d + 1)) fun l => doS (mustS sEnd) (ret (f l))) := fun d f => .bnd (g.clausesL _ _) fun l => .doS (.must _) (.ret _)
  have lc : ∀ (f : List Nd → Nd), Lift D True post (bnd (clausesL n 0 (d + 1)) fun l => doS (mustS sEnd) (ret (f l))) (bnd (clausesL n 0 (d' + 1)) fun l => doS (mustS sEnd) (ret (f l))) := fun f =>
    .seqN (ih.clausesL 0 _ _ h1) (fun _ => .doS (.must _) (.ret _)) (fun _ => .doS (.must _) (.ret _)) (fun _ => .must (.ret _)) fun l => .must (.ret _) (.ret _)
  unfold primT
  split
  · exact .seqN ((ih.expr _ _ h1).up False.elim) (fun _ => .doS (.must _) (.ret _)) (fun _ => .doS (.must _) (.ret _)) (fun _ => .must (.ret _)) fun l => .must (.ret _) (.ret _)
  split
  · exact .seq (ih.untilL _ _ _ h1) (fun _ => .ret _) (fun _ => .ret _) fun _ => .ret _
  split
  · exact ih.listP _ _ h1
  split
  · exact .seqN (ih.clausesL 1 _ _ h1) (fun _ => .doS (.must _) (.ret _)) (fun _ => .doS (.must _) (.ret _)) (fun _ => .must (.ret _)) fun l => .must (.ret _) (.ret _)
  split
  · exact .seqN ((ih.expr _ _ h1).up False.elim) (fun a => .doS (.must _) (gc d fun l => .mk 14 0 [] [a] l [])) (fun a => .doS (.must _) (gc d' fun l => .mk 14 0 [] [a] l [])) (fun a => .must (gc d fun l => .mk 14 0 [] [a] l [])) fun a => .must (gc d fun l => .mk 14 0 [] [a] l []) (lc fun l => .mk 14 0 [] [a] l [])
  split
  · exact ih.recvP _ _ h1
  · exact .seqN (ih.someL _ _ h1) (fun a => .doS (.must _) (gc d fun l => .mk 16 0 [] [] l a)) (fun a => .doS (.must _) (gc d' fun l => .mk 16 0 [] [] l a)) (fun a => .must (gc d fun l => .mk 16 0 [] [] l a)) fun a => .must (gc d fun l => .mk 16 0 [] [] l a) (lc fun l => .mk 16 0 [] [] l a)
theorem allL (D : Prop) (post : List Tk) : ∀ n, AllL D post n
  | 0 => by
    constructor
    · intro d d' _; rw [expr]; exact .spent
    · intro v d d' _; rw [binary]; exact .spent
    · intro v d d' a _; rw [binLoop]; exact .spent
    · intro d d' _; rw [unary]; exact .spent
    · intro d d' _; rw [call]; exact .spent
    · intro d d' b a _; rw [callLoop]; exact .spent
    · intro d d' _; rw [someL]; exact .spent
    · intro e d d' _; rw [untilL]; exact .spent
    · intro d d' _; rw [bodyP]; exact .spent
    · intro x d d' _; rw [headP]; exact .spent
    · intro k d d' _; rw [oneC]; exact .spent
    · intro k d d' _; rw [clausesL]; exact .spent
    · intro d d' _; rw [listP]; exact .spent
    · intro d d' _; rw [recvP]; exact .spent
    · intro d d' _; rw [prim]; exact .spent
  | n + 1 => by
    have ih := allL D post n
    have g := allG n
    have z := allN n
    constructor
    · intro d d' hd
      have gt : ∀ (d : Nat) (a : Nd) (o : Option (List UInt8)), Good (match o with | none => ret a | some t => bnd (expr n (d + 1)) fun b => ret (.mk (if t = sSend then 12 else 11) 0 [] [a, b] [] []) : P Nd) := fun d a o => by
        cases o
        · exact .ret _
        · exact .bnd (g.expr _) fun _ => .ret _
      rw [expr, expr]
      refine .enter hd (.bnd (g.binary _ _) fun a => .bnd (.take _) fun o => gt d a o) (.bnd (g.binary _ _) fun a => .bnd (.take _) fun o => gt d' a o) ?_
      refine .seq (ih.binary _ _ _ hd) (fun a => .bnd (.take _) fun o => gt d a o) (fun a => .bnd (.take _) fun o => gt d' a o) fun a => ?_
      refine .take (fun o => ?_) (fun s hs _ h => (nil_no (C := StopE post) hs h).no (by decide))
      cases o
      · exact .ret _
      · exact .seq (ih.expr _ _ (hd.succ)) (fun _ => .ret _) (fun _ => .ret _) fun b => .ret _
    · intro v d d' hd
      rw [binary, binary]
      split
      · exact ih.unary d d' hd
      · exact .seq (ih.binary _ _ _ hd) (fun _ => g.binLoop _ _ _) (fun _ => g.binLoop _ _ _) fun a => ih.binLoop _ _ _ _ hd
    · intro v d d' a hd
      have gt : ∀ (d : Nat) (t : List UInt8) (b : Nd), Good (if v = 2 then ret (.mk 9 0 t [a, b] [] []) else binLoop n v d (.mk 9 0 t [a, b] [] [])) := fun d t b => by
        split
        · exact .ret _
        · exact g.binLoop _ _ _
      rw [binLoop, binLoop]
      refine .take (fun o => ?_) (fun s hs _ h => (nil_no (C := StopE post) hs h).no (levels_no v))
      cases o with
      | none => exact .ret _
      | some t =>
        refine .seq (ih.binary _ _ _ hd) (fun b => gt d t b) (fun b => gt d' t b) fun b => ?_
        split
        · exact .ret _
        · exact ih.binLoop _ _ _ _ hd
    · intro d d' hd
      have gt : ∀ (d : Nat) (o : Option (List UInt8)), Good (match o with | none => call n d | some t => bnd (unary n (d + 1)) fun a => ret (.mk 10 0 t [a] [] []) : P Nd) := fun d o => by
        cases o
        · exact g.call d
        · exact .bnd (g.unary _) fun _ => .ret _
      rw [unary, unary]
      refine .enter hd (.bnd (.take _) fun o => gt d o) (.bnd (.take _) fun o => gt d' o) ?_
      refine .take (fun o => ?_) (fun s hs he _ => absurd he (z.call d s hs))
      cases o
      · exact ih.call d d' hd
      · exact .seq (ih.unary _ _ (hd.succ)) (fun _ => .ret _) (fun _ => .ret _) fun b => .ret _
    · intro d d' hd
      rw [call, call]
      intro s s' hr he hn
      by_cases hs : s.toks = []
      · exact absurd he (Nil.seq (z.prim d) (fun a => g.callLoop d (bareS s) a) s hs)
      · simp only [hr.bare hs]
        exact Lift.seq (D := D) (C := StopE post) ((ih.prim d d' hd).up fun _ => trivial) (fun a => g.callLoop d (bareS s) a) (fun a => g.callLoop d' (bareS s) a) (fun a => ih.callLoop d d' (bareS s) a hd) s s' hr he hn
    · intro d d' bare a hd
      rw [callLoop, callLoop]
      refine .has (fun o => ?_) (fun s hs _ h => (nil_no (C := StopE post) hs h).no (by decide))
      split
      · exact .seq ((ih.untilL _ _ _ (hd.succ)).up fun _ => trivial) (fun _ => g.callLoop _ _ _) (fun _ => g.callLoop _ _ _) fun l => ih.callLoop _ _ _ _ hd
      · exact .ret _
    · intro d d' hd
      have gt : ∀ (d : Nat) (x : Nd) (o : Bool), Good (if o then bnd (someL n d) fun l => ret (x :: l) else ret [x] : P (List Nd)) := fun d x o => by
        split
        · exact .bnd (g.someL d) fun _ => .ret _
        · exact .ret _
      rw [someL, someL]
      refine .seq ((ih.expr d d' hd).up False.elim) (fun a => .bnd (.has _) fun o => gt d a o) (fun a => .bnd (.has _) fun o => gt d' a o) fun x => ?_
      refine .has (fun o => ?_) (fun s hs _ h => (nil_no (C := False) hs h).elim)
      split
      · exact .seq (ih.someL d d' hd) (fun _ => .ret _) (fun _ => .ret _) fun _ => .ret _
      · exact .ret _
    · intro e d d' hd
      have nt : Nil (if (false : Bool) = true then ret [] else bnd (someL n d) fun l => doS (mustS e) (ret l) : P (List Nd)) := by
        rw [if_neg (by decide)]
        exact .seq (z.someL d) fun _ => .doS (.must _) (.ret _)
      rw [untilL, untilL]
      refine .has (fun o => ?_) (fun s hs he _ => absurd he (nt s hs))
      split
      · exact .ret _
      · exact .seqN (ih.someL d d' hd) (fun _ => .doS (.must _) (.ret _)) (fun _ => .doS (.must _) (.ret _)) (fun _ => .must (.ret _)) fun l => .must (.ret _) (.ret _)
    · intro d d' hd
      have gb : ∀ d (x : List Nd), Good (bnd (someL n d) fun b => ret (x, b)) := fun d x => .bnd (g.someL d) fun _ => .ret _
      have gw : ∀ d (o : Bool), Good (if o then someL n d else ret [] : P (List Nd)) := fun d o => by
        split
        · exact g.someL d
        · exact .ret _
      rw [bodyP, bodyP]
      refine Lift.seqN (C1 := False) ?_ (fun x => .doS (.must _) (gb d x)) (fun x => .doS (.must _) (gb d' x)) (fun x => .must (gb d x)) fun x => .must (gb d x) ?_
      · refine .has (fun o => ?_) (fun s hs _ h => (nil_no (C := False) hs h).elim)
        split
        · exact ih.someL d d' hd
        · exact .ret _
      · exact .seq (ih.someL d d' hd) (fun _ => .ret _) (fun _ => .ret _) fun _ => .ret _
    · intro x d d' hd
      have gb : ∀ d (l : List Nd), Good (bnd (bodyP n d) fun g => ret (.mk 0 0 x l g.1 g.2) : P Nd) := fun d l => .bnd (g.bodyP d) fun _ => .ret _
      rw [headP, headP]
      refine .must (.bnd (g.untilL _ _) fun l => gb d l) ?_
      exact .seq ((ih.untilL _ _ _ hd).up fun _ => trivial) (gb d) (gb d') fun l => .seq (ih.bodyP d d' hd) (fun _ => .ret _) (fun _ => .ret _) fun _ => .ret _
    · intro k d d' hd
      have gb : ∀ d (a : Nd), Good (bnd (bodyP n d) fun g => ret (.mk 0 0 [] [a] g.1 g.2) : P Nd) := fun d a => .bnd (g.bodyP d) fun _ => .ret _
      rw [oneC, oneC]
      split
      · exact .seq ((ih.expr d d' hd).up False.elim) (gb d) (gb d') fun l => .seq (ih.bodyP d d' hd) (fun _ => .ret _) (fun _ => .ret _) fun _ => .ret _
      · split
        · exact ih.headP _ _ _ hd
        · intro s s' hr he hn
          have ht := hr.toks
          simp only at he hn ⊢
          match h1 : s.toks, h2 : s'.toks with
          | [], _ =>
            rw [h1] at he
            exact absurd he (failS_ne 110 (by decide) s)
          | x :: r, [] => rw [h1, h2] at ht; simp at ht
          | x :: r, y :: q =>
            have htl := hr.tail (by rw [h1]; simp)
            rw [h1, h2] at ht htl
            simp at ht
            rw [h1] at he hn
            simp only [ht.1]
            simp only at he hn
            split at he
            · rename_i hk
              rw [if_pos hk] at hn ⊢
              rw [if_pos hk]
              exact ih.headP _ _ _ hd _ _ htl he hn
            · exact absurd he (failS_ne 110 (by decide) s)
    · intro k d d' hd
      have gt : ∀ (d : Nat) (x : Nd) (o : Bool), Good (if o then bnd (clausesL n k d) fun l => ret (x :: l) else ret [x] : P (List Nd)) := fun d x o => by
        split
        · exact .bnd (g.clausesL k d) fun _ => .ret _
        · exact .ret _
      rw [clausesL, clausesL]
      refine .seq (ih.oneC k d d' hd) (fun a => .bnd (.has _) fun o => gt d a o) (fun a => .bnd (.has _) fun o => gt d' a o) fun x => ?_
      refine .has (fun o => ?_) (fun s hs _ h => (nil_no (C := False) hs h).elim)
      split
      · exact .seq (ih.clausesL k d d' hd) (fun _ => .ret _) (fun _ => .ret _) fun _ => .ret _
      · exact .ret _
    · intro d d' hd
      have g1 : ∀ (d : Nat) (o : Bool), Good (if o then expr n d else ret nilN : P Nd) := fun d o => by
        split
        · exact g.expr d
        · exact .ret _
      have g2 : ∀ (d : Nat) (l : List Nd), Good (bnd (bnd (hasS sBar) fun o => if o then expr n d else ret nilN) fun t => doS (mustS sShutB) (ret (consL l t)) : P Nd) := fun d l =>
        .bnd (.bnd (.has _) fun o => g1 d o) fun _ => .doS (.must _) (.ret _)
      have n2 : ∀ (l : List Nd), Nil (bnd (bnd (hasS sBar) fun o => if o then expr n d else ret nilN) fun t => doS (mustS sShutB) (ret (consL l t)) : P Nd) := fun l s hs => by
        have e : (bnd (hasS sBar) fun o => if o then expr n d else ret nilN : P Nd) s = (nilN, s) := by
          show (if (hasS sBar s).1 = true then expr n d else ret nilN) (hasS sBar s).2 = _
          rw [hasS_nil hs]; rfl
        show ((doS (mustS sShutB) (ret (consL l _))) ((bnd (hasS sBar) fun o => if o then expr n d else ret nilN : P Nd) s).2).2.err ≠ 0
        rw [e]
        exact Nil.must (.ret _) s hs
      have nt : Nil (if (false : Bool) = true then ret nilN else bnd (someL n d) fun l => bnd (bnd (hasS sBar) fun o => if o then expr n d else ret nilN) fun t => doS (mustS sShutB) (ret (consL l t)) : P Nd) := by
        rw [if_neg (by decide)]
        exact .seq (z.someL d) (g2 d)
      rw [listP, listP]
      refine .has (fun o => ?_) (fun s hs he _ => absurd he (nt s hs))
      split
      · exact .ret _
      · refine .seqN (ih.someL d d' hd) (g2 d) (g2 d') n2 fun l => ?_
        refine Lift.seqN (C1 := False) ?_ (fun _ => .doS (.must _) (.ret _)) (fun _ => .doS (.must _) (.ret _)) (fun _ => .must (.ret _)) fun t => .must (.ret _) (.ret _)
        refine .has (fun o => ?_) (fun s hs _ h => (nil_no (C := False) hs h).elim)
        split
        · exact (ih.expr d d' hd).up False.elim
        · exact .ret _
    · intro d d' hd
      have g1 : ∀ (d : Nat) (l : List Nd) (a b : Nd), True := fun _ _ _ _ => trivial
      have gS : ∀ (d : Nat) (l : List Nd) (a : Nd), Good (bnd (someL n d) fun b => doS (mustS sEnd) (ret (.mk 15 0 [] [a] l b)) : P Nd) := fun d l a => .bnd (g.someL d) fun _ => .doS (.must _) (.ret _)
      have gI : ∀ (d : Nat) (l : List Nd) (o : Bool), Good (if o then bnd (expr n d) fun a => doS (mustS sTo) (bnd (someL n d) fun b => doS (mustS sEnd) (ret (.mk 15 0 [] [a] l b))) else doS (mustS sEnd) (ret (.mk 15 0 [] [] l [])) : P Nd) := fun d l o => by
        split
        · exact .bnd (g.expr d) fun a => .doS (.must _) (gS d l a)
        · exact .doS (.must _) (.ret _)
      have nI : ∀ (l : List Nd), Nil (if (false : Bool) = true then bnd (expr n d) fun a => doS (mustS sTo) (bnd (someL n d) fun b => doS (mustS sEnd) (ret (.mk 15 0 [] [a] l b))) else doS (mustS sEnd) (ret (.mk 15 0 [] [] l [])) : P Nd) := fun l => by
        rw [if_neg (by decide)]
        exact .must (.ret _)
      rw [recvP, recvP]
      refine Lift.seqN (C1 := False) ?_ (fun l => .bnd (.has _) fun o => gI d l o) (fun l => .bnd (.has _) fun o => gI d' l o) (fun l => .has (nI l)) fun l => ?_
      · intro s s' hr he hn
        by_cases hs : s.toks = []
        · simp only at he
          rw [if_pos (by rw [nextS_nil hs]; decide)] at he
          exact absurd he (z.clausesL 0 d s hs)
        · simp only at he hn ⊢
          rw [hr.next hs]
          split at he
          · rename_i h
            rw [if_pos h] at hn ⊢
            rw [if_pos h]
            exact ih.clausesL 0 d d' hd s s' hr he hn
          · rename_i h
            rw [if_neg h, if_neg h]
            exact .inr ⟨rfl, hr⟩
      · refine .has (fun o => ?_) (fun s hs he _ => absurd he (nI l s hs))
        split
        · refine .seqN ((ih.expr d d' hd).up False.elim) (fun a => .doS (.must _) (gS d l a)) (fun a => .doS (.must _) (gS d' l a)) (fun a => .must (gS d l a)) fun a => .must (gS d l a) ?_
          exact .seqN (ih.someL d d' hd) (fun _ => .doS (.must _) (.ret _)) (fun _ => .doS (.must _) (.ret _)) (fun _ => .must (.ret _)) fun b => .must (.ret _) (.ret _)
        · exact .must (.ret _) (.ret _)
    · intro d d' hd
      rw [prim_eq, prim_eq]
      have nl : Nil (primL n d none) := .take (.fail (by decide) (.ret _))
      refine .leaf (fun o => ?_) nl
      cases o with
      | some x => exact .ret _
      | none =>
        refine .take (fun o => ?_) (fun s _ he _ => absurd ((Good.ret nd0).ne he) (failS_ne 110 (by decide) s))
        cases o with
        | none => exact .fail (by decide) (.ret _)
        | some t => exact primT_lift ih hd t
end Go.Proofs.YtdmmhfbafinkpaaGreatDoor

/- Parse: the parser without fuel: what it comes to with enough of it. Printed by gen-pae.py. -/
namespace Go.Proofs.YtdmmhfbafinkpaaGreatDoor
open Go.Emb

def Ev {α : Type} (f : Nat → P α) (s : St) (r : α) (s' : St) : Prop := ∃ N, ∀ n, N ≤ n → f n s = (r, s')
theorem Ev.eq {α : Type} {f : Nat → P α} {s : St} {r r' : α} {s' s'' : St} (h : Ev f s r s') (h' : Ev f s r' s'') : r = r' ∧ s' = s'' := by
  obtain ⟨N, h⟩ := h
  obtain ⟨M, h'⟩ := h'
  have h1 := h (N + M) (by omega)
  rw [h' (N + M) (by omega)] at h1
  injection h1 with h1 h2
  exact ⟨h1.symm, h2.symm⟩
theorem Ev.le {α : Type} {f : Nat → P α} {s : St} {r : α} {s' : St} (h : Ev f s r s') (g : ∀ n, Good (f n)) : s'.toks.length ≤ s.toks.length ∧ (s.err ≠ 0 → s'.err = s.err) := by
  obtain ⟨N, h⟩ := h
  have h1 := g N s
  rwa [h N (Nat.le_refl _)] at h1
section
variable {d : Nat} {s s1 s2 s3 s4 : St} {a b r x : Nd} {l g c : List Nd}
theorem Ev.of_expr_one  (h1 : Ev (fun n => binary n 0 d) (enterS d s) a s1) (ht : (takeS [sEq, sSend] s1).1 = none) : Ev (fun n => expr n d) s a (takeS [sEq, sSend] s1).2 := by
  obtain ⟨N0, h1⟩ := h1
  refine ⟨N0 + 1, fun n hn => ?_⟩
  obtain ⟨m, rfl⟩ : ∃ m, n = m + 1 := ⟨n - 1, by omega⟩
  have h1 : binary m 0 d (enterS d s) = (a, s1) := h1 m (by omega)
  show expr (m + 1) d s = (a, (takeS [sEq, sSend] s1).2)
  rw [expr]
  simp [doS, bnd, ret, h1, ht]
theorem Ev.of_expr_two  {t : List UInt8} (h1 : Ev (fun n => binary n 0 d) (enterS d s) a s1) (ht : (takeS [sEq, sSend] s1).1 = some t) (h2 : Ev (fun n => expr n (d + 1)) (takeS [sEq, sSend] s1).2 b s2) : Ev (fun n => expr n d) s (.mk (if t = sSend then 12 else 11) 0 [] [a, b] [] []) s2 := by
  obtain ⟨N0, h1⟩ := h1
  obtain ⟨N1, h2⟩ := h2
  refine ⟨N0 + N1 + 1, fun n hn => ?_⟩
  obtain ⟨m, rfl⟩ : ∃ m, n = m + 1 := ⟨n - 1, by omega⟩
  have h1 : binary m 0 d (enterS d s) = (a, s1) := h1 m (by omega)
  have h2 : expr m (d + 1) (takeS [sEq, sSend] s1).2 = (b, s2) := h2 m (by omega)
  show expr (m + 1) d s = ((.mk (if t = sSend then 12 else 11) 0 [] [a, b] [] []), s2)
  rw [expr]
  simp [doS, bnd, ret, h1, ht, h2]
theorem Ev.of_binary_5  (h1 : Ev (fun n => unary n d) s a s1) : Ev (fun n => binary n 5 d) s a s1 := by
  obtain ⟨N0, h1⟩ := h1
  refine ⟨N0 + 1, fun n hn => ?_⟩
  obtain ⟨m, rfl⟩ : ∃ m, n = m + 1 := ⟨n - 1, by omega⟩
  have h1 : unary m d s = (a, s1) := h1 m (by omega)
  show binary (m + 1) 5 d s = (a, s1)
  rw [binary]
  simp [doS, bnd, ret, h1]
theorem Ev.of_binary_lt  {v : Nat} (hv : v ≠ 5) (h1 : Ev (fun n => binary n (v + 1) d) s a s1) (h2 : Ev (fun n => binLoop n v d a) s1 r s2) : Ev (fun n => binary n v d) s r s2 := by
  obtain ⟨N0, h1⟩ := h1
  obtain ⟨N1, h2⟩ := h2
  refine ⟨N0 + N1 + 1, fun n hn => ?_⟩
  obtain ⟨m, rfl⟩ : ∃ m, n = m + 1 := ⟨n - 1, by omega⟩
  have h1 : binary m (v + 1) d s = (a, s1) := h1 m (by omega)
  have h2 : binLoop m v d a s1 = (r, s2) := h2 m (by omega)
  show binary (m + 1) v d s = (r, s2)
  rw [binary]
  simp [doS, bnd, ret, hv, h1, h2]
theorem Ev.of_binLoop_none  {v : Nat} (ht : (takeS (levelsL v) s).1 = none) : Ev (fun n => binLoop n v d a) s a (takeS (levelsL v) s).2 := by
  refine ⟨1, fun n hn => ?_⟩
  obtain ⟨m, rfl⟩ : ∃ m, n = m + 1 := ⟨n - 1, by omega⟩
  show binLoop (m + 1) v d a s = (a, (takeS (levelsL v) s).2)
  rw [binLoop]
  simp [doS, bnd, ret, ht]
theorem Ev.of_binLoop_two  {t : List UInt8} (ht : (takeS (levelsL 2) s).1 = some t) (h1 : Ev (fun n => binary n (2 + 1) d) (takeS (levelsL 2) s).2 b s2) : Ev (fun n => binLoop n 2 d a) s (.mk 9 0 t [a, b] [] []) s2 := by
  obtain ⟨N0, h1⟩ := h1
  refine ⟨N0 + 1, fun n hn => ?_⟩
  obtain ⟨m, rfl⟩ : ∃ m, n = m + 1 := ⟨n - 1, by omega⟩
  have h1 : binary m (2 + 1) d (takeS (levelsL 2) s).2 = (b, s2) := h1 m (by omega)
  show binLoop (m + 1) 2 d a s = ((.mk 9 0 t [a, b] [] []), s2)
  rw [binLoop]
  simp [doS, bnd, ret, ht, h1]
theorem Ev.of_binLoop_go  {v : Nat} {t : List UInt8} (hv : v ≠ 2) (ht : (takeS (levelsL v) s).1 = some t) (h1 : Ev (fun n => binary n (v + 1) d) (takeS (levelsL v) s).2 b s2) (h2 : Ev (fun n => binLoop n v d (.mk 9 0 t [a, b] [] [])) s2 r s3) : Ev (fun n => binLoop n v d a) s r s3 := by
  obtain ⟨N0, h1⟩ := h1
  obtain ⟨N1, h2⟩ := h2
  refine ⟨N0 + N1 + 1, fun n hn => ?_⟩
  obtain ⟨m, rfl⟩ : ∃ m, n = m + 1 := ⟨n - 1, by omega⟩
  have h1 : binary m (v + 1) d (takeS (levelsL v) s).2 = (b, s2) := h1 m (by omega)
  have h2 : binLoop m v d (.mk 9 0 t [a, b] [] []) s2 = (r, s3) := h2 m (by omega)
  show binLoop (m + 1) v d a s = (r, s3)
  rw [binLoop]
  simp [doS, bnd, ret, hv, ht, h1, h2]
theorem Ev.of_unary_none  (ht : (takeS [sMinus, sNot] (enterS d s)).1 = none) (h1 : Ev (fun n => call n d) (takeS [sMinus, sNot] (enterS d s)).2 a s1) : Ev (fun n => unary n d) s a s1 := by
  obtain ⟨N0, h1⟩ := h1
  refine ⟨N0 + 1, fun n hn => ?_⟩
  obtain ⟨m, rfl⟩ : ∃ m, n = m + 1 := ⟨n - 1, by omega⟩
  have h1 : call m d (takeS [sMinus, sNot] (enterS d s)).2 = (a, s1) := h1 m (by omega)
  show unary (m + 1) d s = (a, s1)
  rw [unary]
  simp [doS, bnd, ret, ht, h1]
theorem Ev.of_unary_some  {t : List UInt8} (ht : (takeS [sMinus, sNot] (enterS d s)).1 = some t) (h1 : Ev (fun n => unary n (d + 1)) (takeS [sMinus, sNot] (enterS d s)).2 a s1) : Ev (fun n => unary n d) s (.mk 10 0 t [a] [] []) s1 := by
  obtain ⟨N0, h1⟩ := h1
  refine ⟨N0 + 1, fun n hn => ?_⟩
  obtain ⟨m, rfl⟩ : ∃ m, n = m + 1 := ⟨n - 1, by omega⟩
  have h1 : unary m (d + 1) (takeS [sMinus, sNot] (enterS d s)).2 = (a, s1) := h1 m (by omega)
  show unary (m + 1) d s = ((.mk 10 0 t [a] [] []), s1)
  rw [unary]
  simp [doS, bnd, ret, ht, h1]
theorem Ev.of_call  (h1 : Ev (fun n => prim n d) s a s1) (h2 : Ev (fun n => callLoop n d (bareS s) a) s1 r s2) : Ev (fun n => call n d) s r s2 := by
  obtain ⟨N0, h1⟩ := h1
  obtain ⟨N1, h2⟩ := h2
  refine ⟨N0 + N1 + 1, fun n hn => ?_⟩
  obtain ⟨m, rfl⟩ : ∃ m, n = m + 1 := ⟨n - 1, by omega⟩
  have h1 : prim m d s = (a, s1) := h1 m (by omega)
  have h2 : callLoop m d (bareS s) a s1 = (r, s2) := h2 m (by omega)
  show call (m + 1) d s = (r, s2)
  rw [call]
  simp [doS, bnd, ret, h1, h2]
theorem Ev.of_callLoop_none  {bare : Bool} (ht : (hasS sOpen s).1 = false) : Ev (fun n => callLoop n d bare a) s a (hasS sOpen s).2 := by
  refine ⟨1, fun n hn => ?_⟩
  obtain ⟨m, rfl⟩ : ∃ m, n = m + 1 := ⟨n - 1, by omega⟩
  show callLoop (m + 1) d bare a s = (a, (hasS sOpen s).2)
  rw [callLoop]
  simp [doS, bnd, ret, ht]
theorem Ev.of_callLoop_go  {bare : Bool} (ht : (hasS sOpen s).1 = true) (h1 : Ev (fun n => untilL n sShut (d + 1)) (hasS sOpen s).2 l s1) (h2 : Ev (fun n => callLoop n d false (if bare then .mk 7 0 a.name l [] [] else .mk 8 0 [] (a :: l) [] [])) s1 r s2) : Ev (fun n => callLoop n d bare a) s r s2 := by
  obtain ⟨N0, h1⟩ := h1
  obtain ⟨N1, h2⟩ := h2
  refine ⟨N0 + N1 + 1, fun n hn => ?_⟩
  obtain ⟨m, rfl⟩ : ∃ m, n = m + 1 := ⟨n - 1, by omega⟩
  have h1 : untilL m sShut (d + 1) (hasS sOpen s).2 = (l, s1) := h1 m (by omega)
  have h2 : callLoop m d false (if bare then .mk 7 0 a.name l [] [] else .mk 8 0 [] (a :: l) [] []) s1 = (r, s2) := h2 m (by omega)
  show callLoop (m + 1) d bare a s = (r, s2)
  rw [callLoop]
  simp [doS, bnd, ret, ht, h1, h2]
theorem Ev.of_some_one  (h1 : Ev (fun n => expr n d) s a s1) (ht : (hasS sComma s1).1 = false) : Ev (fun n => someL n d) s [a] (hasS sComma s1).2 := by
  obtain ⟨N0, h1⟩ := h1
  refine ⟨N0 + 1, fun n hn => ?_⟩
  obtain ⟨m, rfl⟩ : ∃ m, n = m + 1 := ⟨n - 1, by omega⟩
  have h1 : expr m d s = (a, s1) := h1 m (by omega)
  show someL (m + 1) d s = ([a], (hasS sComma s1).2)
  rw [someL]
  simp [doS, bnd, ret, h1, ht]
theorem Ev.of_some_more  (h1 : Ev (fun n => expr n d) s a s1) (ht : (hasS sComma s1).1 = true) (h2 : Ev (fun n => someL n d) (hasS sComma s1).2 l s2) : Ev (fun n => someL n d) s (a :: l) s2 := by
  obtain ⟨N0, h1⟩ := h1
  obtain ⟨N1, h2⟩ := h2
  refine ⟨N0 + N1 + 1, fun n hn => ?_⟩
  obtain ⟨m, rfl⟩ : ∃ m, n = m + 1 := ⟨n - 1, by omega⟩
  have h1 : expr m d s = (a, s1) := h1 m (by omega)
  have h2 : someL m d (hasS sComma s1).2 = (l, s2) := h2 m (by omega)
  show someL (m + 1) d s = ((a :: l), s2)
  rw [someL]
  simp [doS, bnd, ret, h1, ht, h2]
theorem Ev.of_until_nil  {e : List UInt8} (ht : (hasS e s).1 = true) : Ev (fun n => untilL n e d) s [] (hasS e s).2 := by
  refine ⟨1, fun n hn => ?_⟩
  obtain ⟨m, rfl⟩ : ∃ m, n = m + 1 := ⟨n - 1, by omega⟩
  show untilL (m + 1) e d s = ([], (hasS e s).2)
  rw [untilL]
  simp [doS, bnd, ret, ht]
theorem Ev.of_until_some  {e : List UInt8} (ht : (hasS e s).1 = false) (h1 : Ev (fun n => someL n d) (hasS e s).2 l s1) : Ev (fun n => untilL n e d) s l (mustS e s1) := by
  obtain ⟨N0, h1⟩ := h1
  refine ⟨N0 + 1, fun n hn => ?_⟩
  obtain ⟨m, rfl⟩ : ∃ m, n = m + 1 := ⟨n - 1, by omega⟩
  have h1 : someL m d (hasS e s).2 = (l, s1) := h1 m (by omega)
  show untilL (m + 1) e d s = (l, (mustS e s1))
  rw [untilL]
  simp [doS, bnd, ret, ht, h1]
theorem Ev.of_body_when  (ht : (hasS sWhen s).1 = true) (h1 : Ev (fun n => someL n d) (hasS sWhen s).2 l s1) (h2 : Ev (fun n => someL n d) (mustS sTo s1) c s2) : Ev (fun n => bodyP n d) s (l, c) s2 := by
  obtain ⟨N0, h1⟩ := h1
  obtain ⟨N1, h2⟩ := h2
  refine ⟨N0 + N1 + 1, fun n hn => ?_⟩
  obtain ⟨m, rfl⟩ : ∃ m, n = m + 1 := ⟨n - 1, by omega⟩
  have h1 : someL m d (hasS sWhen s).2 = (l, s1) := h1 m (by omega)
  have h2 : someL m d (mustS sTo s1) = (c, s2) := h2 m (by omega)
  show bodyP (m + 1) d s = ((l, c), s2)
  rw [bodyP]
  simp [doS, bnd, ret, ht, h1, h2]
theorem Ev.of_body_bare  (ht : (hasS sWhen s).1 = false) (h2 : Ev (fun n => someL n d) (mustS sTo (hasS sWhen s).2) c s2) : Ev (fun n => bodyP n d) s ([], c) s2 := by
  obtain ⟨N0, h2⟩ := h2
  refine ⟨N0 + 1, fun n hn => ?_⟩
  obtain ⟨m, rfl⟩ : ∃ m, n = m + 1 := ⟨n - 1, by omega⟩
  have h2 : someL m d (mustS sTo (hasS sWhen s).2) = (c, s2) := h2 m (by omega)
  show bodyP (m + 1) d s = (([], c), s2)
  rw [bodyP]
  simp [doS, bnd, ret, ht, h2]
theorem Ev.of_head  {nm : List UInt8} (h1 : Ev (fun n => untilL n sShut d) (mustS sOpen s) l s1) (h2 : Ev (fun n => bodyP n d) s1 (g, c) s2) : Ev (fun n => headP n nm d) s (.mk 0 0 nm l g c) s2 := by
  obtain ⟨N0, h1⟩ := h1
  obtain ⟨N1, h2⟩ := h2
  refine ⟨N0 + N1 + 1, fun n hn => ?_⟩
  obtain ⟨m, rfl⟩ : ∃ m, n = m + 1 := ⟨n - 1, by omega⟩
  have h1 : untilL m sShut d (mustS sOpen s) = (l, s1) := h1 m (by omega)
  have h2 : bodyP m d s1 = ((g, c), s2) := h2 m (by omega)
  show headP (m + 1) nm d s = ((.mk 0 0 nm l g c), s2)
  rw [headP]
  simp [doS, bnd, ret, h1, h2]
theorem Ev.of_one_0  (h1 : Ev (fun n => expr n d) s a s1) (h2 : Ev (fun n => bodyP n d) s1 (g, c) s2) : Ev (fun n => oneC n 0 d) s (.mk 0 0 [] [a] g c) s2 := by
  obtain ⟨N0, h1⟩ := h1
  obtain ⟨N1, h2⟩ := h2
  refine ⟨N0 + N1 + 1, fun n hn => ?_⟩
  obtain ⟨m, rfl⟩ : ∃ m, n = m + 1 := ⟨n - 1, by omega⟩
  have h1 : expr m d s = (a, s1) := h1 m (by omega)
  have h2 : bodyP m d s1 = ((g, c), s2) := h2 m (by omega)
  show oneC (m + 1) 0 d s = ((.mk 0 0 [] [a] g c), s2)
  rw [oneC]
  simp [doS, bnd, ret, h1, h2]
theorem Ev.of_one_1  (h1 : Ev (fun n => headP n [] d) s a s1) : Ev (fun n => oneC n 1 d) s a s1 := by
  obtain ⟨N0, h1⟩ := h1
  refine ⟨N0 + 1, fun n hn => ?_⟩
  obtain ⟨m, rfl⟩ : ∃ m, n = m + 1 := ⟨n - 1, by omega⟩
  have h1 : headP m [] d s = (a, s1) := h1 m (by omega)
  show oneC (m + 1) 1 d s = (a, s1)
  rw [oneC]
  simp [doS, bnd, ret, h1]
theorem Ev.of_one_2  {y : Tk × Nat} {q : List (Tk × Nat)} (ht : s.toks = y :: q) (hk : y.1.kind = 2) (h1 : Ev (fun n => headP n y.1.text d) { s with toks := q } a s1) : Ev (fun n => oneC n 2 d) s a s1 := by
  obtain ⟨N0, h1⟩ := h1
  refine ⟨N0 + 1, fun n hn => ?_⟩
  obtain ⟨m, rfl⟩ : ∃ m, n = m + 1 := ⟨n - 1, by omega⟩
  have h1 : headP m y.1.text d { s with toks := q } = (a, s1) := h1 m (by omega)
  show oneC (m + 1) 2 d s = (a, s1)
  rw [oneC]
  simp [doS, bnd, ret, ht, hk, h1]
theorem Ev.of_one_2_nil  (ht : s.toks = []) : Ev (fun n => oneC n 2 d) s nd0 (failS 110 s) := by
  refine ⟨1, fun n hn => ?_⟩
  obtain ⟨m, rfl⟩ : ∃ m, n = m + 1 := ⟨n - 1, by omega⟩
  show oneC (m + 1) 2 d s = (nd0, (failS 110 s))
  rw [oneC]
  simp [doS, bnd, ret, ht]
theorem Ev.of_one_2_no  {y : Tk × Nat} {q : List (Tk × Nat)} (ht : s.toks = y :: q) (hk : y.1.kind ≠ 2) : Ev (fun n => oneC n 2 d) s nd0 (failS 110 s) := by
  refine ⟨1, fun n hn => ?_⟩
  obtain ⟨m, rfl⟩ : ∃ m, n = m + 1 := ⟨n - 1, by omega⟩
  show oneC (m + 1) 2 d s = (nd0, (failS 110 s))
  rw [oneC]
  simp [doS, bnd, ret, ht, hk]
theorem Ev.of_clauses_one  {k : Nat} (h1 : Ev (fun n => oneC n k d) s a s1) (ht : (hasS sSemi s1).1 = false) : Ev (fun n => clausesL n k d) s [a] (hasS sSemi s1).2 := by
  obtain ⟨N0, h1⟩ := h1
  refine ⟨N0 + 1, fun n hn => ?_⟩
  obtain ⟨m, rfl⟩ : ∃ m, n = m + 1 := ⟨n - 1, by omega⟩
  have h1 : oneC m k d s = (a, s1) := h1 m (by omega)
  show clausesL (m + 1) k d s = ([a], (hasS sSemi s1).2)
  rw [clausesL]
  simp [doS, bnd, ret, h1, ht]
theorem Ev.of_clauses_more  {k : Nat} (h1 : Ev (fun n => oneC n k d) s a s1) (ht : (hasS sSemi s1).1 = true) (h2 : Ev (fun n => clausesL n k d) (hasS sSemi s1).2 l s2) : Ev (fun n => clausesL n k d) s (a :: l) s2 := by
  obtain ⟨N0, h1⟩ := h1
  obtain ⟨N1, h2⟩ := h2
  refine ⟨N0 + N1 + 1, fun n hn => ?_⟩
  obtain ⟨m, rfl⟩ : ∃ m, n = m + 1 := ⟨n - 1, by omega⟩
  have h1 : oneC m k d s = (a, s1) := h1 m (by omega)
  have h2 : clausesL m k d (hasS sSemi s1).2 = (l, s2) := h2 m (by omega)
  show clausesL (m + 1) k d s = ((a :: l), s2)
  rw [clausesL]
  simp [doS, bnd, ret, h1, ht, h2]
theorem Ev.of_list_nil  (ht : (hasS sShutB s).1 = true) : Ev (fun n => listP n d) s nilN (hasS sShutB s).2 := by
  refine ⟨1, fun n hn => ?_⟩
  obtain ⟨m, rfl⟩ : ∃ m, n = m + 1 := ⟨n - 1, by omega⟩
  show listP (m + 1) d s = (nilN, (hasS sShutB s).2)
  rw [listP]
  simp [doS, bnd, ret, ht]
theorem Ev.of_list_bar  (ht : (hasS sShutB s).1 = false) (h1 : Ev (fun n => someL n d) (hasS sShutB s).2 l s1) (hb : (hasS sBar s1).1 = true) (h2 : Ev (fun n => expr n d) (hasS sBar s1).2 a s2) : Ev (fun n => listP n d) s (consL l a) (mustS sShutB s2) := by
  obtain ⟨N0, h1⟩ := h1
  obtain ⟨N1, h2⟩ := h2
  refine ⟨N0 + N1 + 1, fun n hn => ?_⟩
  obtain ⟨m, rfl⟩ : ∃ m, n = m + 1 := ⟨n - 1, by omega⟩
  have h1 : someL m d (hasS sShutB s).2 = (l, s1) := h1 m (by omega)
  have h2 : expr m d (hasS sBar s1).2 = (a, s2) := h2 m (by omega)
  show listP (m + 1) d s = ((consL l a), (mustS sShutB s2))
  rw [listP]
  simp [doS, bnd, ret, ht, h1, hb, h2]
theorem Ev.of_list_some  (ht : (hasS sShutB s).1 = false) (h1 : Ev (fun n => someL n d) (hasS sShutB s).2 l s1) (hb : (hasS sBar s1).1 = false) : Ev (fun n => listP n d) s (consL l nilN) (mustS sShutB (hasS sBar s1).2) := by
  obtain ⟨N0, h1⟩ := h1
  refine ⟨N0 + 1, fun n hn => ?_⟩
  obtain ⟨m, rfl⟩ : ∃ m, n = m + 1 := ⟨n - 1, by omega⟩
  have h1 : someL m d (hasS sShutB s).2 = (l, s1) := h1 m (by omega)
  show listP (m + 1) d s = ((consL l nilN), (mustS sShutB (hasS sBar s1).2))
  rw [listP]
  simp [doS, bnd, ret, ht, h1, hb]
theorem Ev.of_recv_at  (hf : nextS s ≠ sAfter) (h1 : Ev (fun n => clausesL n 0 d) s l s1) (ht : (hasS sAfter s1).1 = true) (h2 : Ev (fun n => expr n d) (hasS sAfter s1).2 a s2) (h3 : Ev (fun n => someL n d) (mustS sTo s2) c s3) : Ev (fun n => recvP n d) s (.mk 15 0 [] [a] l c) (mustS sEnd s3) := by
  obtain ⟨N0, h1⟩ := h1
  obtain ⟨N1, h2⟩ := h2
  obtain ⟨N2, h3⟩ := h3
  refine ⟨N0 + N1 + N2 + 1, fun n hn => ?_⟩
  obtain ⟨m, rfl⟩ : ∃ m, n = m + 1 := ⟨n - 1, by omega⟩
  have h1 : clausesL m 0 d s = (l, s1) := h1 m (by omega)
  have h2 : expr m d (hasS sAfter s1).2 = (a, s2) := h2 m (by omega)
  have h3 : someL m d (mustS sTo s2) = (c, s3) := h3 m (by omega)
  show recvP (m + 1) d s = ((.mk 15 0 [] [a] l c), (mustS sEnd s3))
  rw [recvP]
  simp only [bnd, if_pos hf]
  simp [doS, bnd, ret, h1, ht, h2, h3]
theorem Ev.of_recv_an  (hf : nextS s ≠ sAfter) (h1 : Ev (fun n => clausesL n 0 d) s l s1) (ht : (hasS sAfter s1).1 = false) : Ev (fun n => recvP n d) s (.mk 15 0 [] [] l []) (mustS sEnd (hasS sAfter s1).2) := by
  obtain ⟨N0, h1⟩ := h1
  refine ⟨N0 + 1, fun n hn => ?_⟩
  obtain ⟨m, rfl⟩ : ∃ m, n = m + 1 := ⟨n - 1, by omega⟩
  have h1 : clausesL m 0 d s = (l, s1) := h1 m (by omega)
  show recvP (m + 1) d s = ((.mk 15 0 [] [] l []), (mustS sEnd (hasS sAfter s1).2))
  rw [recvP]
  simp only [bnd, if_pos hf]
  simp [doS, bnd, ret, h1, ht]
theorem Ev.of_recv_nt  (hf : nextS s = sAfter) (ht : (hasS sAfter s).1 = true) (h2 : Ev (fun n => expr n d) (hasS sAfter s).2 a s2) (h3 : Ev (fun n => someL n d) (mustS sTo s2) c s3) : Ev (fun n => recvP n d) s (.mk 15 0 [] [a] [] c) (mustS sEnd s3) := by
  obtain ⟨N0, h2⟩ := h2
  obtain ⟨N1, h3⟩ := h3
  refine ⟨N0 + N1 + 1, fun n hn => ?_⟩
  obtain ⟨m, rfl⟩ : ∃ m, n = m + 1 := ⟨n - 1, by omega⟩
  have h2 : expr m d (hasS sAfter s).2 = (a, s2) := h2 m (by omega)
  have h3 : someL m d (mustS sTo s2) = (c, s3) := h3 m (by omega)
  show recvP (m + 1) d s = ((.mk 15 0 [] [a] [] c), (mustS sEnd s3))
  rw [recvP]
  simp only [bnd, if_neg (fun h => h hf : ¬ (nextS s ≠ sAfter))]
  simp [doS, bnd, ret, ht, h2, h3]
theorem Ev.of_recv_nn  (hf : nextS s = sAfter) (ht : (hasS sAfter s).1 = false) : Ev (fun n => recvP n d) s (.mk 15 0 [] [] [] []) (mustS sEnd (hasS sAfter s).2) := by
  refine ⟨1, fun n hn => ?_⟩
  obtain ⟨m, rfl⟩ : ∃ m, n = m + 1 := ⟨n - 1, by omega⟩
  show recvP (m + 1) d s = ((.mk 15 0 [] [] [] []), (mustS sEnd (hasS sAfter s).2))
  rw [recvP]
  simp only [bnd, if_neg (fun h => h hf : ¬ (nextS s ≠ sAfter))]
  simp [doS, bnd, ret, ht]
theorem Ev.of_prim_leaf  (ht : (leafS s).1 = some a) : Ev (fun n => prim n d) s a (leafS s).2 := by
  refine ⟨1, fun n hn => ?_⟩
  obtain ⟨m, rfl⟩ : ∃ m, n = m + 1 := ⟨n - 1, by omega⟩
  show prim (m + 1) d s = (a, (leafS s).2)
  rw [prim_eq]
  simp [doS, bnd, ret, ht, primL]
theorem Ev.of_prim_fail  (ht : leafS s = (none, s)) (hk : (takeS opensL s).1 = none) : Ev (fun n => prim n d) s nd0 (failS 110 (takeS opensL s).2) := by
  refine ⟨1, fun n hn => ?_⟩
  obtain ⟨m, rfl⟩ : ∃ m, n = m + 1 := ⟨n - 1, by omega⟩
  show prim (m + 1) d s = (nd0, (failS 110 (takeS opensL s).2))
  rw [prim_eq]
  simp [doS, bnd, ret, ht, hk, primL, primO]
theorem Ev.of_prim_open  (ht : leafS s = (none, s)) (hk : (takeS opensL s).1 = some sOpen) (h1 : Ev (fun n => expr n (d + 1)) (takeS opensL s).2 a s1) : Ev (fun n => prim n d) s a (mustS sShut s1) := by
  obtain ⟨N0, h1⟩ := h1
  refine ⟨N0 + 1, fun n hn => ?_⟩
  obtain ⟨m, rfl⟩ : ∃ m, n = m + 1 := ⟨n - 1, by omega⟩
  have h1 : expr m (d + 1) (takeS opensL s).2 = (a, s1) := h1 m (by omega)
  show prim (m + 1) d s = (a, (mustS sShut s1))
  rw [prim_eq]
  simp [doS, bnd, ret, ht, hk, h1, primL, primO, primT]
theorem Ev.of_prim_tuple  (ht : leafS s = (none, s)) (hk : (takeS opensL s).1 = some sOpenC) (h1 : Ev (fun n => untilL n sShutC (d + 1)) (takeS opensL s).2 l s1) : Ev (fun n => prim n d) s (.mk 4 0 [] l [] []) s1 := by
  obtain ⟨N0, h1⟩ := h1
  refine ⟨N0 + 1, fun n hn => ?_⟩
  obtain ⟨m, rfl⟩ : ∃ m, n = m + 1 := ⟨n - 1, by omega⟩
  have h1 : untilL m sShutC (d + 1) (takeS opensL s).2 = (l, s1) := h1 m (by omega)
  show prim (m + 1) d s = ((.mk 4 0 [] l [] []), s1)
  rw [prim_eq]
  simp [doS, bnd, ret, ht, hk, h1, primL, primO, primT]
theorem Ev.of_prim_list  (ht : leafS s = (none, s)) (hk : (takeS opensL s).1 = some sOpenB) (h1 : Ev (fun n => listP n (d + 1)) (takeS opensL s).2 a s1) : Ev (fun n => prim n d) s a s1 := by
  obtain ⟨N0, h1⟩ := h1
  refine ⟨N0 + 1, fun n hn => ?_⟩
  obtain ⟨m, rfl⟩ : ∃ m, n = m + 1 := ⟨n - 1, by omega⟩
  have h1 : listP m (d + 1) (takeS opensL s).2 = (a, s1) := h1 m (by omega)
  show prim (m + 1) d s = (a, s1)
  rw [prim_eq]
  simp [doS, bnd, ret, ht, hk, h1, primL, primO, primT]
theorem Ev.of_prim_fun  (ht : leafS s = (none, s)) (hk : (takeS opensL s).1 = some sFun) (h1 : Ev (fun n => clausesL n 1 (d + 1)) (takeS opensL s).2 l s1) : Ev (fun n => prim n d) s (.mk 13 0 [] [] l []) (mustS sEnd s1) := by
  obtain ⟨N0, h1⟩ := h1
  refine ⟨N0 + 1, fun n hn => ?_⟩
  obtain ⟨m, rfl⟩ : ∃ m, n = m + 1 := ⟨n - 1, by omega⟩
  have h1 : clausesL m 1 (d + 1) (takeS opensL s).2 = (l, s1) := h1 m (by omega)
  show prim (m + 1) d s = ((.mk 13 0 [] [] l []), (mustS sEnd s1))
  rw [prim_eq]
  simp [doS, bnd, ret, ht, hk, h1, primL, primO, primT]
theorem Ev.of_prim_case  (ht : leafS s = (none, s)) (hk : (takeS opensL s).1 = some sCase) (h1 : Ev (fun n => expr n (d + 1)) (takeS opensL s).2 a s1) (h2 : Ev (fun n => clausesL n 0 (d + 1)) (mustS sOf s1) l s2) : Ev (fun n => prim n d) s (.mk 14 0 [] [a] l []) (mustS sEnd s2) := by
  obtain ⟨N0, h1⟩ := h1
  obtain ⟨N1, h2⟩ := h2
  refine ⟨N0 + N1 + 1, fun n hn => ?_⟩
  obtain ⟨m, rfl⟩ : ∃ m, n = m + 1 := ⟨n - 1, by omega⟩
  have h1 : expr m (d + 1) (takeS opensL s).2 = (a, s1) := h1 m (by omega)
  have h2 : clausesL m 0 (d + 1) (mustS sOf s1) = (l, s2) := h2 m (by omega)
  show prim (m + 1) d s = ((.mk 14 0 [] [a] l []), (mustS sEnd s2))
  rw [prim_eq]
  simp [doS, bnd, ret, ht, hk, h1, h2, primL, primO, primT]
theorem Ev.of_prim_recv  (ht : leafS s = (none, s)) (hk : (takeS opensL s).1 = some sReceive) (h1 : Ev (fun n => recvP n (d + 1)) (takeS opensL s).2 a s1) : Ev (fun n => prim n d) s a s1 := by
  obtain ⟨N0, h1⟩ := h1
  refine ⟨N0 + 1, fun n hn => ?_⟩
  obtain ⟨m, rfl⟩ : ∃ m, n = m + 1 := ⟨n - 1, by omega⟩
  have h1 : recvP m (d + 1) (takeS opensL s).2 = (a, s1) := h1 m (by omega)
  show prim (m + 1) d s = (a, s1)
  rw [prim_eq]
  simp [doS, bnd, ret, ht, hk, h1, primL, primO, primT]
theorem Ev.of_prim_try  (ht : leafS s = (none, s)) (hk : (takeS opensL s).1 = some sTry) (h1 : Ev (fun n => someL n (d + 1)) (takeS opensL s).2 c s1) (h2 : Ev (fun n => clausesL n 0 (d + 1)) (mustS sCatch s1) l s2) : Ev (fun n => prim n d) s (.mk 16 0 [] [] l c) (mustS sEnd s2) := by
  obtain ⟨N0, h1⟩ := h1
  obtain ⟨N1, h2⟩ := h2
  refine ⟨N0 + N1 + 1, fun n hn => ?_⟩
  obtain ⟨m, rfl⟩ : ∃ m, n = m + 1 := ⟨n - 1, by omega⟩
  have h1 : someL m (d + 1) (takeS opensL s).2 = (c, s1) := h1 m (by omega)
  have h2 : clausesL m 0 (d + 1) (mustS sCatch s1) = (l, s2) := h2 m (by omega)
  show prim (m + 1) d s = ((.mk 16 0 [] [] l c), (mustS sEnd s2))
  rw [prim_eq]
  simp [doS, bnd, ret, ht, hk, h1, h2, primL, primO, primT]
end
end Go.Proofs.YtdmmhfbafinkpaaGreatDoor
