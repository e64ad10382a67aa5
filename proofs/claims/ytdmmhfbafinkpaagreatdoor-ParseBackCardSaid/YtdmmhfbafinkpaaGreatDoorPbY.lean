import Derived.Test.YtdmmhfbafinkpaaGreatDoorPaE
import Derived.Test.YtdmmhfbafinkpaaGreatDoorScB
import Derived.Test.YtdmmhfbafinkpaaGreatDoorPaY
/- ParseBack: the plain law: what a tree is printed as (a relation: a tree and the pieces of its text). -/
namespace Go.Proofs.YtdmmhfbafinkpaaGreatDoor
open Go.Emb

/-- a piece of a text: a token, or a blank -/
inductive It where
  | t (k n : Int) (x : List UInt8)
  | b (c : UInt8)
abbrev Co : Type := Int × Int × List UInt8
def It.text : It → List UInt8
  | .t k n x => if k = 1 then Lib.itoa n else if k = 2 then nameL x else x
  | .b c => [c]
def It.co : It → List Co
  | .t k n x => [(k, n, x)]
  | .b _ => []
def flat (l : List It) : List UInt8 := l.flatMap It.text
def cores (l : List It) : List Co := l.flatMap It.co
theorem flat_app (a b : List It) : flat (a ++ b) = flat a ++ flat b := by simp [flat]
theorem flat_cons (a : It) (b : List It) : flat (a :: b) = a.text ++ flat b := by simp [flat]
theorem flat_nil : flat [] = [] := rfl
theorem cores_app (a b : List It) : cores (a ++ b) = cores a ++ cores b := by simp [cores]
theorem cores_t (k n : Int) (x : List UInt8) (b : List It) : cores (.t k n x :: b) = (k, n, x) :: cores b := by simp [cores, It.co]
theorem cores_b (c : UInt8) (b : List It) : cores (.b c :: b) = cores b := by simp [cores, It.co]
theorem cores_nil : cores [] = [] := rfl
abbrev sg (c : UInt8) : It := .t 5 0 [c]
abbrev wd (x : List UInt8) : It := .t 4 0 x
abbrev sp : It := .b 32
def sepI (s : List It) : List (List It) → List It
  | [] => []
  | [x] => x
  | x :: y :: r => x ++ s ++ sepI s (y :: r)
def Nd.kind : Nd → Int | .mk k _ _ _ _ _ => k
/-- an operator's tree -/
def opK (n : Nd) : Prop := n.kind = 9 ∨ n.kind = 10 ∨ n.kind = 11 ∨ n.kind = 12
instance (n : Nd) : Decidable (opK n) := by unfold opK; infer_instance
/-- what is called and stands bare -/
def callK (n : Nd) : Prop := n.kind = 3 ∨ n.kind = 7 ∨ n.kind = 8
instance (n : Nd) : Decidable (callK n) := by unfold callK; infer_instance
def inBr (x : List It) : List It := sg 40 :: x ++ [sg 41]
def operI (n : Nd) (x : List It) : List It := if opK n then inBr x else x
def callI (n : Nd) (x : List It) : List It := if callK n then x else inBr x
abbrev comma : List It := [sg 44]
abbrev commaB : List It := [sg 44, sp]
abbrev semiB : List It := [sg 59, sp]
/-- a clause behind its patterns -/
def tailI (gs bs : List (List It)) : List It := (if gs = [] then [] else sp :: wd sWhen :: sp :: sepI commaB gs) ++ (sp :: .t 5 0 sTo :: sp :: sepI commaB bs)
/-- trees and their pieces, one for one -/
def PrL (R : Nd → List It → Prop) (l : List Nd) (ls : List (List It)) : Prop := ls.length = l.length ∧ ∀ i (h : i < l.length) (h' : i < ls.length), R l[i] ls[i]
/-- 0: a tree; 1: an arm; 2: a fun's clause; 3: a function's clause; 4: what stands behind an element of a list -/
inductive Pr : Nat → Nd → List It → Prop
  | leaf {k n : Int} {x : List UInt8} (h : TokOk ⟨k, n, x, 0⟩) (h3 : k ≤ 3) : Pr 0 (.mk k n x [] [] []) [.t k n x]
  | tuple {l : List Nd} {ls : List (List It)} (hl : ls.length = l.length) (h : ∀ i (h : i < l.length) (h' : i < ls.length), Pr 0 l[i] ls[i]) : Pr 0 (.mk 4 0 [] l [] []) (sg 123 :: sepI comma ls ++ [sg 125])
  | nil : Pr 0 (.mk 5 0 [] [] [] []) [sg 91, sg 93]
  | cons {a t : Nd} {x r : List It} (ha : Pr 0 a x) (ht : Pr 4 t r) : Pr 0 (.mk 6 0 [] [a, t] [] []) (sg 91 :: x ++ r)
  | rest_nil : Pr 4 (.mk 5 0 [] [] [] []) [sg 93]
  | rest_cons {a t : Nd} {x r : List It} (ha : Pr 0 a x) (ht : Pr 4 t r) : Pr 4 (.mk 6 0 [] [a, t] [] []) (sg 44 :: x ++ r)
  | rest_bar {t : Nd} {x : List It} (ht : Pr 0 t x) (h5 : t.kind ≠ 5) (h6 : t.kind ≠ 6) : Pr 4 t (sg 124 :: x ++ [sg 93])
  | call {nm : List UInt8} {l : List Nd} {ls : List (List It)} (hn : TokOk ⟨2, 0, nm, 0⟩) (hl : ls.length = l.length) (h : ∀ i (h : i < l.length) (h' : i < ls.length), Pr 0 l[i] ls[i]) :
    Pr 0 (.mk 7 0 nm l [] []) (.t 2 0 nm :: sg 40 :: sepI comma ls ++ [sg 41])
  | apply {f : Nd} {x : List It} {l : List Nd} {ls : List (List It)} (hf : Pr 0 f x) (hl : ls.length = l.length) (h : ∀ i (h : i < l.length) (h' : i < ls.length), Pr 0 l[i] ls[i]) :
    Pr 0 (.mk 8 0 [] (f :: l) [] []) (callI f x ++ sg 40 :: sepI comma ls ++ [sg 41])
  | op {k v : Int} {u : Nat} {t : List UInt8} {a b : Nd} {x y : List It} (hu : u < 5) (ht : t ∈ levelsL u) (hk : TokOk ⟨k, v, t, 0⟩) (h4 : 4 ≤ k) (ha : Pr 0 a x) (hb : Pr 0 b y) :
    Pr 0 (.mk 9 0 t [a, b] [] []) (operI a x ++ sp :: .t k v t :: sp :: operI b y)
  | un {k v : Int} {t : List UInt8} {a : Nd} {x : List It} (ht : t ∈ [sMinus, sNot]) (hk : TokOk ⟨k, v, t, 0⟩) (h4 : 4 ≤ k) (ha : Pr 0 a x) : Pr 0 (.mk 10 0 t [a] [] []) (.t k v t :: sp :: operI a x)
  | mat {a b : Nd} {x y : List It} (ha : Pr 0 a x) (hb : Pr 0 b y) : Pr 0 (.mk 11 0 [] [a, b] [] []) (operI a x ++ sp :: sg 61 :: sp :: operI b y)
  | send {a b : Nd} {x y : List It} (ha : Pr 0 a x) (hb : Pr 0 b y) : Pr 0 (.mk 12 0 [] [a, b] [] []) (operI a x ++ sp :: sg 33 :: sp :: operI b y)
  | fn {l : List Nd} {ls : List (List It)} (h0 : l ≠ []) (hl : ls.length = l.length) (h : ∀ i (h : i < l.length) (h' : i < ls.length), Pr 2 l[i] ls[i]) : Pr 0 (.mk 13 0 [] [] l []) (wd sFun :: sepI semiB ls ++ [sp, wd sEnd])
  | case {a : Nd} {x : List It} {l : List Nd} {ls : List (List It)} (ha : Pr 0 a x) (h0 : l ≠ []) (hl : ls.length = l.length) (h : ∀ i (h : i < l.length) (h' : i < ls.length), Pr 1 l[i] ls[i]) :
    Pr 0 (.mk 14 0 [] [a] l []) (wd sCase :: sp :: x ++ sp :: wd sOf :: sp :: sepI semiB ls ++ [sp, wd sEnd])
  | tr {b l : List Nd} {bs ls : List (List It)} (hb0 : b ≠ []) (hbl : bs.length = b.length) (hb : ∀ i (h : i < b.length) (h' : i < bs.length), Pr 0 b[i] bs[i]) (h0 : l ≠ []) (hl : ls.length = l.length) (h : ∀ i (h : i < l.length) (h' : i < ls.length), Pr 1 l[i] ls[i]) :
    Pr 0 (.mk 16 0 [] [] l b) (wd sTry :: sp :: sepI commaB bs ++ sp :: wd sCatch :: sp :: sepI semiB ls ++ [sp, wd sEnd])
  | recv {l : List Nd} {ls : List (List It)} (h0 : l ≠ []) (hl : ls.length = l.length) (h : ∀ i (h : i < l.length) (h' : i < ls.length), Pr 1 l[i] ls[i]) :
    Pr 0 (.mk 15 0 [] [] l []) (wd sReceive :: sp :: sepI semiB ls ++ [sp, wd sEnd])
  | recvA {l b : List Nd} {ls bs : List (List It)} {a : Nd} {x : List It} (hl : ls.length = l.length) (h : ∀ i (h : i < l.length) (h' : i < ls.length), Pr 1 l[i] ls[i]) (ha : Pr 0 a x)
    (hb0 : b ≠ []) (hbl : bs.length = b.length) (hb : ∀ i (h : i < b.length) (h' : i < bs.length), Pr 0 b[i] bs[i]) :
    Pr 0 (.mk 15 0 [] [a] l b) (wd sReceive :: (if ls = [] then [] else sp :: sepI semiB ls) ++ (sp :: wd sAfter :: sp :: x ++ sp :: .t 5 0 sTo :: sp :: sepI commaB bs) ++ [sp, wd sEnd])
  | arm {p : Nd} {x : List It} {g b : List Nd} {gs bs : List (List It)} (hp : Pr 0 p x) (hgl : gs.length = g.length) (hg : ∀ i (h : i < g.length) (h' : i < gs.length), Pr 0 g[i] gs[i])
    (hb0 : b ≠ []) (hbl : bs.length = b.length) (hb : ∀ i (h : i < b.length) (h' : i < bs.length), Pr 0 b[i] bs[i]) : Pr 1 (.mk 0 0 [] [p] g b) (x ++ tailI gs bs)
  | head {p g b : List Nd} {ps gs bs : List (List It)} (hpl : ps.length = p.length) (hp : ∀ i (h : i < p.length) (h' : i < ps.length), Pr 0 p[i] ps[i]) (hgl : gs.length = g.length) (hg : ∀ i (h : i < g.length) (h' : i < gs.length), Pr 0 g[i] gs[i])
    (hb0 : b ≠ []) (hbl : bs.length = b.length) (hb : ∀ i (h : i < b.length) (h' : i < bs.length), Pr 0 b[i] bs[i]) : Pr 2 (.mk 0 0 [] p g b) (sg 40 :: sepI comma ps ++ sg 41 :: tailI gs bs)
  | fhead {nm : List UInt8} {p g b : List Nd} {ps gs bs : List (List It)} (hn : TokOk ⟨2, 0, nm, 0⟩) (hpl : ps.length = p.length) (hp : ∀ i (h : i < p.length) (h' : i < ps.length), Pr 0 p[i] ps[i]) (hgl : gs.length = g.length) (hg : ∀ i (h : i < g.length) (h' : i < gs.length), Pr 0 g[i] gs[i])
    (hb0 : b ≠ []) (hbl : bs.length = b.length) (hb : ∀ i (h : i < b.length) (h' : i < bs.length), Pr 0 b[i] bs[i]) : Pr 3 (.mk 0 0 nm p g b) (.t 2 0 nm :: sg 40 :: sepI comma ps ++ sg 41 :: tailI gs bs)
end Go.Proofs.YtdmmhfbafinkpaaGreatDoor

/- ParseBack: the plain law: the tokens of a tree's text are parsed to that tree, or nested too deep: the rules. -/
namespace Go.Proofs.YtdmmhfbafinkpaaGreatDoor
open Go.Emb

/-- the tokens that stand next, but for their places -/
def StL (L : List Co) (s : St) : Prop := s.err = 0 ∧ s.toks.map (fun x => core x.1) = L
def nx (L : List Co) : List UInt8 := match L with | [] => [] | t :: _ => if t.1 < 4 then [] else t.2.2
theorem StL.next {L : List Co} {s : St} (h : StL L s) : nextS s = nx L := by
  obtain ⟨-, h⟩ := h
  unfold nextS nx
  match hs : s.toks with
  | [] => rw [hs] at h; subst h; rfl
  | x :: r => rw [hs] at h; subst h; rfl
theorem StL.tail {c : Co} {L : List Co} {s : St} (h : StL (c :: L) s) : StL L { s with toks := s.toks.tail } := by
  obtain ⟨h0, h⟩ := h
  refine ⟨h0, ?_⟩
  match hs : s.toks with
  | [] => rw [hs] at h; simp at h
  | x :: r => rw [hs] at h; simp at h; simpa [hs] using h.2
/-- at these tokens p comes to a, with these behind, or it is nested too deep -/
def Go1 {α : Type} (p : P α) (L : List Co) (a : α) (M : List Co) : Prop := ∀ s, StL L s → ((p s).1 = a ∧ StL M (p s).2) ∨ (p s).2.err = 111
section
variable {α β : Type} {L M K : List Co} {a : α} {b : β}
theorem Go1.seq {p : P α} {f : α → P β} (hp : Go1 p L a M) (hf : Go1 (f a) M b K) (gf : ∀ x, Good (f x)) : Go1 (bnd p f) L b K := fun s hs => by
  rcases hp s hs with ⟨h1, h2⟩ | h1
  · have h3 := hf _ h2
    rw [← h1] at h3
    exact h3
  · exact .inr ((((gf (p s).1) (p s).2).2 (by rw [h1]; decide)).trans h1)
theorem Go1.rt (a : α) : Go1 (ret a) L a L := fun _ hs => .inl ⟨rfl, hs⟩
theorem Go1.enter {d : Nat} {p : P α} (hp : Go1 p L a M) (gp : Good p) : Go1 (doS (enterS d) p) L a M := fun s hs => by
  show ((p (enterS d s)).1 = a ∧ StL M (p (enterS d s)).2) ∨ (p (enterS d s)).2.err = 111
  unfold enterS
  split
  · have h1 : (failS 111 s).err = 111 := by unfold failS; rw [if_pos hs.1]
    exact .inr (((gp _).2 (by rw [h1]; decide)).trans h1)
  · exact hp s hs
theorem take_yes1 {k n : Int} {x : List UInt8} {l : List (List UInt8)} {s : St} (hs : StL ((k, n, x) :: L) s) (hk : ¬ k < 4) (hx : x ∈ l) (h0 : x ≠ []) : takeS l s = (some x, { s with toks := s.toks.tail }) := by
  unfold takeS
  rw [hs.next]
  simp only [nx, if_neg hk]
  rw [if_pos ⟨hx, h0⟩]
theorem take_no1 {l : List (List UInt8)} {s : St} (hs : StL L s) (h : nx L ∈ l → nx L = []) : takeS l s = (none, s) := by
  unfold takeS
  rw [hs.next, if_neg (fun hc => hc.2 (h hc.1))]
theorem Go1.takeY {k n : Int} {x : List UInt8} {l : List (List UInt8)} {f : Option (List UInt8) → P β} (hk : ¬ k < 4) (hx : x ∈ l) (h0 : x ≠ []) (hf : Go1 (f (some x)) L b K) : Go1 (bnd (takeS l) f) ((k, n, x) :: L) b K := fun s hs => by
  show ((f (takeS l s).1 (takeS l s).2).1 = b ∧ StL K (f (takeS l s).1 (takeS l s).2).2) ∨ (f (takeS l s).1 (takeS l s).2).2.err = 111
  rw [take_yes1 hs hk hx h0]
  exact hf _ hs.tail
theorem Go1.takeN {l : List (List UInt8)} {f : Option (List UInt8) → P β} (h : nx L ∈ l → nx L = []) (hf : Go1 (f none) L b K) : Go1 (bnd (takeS l) f) L b K := fun s hs => by
  show ((f (takeS l s).1 (takeS l s).2).1 = b ∧ StL K (f (takeS l s).1 (takeS l s).2).2) ∨ (f (takeS l s).1 (takeS l s).2).2.err = 111
  rw [take_no1 hs h]
  exact hf _ hs
theorem Go1.hasY {k n : Int} {x : List UInt8} {f : Bool → P β} (hk : ¬ k < 4) (h0 : x ≠ []) (hf : Go1 (f true) L b K) : Go1 (bnd (hasS x) f) ((k, n, x) :: L) b K := fun s hs => by
  have e : hasS x s = (true, { s with toks := s.toks.tail }) := by unfold hasS; rw [take_yes1 hs hk (by simp) h0]; rfl
  show ((f (hasS x s).1 (hasS x s).2).1 = b ∧ StL K (f (hasS x s).1 (hasS x s).2).2) ∨ (f (hasS x s).1 (hasS x s).2).2.err = 111
  rw [e]
  exact hf _ hs.tail
theorem Go1.hasN {x : List UInt8} {f : Bool → P β} (h : nx L ≠ x ∨ nx L = []) (hf : Go1 (f false) L b K) : Go1 (bnd (hasS x) f) L b K := fun s hs => by
  have e : hasS x s = (false, s) := by unfold hasS; rw [take_no1 hs (fun hm => by simp at hm; rcases h with h | h; exact absurd hm h; exact h)]; rfl
  show ((f (hasS x s).1 (hasS x s).2).1 = b ∧ StL K (f (hasS x s).1 (hasS x s).2).2) ∨ (f (hasS x s).1 (hasS x s).2).2.err = 111
  rw [e]
  exact hf _ hs
theorem Go1.must {k n : Int} {x : List UInt8} {p : P α} (hk : ¬ k < 4) (h0 : x ≠ []) (hp : Go1 p L a K) : Go1 (doS (mustS x) p) ((k, n, x) :: L) a K := fun s hs => by
  have e : hasS x s = (true, { s with toks := s.toks.tail }) := by unfold hasS; rw [take_yes1 hs hk (by simp) h0]; rfl
  show ((p (mustS x s)).1 = a ∧ StL K (p (mustS x s)).2) ∨ (p (mustS x s)).2.err = 111
  unfold mustS
  rw [e]
  exact hp _ hs.tail
end
/-- with enough fuel -/
def Par {α : Type} (p : Nat → P α) (L : List Co) (a : α) (M : List Co) : Prop := ∃ N, ∀ n, N ≤ n → Go1 (p n) L a M
/-- what may stand behind an expression -/
abbrev endsL : List (List UInt8) := [sShut, sShutC, sShutB, sComma, sSemi, sDot, sBar, sTo, sOf, sEnd, sWhen, sAfter, sCatch]
def EndE (M : List Co) : Prop := nx M = [] ∨ nx M ∈ endsL
theorem EndE.no {M : List Co} (h : EndE M) {l : List (List UInt8)} (hl : ∀ x ∈ endsL, x ∉ l) : nx M ∈ l → nx M = [] := fun hm => h.resolve_right fun he => hl _ he hm
theorem levels_end (v : Nat) : ∀ x ∈ endsL, x ∉ levelsL v := by
  match v with
  | 0 => decide
  | 1 => decide
  | 2 => decide
  | 3 => decide
  | 4 => decide
  | _ + 5 => intro x _ h; exact absurd h (by simp [levelsL])
section
variable {d : Nat} {L M K : List Co} {a b r : Nd} {l g c : List Nd}
theorem Par.callStop {bare : Bool} (h : nx L ≠ sOpen ∨ nx L = []) : Par (fun n => callLoop n d bare a) L a L := by
  refine ⟨1, fun n hn => ?_⟩
  obtain ⟨m, rfl⟩ : ∃ m, n = m + 1 := ⟨n - 1, by omega⟩
  show Go1 (callLoop (m + 1) d bare a) L a L
  rw [callLoop]
  exact Go1.hasN h (Go1.rt a)
theorem Par.callGo {bare : Bool} {k v : Int} (hk : ¬ k < 4) (h1 : Par (fun n => untilL n sShut (d + 1)) L l M) (h2 : Par (fun n => callLoop n d false (if bare then .mk 7 0 a.name l [] [] else .mk 8 0 [] (a :: l) [] [])) M r K) : Par (fun n => callLoop n d bare a) ((k, v, sOpen) :: L) r K := by
  obtain ⟨N0, h1⟩ := h1
  obtain ⟨N1, h2⟩ := h2
  refine ⟨N0 + N1 + 1, fun n hn => ?_⟩
  obtain ⟨m, rfl⟩ : ∃ m, n = m + 1 := ⟨n - 1, by omega⟩
  show Go1 (callLoop (m + 1) d bare a) _ r K
  rw [callLoop]
  refine Go1.hasY hk (by decide) ?_
  simp only [if_true]
  exact Go1.seq (h1 m (by omega)) (h2 m (by omega)) (fun l => (allG m).callLoop _ _ _)
theorem Par.callOf {bare : Bool} (hb : ∀ s, StL L s → bareS s = bare) (h1 : Par (fun n => prim n d) L a M) (h2 : Par (fun n => callLoop n d bare a) M r K) : Par (fun n => call n d) L r K := by
  obtain ⟨N0, h1⟩ := h1
  obtain ⟨N1, h2⟩ := h2
  refine ⟨N0 + N1 + 1, fun n hn => ?_⟩
  obtain ⟨m, rfl⟩ : ∃ m, n = m + 1 := ⟨n - 1, by omega⟩
  show Go1 (call (m + 1) d) L r K
  rw [call]
  intro s hs
  have h3 := hb s hs
  simp only [h3]
  exact Go1.seq (h1 m (by omega)) (h2 m (by omega)) (fun a => (allG m).callLoop _ _ _) s hs
theorem Par.unaryN (h : nx L ∈ [sMinus, sNot] → nx L = []) (h1 : Par (fun n => call n d) L a M) : Par (fun n => unary n d) L a M := by
  obtain ⟨N0, h1⟩ := h1
  refine ⟨N0 + 1, fun n hn => ?_⟩
  obtain ⟨m, rfl⟩ : ∃ m, n = m + 1 := ⟨n - 1, by omega⟩
  show Go1 (unary (m + 1) d) L a M
  rw [unary]
  refine Go1.enter (Go1.takeN h (h1 m (by omega))) (.bnd (.take _) fun o => ?_)
  cases o
  · exact (allG m).call d
  · exact .bnd ((allG m).unary _) fun a => .ret _
theorem Par.unaryY {k v : Int} {t : List UInt8} (hk : ¬ k < 4) (ht : t ∈ [sMinus, sNot]) (h0 : t ≠ []) (h1 : Par (fun n => unary n (d + 1)) L a M) : Par (fun n => unary n d) ((k, v, t) :: L) (.mk 10 0 t [a] [] []) M := by
  obtain ⟨N0, h1⟩ := h1
  refine ⟨N0 + 1, fun n hn => ?_⟩
  obtain ⟨m, rfl⟩ : ∃ m, n = m + 1 := ⟨n - 1, by omega⟩
  show Go1 (unary (m + 1) d) _ _ M
  rw [unary]
  refine Go1.enter (Go1.takeY hk ht h0 (Go1.seq (h1 m (by omega)) (Go1.rt _) fun a => .ret _)) (.bnd (.take _) fun o => ?_)
  cases o
  · exact (allG m).call d
  · exact .bnd ((allG m).unary _) fun a => .ret _
theorem Par.bin5 (h1 : Par (fun n => unary n d) L a M) : Par (fun n => binary n 5 d) L a M := by
  obtain ⟨N0, h1⟩ := h1
  refine ⟨N0 + 1, fun n hn => ?_⟩
  obtain ⟨m, rfl⟩ : ∃ m, n = m + 1 := ⟨n - 1, by omega⟩
  show Go1 (binary (m + 1) 5 d) L a M
  rw [binary, if_pos rfl]
  exact h1 m (by omega)
theorem Par.bin {v : Nat} (hv : v ≠ 5) (h1 : Par (fun n => binary n (v + 1) d) L a M) (h2 : Par (fun n => binLoop n v d a) M r K) : Par (fun n => binary n v d) L r K := by
  obtain ⟨N0, h1⟩ := h1
  obtain ⟨N1, h2⟩ := h2
  refine ⟨N0 + N1 + 1, fun n hn => ?_⟩
  obtain ⟨m, rfl⟩ : ∃ m, n = m + 1 := ⟨n - 1, by omega⟩
  show Go1 (binary (m + 1) v d) L r K
  rw [binary, if_neg hv]
  exact Go1.seq (h1 m (by omega)) (h2 m (by omega)) (fun a => (allG m).binLoop _ _ _)
theorem Par.binStop {v : Nat} (h : nx L ∈ levelsL v → nx L = []) : Par (fun n => binLoop n v d a) L a L := by
  refine ⟨1, fun n hn => ?_⟩
  obtain ⟨m, rfl⟩ : ∃ m, n = m + 1 := ⟨n - 1, by omega⟩
  show Go1 (binLoop (m + 1) v d a) L a L
  rw [binLoop]
  exact Go1.takeN h (Go1.rt a)
theorem Par.binGo {v : Nat} {k w : Int} {t : List UInt8} (hk : ¬ k < 4) (ht : t ∈ levelsL v) (h0 : t ≠ []) (h1 : Par (fun n => binary n (v + 1) d) L b M) (hM : nx M ∈ levelsL v → nx M = []) : Par (fun n => binLoop n v d a) ((k, w, t) :: L) (.mk 9 0 t [a, b] [] []) M := by
  obtain ⟨N0, h1⟩ := h1
  obtain ⟨N1, h2⟩ := Par.binStop (d := d) (a := .mk 9 0 t [a, b] [] []) hM
  refine ⟨N0 + N1 + 1, fun n hn => ?_⟩
  obtain ⟨m, rfl⟩ : ∃ m, n = m + 1 := ⟨n - 1, by omega⟩
  show Go1 (binLoop (m + 1) v d a) _ _ M
  rw [binLoop]
  refine Go1.takeY hk ht h0 (Go1.seq (h1 m (by omega)) ?_ fun b => ?_)
  · split
    · exact Go1.rt _
    · exact h2 m (by omega)
  · split
    · exact .ret _
    · exact (allG m).binLoop _ _ _
theorem Par.exprN (h1 : Par (fun n => binary n 0 d) L a M) (hM : nx M ∈ [sEq, sSend] → nx M = []) : Par (fun n => expr n d) L a M := by
  obtain ⟨N0, h1⟩ := h1
  refine ⟨N0 + 1, fun n hn => ?_⟩
  obtain ⟨m, rfl⟩ : ∃ m, n = m + 1 := ⟨n - 1, by omega⟩
  show Go1 (expr (m + 1) d) L a M
  rw [expr]
  refine Go1.enter (Go1.seq (h1 m (by omega)) (Go1.takeN hM (Go1.rt a)) fun x => ?_) (.bnd ((allG m).binary _ _) fun x => ?_)
  all_goals
    refine .bnd (.take _) fun o => ?_
    cases o
    · exact .ret _
    · exact .bnd ((allG m).expr _) fun b => .ret _
theorem Par.exprY {k v : Int} {t : List UInt8} (hk : ¬ k < 4) (ht : t ∈ [sEq, sSend]) (h1 : Par (fun n => binary n 0 d) L a ((k, v, t) :: M)) (h2 : Par (fun n => expr n (d + 1)) M b K) : Par (fun n => expr n d) L (.mk (if t = sSend then 12 else 11) 0 [] [a, b] [] []) K := by
  obtain ⟨N0, h1⟩ := h1
  obtain ⟨N1, h2⟩ := h2
  refine ⟨N0 + N1 + 1, fun n hn => ?_⟩
  obtain ⟨m, rfl⟩ : ∃ m, n = m + 1 := ⟨n - 1, by omega⟩
  show Go1 (expr (m + 1) d) L _ K
  rw [expr]
  refine Go1.enter (Go1.seq (h1 m (by omega)) (Go1.takeY hk ht (by rintro rfl; exact absurd ht (by decide)) (Go1.seq (h2 m (by omega)) (Go1.rt _) fun b => .ret _)) fun x => ?_) (.bnd ((allG m).binary _ _) fun x => ?_)
  all_goals
    refine .bnd (.take _) fun o => ?_
    cases o
    · exact .ret _
    · exact .bnd ((allG m).expr _) fun b => .ret _
end
end Go.Proofs.YtdmmhfbafinkpaaGreatDoor

/- ParseBack: the plain law: the rules for lists, clauses, prims. -/
namespace Go.Proofs.YtdmmhfbafinkpaaGreatDoor
open Go.Emb

section
variable {α β : Type} {L M K : List Co} {a : α} {b : β}
theorem Par.sq {p : Nat → P α} {f : Nat → α → P β} (h1 : Par p L a M) (h2 : Par (fun n => f n a) M b K) (gf : ∀ n x, Good (f n x)) : Par (fun n => bnd (p n) (f n)) L b K := by
  obtain ⟨N0, h1⟩ := h1
  obtain ⟨N1, h2⟩ := h2
  exact ⟨N0 + N1, fun n hn => Go1.seq (h1 n (by omega)) (h2 n (by omega)) (gf n)⟩
theorem Par.rt (a : α) : Par (fun _ => ret a) L a L := ⟨0, fun _ _ => Go1.rt a⟩
theorem Par.mst {k v : Int} {x : List UInt8} {p : Nat → P α} (hk : ¬ k < 4) (h0 : x ≠ []) (h : Par p L a K) : Par (fun n => doS (mustS x) (p n)) ((k, v, x) :: L) a K := by
  obtain ⟨N0, h⟩ := h
  exact ⟨N0, fun n hn => Go1.must hk h0 (h n hn)⟩
theorem Par.hsY {k v : Int} {x : List UInt8} {f : Nat → Bool → P β} (hk : ¬ k < 4) (h0 : x ≠ []) (h : Par (fun n => f n true) L b K) : Par (fun n => bnd (hasS x) (f n)) ((k, v, x) :: L) b K := by
  obtain ⟨N0, h⟩ := h
  exact ⟨N0, fun n hn => Go1.hasY hk h0 (h n hn)⟩
theorem Par.hsN {x : List UInt8} {f : Nat → Bool → P β} (hx : nx L ≠ x ∨ nx L = []) (h : Par (fun n => f n false) L b K) : Par (fun n => bnd (hasS x) (f n)) L b K := by
  obtain ⟨N0, h⟩ := h
  exact ⟨N0, fun n hn => Go1.hasN hx (h n hn)⟩
theorem Par.up {p q : Nat → P α} (e : ∀ n, p (n + 1) = q n) (h : Par q L a M) : Par p L a M := by
  obtain ⟨N0, h⟩ := h
  refine ⟨N0 + 1, fun n hn => ?_⟩
  obtain ⟨m, rfl⟩ : ∃ m, n = m + 1 := ⟨n - 1, by omega⟩
  rw [e]
  exact h m (by omega)
end
abbrev startsL : List (List UInt8) := [sOpen, sOpenC, sOpenB, sFun, sCase, sReceive, sTry, sMinus, sNot]
def Fst (x : List It) : Prop := ∃ c r, cores x = c :: r ∧ (c.1 < 4 ∨ c.2.2 ∈ startsL)
theorem Fst.next {x : List It} (h : Fst x) (M : List Co) : nx (cores x ++ M) = [] ∨ nx (cores x ++ M) ∈ startsL := by
  obtain ⟨c, r, h, h1⟩ := h
  rw [h]
  show (if c.1 < 4 then [] else c.2.2) = [] ∨ (if c.1 < 4 then [] else c.2.2) ∈ startsL
  split
  · exact .inl rfl
  · exact .inr (h1.resolve_left ‹_›)
theorem Fst.not {x : List It} (h : Fst x) (M : List Co) {e : List UInt8} (he : e ∉ startsL) : nx (cores x ++ M) ≠ e ∨ nx (cores x ++ M) = [] := by
  rcases h.next M with h1 | h1
  · exact .inr h1
  · exact .inl fun h2 => he (h2 ▸ h1)
/-- an expression's items -/
def EI (a : Nd) (x : List It) : Prop := Fst x ∧ ∀ d M, EndE M → Par (fun n => expr n d) (cores x ++ M) a M
def EL (l : List Nd) (ls : List (List It)) : Prop := ls.length = l.length ∧ ∀ i (_ : i < l.length) (_ : i < ls.length), EI l[i] ls[i]
theorem EL.cons_iff {a : Nd} {l : List Nd} {x : List It} {ls : List (List It)} : EL (a :: l) (x :: ls) ↔ EI a x ∧ EL l ls := by
  constructor
  · rintro ⟨h1, h2⟩
    refine ⟨h2 0 (by simp) (by simp), by simpa using h1, fun i h h' => ?_⟩
    have := h2 (i + 1) (by simp; omega) (by simp; omega)
    simpa using this
  · rintro ⟨h1, h2, h3⟩
    refine ⟨by simp [h2], fun i h h' => ?_⟩
    cases i with
    | zero => exact h1
    | succ i => exact h3 i (by simp at h; omega) (by simp at h'; omega)
def EndS (M : List Co) : Prop := EndE M ∧ (nx M ≠ sComma ∨ nx M = [])
theorem EndS.of {k v : Int} {x : List UInt8} {M : List Co} (hx : x ∈ endsL) (h : x ≠ sComma) : EndS ((k, v, x) :: M) := by
  show EndE _ ∧ _
  unfold EndE
  show ((if k < 4 then [] else x) = [] ∨ (if k < 4 then [] else x) ∈ endsL) ∧ ((if k < 4 then [] else x) ≠ sComma ∨ (if k < 4 then [] else x) = [])
  split
  · exact ⟨.inl rfl, .inr rfl⟩
  · exact ⟨.inr hx, .inl h⟩
theorem EndE.of {k v : Int} {x : List UInt8} {M : List Co} (hx : x ∈ endsL) : EndE ((k, v, x) :: M) := by
  unfold EndE
  show (if k < 4 then [] else x) = [] ∨ (if k < 4 then [] else x) ∈ endsL
  split
  · exact .inl rfl
  · exact .inr hx
theorem sep_cons (s x y : List It) (r : List (List It)) : sepI s (x :: y :: r) = x ++ s ++ sepI s (y :: r) := rfl
theorem Fst.app {x : List It} (h : Fst x) (y : List It) : Fst (x ++ y) := by
  obtain ⟨c, r, h, h1⟩ := h
  exact ⟨c, r ++ cores y, by rw [cores_app, h]; rfl, h1⟩
theorem EL.fst {l : List Nd} {ls : List (List It)} (h : EL l ls) (h0 : l ≠ []) (s : List It) : Fst (sepI s ls) := by
  match l, ls, h with
  | [], _, _ => exact absurd rfl h0
  | _ :: _, [], ⟨h1, _⟩ => simp at h1
  | a :: l, [x], h => exact (EL.cons_iff.1 h).1.1
  | a :: l, x :: y :: r, h => rw [sep_cons, List.append_assoc]; exact (EL.cons_iff.1 h).1.1.app _
theorem Par.smL {s : List It} (hs : cores s = [(5, 0, sComma)]) : ∀ (l : List Nd) (ls : List (List It)), EL l ls → l ≠ [] → ∀ (d : Nat) (M : List Co), EndS M → Par (fun n => someL n d) (cores (sepI s ls) ++ M) l M
  | [], _, _, h0, _, _, _ => absurd rfl h0
  | _ :: _, [], ⟨h1, _⟩, _, _, _, _ => by simp at h1
  | [a], [x], h, _, d, M, hM => by
    have hx := (EL.cons_iff.1 h).1.2 d M hM.1
    refine Par.up (q := fun n => bnd (expr n d) fun x => bnd (hasS sComma) fun o => if o then bnd (someL n d) fun l => ret (x :: l) else ret [x]) (fun n => by rw [someL]) ?_
    refine Par.sq hx (Par.hsN hM.2 (Par.rt [a])) fun n x => .bnd (.has _) fun o => ?_
    split
    · exact .bnd ((allG n).someL d) fun l => .ret _
    · exact .ret _
  | [a], x :: y :: r, ⟨h1, _⟩, _, _, _, _ => by simp at h1
  | a :: b :: l, [x], ⟨h1, _⟩, _, _, _, _ => by simp at h1
  | a :: b :: l, x :: y :: r, h, _, d, M, hM => by
    obtain ⟨h1, h2⟩ := EL.cons_iff.1 h
    have ih := Par.smL hs (b :: l) (y :: r) h2 (by simp) d M hM
    rw [sep_cons, cores_app, cores_app, hs, List.append_assoc, List.append_assoc]
    have hx := h1.2 d ((5, 0, sComma) :: (cores (sepI s (y :: r)) ++ M)) (EndE.of (by decide))
    refine Par.up (q := fun n => bnd (expr n d) fun x => bnd (hasS sComma) fun o => if o then bnd (someL n d) fun l => ret (x :: l) else ret [x]) (fun n => by rw [someL]) ?_
    refine Par.sq hx (Par.hsY (by decide) (by decide) (Par.sq ih (Par.rt _) fun n x => .ret _)) fun n x => .bnd (.has _) fun o => ?_
    split
    · exact .bnd ((allG n).someL d) fun l => .ret _
    · exact .ret _
theorem EL.nil {ls : List (List It)} (h : EL [] ls) : ls = [] := List.eq_nil_of_length_eq_zero h.1
theorem Par.until {s : List It} (hs : cores s = [(5, 0, sComma)]) {e : List UInt8} {k v : Int} (hk : ¬ k < 4) (he : e ∈ [sShut, sShutC]) {l : List Nd} {ls : List (List It)} (h : EL l ls) (d : Nat) (M : List Co) : Par (fun n => untilL n e d) (cores (sepI s ls) ++ (k, v, e) :: M) l M := by
  have he0 : e ≠ [] := by rintro rfl; exact absurd he (by decide)
  have hee : e ∈ endsL := by simp at he; rcases he with rfl | rfl <;> decide
  have hes : e ∉ startsL := by simp at he; rcases he with rfl | rfl <;> decide
  have hec : e ≠ sComma := by simp at he; rcases he with rfl | rfl <;> decide
  refine Par.up (q := fun n => bnd (hasS e) fun o => if o then ret [] else bnd (someL n d) fun l => doS (mustS e) (ret l)) (fun n => by rw [untilL]) ?_
  by_cases h0 : l = []
  · subst h0
    have := h.nil
    subst this
    exact Par.hsY hk he0 (Par.rt _)
  · refine Par.hsN ((h.fst h0 s).not _ hes) ?_
    exact Par.sq (Par.smL hs l ls h h0 d ((k, v, e) :: M) (EndS.of hee hec)) (Par.mst hk he0 (Par.rt _)) fun n x => .doS (.must _) (.ret _)
theorem Par.body {g b : List Nd} {gs bs : List (List It)} (hg : EL g gs) (hb : EL b bs) (h0 : b ≠ []) (d : Nat) (M : List Co) (hM : EndS M) : Par (fun n => bodyP n d) (cores (tailI gs bs) ++ M) (g, b) M := by
  refine Par.up (q := fun n => bnd (bnd (hasS sWhen) fun o => if o then someL n d else ret []) fun g => doS (mustS sTo) (bnd (someL n d) fun b => ret (g, b))) (fun n => by rw [bodyP]) ?_
  have h2 : ∀ g : List Nd, Par (fun n => doS (mustS sTo) (bnd (someL n d) fun b => ret (g, b))) ((5, 0, sTo) :: (cores (sepI commaB bs) ++ M)) (g, b) M := fun g =>
    Par.mst (by decide) (by decide) (Par.sq (Par.smL rfl b bs hb h0 d M hM) (Par.rt _) fun n x => .ret _)
  have gd : ∀ (n : Nat) (g : List Nd), Good (doS (mustS sTo) (bnd (someL n d) fun b => ret (g, b))) := fun n g => .doS (.must _) (.bnd ((allG n).someL d) fun b => .ret _)
  unfold tailI
  by_cases hg0 : g = []
  · subst hg0
    have := hg.nil
    subst this
    rw [if_pos rfl, List.nil_append, cores_b, cores_t, cores_b]
    exact Par.sq (Par.hsN (.inl (by show sTo ≠ sWhen; decide)) (Par.rt _)) (h2 []) gd
  · have hgs : gs ≠ [] := by rintro rfl; exact hg0 (List.eq_nil_of_length_eq_zero hg.1.symm)
    rw [if_neg hgs, cores_app, cores_b, cores_t, cores_b, cores_b, cores_t, cores_b, List.cons_append, List.cons_append, List.append_assoc, List.cons_append]
    exact Par.sq (Par.hsY (by decide) (by decide) (Par.smL rfl g gs hg hg0 d _ (EndS.of (by decide) (by decide)))) (h2 g) gd
theorem tail_end {gs bs : List (List It)} (M : List Co) : EndE (cores (tailI gs bs) ++ M) := by
  unfold tailI
  split
  · rw [List.nil_append, cores_b, cores_t]; exact EndE.of (by decide)
  · rw [cores_app, cores_b, cores_t]; exact EndE.of (by decide)
theorem Par.headC {p g b : List Nd} {ps gs bs : List (List It)} (nm : List UInt8) (hp : EL p ps) (hg : EL g gs) (hb : EL b bs) (h0 : b ≠ []) (d : Nat) (M : List Co) (hM : EndS M) :
    Par (fun n => headP n nm d) (cores (sg 40 :: sepI comma ps ++ sg 41 :: tailI gs bs) ++ M) (.mk 0 0 nm p g b) M := by
  refine Par.up (q := fun n => doS (mustS sOpen) (bnd (untilL n sShut d) fun l => bnd (bodyP n d) fun g => ret (.mk 0 0 nm l g.1 g.2))) (fun n => by rw [headP]) ?_
  rw [List.cons_append, cores_t, cores_app, cores_t, List.cons_append, List.append_assoc, List.cons_append]
  exact Par.mst (by decide) (by decide) (Par.sq (Par.until rfl (by decide) (by decide) hp d _) (Par.sq (Par.body hg hb h0 d M hM) (Par.rt _) fun n x => .ret _) fun n x => .bnd ((allG n).bodyP d) fun g => .ret _)
/-- a clause's items -/
def CI (k : Nat) (c : Nd) (x : List It) : Prop := ∀ d M, EndS M → Par (fun n => oneC n k d) (cores x ++ M) c M
theorem CI.arm {p : Nd} {x : List It} {g b : List Nd} {gs bs : List (List It)} (hp : EI p x) (hg : EL g gs) (hb : EL b bs) (h0 : b ≠ []) : CI 0 (.mk 0 0 [] [p] g b) (x ++ tailI gs bs) := fun d M hM => by
  refine Par.up (q := fun n => bnd (expr n d) fun a => bnd (bodyP n d) fun g => ret (.mk 0 0 [] [a] g.1 g.2)) (fun n => by rw [oneC, if_pos rfl]) ?_
  rw [cores_app, List.append_assoc]
  exact Par.sq (hp.2 d _ (tail_end M)) (Par.sq (Par.body hg hb h0 d M hM) (Par.rt _) fun n x => .ret _) fun n x => .bnd ((allG n).bodyP d) fun g => .ret _
theorem CI.head {p g b : List Nd} {ps gs bs : List (List It)} (hp : EL p ps) (hg : EL g gs) (hb : EL b bs) (h0 : b ≠ []) : CI 1 (.mk 0 0 [] p g b) (sg 40 :: sepI comma ps ++ sg 41 :: tailI gs bs) := fun d M hM => by
  refine Par.up (q := fun n => headP n [] d) (fun n => by rw [oneC, if_neg (by decide), if_pos rfl]) ?_
  exact Par.headC [] hp hg hb h0 d M hM
def oneF (n d : Nat) (s : St) : Nd × St := match s.toks with
  | [] => (nd0, failS 110 s)
  | x :: r => if x.1.kind = 2 then headP n x.1.text d { s with toks := r } else (nd0, failS 110 s)
theorem oneF_at {n d : Nat} {s : St} {y : Tk × Nat} {r : List (Tk × Nat)} (hq : s.toks = y :: r) (hk : y.1.kind = 2) : oneF n d s = headP n y.1.text d { s with toks := r } := by
  unfold oneF
  split
  · rename_i h; rw [hq] at h; cases h
  · rename_i h; rw [hq] at h; injection h with h1 h2; subst h1 h2; rw [if_pos hk]
theorem CI.fhead {nm : List UInt8} {p g b : List Nd} {ps gs bs : List (List It)} (hp : EL p ps) (hg : EL g gs) (hb : EL b bs) (h0 : b ≠ []) : CI 2 (.mk 0 0 nm p g b) (.t 2 0 nm :: sg 40 :: sepI comma ps ++ sg 41 :: tailI gs bs) := fun d M hM => by
  refine Par.up (q := fun n => oneF n d) (fun n => by rw [oneC, if_neg (by decide), if_neg (by decide)]; rfl) ?_
  obtain ⟨N, h⟩ := Par.headC nm hp hg hb h0 d M hM
  refine ⟨N, fun n hn s hs => ?_⟩
  rw [List.cons_append, List.cons_append, cores_t, List.cons_append] at hs
  have hs2 := hs.2
  match hq : s.toks with
  | [] => rw [hq] at hs2; simp at hs2
  | y :: r =>
    rw [hq] at hs2
    simp only [List.map_cons, List.cons.injEq] at hs2
    have hk : y.1.kind = 2 := congrArg (·.1) hs2.1
    have ht : y.1.text = nm := congrArg (·.2.2) hs2.1
    show ((oneF n d s).1 = _ ∧ StL M (oneF n d s).2) ∨ (oneF n d s).2.err = 111
    rw [oneF_at hq hk, ht]
    exact h n hn _ ⟨hs.1, hs2.2⟩
def CL (k : Nat) (l : List Nd) (ls : List (List It)) : Prop := ls.length = l.length ∧ ∀ i (_ : i < l.length) (_ : i < ls.length), CI k l[i] ls[i]
theorem CL.cons_iff {k : Nat} {a : Nd} {l : List Nd} {x : List It} {ls : List (List It)} : CL k (a :: l) (x :: ls) ↔ CI k a x ∧ CL k l ls := by
  constructor
  · rintro ⟨h1, h2⟩
    refine ⟨h2 0 (by simp) (by simp), by simpa using h1, fun i h h' => ?_⟩
    have := h2 (i + 1) (by simp; omega) (by simp; omega)
    simpa using this
  · rintro ⟨h1, h2, h3⟩
    refine ⟨by simp [h2], fun i h h' => ?_⟩
    cases i with
    | zero => exact h1
    | succ i => exact h3 i (by simp at h; omega) (by simp at h'; omega)
theorem Par.clauses {k : Nat} : ∀ (l : List Nd) (ls : List (List It)), CL k l ls → l ≠ [] → ∀ (d : Nat) (M : List Co), EndS M → (nx M ≠ sSemi ∨ nx M = []) → Par (fun n => clausesL n k d) (cores (sepI semiB ls) ++ M) l M
  | [], _, _, h0, _, _, _, _ => absurd rfl h0
  | _ :: _, [], ⟨h1, _⟩, _, _, _, _, _ => by simp at h1
  | [a], [x], h, _, d, M, hM, hS => by
    have hx := (CL.cons_iff.1 h).1 d M hM
    refine Par.up (q := fun n => bnd (oneC n k d) fun c => bnd (hasS sSemi) fun o => if o then bnd (clausesL n k d) fun l => ret (c :: l) else ret [c]) (fun n => by rw [clausesL]) ?_
    refine Par.sq hx (Par.hsN hS (Par.rt [a])) fun n x => .bnd (.has _) fun o => ?_
    split
    · exact .bnd ((allG n).clausesL k d) fun l => .ret _
    · exact .ret _
  | [a], x :: y :: r, ⟨h1, _⟩, _, _, _, _, _ => by simp at h1
  | a :: b :: l, [x], ⟨h1, _⟩, _, _, _, _, _ => by simp at h1
  | a :: b :: l, x :: y :: r, h, _, d, M, hM, hS => by
    obtain ⟨h1, h2⟩ := CL.cons_iff.1 h
    have ih := Par.clauses (b :: l) (y :: r) h2 (by simp) d M hM hS
    rw [sep_cons, cores_app, cores_app, show cores semiB = [(5, 0, sSemi)] from rfl, List.append_assoc, List.append_assoc]
    have hx := h1 d ((5, 0, sSemi) :: (cores (sepI semiB (y :: r)) ++ M)) (EndS.of (by decide) (by decide))
    refine Par.up (q := fun n => bnd (oneC n k d) fun c => bnd (hasS sSemi) fun o => if o then bnd (clausesL n k d) fun l => ret (c :: l) else ret [c]) (fun n => by rw [clausesL]) ?_
    refine Par.sq hx (Par.hsY (by decide) (by decide) (Par.sq ih (Par.rt _) fun n x => .ret _)) fun n x => .bnd (.has _) fun o => ?_
    split
    · exact .bnd ((allG n).clausesL k d) fun l => .ret _
    · exact .ret _
end Go.Proofs.YtdmmhfbafinkpaaGreatDoor

/- ParseBack: the plain law: the tokens of a tree's text are parsed to that tree, or nested too deep. -/
namespace Go.Proofs.YtdmmhfbafinkpaaGreatDoor
open Go.Emb

theorem Par.eqv {α : Type} {p q : Nat → P α} {L M : List Co} {a : α} (e : ∀ n, p n = q n) (h : Par q L a M) : Par p L a M := by
  rwa [show p = q from funext e]
section
variable (n d : Nat)
theorem primT_open : primT n d sOpen = bnd (expr n (d + 1)) fun a => doS (mustS sShut) (ret a) := by unfold primT; rw [if_pos rfl]
theorem primT_tuple : primT n d sOpenC = bnd (untilL n sShutC (d + 1)) fun l => ret (Nd.mk 4 0 [] l [] []) := by unfold primT; rw [if_neg (by decide), if_pos rfl]
theorem primT_list : primT n d sOpenB = listP n (d + 1) := by unfold primT; rw [if_neg (by decide), if_neg (by decide), if_pos rfl]
theorem primT_fun : primT n d sFun = bnd (clausesL n 1 (d + 1)) fun l => doS (mustS sEnd) (ret (Nd.mk 13 0 [] [] l [])) := by unfold primT; rw [if_neg (by decide), if_neg (by decide), if_neg (by decide), if_pos rfl]
theorem primT_case : primT n d sCase = bnd (expr n (d + 1)) fun a => doS (mustS sOf) (bnd (clausesL n 0 (d + 1)) fun l => doS (mustS sEnd) (ret (Nd.mk 14 0 [] [a] l []))) := by
  unfold primT; rw [if_neg (by decide), if_neg (by decide), if_neg (by decide), if_neg (by decide), if_pos rfl]
theorem primT_recv : primT n d sReceive = recvP n (d + 1) := by unfold primT; rw [if_neg (by decide), if_neg (by decide), if_neg (by decide), if_neg (by decide), if_neg (by decide), if_pos rfl]
theorem primT_try : primT n d sTry = bnd (someL n (d + 1)) fun b => doS (mustS sCatch) (bnd (clausesL n 0 (d + 1)) fun l => doS (mustS sEnd) (ret (Nd.mk 16 0 [] [] l b))) := by
  unfold primT; rw [if_neg (by decide), if_neg (by decide), if_neg (by decide), if_neg (by decide), if_neg (by decide), if_neg (by decide)]
end
section
variable {L M : List Co} {a : Nd} {d : Nat}
theorem nx_at {k v : Int} {t : List UInt8} (hk : ¬ k < 4) : nx ((k, v, t) :: L) = t := by
  show (if k < 4 then [] else t) = t
  rw [if_neg hk]
theorem leaf_noneC {c : Co} {s : St} (hs : StL (c :: L) s) (h : 4 ≤ c.1) : leafS s = (none, s) := by
  have h2 := hs.2
  unfold leafS
  split
  · rfl
  · rename_i x r hq
    rw [hq] at h2
    simp only [List.map_cons, List.cons.injEq] at h2
    have hk : x.1.kind = c.1 := congrArg (·.1) h2.1
    rw [if_neg (by omega)]
theorem Par.leaf {k n : Int} {x : List UInt8} (h1 : 1 ≤ k) (h3 : k ≤ 3) : Par (fun m => prim m d) ((k, n, x) :: L) (.mk k n x [] [] []) L := by
  refine Par.up (q := fun m => bnd leafS (primL m d)) (fun m => prim_eq m d) ⟨0, fun m _ s hs => ?_⟩
  have h2 := hs.2
  have e : leafS s = (some (.mk k n x [] [] []), { s with toks := s.toks.tail }) := by
    unfold leafS
    split
    · rename_i hq; rw [hq] at h2; simp at h2
    · rename_i y r hq
      rw [hq] at h2
      simp only [List.map_cons, List.cons.injEq] at h2
      have e1 : y.1.kind = k := congrArg (·.1) h2.1
      have e2 : y.1.num = n := congrArg (·.2.1) h2.1
      have e3 : y.1.text = x := congrArg (·.2.2) h2.1
      rw [if_pos (by omega), e1, e2, e3]
      simp [hq]
  show ((primL m d (leafS s).1 (leafS s).2).1 = _ ∧ StL L (primL m d (leafS s).1 (leafS s).2).2) ∨ _
  rw [e]
  exact .inl ⟨rfl, hs.tail⟩
theorem Par.open {k v : Int} {t : List UInt8} (hk : 4 ≤ k) (ht : t ∈ opensL) (h : Par (fun n => primT n d t) L a M) : Par (fun n => prim n d) ((k, v, t) :: L) a M := by
  refine Par.up (q := fun m => bnd leafS (primL m d)) (fun m => prim_eq m d) ?_
  obtain ⟨N, h⟩ := h
  refine ⟨N, fun n hn s hs => ?_⟩
  show ((primL n d (leafS s).1 (leafS s).2).1 = _ ∧ StL M (primL n d (leafS s).1 (leafS s).2).2) ∨ (primL n d (leafS s).1 (leafS s).2).2.err = 111
  rw [leaf_noneC hs hk]
  exact Go1.takeY (f := primO n d) (by omega) ht (by rintro rfl; exact absurd ht (by decide)) (h n hn) s hs
theorem bare_no {c : Co} (hc : c.1 ≠ 2) : ∀ s, StL (c :: L) s → bareS s = false := fun s hs => by
  have h2 := hs.2
  unfold bareS
  split
  · rfl
  · rename_i x r hq
    rw [hq] at h2
    simp only [List.map_cons, List.cons.injEq] at h2
    have hk : x.1.kind = c.1 := congrArg (·.1) h2.1
    simp [hk, hc]
theorem bare_yes {c : Co} (hc : c.1 = 2) : ∀ s, StL (c :: L) s → bareS s = true := fun s hs => by
  have h2 := hs.2
  unfold bareS
  split
  · rename_i hq; rw [hq] at h2; simp at h2
  · rename_i x r hq
    rw [hq] at h2
    simp only [List.map_cons, List.cons.injEq] at h2
    have hk : x.1.kind = c.1 := congrArg (·.1) h2.1
    simp [hk, hc]
end
/-- what is called: its items ahead of what the calls behind it come to -/
def KI (f : Nd) (bare : Bool) (x : List It) : Prop := ∀ d M r K, Par (fun n => callLoop n d bare f) M r K → Par (fun n => call n d) (cores x ++ M) r K
theorem KI.prim {f : Nd} {c : Co} {L : List Co} {x : List It} {bare : Bool} (hx : cores x = c :: L) (hb : c.1 = 2 ↔ bare = true) (h : ∀ d M, Par (fun n => prim n d) (cores x ++ M) f M) : KI f bare x := fun d M r K hl => by
  refine Par.callOf ?_ (h d M) hl
  rw [hx, List.cons_append]
  cases bare
  · exact bare_no (fun hc => by have := hb.1 hc; cases this)
  · exact bare_yes (hb.2 rfl)
/-- an operand's items: a call's, and no sign ahead -/
def OI (a : Nd) (x : List It) : Prop := (∀ M, nx (cores x ++ M) = [] ∨ nx (cores x ++ M) ∈ opensL) ∧ Fst x ∧ ∀ d M, (nx M ≠ sOpen ∨ nx M = []) → Par (fun n => call n d) (cores x ++ M) a M
section
variable {a b : Nd} {x y : List It}
theorem KI.oper {bare : Bool} (h : KI a bare x) (h1 : ∀ M, nx (cores x ++ M) = [] ∨ nx (cores x ++ M) ∈ opensL) (h2 : Fst x) : OI a x := ⟨h1, h2, fun d M hM => h d M a M (Par.callStop hM)⟩
theorem OI.unary (h : OI a x) (d : Nat) (M : List Co) (hM : nx M ≠ sOpen ∨ nx M = []) : Par (fun n => unary n d) (cores x ++ M) a M :=
  Par.unaryN (fun hm => (h.1 M).resolve_right (fun ho => by
    have : ∀ z ∈ opensL, z ∉ [sMinus, sNot] := by decide
    exact this _ ho hm)) (h.2.2 d M hM)
theorem Par.bins {d v : Nat} {L M : List Co} (hv : v ≤ 5) (hM : ∀ u, v ≤ u → nx M ∈ levelsL u → nx M = []) (h : Par (fun n => unary n d) L a M) : Par (fun n => binary n v d) L a M := by
  obtain ⟨j, rfl⟩ : ∃ j, v = 5 - j := ⟨5 - v, by omega⟩
  induction j with
  | zero => exact Par.bin5 h
  | succ j ih =>
    by_cases hj : 5 ≤ j
    · have := ih (by omega) (fun u hu => hM u (by omega))
      rwa [show 5 - (j + 1) = 5 - j by omega]
    · have h1 := ih (by omega) (fun u hu => hM u (by omega))
      refine Par.bin (by omega) ?_ (Par.binStop (hM _ (Nat.le_refl _)))
      rwa [show 5 - (j + 1) + 1 = 5 - j by omega]
theorem EndE.open {M : List Co} (h : EndE M) : nx M ≠ sOpen ∨ nx M = [] := by
  by_cases h0 : nx M = []
  · exact .inr h0
  · exact .inl fun e => by
      have := h.resolve_left h0
      rw [e] at this
      exact absurd this (by decide)
theorem EndE.eqs {M : List Co} (h : EndE M) : nx M ∈ [sEq, sSend] → nx M = [] := h.no (by decide)
theorem OI.expr (h : OI a x) : EI a x := ⟨h.2.1, fun d M hM => Par.exprN (Par.bins (Nat.zero_le 5) (fun u _ => hM.no (levels_end u)) (h.unary d M hM.open)) hM.eqs⟩
theorem EI.brack (h : EI a x) : KI a false (inBr x) := by
  refine KI.prim (c := (5, 0, sOpen)) (L := cores x ++ [(5, 0, sShut)]) (by unfold inBr; rw [List.cons_append, cores_t, cores_app]; rfl) (by decide) fun d M => ?_
  unfold inBr
  rw [List.cons_append, cores_t, cores_app, List.cons_append, List.append_assoc]
  refine Par.open (by decide) (by decide) (Par.eqv (fun n => primT_open n d) ?_)
  refine Par.sq (p := fun n => expr n (d + 1)) (f := fun _ a => doS (mustS sShut) (ret a)) (h.2 (d + 1) _ ?_) ?_ ?_
  · exact EndE.of (by decide)
  · exact Par.mst (by decide) (by decide) (Par.rt _)
  · exact fun n x => .doS (.must _) (.ret _)
theorem Fst.brack (x : List It) : Fst (inBr x) := ⟨(5, 0, sOpen), _, by unfold inBr; rw [List.cons_append, cores_t], .inr (by decide)⟩
theorem inBr_nx (x : List It) (M : List Co) : nx (cores (inBr x) ++ M) = [] ∨ nx (cores (inBr x) ++ M) ∈ opensL := by
  unfold inBr; rw [List.cons_append, cores_t]; exact .inr (by show sOpen ∈ opensL; decide)
theorem EI.oper (h : EI a x) (h1 : ¬ opK a → OI a x) : OI a (operI a x) := by
  unfold operI
  split
  · exact h.brack.oper (inBr_nx x) (Fst.brack x)
  · exact h1 ‹_›
end
/-- what stands behind an element of a list -/
def TI (t : Nd) (r : List It) : Prop := ∃ (l : List Nd) (ls : List (List It)), EL l ls ∧ ((t = consL l nilN ∧ r = ls.flatMap (fun x => sg 44 :: x) ++ [sg 93]) ∨ ∃ (e : Nd) (y : List It), EI e y ∧ t = consL l e ∧ r = ls.flatMap (fun x => sg 44 :: x) ++ (sg 124 :: y ++ [sg 93]))
theorem sep_flat (x : List It) (ls : List (List It)) : x ++ ls.flatMap (fun x => sg 44 :: x) = sepI comma (x :: ls) := by
  induction ls generalizing x with
  | nil => simp [sepI]
  | cons y r ih => rw [sep_cons, ← ih y]; simp
theorem Par.list {l : List Nd} {ls : List (List It)} (h : EL l ls) (h0 : l ≠ []) (d : Nat) (M : List Co) : Par (fun n => listP n d) (cores (sepI comma ls) ++ (5, 0, sShutB) :: M) (consL l nilN) M := by
  refine Par.up (q := fun n => bnd (hasS sShutB) fun o => if o then ret nilN else bnd (someL n d) fun l => bnd (bnd (hasS sBar) fun o => if o then expr n d else ret nilN) fun t => doS (mustS sShutB) (ret (consL l t))) (fun n => by rw [listP]) ?_
  refine Par.hsN ((h.fst h0 comma).not _ (by decide)) ?_
  refine Par.sq (p := fun n => someL n d) (Par.smL rfl l ls h h0 d ((5, 0, sShutB) :: M) (EndS.of (by decide) (by decide))) ?_ ?_
  · refine Par.sq (a := nilN) (M := (5, 0, sShutB) :: M) (Par.hsN (.inl (by show sShutB ≠ sBar; decide)) (Par.rt _)) (Par.mst (by decide) (by decide) (Par.rt _)) fun n x => .doS (.must _) (.ret _)
  · refine fun n x => .bnd (.bnd (.has _) fun o => ?_) fun t => .doS (.must _) (.ret _)
    split
    · exact (allG n).expr d
    · exact .ret _
theorem Par.listBar {l : List Nd} {ls : List (List It)} (h : EL l ls) (h0 : l ≠ []) {e : Nd} {y : List It} (he : EI e y) (d : Nat) (M : List Co) : Par (fun n => listP n d) (cores (sepI comma ls) ++ (5, 0, sBar) :: (cores y ++ (5, 0, sShutB) :: M)) (consL l e) M := by
  refine Par.up (q := fun n => bnd (hasS sShutB) fun o => if o then ret nilN else bnd (someL n d) fun l => bnd (bnd (hasS sBar) fun o => if o then expr n d else ret nilN) fun t => doS (mustS sShutB) (ret (consL l t))) (fun n => by rw [listP]) ?_
  refine Par.hsN ((h.fst h0 comma).not _ (by decide)) ?_
  refine Par.sq (p := fun n => someL n d) (Par.smL rfl l ls h h0 d _ (EndS.of (by decide) (by decide))) ?_ ?_
  · refine Par.sq (a := e) (M := (5, 0, sShutB) :: M) (Par.hsY (by decide) (by decide) (he.2 d _ (EndE.of (by decide)))) (Par.mst (by decide) (by decide) (Par.rt _)) fun n x => .doS (.must _) (.ret _)
  · refine fun n x => .bnd (.bnd (.has _) fun o => ?_) fun t => .doS (.must _) (.ret _)
    split
    · exact (allG n).expr d
    · exact .ret _
/-- the claims, by the kinds of Pr -/
def Claim : Nat → Nd → List It → Prop
  | 0, a, x => EI a x ∧ (¬ opK a → OI a x) ∧ (callK a → KI a false x)
  | 1, a, x => CI 0 a x ∧ Fst x
  | 2, a, x => CI 1 a x
  | 3, a, x => CI 2 a x
  | _, a, x => TI a x
theorem Claim.of {a : Nd} {x : List It} (h : OI a x) (hk : callK a → KI a false x) : Claim 0 a x := ⟨h.expr, fun _ => h, hk⟩
theorem Claim.prim {a : Nd} {x : List It} {k v : Int} {t : List UInt8} {L : List Co} (hx : cores x = (k, v, t) :: L) (hk : 4 ≤ k) (ht : t ∈ opensL) (hc : ¬ callK a) (h : ∀ d M, Par (fun n => primT n d t) (L ++ M) a M) : Claim 0 a x := by
  refine Claim.of (KI.oper (bare := false) (KI.prim (c := (k, v, t)) (L := L) hx ⟨fun h => by simp only at h; omega, fun h => by cases h⟩ fun d M => ?_) (fun M => ?_) ⟨_, _, hx, .inr ?_⟩) (fun h => absurd h hc)
  · rw [hx, List.cons_append]; exact Par.open hk ht (h d M)
  · rw [hx, List.cons_append]
    right
    show (if k < 4 then [] else t) ∈ opensL
    rw [if_neg (by omega)]; exact ht
  · have : ∀ z ∈ opensL, z ∈ startsL := by decide
    exact this _ ht
theorem levels_apart : ∀ u, u < 5 → ∀ t ∈ levelsL u, ∀ w, u < w → t ∉ levelsL w := by
  intro u hu t ht w hw
  by_cases h5 : 5 ≤ w
  · obtain ⟨j, rfl⟩ : ∃ j, w = j + 5 := ⟨w - 5, by omega⟩
    simp [levelsL]
  · have : ∀ u w : Fin 5, u.1 < w.1 → ∀ t ∈ levelsL u.1, t ∉ levelsL w.1 := by decide
    exact this ⟨u, hu⟩ ⟨w, by omega⟩ hw t ht
theorem levels_ne : ∀ u, u < 5 → ∀ t ∈ levelsL u, t ≠ [] ∧ t ≠ sOpen ∧ t ∉ [sEq, sSend] := by decide
theorem levels_ends (u : Nat) {M : List Co} (h : EndE M) : nx M ∈ levelsL u → nx M = [] := h.no (levels_end u)
theorem Par.down {a r : Nd} {d u : Nat} {L M K : List Co} (hu : u ≤ 5) (h : Par (fun n => binary n u d) L r K) (hK : ∀ w, w < u → nx K ∈ levelsL w → nx K = []) : Par (fun n => binary n 0 d) L r K := by
  induction u with
  | zero => exact h
  | succ u ih => exact ih (by omega) (Par.bin (by omega) h (Par.binStop (hK u (by omega)))) fun w hw => hK w (by omega)
theorem claim_op {k v : Int} {u : Nat} {t : List UInt8} {a b : Nd} {x y : List It} (hu : u < 5) (ht : t ∈ levelsL u) (h4 : 4 ≤ k) (ha : Claim 0 a x) (hb : Claim 0 b y) : Claim 0 (.mk 9 0 t [a, b] [] []) (operI a x ++ sp :: .t k v t :: sp :: operI b y) := by
  have oa := ha.1.oper ha.2.1
  have ob := hb.1.oper hb.2.1
  obtain ⟨h0, h1, h2⟩ := levels_ne u hu t ht
  refine ⟨⟨oa.2.1.app _, fun d M hM => ?_⟩, fun h => absurd (.inl rfl) h, fun h => by rcases h with h | h | h <;> exact absurd h (by simp [Nd.kind])⟩
  rw [cores_app, cores_b, cores_t, cores_b, List.append_assoc, List.cons_append]
  have hn : nx ((k, v, t) :: (cores (operI b y) ++ M)) = t := by show (if k < 4 then [] else t) = t; rw [if_neg (by omega)]
  have p1 : Par (fun n => binary n (u + 1) d) (cores (operI a x) ++ (k, v, t) :: (cores (operI b y) ++ M)) a ((k, v, t) :: (cores (operI b y) ++ M)) := by
    refine Par.bins (by omega) (fun w hw hm => ?_) (oa.unary d _ (.inl (by rw [hn]; exact h1)))
    rw [hn] at hm
    exact absurd hm (levels_apart u hu t ht w (by omega))
  have p2 : Par (fun n => binary n (u + 1) d) (cores (operI b y) ++ M) b M := Par.bins (by omega) (fun w _ => levels_ends w hM) (ob.unary d _ hM.open)
  exact Par.exprN (Par.down (a := a) (M := M) (u := u) (by omega) (Par.bin (by omega) p1 (Par.binGo (by omega) ht h0 p2 (levels_ends u hM))) fun w _ => levels_ends w hM) hM.eqs
theorem claim_un {k v : Int} {t : List UInt8} {a : Nd} {x : List It} (ht : t ∈ [sMinus, sNot]) (h4 : 4 ≤ k) (ha : Claim 0 a x) : Claim 0 (.mk 10 0 t [a] [] []) (.t k v t :: sp :: operI a x) := by
  have oa := ha.1.oper ha.2.1
  refine ⟨⟨⟨_, _, cores_t _ _ _ _, .inr ?_⟩, fun d M hM => ?_⟩, fun h => absurd (.inr (.inl rfl)) h, fun h => by rcases h with h | h | h <;> exact absurd h (by simp [Nd.kind])⟩
  · have : ∀ z ∈ [sMinus, sNot], z ∈ startsL := by decide
    exact this _ ht
  · rw [cores_t, cores_b, List.cons_append]
    exact Par.exprN (Par.bins (Nat.zero_le 5) (fun u _ => levels_ends u hM) (Par.unaryY (by omega) ht (by rintro rfl; exact absurd ht (by decide)) (oa.unary (d + 1) M hM.open))) hM.eqs
theorem claim_eq {c : UInt8} {a b : Nd} {x y : List It} (hc : [c] ∈ [sEq, sSend]) (ha : Claim 0 a x) (hb : Claim 0 b y) : EI (.mk (if [c] = sSend then 12 else 11) 0 [] [a, b] [] []) (operI a x ++ sp :: sg c :: sp :: operI b y) := by
  have oa := ha.1.oper ha.2.1
  have ob := hb.1.oper hb.2.1
  refine ⟨oa.2.1.app _, fun d M hM => ?_⟩
  rw [cores_app, cores_b, cores_t, cores_b, List.append_assoc, List.cons_append]
  have h1 : ∀ u, [c] ∉ levelsL u := by
    intro u
    simp at hc
    rcases hc with rfl | rfl
    · match u with
      | 0 => decide
      | 1 => decide
      | 2 => decide
      | 3 => decide
      | 4 => decide
      | _ + 5 => simp [levelsL]
    · match u with
      | 0 => decide
      | 1 => decide
      | 2 => decide
      | 3 => decide
      | 4 => decide
      | _ + 5 => simp [levelsL]
  refine Par.exprY (by decide) hc (Par.bins (Nat.zero_le 5) (fun u _ hm => by rw [nx_at (by decide)] at hm; exact absurd hm (h1 u)) (oa.unary d _ (.inl ?_))) (ob.expr.2 (d + 1) M hM)
  show [c] ≠ sOpen
  simp at hc
  rcases hc with rfl | rfl <;> decide
theorem sep_fst {l : List Nd} {ls : List (List It)} (hl : ls.length = l.length) (h : ∀ i (h : i < l.length) (h' : i < ls.length), Claim 0 l[i] ls[i]) : EL l ls := ⟨hl, fun i h1 h2 => (h i h1 h2).1⟩
theorem cl_of {k : Nat} {j : Nat} (hc : ∀ a x, Claim j a x → CI k a x) {l : List Nd} {ls : List (List It)} (hl : ls.length = l.length) (h : ∀ i (h : i < l.length) (h' : i < ls.length), Claim j l[i] ls[i]) : CL k l ls := ⟨hl, fun i h1 h2 => hc _ _ (h i h1 h2)⟩
theorem ls_ne {l : List Nd} {ls : List (List It)} (hl : ls.length = l.length) (h : l ≠ []) : ls ≠ [] := by rintro rfl; exact h (List.eq_nil_of_length_eq_zero hl.symm)
/-- (the calls behind what is called) -/
theorem call_more {f r : Nd} {bare : Bool} {x : List It} (hf : KI f bare x) {l : List Nd} {ls : List (List It)} (hl : EL l ls) (hr : r = if bare then .mk 7 0 f.name l [] [] else .mk 8 0 [] (f :: l) [] []) : KI r false (x ++ sg 40 :: sepI comma ls ++ [sg 41]) := fun d M r' K h => by
  subst hr
  rw [List.append_assoc, cores_app, List.cons_append, cores_t, cores_app, cores_t, List.append_assoc, List.cons_append, List.append_assoc, List.cons_append]
  exact hf d _ r' K (Par.callGo (by decide) (Par.until rfl (by decide) (by decide) hl (d + 1) M) h)
theorem sepI_fst : ∀ (ls : List (List It)), (∀ i (h : i < ls.length), Fst ls[i]) → ls ≠ [] → ∀ s, Fst (sepI s ls)
  | [], _, h0, _ => absurd rfl h0
  | [x], h, _, _ => h 0 (by simp)
  | x :: y :: r, h, _, s => by rw [sep_cons, List.append_assoc]; exact Fst.app (h 0 (by simp)) _
theorem arms_fst {l : List Nd} {ls : List (List It)} (hl : ls.length = l.length) (h : ∀ i (h : i < l.length) (h' : i < ls.length), Claim 1 l[i] ls[i]) (h0 : ls ≠ []) (s : List It) : Fst (sepI s ls) := sepI_fst ls (fun i hi => (h i (by omega) hi).2) h0 s
def recvF (n d : Nat) (s : St) : List Nd × St := if nextS s ≠ sAfter then clausesL n 0 d s else ([], s)
theorem recvF_good (n d : Nat) : Good (recvF n d) := fun s => by
  unfold recvF
  split
  · exact (allG n).clausesL 0 d s
  · exact ⟨Nat.le_refl _, fun _ => rfl⟩
def recvT (n d : Nat) (l : List Nd) : P Nd := bnd (hasS sAfter) fun o =>
    if o then bnd (expr n d) fun a => doS (mustS sTo) (bnd (someL n d) fun b => doS (mustS sEnd) (ret (.mk 15 0 [] [a] l b)))
    else doS (mustS sEnd) (ret (.mk 15 0 [] [] l []))
theorem recvT_good (n d : Nat) (l : List Nd) : Good (recvT n d l) := by
  unfold recvT
  refine .bnd (.has _) fun o => ?_
  split
  · exact .bnd ((allG n).expr d) fun a => .doS (.must _) (.bnd ((allG n).someL d) fun b => .doS (.must _) (.ret _))
  · exact .doS (.must _) (.ret _)
theorem recv_eq (n d : Nat) : recvP (n + 1) d = bnd (recvF n d) (recvT n d) := by rw [recvP]; rfl
theorem Par.recvN {l : List Nd} {ls : List (List It)} (hl : CL 0 l ls) (hf : Fst (sepI semiB ls)) (h0 : l ≠ []) (d : Nat) (M : List Co) (hM : EndS M) (hS : nx M ≠ sSemi ∨ nx M = []) : Par (fun n => recvF n d) (cores (sepI semiB ls) ++ M) l M := by
  obtain ⟨N, h⟩ := Par.clauses l ls hl h0 d M hM hS
  refine ⟨N, fun n hn s hs => ?_⟩
  show ((recvF n d s).1 = _ ∧ StL M (recvF n d s).2) ∨ (recvF n d s).2.err = 111
  unfold recvF
  rw [if_pos (by
    rw [hs.next]
    rcases hf.not M (e := sAfter) (by decide) with h | h
    · exact h
    · rw [h]; decide)]
  exact h n hn s hs
theorem Par.recvA {v : Int} (d : Nat) (L : List Co) : Par (fun n => recvF n d) ((4, v, sAfter) :: L) [] ((4, v, sAfter) :: L) := by
  refine ⟨0, fun n hn s hs => ?_⟩
  show ((recvF n d s).1 = _ ∧ StL _ (recvF n d s).2) ∨ (recvF n d s).2.err = 111
  unfold recvF
  rw [if_neg (by rw [hs.next, nx_at (by decide)]; simp)]
  exact .inl ⟨rfl, hs⟩
theorem claim_all {j : Nat} {a : Nd} {x : List It} (h : Pr j a x) : Claim j a x := by
  induction h with
  | @leaf k n x h h3 =>
    have h1 : 1 ≤ k := by
      rcases h with ⟨h, -⟩ | ⟨-, ⟨h, -⟩ | ⟨h, -⟩ | ⟨h, -⟩ | ⟨h, -⟩⟩ <;> simp only at h <;> omega
    have hx : cores [It.t k n x] = (k, n, x) :: [] := rfl
    have hp : ∀ d M, Par (fun m => prim m d) (cores [It.t k n x] ++ M) (Nd.mk k n x [] [] []) M := fun d M => Par.leaf h1 h3
    have ho : ∀ bare, KI (Nd.mk k n x [] [] []) bare [It.t k n x] → OI (Nd.mk k n x [] [] []) [It.t k n x] := fun bare h => h.oper (fun M => .inl (by show (if k < 4 then [] else x) = []; rw [if_pos (by omega)])) ⟨_, _, hx, .inl (by show k < 4; omega)⟩
    by_cases h2 : k = 2
    · subst h2
      exact Claim.of (ho true (KI.prim hx (by simp) hp)) (fun hc => by rcases hc with hc | hc | hc <;> exact absurd hc (by simp [Nd.kind]))
    · have hk := KI.prim (bare := false) hx (by simp [h2]) hp
      exact Claim.of (ho false hk) fun _ => hk
  | @tuple l ls hl h ih =>
    refine Claim.prim (k := 5) (v := 0) (t := sOpenC) (L := cores (sepI comma ls) ++ [(5, 0, sShutC)]) (by rw [List.cons_append, cores_t, cores_app]; rfl) (by decide) (by decide) (by simp [callK, Nd.kind]) fun d M => ?_
    rw [List.append_assoc]
    refine Par.eqv (fun n => primT_tuple n d) ?_
    refine Par.sq (p := fun n => untilL n sShutC (d + 1)) (f := fun _ l => ret (Nd.mk 4 0 [] l [] [])) (Par.until rfl (by decide) (by decide) (sep_fst hl ih) (d + 1) M) (Par.rt _) fun n x => .ret _
  | nil =>
    refine Claim.prim (k := 5) (v := 0) (t := sOpenB) (L := [(5, 0, sShutB)]) rfl (by decide) (by decide) (by simp [callK, Nd.kind]) fun d M => ?_
    refine Par.eqv (fun n => primT_list n d) ?_
    refine Par.up (q := fun n => bnd (hasS sShutB) fun o => if o then ret nilN else bnd (someL n (d + 1)) fun l => bnd (bnd (hasS sBar) fun o => if o then expr n (d + 1) else ret nilN) fun t => doS (mustS sShutB) (ret (consL l t))) (fun n => by rw [listP]) ?_
    exact Par.hsY (by decide) (by decide) (Par.rt _)
  | @cons a t x r ha ht iha iht =>
    obtain ⟨l, ls, hl, ⟨rfl, rfl⟩ | ⟨e, y, he, rfl, rfl⟩⟩ := iht
    · have h2 : EL (a :: l) (x :: ls) := EL.cons_iff.2 ⟨iha.1, hl⟩
      refine Claim.prim (k := 5) (v := 0) (t := sOpenB) (L := cores (sepI comma (x :: ls)) ++ [(5, 0, sShutB)]) (by rw [List.cons_append, cores_t, ← List.append_assoc, sep_flat, cores_app]; rfl) (by decide) (by decide) (by simp [callK, Nd.kind]) fun d M => ?_
      rw [List.append_assoc]
      refine Par.eqv (fun n => primT_list n d) ?_
      exact Par.list h2 (by simp) (d + 1) M
    · have h2 : EL (a :: l) (x :: ls) := EL.cons_iff.2 ⟨iha.1, hl⟩
      refine Claim.prim (k := 5) (v := 0) (t := sOpenB) (L := cores (sepI comma (x :: ls)) ++ (5, 0, sBar) :: (cores y ++ [(5, 0, sShutB)])) (by rw [List.cons_append, cores_t, ← List.append_assoc, sep_flat, cores_app, List.cons_append, cores_t, cores_app]; rfl) (by decide) (by decide) (by simp [callK, Nd.kind]) fun d M => ?_
      rw [List.append_assoc, List.cons_append, List.append_assoc]
      refine Par.eqv (fun n => primT_list n d) ?_
      exact Par.listBar h2 (by simp) he (d + 1) M
  | rest_nil => exact ⟨[], [], ⟨rfl, fun i h => by simp at h⟩, .inl ⟨rfl, rfl⟩⟩
  | @rest_cons a t x r ha ht iha iht =>
    obtain ⟨l, ls, hl, ⟨rfl, rfl⟩ | ⟨e, y, he, rfl, rfl⟩⟩ := iht
    · exact ⟨a :: l, x :: ls, EL.cons_iff.2 ⟨iha.1, hl⟩, .inl ⟨rfl, by simp⟩⟩
    · exact ⟨a :: l, x :: ls, EL.cons_iff.2 ⟨iha.1, hl⟩, .inr ⟨e, y, he, rfl, by simp⟩⟩
  | @rest_bar t x ht h5 h6 iht => exact ⟨[], [], ⟨rfl, fun i h => by simp at h⟩, .inr ⟨t, x, iht.1, rfl, by simp⟩⟩
  | @call nm l ls hn hl h ih =>
    have hk : KI (Nd.mk 2 0 nm [] [] []) true [It.t 2 0 nm] := KI.prim (c := (2, 0, nm)) (L := []) rfl (by simp) fun d M => Par.leaf (by decide) (by decide)
    have h2 := call_more hk (sep_fst hl ih) (r := .mk 7 0 nm l [] []) rfl
    exact Claim.of (h2.oper (fun M => .inl rfl) ⟨_, _, cores_t _ _ _ _, .inl (show (2 : Int) < 4 by decide)⟩) fun _ => h2
  | @apply f x l ls hf hl h ihf ih =>
    have hk : KI f false (callI f x) ∧ (∀ M, nx (cores (callI f x) ++ M) = [] ∨ nx (cores (callI f x) ++ M) ∈ opensL) ∧ Fst (callI f x) := by
      unfold callI
      split
      · rename_i hc
        have h0 : ¬ opK f := by unfold opK; rcases hc with hc | hc | hc <;> rw [hc] <;> decide
        exact ⟨ihf.2.2 hc, (ihf.2.1 h0).1, (ihf.2.1 h0).2.1⟩
      · exact ⟨ihf.1.brack, inBr_nx x, Fst.brack x⟩
    have h2 := call_more hk.1 (sep_fst hl ih) (r := .mk 8 0 [] (f :: l) [] []) rfl
    refine Claim.of (h2.oper (fun M => ?_) ?_) fun _ => h2
    · rw [List.append_assoc, cores_app, List.append_assoc]; exact hk.2.1 _
    · rw [List.append_assoc]; exact hk.2.2.app _
  | op hu ht hk h4 ha hb iha ihb => exact claim_op hu ht h4 iha ihb
  | un ht hk h4 ha iha => exact claim_un ht h4 iha
  | mat ha hb iha ihb => exact ⟨claim_eq (c := 61) (by decide) iha ihb, fun h => absurd (.inr (.inr (.inl rfl))) h, fun h => by rcases h with h | h | h <;> exact absurd h (by simp [Nd.kind])⟩
  | send ha hb iha ihb => exact ⟨claim_eq (c := 33) (by decide) iha ihb, fun h => absurd (.inr (.inr (.inr rfl))) h, fun h => by rcases h with h | h | h <;> exact absurd h (by simp [Nd.kind])⟩
  | @fn l ls h0 hl h ih =>
    refine Claim.prim (k := 4) (v := 0) (t := sFun) (L := cores (sepI semiB ls) ++ [(4, 0, sEnd)]) (by rw [List.cons_append, cores_t, cores_app]; rfl) (by decide) (by decide) (by simp [callK, Nd.kind]) fun d M => ?_
    rw [List.append_assoc]
    refine Par.eqv (fun n => primT_fun n d) ?_
    refine Par.sq (p := fun n => clausesL n 1 (d + 1)) (f := fun _ l => doS (mustS sEnd) (ret (Nd.mk 13 0 [] [] l []))) (Par.clauses l ls (cl_of (j := 2) (fun _ _ h => h) hl ih) h0 (d + 1) _ (EndS.of (by decide) (by decide)) (.inl (by show sEnd ≠ sSemi; decide))) (Par.mst (by decide) (by decide) (Par.rt _)) fun n x => .doS (.must _) (.ret _)
  | @case a x l ls ha h0 hl h iha ih =>
    refine Claim.prim (k := 4) (v := 0) (t := sCase) (L := cores x ++ (4, 0, sOf) :: (cores (sepI semiB ls) ++ [(4, 0, sEnd)])) (by simp [cores_t, cores_b, cores_app, cores_nil]) (by decide) (by decide) (by simp [callK, Nd.kind]) fun d M => ?_
    rw [List.append_assoc, List.cons_append, List.append_assoc]
    refine Par.eqv (fun n => primT_case n d) ?_
    refine Par.sq (p := fun n => expr n (d + 1)) (f := fun n a => doS (mustS sOf) (bnd (clausesL n 0 (d + 1)) fun l => doS (mustS sEnd) (ret (Nd.mk 14 0 [] [a] l [])))) (iha.1.2 (d + 1) _ (EndE.of (by decide))) (Par.mst (by decide) (by decide) ?_) fun n x => .doS (.must _) (.bnd ((allG n).clausesL _ _) fun l => .doS (.must _) (.ret _))
    exact Par.sq (p := fun n => clausesL n 0 (d + 1)) (f := fun _ l => doS (mustS sEnd) (ret (Nd.mk 14 0 [] [a] l []))) (Par.clauses l ls (cl_of (j := 1) (fun _ _ h => h.1) hl ih) h0 (d + 1) _ (EndS.of (by decide) (by decide)) (.inl (by show sEnd ≠ sSemi; decide))) (Par.mst (by decide) (by decide) (Par.rt _)) fun n x => .doS (.must _) (.ret _)
  | @tr b l bs ls hb0 hbl hb h0 hl h ihb ih =>
    refine Claim.prim (k := 4) (v := 0) (t := sTry) (L := cores (sepI commaB bs) ++ (4, 0, sCatch) :: (cores (sepI semiB ls) ++ [(4, 0, sEnd)])) (by simp [cores_t, cores_b, cores_app, cores_nil]) (by decide) (by decide) (by simp [callK, Nd.kind]) fun d M => ?_
    rw [List.append_assoc, List.cons_append, List.append_assoc]
    refine Par.eqv (fun n => primT_try n d) ?_
    refine Par.sq (p := fun n => someL n (d + 1)) (f := fun n b => doS (mustS sCatch) (bnd (clausesL n 0 (d + 1)) fun l => doS (mustS sEnd) (ret (Nd.mk 16 0 [] [] l b)))) (Par.smL rfl b bs (sep_fst hbl ihb) hb0 (d + 1) _ (EndS.of (by decide) (by decide))) (Par.mst (by decide) (by decide) ?_) fun n x => .doS (.must _) (.bnd ((allG n).clausesL _ _) fun l => .doS (.must _) (.ret _))
    exact Par.sq (p := fun n => clausesL n 0 (d + 1)) (f := fun _ l => doS (mustS sEnd) (ret (Nd.mk 16 0 [] [] l b))) (Par.clauses l ls (cl_of (j := 1) (fun _ _ h => h.1) hl ih) h0 (d + 1) _ (EndS.of (by decide) (by decide)) (.inl (by show sEnd ≠ sSemi; decide))) (Par.mst (by decide) (by decide) (Par.rt _)) fun n x => .doS (.must _) (.ret _)
  | @recv l ls h0 hl h ih =>
    refine Claim.prim (k := 4) (v := 0) (t := sReceive) (L := cores (sepI semiB ls) ++ [(4, 0, sEnd)]) (by simp [cores_t, cores_b, cores_app, cores_nil]) (by decide) (by decide) (by simp [callK, Nd.kind]) fun d M => ?_
    refine Par.eqv (fun n => primT_recv n d) (Par.up (fun n => recv_eq n (d + 1)) ?_)
    rw [List.append_assoc]
    refine Par.sq (f := fun n => recvT n (d + 1)) (Par.recvN (cl_of (j := 1) (fun _ _ h => h.1) hl ih) (arms_fst hl ih (ls_ne hl h0) _) h0 (d + 1) _ (EndS.of (by decide) (by decide)) (.inl (by show sEnd ≠ sSemi; decide))) ?_ fun n l => recvT_good n _ l
    exact Par.hsN (.inl (by show sEnd ≠ sAfter; decide)) (Par.mst (by decide) (by decide) (Par.rt _))
  | @recvA l b ls bs a x hl h ha hb0 hbl hb ih iha ihb =>
    have hT : ∀ (d : Nat) (M : List Co) (l : List Nd), Par (fun n => recvT n d l) ((4, 0, sAfter) :: (cores x ++ (5, 0, sTo) :: (cores (sepI commaB bs) ++ (4, 0, sEnd) :: M))) (.mk 15 0 [] [a] l b) M := fun d M l => by
      refine Par.hsY (by decide) (by decide) ?_
      refine Par.sq (p := fun n => expr n d) (f := fun n a => doS (mustS sTo) (bnd (someL n d) fun b => doS (mustS sEnd) (ret (Nd.mk 15 0 [] [a] l b)))) (iha.1.2 d _ (EndE.of (by decide))) (Par.mst (by decide) (by decide) ?_) fun n x => .doS (.must _) (.bnd ((allG n).someL _) fun l => .doS (.must _) (.ret _))
      exact Par.sq (p := fun n => someL n d) (f := fun _ b => doS (mustS sEnd) (ret (Nd.mk 15 0 [] [a] l b))) (Par.smL rfl b bs (sep_fst hbl ihb) hb0 d _ (EndS.of (by decide) (by decide))) (Par.mst (by decide) (by decide) (Par.rt _)) fun n x => .doS (.must _) (.ret _)
    by_cases h0 : l = []
    · subst h0
      have hls : ls = [] := List.eq_nil_of_length_eq_zero hl
      subst hls
      refine Claim.prim (k := 4) (v := 0) (t := sReceive) (L := (4, 0, sAfter) :: (cores x ++ (5, 0, sTo) :: (cores (sepI commaB bs) ++ [(4, 0, sEnd)]))) (by simp [cores_t, cores_b, cores_app, cores_nil]) (by decide) (by decide) (by simp [callK, Nd.kind]) fun d M => ?_
      refine Par.eqv (fun n => primT_recv n d) (Par.up (fun n => recv_eq n (d + 1)) ?_)
      rw [List.cons_append, List.append_assoc, List.cons_append, List.append_assoc]
      exact Par.sq (f := fun n => recvT n (d + 1)) (Par.recvA (d + 1) _) (hT (d + 1) M []) fun n l => recvT_good n _ l
    · have hls := ls_ne hl h0
      refine Claim.prim (k := 4) (v := 0) (t := sReceive) (L := cores (sepI semiB ls) ++ (4, 0, sAfter) :: (cores x ++ (5, 0, sTo) :: (cores (sepI commaB bs) ++ [(4, 0, sEnd)]))) (by simp [cores_t, cores_b, cores_app, cores_nil, hls]) (by decide) (by decide) (by simp [callK, Nd.kind]) fun d M => ?_
      refine Par.eqv (fun n => primT_recv n d) (Par.up (fun n => recv_eq n (d + 1)) ?_)
      rw [List.append_assoc, List.cons_append, List.append_assoc, List.cons_append, List.append_assoc]
      exact Par.sq (f := fun n => recvT n (d + 1)) (Par.recvN (cl_of (j := 1) (fun _ _ h => h.1) hl ih) (arms_fst hl ih hls _) h0 (d + 1) _ (EndS.of (by decide) (by decide)) (.inl (by show sAfter ≠ sSemi; decide))) (hT (d + 1) M l) fun n l => recvT_good n _ l
  | arm hp hgl hg hb0 hbl hb ihp ihg ihb => exact ⟨CI.arm ihp.1 (sep_fst hgl ihg) (sep_fst hbl ihb) hb0, ihp.1.1.app _⟩
  | head hpl hp hgl hg hb0 hbl hb ihp ihg ihb => exact CI.head (sep_fst hpl ihp) (sep_fst hgl ihg) (sep_fst hbl ihb) hb0
  | fhead hn hpl hp hgl hg hb0 hbl hb ihp ihg ihb => exact CI.fhead (sep_fst hpl ihp) (sep_fst hgl ihg) (sep_fst hbl ihb) hb0
end Go.Proofs.YtdmmhfbafinkpaaGreatDoor

/- ParseBack: the plain law: programs. -/
namespace Go.Proofs.YtdmmhfbafinkpaaGreatDoor
open Go.Emb

/-- a function's items -/
def funI (cs : List (List It)) : List It := sepI semiB cs ++ [sg 46, .b 10]
inductive PrF : List Nd → List It → Prop
  | mk {l : List Nd} {ls : List (List It)} (h0 : l ≠ []) (hl : ls.length = l.length) (h : ∀ i (h : i < l.length) (h' : i < ls.length), Pr 3 l[i] ls[i]) : PrF l (funI ls)
theorem PrF.par {l : List Nd} {x : List It} (h : PrF l x) (M : List Co) : Par (fun n => funP n) (cores x ++ M) l M := by
  cases h with
  | @mk ls h0 hl h =>
    unfold funI
    rw [cores_app, List.append_assoc]
    refine Par.sq (p := fun n => clausesL n 2 0) (f := fun _ l => doS (mustS sDot) (ret l)) (Par.clauses l ls (cl_of (j := 3) (fun _ _ h => h) hl fun i h1 h2 => claim_all (h i h1 h2)) h0 0 _ (EndS.of (by decide) (by decide)) (.inl (by show sDot ≠ sSemi; decide))) (Par.mst (by decide) (by decide) (Par.rt _)) fun n x => .doS (.must _) (.ret _)
def PrG (fs : List (List Nd)) (xs : List (List It)) : Prop := xs.length = fs.length ∧ ∀ i (h : i < fs.length) (h' : i < xs.length), PrF fs[i] xs[i]
theorem PrG.cons_iff {a : List Nd} {l : List (List Nd)} {x : List It} {ls : List (List It)} : PrG (a :: l) (x :: ls) ↔ PrF a x ∧ PrG l ls := by
  constructor
  · rintro ⟨h1, h2⟩
    refine ⟨h2 0 (by simp) (by simp), by simpa using h1, fun i h h' => ?_⟩
    have := h2 (i + 1) (by simp; omega) (by simp; omega)
    simpa using this
  · rintro ⟨h1, h2, h3⟩
    refine ⟨by simp [h2], fun i h h' => ?_⟩
    cases i with
    | zero => exact h1
    | succ i => exact h3 i (by simp at h; omega) (by simp at h'; omega)
theorem PrF.ne {l : List Nd} {x : List It} (h : PrF l x) : cores x ≠ [] := by
  cases h with
  | mk h0 hl h => unfold funI; rw [cores_app]; simp [cores_t, cores_b, cores_nil]
theorem PrG.par : ∀ (fs : List (List Nd)) (xs : List (List It)), PrG fs xs → ∀ b, (b = true → fs ≠ []) → Par (fun n => funsL n b) (cores xs.flatten) fs []
  | [], [], _, b, hb => by
    have : b = false := by cases b; rfl; exact absurd rfl (hb rfl)
    subst this
    refine ⟨1, fun n hn s hs => ?_⟩
    obtain ⟨m, rfl⟩ : ∃ m, n = m + 1 := ⟨n - 1, by omega⟩
    have ht : s.toks = [] := by have := hs.2; simpa [cores] using this
    show ((funsL (m + 1) false s).1 = _ ∧ StL _ (funsL (m + 1) false s).2) ∨ _
    rw [funs_stop (by simp [ht])]
    exact .inl ⟨rfl, hs⟩
  | [], _ :: _, ⟨h, _⟩, _, _ => by simp at h
  | _ :: _, [], ⟨h, _⟩, _, _ => by simp at h
  | a :: l, x :: xs, h, b, hb => by
    obtain ⟨h1, h2⟩ := PrG.cons_iff.1 h
    obtain ⟨N0, p1⟩ := h1.par (cores xs.flatten)
    obtain ⟨N1, p2⟩ := PrG.par l xs h2 false (by simp)
    refine ⟨N0 + N1 + 2, fun n hn s hs => ?_⟩
    obtain ⟨m, rfl⟩ : ∃ m, n = m + 1 := ⟨n - 1, by omega⟩
    rw [List.flatten_cons, cores_app] at hs
    have ht : s.toks ≠ [] := by
      intro h0
      have := hs.2
      rw [h0] at this
      simp at this
      exact h1.ne this.1
    show ((funsL (m + 1) b s).1 = _ ∧ StL _ (funsL (m + 1) b s).2) ∨ (funsL (m + 1) b s).2.err = 111
    rw [funs_go ⟨hs.1, .inr ht⟩]
    rcases p1 m (by omega) s hs with ⟨e1, e2⟩ | e
    · rcases p2 m (by omega) _ e2 with ⟨e3, e4⟩ | e3
      · exact .inl ⟨by show _ :: _ = _; rw [e1, e3], e4⟩
      · exact .inr e3
    · refine .inr ?_
      show (funsL m false (funP m s).2).2.err = 111
      obtain ⟨k, rfl⟩ : ∃ k, m = k + 1 := ⟨m - 1, by omega⟩
      rw [funs_stop (by rw [e]; simp)]
      exact e
end Go.Proofs.YtdmmhfbafinkpaaGreatDoor

/- ParseBack: the plain law: what the parser makes can be printed; how long that is. -/
namespace Go.Proofs.YtdmmhfbafinkpaaGreatDoor
open Go.Emb

def TokS (s : St) : Prop := ∀ x ∈ s.toks, TokOk x.1
theorem TokS.suf {s s' : St} (h : TokS s) (hs : s'.toks <:+ s.toks) : TokS s' := fun x hx => h x (hs.subset hx)
theorem TokS.fst {s : St} (h : TokS s) {x : Tk × Nat} {r : List (Tk × Nat)} (hs : s.toks = x :: r) : TokOk ⟨x.1.kind, x.1.num, x.1.text, 0⟩ := h x (by rw [hs]; simp)
/-- what p comes to, if it does not fail: c pieces are paid for, eight for a token -/
def W {α : Type} (c0 : Nat) (p : P α) (Q : α → Nat → Prop) : Prop := ∀ s, TokS s → (p s).2.err = 0 → ∃ c, Q (p s).1 c ∧ c + 8 * (p s).2.toks.length ≤ c0 + 8 * s.toks.length
section
variable {α β : Type} {c0 : Nat}
theorem W.seq {p : P α} {f : α → P β} {Q : α → Nat → Prop} {R : β → Nat → Prop} (hp : W c0 p Q) (sp : Suf p) (gf : ∀ a, Good (f a)) (hf : ∀ a c, Q a c → W c (f a) R) : W c0 (bnd p f) R := fun s hs he => by
  have he1 : (p s).2.err = 0 := (gf (p s).1).ne he
  obtain ⟨c, h1, h2⟩ := hp s hs he1
  obtain ⟨c', h3, h4⟩ := hf _ c h1 _ (hs.suf (sp s)) he
  exact ⟨c', h3, by show c' + 8 * (f (p s).1 (p s).2).2.toks.length ≤ _; omega⟩
theorem W.rt {a : α} {Q : α → Nat → Prop} (h : Q a c0) : W c0 (ret a) Q := fun s _ _ => ⟨c0, h, Nat.le_refl _⟩
theorem W.must {x : List UInt8} {p : P α} {Q : α → Nat → Prop} (gp : Good p) (h : W (c0 + 8) p Q) : W c0 (doS (mustS x) p) Q := fun s hs he => by
  have h1 : (mustS x s).err = 0 := gp.ne he
  obtain ⟨hn, hh, e⟩ := must_ok h1
  have ht : (mustS x s).toks = s.toks.tail := by
    rw [e]
    unfold hasS takeS at hh ⊢
    split
    · rfl
    · rename_i hc; rw [if_neg hc] at hh; simp at hh
  obtain ⟨c, h2, h3⟩ := h (mustS x s) (hs.suf (by rw [ht]; exact List.tail_suffix _)) he
  refine ⟨c, h2, ?_⟩
  rw [ht] at h3
  have := List.length_pos_iff.2 hn
  rw [List.length_tail] at h3
  show c + 8 * (p (mustS x s)).2.toks.length ≤ _
  omega
theorem W.enter {d : Nat} {p : P α} {Q : α → Nat → Prop} (gp : Good p) (h : W c0 p Q) : W c0 (doS (enterS d) p) Q := fun s hs he => by
  have h1 : (enterS d s).err = 0 := gp.ne he
  have e : enterS d s = s := by
    unfold enterS at h1 ⊢
    split
    · rename_i hc; rw [if_pos hc] at h1; exact absurd h1 (failS_ne 111 (by decide) s)
    · rfl
  show ∃ c, Q (p (enterS d s)).1 c ∧ c + 8 * (p (enterS d s)).2.toks.length ≤ _
  have he' : (p (enterS d s)).2.err = 0 := he
  rw [e] at he' ⊢
  exact h s hs he'
theorem W.take {l : List (List UInt8)} {f : Option (List UInt8) → P β} {Q : β → Nat → Prop} (hy : ∀ (k v : Int) (t : List UInt8), t ∈ l → TokOk ⟨k, v, t, 0⟩ → 4 ≤ k → W (c0 + 8) (f (some t)) Q) (hn : W c0 (f none) Q) : W c0 (bnd (takeS l) f) Q := fun s hs he => by
  show ∃ c, Q (f (takeS l s).1 (takeS l s).2).1 c ∧ c + 8 * (f (takeS l s).1 (takeS l s).2).2.toks.length ≤ _
  have he' : (f (takeS l s).1 (takeS l s).2).2.err = 0 := he
  by_cases hc : nextS s ∈ l ∧ nextS s ≠ []
  · have e : takeS l s = (some (nextS s), { s with toks := s.toks.tail }) := by unfold takeS; rw [if_pos hc]
    rw [e] at he' ⊢
    obtain ⟨x, r, hq⟩ : ∃ x r, s.toks = x :: r := by
      match hq : s.toks with
      | [] => exact absurd (nextS_nil hq) hc.2
      | x :: r => exact ⟨x, r, rfl⟩
    have hx : nextS s = if x.1.kind < 4 then [] else x.1.text := by unfold nextS; rw [hq]
    have hk : ¬ x.1.kind < 4 := fun h => hc.2 (by rw [hx, if_pos h])
    rw [if_neg hk] at hx
    obtain ⟨c, h1, h2⟩ := hy x.1.kind x.1.num x.1.text (by rw [← hx]; exact hc.1) (hs.fst hq) (by omega) { s with toks := s.toks.tail } (hs.suf (List.tail_suffix _)) (by rw [← hx]; exact he')
    rw [hx]
    refine ⟨c, h1, ?_⟩
    simp only [hq, List.tail_cons, List.length_cons] at h2 ⊢
    omega
  · have e : takeS l s = (none, s) := by unfold takeS; rw [if_neg hc]
    rw [e] at he' ⊢
    exact hn s hs he'
theorem W.has {x : List UInt8} {f : Bool → P β} {Q : β → Nat → Prop} (hy : W (c0 + 8) (f true) Q) (hn : W c0 (f false) Q) : W c0 (bnd (hasS x) f) Q :=
  show W c0 (bnd (takeS [x]) fun o => f o.isSome) Q from W.take (fun _ _ _ _ _ _ => hy) hn
theorem W.fail {e : Int} {p : P α} {Q : α → Nat → Prop} (he : e ≠ 0) (gp : Good p) : W c0 (doS (failS e) p) Q := fun s _ h => absurd (gp.ne h) (failS_ne e he s)
theorem W.spent {a : α} {Q : α → Nat → Prop} : W c0 (fun s => (a, failS 999 s)) Q := fun s _ h => absurd h (failS_ne 999 (by decide) s)
theorem W.leaf {f : Option Nd → P β} {Q : β → Nat → Prop} (hy : ∀ (k v : Int) (t : List UInt8), TokOk ⟨k, v, t, 0⟩ → k ≤ 3 → W (c0 + 8) (f (some (.mk k v t [] [] []))) Q) (hn : W c0 (f none) Q) : W c0 (bnd leafS f) Q := fun s hs he => by
  show ∃ c, Q (f (leafS s).1 (leafS s).2).1 c ∧ c + 8 * (f (leafS s).1 (leafS s).2).2.toks.length ≤ _
  have he' : (f (leafS s).1 (leafS s).2).2.err = 0 := he
  match hq : s.toks with
  | [] =>
    have e : leafS s = (none, s) := by unfold leafS; rw [hq]
    rw [e] at he' ⊢
    have := hn s hs he'
    rwa [hq] at this
  | x :: r =>
    by_cases hk : 1 ≤ x.1.kind ∧ x.1.kind ≤ 3
    · have e : leafS s = (some (.mk x.1.kind x.1.num x.1.text [] [] []), { s with toks := r }) := by unfold leafS; rw [hq]; simp only; rw [if_pos hk]
      rw [e] at he' ⊢
      obtain ⟨c, h1, h2⟩ := hy x.1.kind x.1.num x.1.text (hs.fst hq) hk.2 { s with toks := r } (hs.suf (by rw [hq]; exact List.suffix_cons _ _)) he'
      refine ⟨c, h1, ?_⟩
      simp only [List.length_cons] at h2 ⊢
      omega
    · have e : leafS s = (none, s) := by unfold leafS; rw [hq]; simp only; rw [if_neg hk]
      rw [e] at he' ⊢
      have := hn s hs he'
      rwa [hq] at this
end
def tot (ls : List (List It)) : Nat := (ls.map fun x => x.length + 2).sum
theorem tot_cons (x : List It) (ls : List (List It)) : tot (x :: ls) = x.length + 2 + tot ls := by simp [tot]
theorem sep_len (s : List It) (hs : s.length ≤ 2) : ∀ ls : List (List It), (sepI s ls).length ≤ tot ls
  | [] => Nat.zero_le _
  | [x] => by rw [tot_cons]; show x.length ≤ _; omega
  | x :: y :: r => by
    have := sep_len s hs (y :: r)
    show (x ++ s ++ sepI s (y :: r)).length ≤ _
    rw [List.length_append, List.length_append, tot_cons]
    omega
def PL (j : Nat) (l : List Nd) (ls : List (List It)) : Prop := ls.length = l.length ∧ ∀ i (h : i < l.length) (h' : i < ls.length), Pr j l[i] ls[i]
theorem PL.nil (j : Nat) : PL j [] [] := ⟨rfl, fun i h => by simp at h⟩
theorem PL.cons {j : Nat} {a : Nd} {l : List Nd} {x : List It} {ls : List (List It)} (h1 : Pr j a x) (h2 : PL j l ls) : PL j (a :: l) (x :: ls) := by
  refine ⟨by simp [h2.1], fun i h h' => ?_⟩
  cases i with
  | zero => exact h1
  | succ i => exact h2.2 i (by simp at h; omega) (by simp at h'; omega)
def QN (j c0 : Nat) (a : Nd) (c : Nat) : Prop := ∃ x, Pr j a x ∧ c0 + x.length ≤ c
def QS (j c0 : Nat) (l : List Nd) (c : Nat) : Prop := l ≠ [] ∧ ∃ ls, PL j l ls ∧ c0 + tot ls ≤ c + 2
def QU (c0 : Nat) (l : List Nd) (c : Nat) : Prop := ∃ ls, PL 0 l ls ∧ c0 + tot ls + 6 ≤ c
def QB (c0 : Nat) (g : List Nd × List Nd) (c : Nat) : Prop := g.2 ≠ [] ∧ ∃ gs bs, PL 0 g.1 gs ∧ PL 0 g.2 bs ∧ c0 + (tailI gs bs).length ≤ c
def QH (c0 : Nat) (nm : List UInt8) (a : Nd) (c : Nat) : Prop := ∃ p g b ps gs bs, a = .mk 0 0 nm p g b ∧ b ≠ [] ∧ PL 0 p ps ∧ PL 0 g gs ∧ PL 0 b bs ∧ c0 + (sg 40 :: sepI comma ps ++ sg 41 :: tailI gs bs).length ≤ c
structure AllW (n : Nat) : Prop where
  expr : ∀ c d, W c (expr n d) (QN 0 c)
  binary : ∀ c v d, W c (binary n v d) (QN 0 c)
  binLoop : ∀ c0 c v d a, QN 0 c0 a c → W c (binLoop n v d a) (QN 0 c0)
  unary : ∀ c d, W c (unary n d) (QN 0 c)
  call : ∀ c d, W c (call n d) (QN 0 c)
  callLoop : ∀ c0 c d b a, QN 0 c0 a c → (b = true → ∃ nm, a = .mk 2 0 nm [] [] [] ∧ TokOk ⟨2, 0, nm, 0⟩) → W c (callLoop n d b a) (QN 0 c0)
  someL : ∀ c d, W c (someL n d) (QS 0 c)
  untilL : ∀ c e d, W c (untilL n e d) (QU c)
  bodyP : ∀ c d, W c (bodyP n d) (QB c)
  headP : ∀ c x d, W c (headP n x d) (QH c x)
  oneC : ∀ c k d, k ≤ 2 → W c (oneC n k d) (QN (k + 1) c)
  clausesL : ∀ c k d, k ≤ 2 → W c (clausesL n k d) (QS (k + 1) c)
  listP : ∀ c d, W c (listP n d) (QN 0 c)
  recvP : ∀ c d, W c (recvP n d) (QN 0 c)
  prim : ∀ c d, W c (prim n d) (QN 0 c)
theorem oper_len (a : Nd) (x : List It) : (operI a x).length ≤ x.length + 2 := by
  unfold operI inBr; split <;> simp
theorem callI_len (a : Nd) (x : List It) : (callI a x).length ≤ x.length + 2 := by
  unfold callI inBr; split <;> simp
theorem level_lt {v : Nat} {t : List UInt8} (h : t ∈ levelsL v) : v < 5 := by
  by_cases hv : v < 5
  · exact hv
  · obtain ⟨j, rfl⟩ : ∃ j, v = j + 5 := ⟨v - 5, by omega⟩
    simp [levelsL] at h
theorem tail_len (gs bs : List (List It)) : (tailI gs bs).length ≤ (if gs = [] then 0 else 3) + 3 + tot gs + tot bs := by
  unfold tailI
  have h1 := sep_len commaB (by simp) gs
  have h2 := sep_len commaB (by simp) bs
  split <;> simp <;> omega
theorem Pr.rest {e : Nd} {y : List It} (h : Pr 0 e y) : ∃ r, Pr 4 e r ∧ r.length ≤ y.length + 2 := by
  by_cases h5 : e.kind = 5
  · cases h with
    | nil => exact ⟨_, Pr.rest_nil, by simp⟩
    | leaf h h3 => simp only [Nd.kind] at h5; omega
    | _ => simp [Nd.kind] at h5
  · by_cases h6 : e.kind = 6
    · cases h with
      | cons ha ht => exact ⟨_, Pr.rest_cons ha ht, by simp⟩
      | leaf h h3 => simp only [Nd.kind] at h6; omega
      | _ => simp [Nd.kind] at h6
    · exact ⟨_, Pr.rest_bar h h5 h6, by simp⟩
theorem pr_list {t : Nd} {r : List It} (ht : Pr 4 t r) : ∀ (l : List Nd) (ls : List (List It)), PL 0 l ls → ∃ y, Pr 4 (consL l t) y ∧ y.length ≤ tot ls + r.length ∧ (l ≠ [] → ∃ z, Pr 0 (consL l t) z ∧ z.length ≤ tot ls + r.length)
  | [], [], _ => ⟨r, ht, by simp [tot], fun h => absurd rfl h⟩
  | [], _ :: _, ⟨h, _⟩ => by simp at h
  | _ :: _, [], ⟨h, _⟩ => by simp at h
  | a :: l, x :: ls, ⟨h1, h2⟩ => by
    have ha : Pr 0 a x := h2 0 (by simp) (by simp)
    obtain ⟨y, hy, hl, -⟩ := pr_list ht l ls ⟨by simpa using h1, fun i h h' => by have := h2 (i + 1) (by simp; omega) (by simp; omega); simpa using this⟩
    have e : consL (a :: l) t = .mk 6 0 [] [a, consL l t] [] [] := rfl
    rw [e, tot_cons]
    exact ⟨_, Pr.rest_cons ha hy, by simp; omega, fun _ => ⟨_, Pr.cons ha hy, by simp; omega⟩⟩
end Go.Proofs.YtdmmhfbafinkpaaGreatDoor

/- ParseBack: the plain law: what the parser makes can be printed: the induction. -/
namespace Go.Proofs.YtdmmhfbafinkpaaGreatDoor
open Go.Emb

theorem prim_bare {n d : Nat} {s : St} (hb : bareS s = true) (hs : TokS s) (he : (prim n d s).2.err = 0) : ∃ nm, (prim n d s).1 = .mk 2 0 nm [] [] [] ∧ TokOk ⟨2, 0, nm, 0⟩ := by
  match n with
  | 0 => rw [prim] at he; exact absurd he (failS_ne 999 (by decide) s)
  | n + 1 =>
    match hq : s.toks with
    | [] => unfold bareS at hb; rw [hq] at hb; simp at hb
    | x :: r =>
      have hk : x.1.kind = 2 := by unfold bareS at hb; rw [hq] at hb; simpa using hb
      have ht := hs.fst hq
      have hn : x.1.num = 0 := by
        rcases ht with ⟨h, -⟩ | ⟨h, -⟩
        · simp only at h; omega
        · exact h
      rw [hk, hn] at ht
      have e : leafS s = (some (.mk 2 0 x.1.text [] [] []), { s with toks := r }) := by
        unfold leafS; rw [hq]; simp only; rw [if_pos (by omega), hk, hn]
      refine ⟨x.1.text, ?_, ht⟩
      rw [prim_eq]
      show (primL n d (leafS s).1 (leafS s).2).1 = _
      rw [e]
      rfl
theorem allW : ∀ n, AllW n
  | 0 => by
    constructor
    · intros; rw [expr]; exact W.spent
    · intros; rw [binary]; exact W.spent
    · intros; rw [binLoop]; exact W.spent
    · intros; rw [unary]; exact W.spent
    · intros; rw [call]; exact W.spent
    · intros; rw [callLoop]; exact W.spent
    · intros; rw [someL]; exact W.spent
    · intros; rw [untilL]; exact W.spent
    · intros; rw [bodyP]; exact W.spent
    · intros; rw [headP]; exact W.spent
    · intros; rw [oneC]; exact W.spent
    · intros; rw [clausesL]; exact W.spent
    · intros; rw [listP]; exact W.spent
    · intros; rw [recvP]; exact W.spent
    · intros; rw [prim]; exact W.spent
  | n + 1 => by
    have ih := allW n
    have ig := allG n
    have is := allS n
    constructor
    · intro c d; rw [expr]
      have gd : ∀ a : Nd, Good (bnd (takeS [sEq, sSend]) fun o => match o with
        | none => ret a
        | some t => bnd (expr n (d + 1)) fun b => ret (.mk (if t = sSend then 12 else 11) 0 [] [a, b] [] [])) := fun a => .bnd (.take _) fun o => by
          cases o
          · exact .ret _
          · exact .bnd (ig.expr _) fun b => .ret _
      refine W.enter (.bnd (ig.binary _ _) gd) (W.seq (ih.binary c 0 d) (is.binary _ _) gd fun a c1 ha => ?_)
      refine W.take (fun k v t ht hk h4 => ?_) (W.rt ha)
      refine W.seq (ih.expr (c1 + 8) (d + 1)) (is.expr _) (fun b => .ret _) fun b c2 hb => W.rt ?_
      obtain ⟨x, hx, hxl⟩ := ha
      obtain ⟨y, hy, hyl⟩ := hb
      have l1 := oper_len a x
      have l2 := oper_len b y
      simp at ht
      rcases ht with rfl | rfl
      · exact ⟨_, Pr.mat hx hy, by simp; omega⟩
      · exact ⟨_, Pr.send hx hy, by simp; omega⟩
    · intro c v d; rw [binary]; split
      · exact ih.unary c d
      · exact W.seq (ih.binary c (v + 1) d) (is.binary _ _) (fun a => ig.binLoop _ _ _) fun a c1 ha => ih.binLoop c c1 v d a ha
    · intro c0 c v d a ha; rw [binLoop]
      refine W.take (fun k w t ht hk h4 => ?_) (W.rt ha)
      have hv := level_lt ht
      have hg : ∀ b : Nd, Good (if v = 2 then ret (.mk 9 0 t [a, b] [] []) else binLoop n v d (.mk 9 0 t [a, b] [] [])) := fun b => by
        split
        · exact .ret _
        · exact ig.binLoop _ _ _
      refine W.seq (ih.binary (c + 8) (v + 1) d) (is.binary _ _) hg fun b c2 hb => ?_
      have hQ : QN 0 c0 (.mk 9 0 t [a, b] [] []) c2 := by
        obtain ⟨x, hx, hxl⟩ := ha
        obtain ⟨y, hy, hyl⟩ := hb
        have l1 := oper_len a x
        have l2 := oper_len b y
        exact ⟨_, Pr.op hv ht hk h4 hx hy, by simp; omega⟩
      split
      · exact W.rt hQ
      · exact ih.binLoop c0 c2 v d _ hQ
    · intro c d; rw [unary]
      refine W.enter (.bnd (.take _) fun o => ?_) (W.take (fun k v t ht hk h4 => ?_) (ih.call c d))
      · cases o
        · exact ig.call d
        · exact .bnd (ig.unary _) fun a => .ret _
      · refine W.seq (ih.unary (c + 8) (d + 1)) (is.unary _) (fun b => .ret _) fun b c2 hb => W.rt ?_
        obtain ⟨y, hy, hyl⟩ := hb
        have l2 := oper_len b y
        exact ⟨_, Pr.un ht hk h4 hy, by simp; omega⟩
    · intro c d; rw [call]
      intro s hs he
      have he1 : (prim n d s).2.err = 0 := (ig.callLoop d (bareS s) (prim n d s).1).ne he
      obtain ⟨c1, h1, h2⟩ := ih.prim c d s hs he1
      obtain ⟨c2, h3, h4⟩ := ih.callLoop c c1 d (bareS s) _ h1 (fun hb => prim_bare hb hs he1) _ (hs.suf (is.prim d s)) he
      exact ⟨c2, h3, by show c2 + 8 * (callLoop n d (bareS s) (prim n d s).1 (prim n d s).2).2.toks.length ≤ _; omega⟩
    · intro c0 c d b a ha hb; rw [callLoop]
      refine W.has ?_ (W.rt ha)
      simp only [if_true]
      refine W.seq (ih.untilL (c + 8) sShut (d + 1)) (is.untilL _ _) (fun l => ig.callLoop _ _ _) fun l c2 hl => ih.callLoop c0 c2 d false _ ?_ (by simp)
      obtain ⟨ls, hls, hll⟩ := hl
      have l3 := sep_len comma (by simp) ls
      split
      · rename_i hbt
        obtain ⟨nm, rfl, hn⟩ := hb hbt
        exact ⟨_, Pr.call hn hls.1 hls.2, by obtain ⟨x, hx, hxl⟩ := ha; simp; omega⟩
      · obtain ⟨x, hx, hxl⟩ := ha
        have l1 := callI_len a x
        exact ⟨_, Pr.apply hx hls.1 hls.2, by simp; omega⟩
    · intro c d; rw [someL]
      have hg : ∀ x : Nd, Good (bnd (hasS sComma) fun o => if o then bnd (someL n d) fun l => ret (x :: l) else ret [x]) := fun x => .bnd (.has _) fun o => by
        split
        · exact .bnd (ig.someL d) fun l => .ret _
        · exact .ret _
      refine W.seq (ih.expr c d) (is.expr _) hg fun a c1 ha => ?_
      obtain ⟨x, hx, hxl⟩ := ha
      refine W.has ?_ ?_
      · simp only [if_true]
        refine W.seq (ih.someL (c1 + 8) d) (is.someL _) (fun l => .ret _) fun l c2 hl => W.rt ?_
        obtain ⟨h0, ls, hls, hll⟩ := hl
        exact ⟨by simp, x :: ls, .cons hx hls, by rw [tot_cons]; omega⟩
      · exact W.rt ⟨by simp, [x], .cons hx (.nil 0), by rw [tot_cons]; simp [tot]; omega⟩
    · intro c e d; rw [untilL]
      refine W.has ?_ ?_
      · exact W.rt ⟨[], .nil 0, by simp [tot]⟩
      · refine W.seq (ih.someL c d) (is.someL _) (fun l => .doS (.must _) (.ret _)) fun l c1 hl => W.must (.ret _) (W.rt ?_)
        obtain ⟨h0, ls, hls, hll⟩ := hl
        exact ⟨ls, hls, by omega⟩
    · intro c d; rw [bodyP]
      have hw : W c (bnd (hasS sWhen) fun o => if o then someL n d else ret []) (fun g c1 => ∃ gs, PL 0 g gs ∧ c + (if gs = [] then 0 else 3) + tot gs ≤ c1) := by
        refine W.has ?_ ?_
        · intro s hs he
          obtain ⟨c1, ⟨h0, gs, hgs, hgl⟩, h2⟩ := ih.someL (c + 8) d s hs he
          exact ⟨c1, ⟨gs, hgs, by split <;> omega⟩, h2⟩
        · exact W.rt ⟨[], .nil 0, by simp [tot]⟩
      have hsf : Suf (bnd (hasS sWhen) fun o => if o then someL n d else ret []) := .bnd (.has _) fun o => by
        split
        · exact is.someL d
        · exact .ret _
      refine W.seq hw hsf (fun g => .doS (.must _) (.bnd (ig.someL d) fun b => .ret _)) fun g c1 hg => W.must (.bnd (ig.someL d) fun b => .ret _) ?_
      refine W.seq (ih.someL (c1 + 8) d) (is.someL _) (fun l => .ret _) fun b c2 hb => W.rt ?_
      obtain ⟨gs, hgs, hgl⟩ := hg
      obtain ⟨h0, bs, hbs, hbl⟩ := hb
      have l1 := tail_len gs bs
      exact ⟨h0, gs, bs, hgs, hbs, by omega⟩
    · intro c x d; rw [headP]
      refine W.must (.bnd (ig.untilL _ _) fun l => .bnd (ig.bodyP d) fun g => .ret _) ?_
      refine W.seq (ih.untilL (c + 8) sShut d) (is.untilL _ _) (fun l => .bnd (ig.bodyP d) fun g => .ret _) fun p c1 hp => ?_
      refine W.seq (ih.bodyP c1 d) (is.bodyP _) (fun l => .ret _) fun g c2 hg => W.rt ?_
      obtain ⟨ps, hps, hpl⟩ := hp
      obtain ⟨h0, gs, bs, hgs, hbs, hbl⟩ := hg
      have l1 := sep_len comma (by simp) ps
      exact ⟨p, g.1, g.2, ps, gs, bs, rfl, h0, hps, hgs, hbs, by simp; omega⟩
    · intro c k d hk; rw [oneC]
      by_cases h0 : k = 0
      · subst h0
        rw [if_pos rfl]
        refine W.seq (ih.expr c d) (is.expr _) (fun a => .bnd (ig.bodyP d) fun g => .ret _) fun a c1 ha => ?_
        refine W.seq (ih.bodyP c1 d) (is.bodyP _) (fun l => .ret _) fun g c2 hg => W.rt ?_
        obtain ⟨x, hx, hxl⟩ := ha
        obtain ⟨h0, gs, bs, hgs, hbs, hbl⟩ := hg
        exact ⟨_, Pr.arm hx hgs.1 hgs.2 h0 hbs.1 hbs.2, by simp; omega⟩
      · rw [if_neg h0]
        by_cases h1 : k = 1
        · subst h1
          rw [if_pos rfl]
          intro s hs he
          obtain ⟨c1, ⟨p, g, b, ps, gs, bs, e, h0, hps, hgs, hbs, hl⟩, h2⟩ := ih.headP c [] d s hs he
          exact ⟨c1, ⟨_, by rw [e]; exact Pr.head hps.1 hps.2 hgs.1 hgs.2 h0 hbs.1 hbs.2, hl⟩, h2⟩
        · rw [if_neg h1]
          have hk2 : k = 2 := by omega
          subst hk2
          intro s hs he
          match hq : s.toks with
          | [] => simp only [hq] at he; exact absurd he (failS_ne 110 (by decide) s)
          | y :: r =>
            simp only [hq] at he ⊢
            by_cases hy : y.1.kind = 2
            · rw [if_pos hy] at he ⊢
              have ht := hs.fst hq
              have hn : y.1.num = 0 := by
                rcases ht with ⟨h, -⟩ | ⟨h, -⟩
                · simp only at h; omega
                · exact h
              rw [hy, hn] at ht
              obtain ⟨c1, ⟨p, g, b, ps, gs, bs, e, h0, hps, hgs, hbs, hl⟩, h2⟩ := ih.headP (c + 8) y.1.text d { s with toks := r } (hs.suf (by rw [hq]; exact List.suffix_cons _ _)) he
              refine ⟨c1, ⟨_, by rw [e]; exact Pr.fhead ht hps.1 hps.2 hgs.1 hgs.2 h0 hbs.1 hbs.2, by simp at hl ⊢; omega⟩, ?_⟩
              simp only [List.length_cons] at h2 ⊢
              omega
            · rw [if_neg hy] at he
              exact absurd he (failS_ne 110 (by decide) s)
    · intro c k d hk; rw [clausesL]
      have hg : ∀ x : Nd, Good (bnd (hasS sSemi) fun o => if o then bnd (clausesL n k d) fun l => ret (x :: l) else ret [x]) := fun x => .bnd (.has _) fun o => by
        split
        · exact .bnd (ig.clausesL k d) fun l => .ret _
        · exact .ret _
      refine W.seq (ih.oneC c k d hk) (is.oneC _ _) hg fun a c1 ha => ?_
      obtain ⟨x, hx, hxl⟩ := ha
      refine W.has ?_ ?_
      · simp only [if_true]
        refine W.seq (ih.clausesL (c1 + 8) k d hk) (is.clausesL _ _) (fun l => .ret _) fun l c2 hl => W.rt ?_
        obtain ⟨h0, ls, hls, hll⟩ := hl
        exact ⟨by simp, x :: ls, .cons hx hls, by rw [tot_cons]; omega⟩
      · exact W.rt ⟨by simp, [x], .cons hx (.nil _), by rw [tot_cons]; simp [tot]; omega⟩
    · intro c d; rw [listP]
      refine W.has ?_ ?_
      · exact W.rt ⟨_, Pr.nil, by simp⟩
      · have hg : ∀ l : List Nd, Good (bnd (bnd (hasS sBar) fun o => if o then expr n d else ret nilN) fun t => doS (mustS sShutB) (ret (consL l t))) := fun l => .bnd (.bnd (.has _) fun o => by
          split
          · exact ig.expr d
          · exact .ret _) fun t => .doS (.must _) (.ret _)
        refine W.seq (ih.someL c d) (is.someL _) hg fun l c1 hl => ?_
        obtain ⟨h0, ls, hls, hll⟩ := hl
        have hb : W c1 (bnd (hasS sBar) fun o => if o then expr n d else ret nilN) (fun t c2 => ∃ r, Pr 4 t r ∧ c1 + r.length ≤ c2 + 2) := by
          refine W.has ?_ ?_
          · intro s hs he
            obtain ⟨c2, ⟨y, hy, hyl⟩, h2⟩ := ih.expr (c1 + 8) d s hs he
            obtain ⟨r, hr, hrl⟩ := hy.rest
            exact ⟨c2, ⟨r, hr, by omega⟩, h2⟩
          · exact W.rt ⟨_, Pr.rest_nil, by simp⟩
        have hsf : Suf (bnd (hasS sBar) fun o => if o then expr n d else ret nilN) := .bnd (.has _) fun o => by
          split
          · exact is.expr d
          · exact .ret _
        refine W.seq hb hsf (fun t => .doS (.must _) (.ret _)) fun t c2 ht => W.must (.ret _) (W.rt ?_)
        obtain ⟨r, hr, hrl⟩ := ht
        obtain ⟨y, hy, hyl, hz⟩ := pr_list hr l ls hls
        obtain ⟨z, hz, hzl⟩ := hz h0
        exact ⟨z, hz, by omega⟩
    · intro c d
      have hwA : ∀ (l : List Nd) (ls : List (List It)) (c1 : Nat), PL 1 l ls → c + tot ls ≤ c1 + 2 → W (c1 + 8) (bnd (expr n d) fun a => doS (mustS sTo) (bnd (someL n d) fun b => doS (mustS sEnd) (ret (Nd.mk 15 0 [] [a] l b)))) (QN 0 c) := fun l ls c1 hls hll => by
        refine W.seq (ih.expr (c1 + 8) d) (is.expr _) (fun a => .doS (.must _) (.bnd (ig.someL d) fun b => .doS (.must _) (.ret _))) fun a c2 ha => W.must (.bnd (ig.someL d) fun b => .doS (.must _) (.ret _)) ?_
        refine W.seq (ih.someL (c2 + 8) d) (is.someL _) (fun b => .doS (.must _) (.ret _)) fun b c3 hb => W.must (.ret _) (W.rt ?_)
        obtain ⟨x, hx, hxl⟩ := ha
        obtain ⟨h0, bs, hbs, hbl⟩ := hb
        have l1 := sep_len commaB (by simp) bs
        have l3 := sep_len semiB (by simp) ls
        refine ⟨_, Pr.recvA hls.1 hls.2 hx h0 hbs.1 hbs.2, ?_⟩
        have l2 : (if ls = [] then ([] : List It) else sp :: sepI semiB ls).length ≤ 1 + tot ls := by split <;> simp <;> omega
        simp only [List.length_append, List.length_cons, List.length_nil] at l2 ⊢
        omega
      intro s hs he
      rw [recv_eq] at he ⊢
      by_cases h : nextS s ≠ sAfter
      · have e : bnd (recvF n d) (recvT n d) s = bnd (clausesL n 0 d) (recvT n d) s := by
          have e1 : recvF n d s = clausesL n 0 d s := by unfold recvF; rw [if_pos h]
          show recvT n d (recvF n d s).1 (recvF n d s).2 = recvT n d (clausesL n 0 d s).1 (clausesL n 0 d s).2
          rw [e1]
        rw [e] at he ⊢
        refine W.seq (ih.clausesL c 0 d (by omega)) (is.clausesL _ _) (fun l => recvT_good n d l) (fun l c1 hl => ?_) s hs he
        obtain ⟨h0, ls, hls, hll⟩ := hl
        have l3 := sep_len semiB (by simp) ls
        refine W.has (f := fun o => if o then bnd (expr n d) fun a => doS (mustS sTo) (bnd (someL n d) fun b => doS (mustS sEnd) (ret (Nd.mk 15 0 [] [a] l b))) else doS (mustS sEnd) (ret (Nd.mk 15 0 [] [] l []))) ?_ ?_
        · exact hwA l ls c1 hls hll
        · exact W.must (.ret _) (W.rt ⟨_, Pr.recv h0 hls.1 hls.2, by simp; omega⟩)
      · have hn : nextS s = sAfter := Classical.byContradiction h
        obtain ⟨x, r, hq⟩ : ∃ x r, s.toks = x :: r := by
          match hq : s.toks with
          | [] => rw [nextS_nil hq] at hn; exact absurd hn (by decide)
          | x :: r => exact ⟨x, r, rfl⟩
        have e1 : recvF n d s = ([], s) := by unfold recvF; rw [if_neg h]
        have e2 : hasS sAfter s = (true, { s with toks := r }) := by
          unfold hasS takeS
          rw [hn, if_pos (by simp)]
          simp [hq]
        have e : bnd (recvF n d) (recvT n d) s = (bnd (expr n d) fun a => doS (mustS sTo) (bnd (someL n d) fun b => doS (mustS sEnd) (ret (Nd.mk 15 0 [] [a] [] b)))) { s with toks := r } := by
          show recvT n d (recvF n d s).1 (recvF n d s).2 = _
          rw [e1]
          simp [recvT, bnd, e2]
        rw [e] at he ⊢
        obtain ⟨c1, h1, h2⟩ := hwA [] [] c (.nil 1) (by simp [tot]) { s with toks := r } (hs.suf (by rw [hq]; exact List.suffix_cons _ _)) he
        refine ⟨c1, h1, ?_⟩
        rw [hq, List.length_cons]
        simp only at h2
        omega
    · intro c d
      rw [prim_eq]
      refine W.leaf (fun k v t ht h3 => W.rt ⟨_, Pr.leaf ht h3, by simp⟩) ?_
      refine W.take (fun k v t ht hk h4 => ?_) (W.fail (by decide) (.ret _))
      show W (c + 8) (primT n d t) _
      simp only [List.mem_cons, List.not_mem_nil, or_false] at ht
      rcases ht with rfl | rfl | rfl | rfl | rfl | rfl | rfl
      · rw [primT_open]
        refine W.seq (ih.expr (c + 8) (d + 1)) (is.expr _) (fun b => .doS (.must _) (.ret _)) fun b c2 hb => W.must (.ret _) (W.rt ?_)
        obtain ⟨y, hy, hyl⟩ := hb
        exact ⟨y, hy, by omega⟩
      · rw [primT_tuple]
        refine W.seq (ih.untilL (c + 8) sShutC (d + 1)) (is.untilL _ _) (fun b => .ret _) fun b c2 hb => W.rt ?_
        obtain ⟨ls, hls, hll⟩ := hb
        have l1 := sep_len comma (by simp) ls
        exact ⟨_, Pr.tuple hls.1 hls.2, by simp; omega⟩
      · rw [primT_list]
        intro s hs he
        obtain ⟨c1, ⟨x, hx, hxl⟩, h2⟩ := ih.listP (c + 8) (d + 1) s hs he
        exact ⟨c1, ⟨x, hx, by omega⟩, h2⟩
      · rw [primT_fun]
        refine W.seq (ih.clausesL (c + 8) 1 (d + 1) (by omega)) (is.clausesL _ _) (fun b => .doS (.must _) (.ret _)) fun l c2 hl => W.must (.ret _) (W.rt ?_)
        obtain ⟨h0, ls, hls, hll⟩ := hl
        have l1 := sep_len semiB (by simp) ls
        exact ⟨_, Pr.fn h0 hls.1 hls.2, by simp; omega⟩
      · rw [primT_case]
        refine W.seq (ih.expr (c + 8) (d + 1)) (is.expr _) (fun b => .doS (.must _) (.bnd (ig.clausesL _ _) fun l => .doS (.must _) (.ret _))) fun b c2 hb => W.must (.bnd (ig.clausesL _ _) fun l => .doS (.must _) (.ret _)) ?_
        refine W.seq (ih.clausesL (c2 + 8) 0 (d + 1) (by omega)) (is.clausesL _ _) (fun b => .doS (.must _) (.ret _)) fun l c3 hl => W.must (.ret _) (W.rt ?_)
        obtain ⟨y, hy, hyl⟩ := hb
        obtain ⟨h0, ls, hls, hll⟩ := hl
        have l1 := sep_len semiB (by simp) ls
        exact ⟨_, Pr.case hy h0 hls.1 hls.2, by simp; omega⟩
      · rw [primT_recv]
        intro s hs he
        obtain ⟨c1, ⟨x, hx, hxl⟩, h2⟩ := ih.recvP (c + 8) (d + 1) s hs he
        exact ⟨c1, ⟨x, hx, by omega⟩, h2⟩
      · rw [primT_try]
        refine W.seq (ih.someL (c + 8) (d + 1)) (is.someL _) (fun b => .doS (.must _) (.bnd (ig.clausesL _ _) fun l => .doS (.must _) (.ret _))) fun b c2 hb => W.must (.bnd (ig.clausesL _ _) fun l => .doS (.must _) (.ret _)) ?_
        refine W.seq (ih.clausesL (c2 + 8) 0 (d + 1) (by omega)) (is.clausesL _ _) (fun b => .doS (.must _) (.ret _)) fun l c3 hl => W.must (.ret _) (W.rt ?_)
        obtain ⟨hb0, bs, hbs, hbl⟩ := hb
        obtain ⟨h0, ls, hls, hll⟩ := hl
        have l1 := sep_len semiB (by simp) ls
        have l2 := sep_len commaB (by simp) bs
        exact ⟨_, Pr.tr hb0 hbs.1 hbs.2 h0 hls.1 hls.2, by simp; omega⟩
end Go.Proofs.YtdmmhfbafinkpaaGreatDoor

/- ParseBack: the plain law: scanning what is printed. -/
namespace Go.Proofs.YtdmmhfbafinkpaaGreatDoor
open Go.Emb

/-- what may stand behind a token's text -/
def StopG (v : List UInt8) : Prop := v = [] ∨ ∃ c r, v = c :: r ∧ digitB c = false ∧ moreB c = false ∧ c ≠ 60 ∧ c ≠ 61 ∧ c ≠ 62
theorem StopG.sign {d : UInt8} {r : List UInt8} (h : StopG (d :: r)) (c : UInt8) : sign2 c d = false := by
  rcases h with h | ⟨x, y, e, -, -, h1, h2, h3⟩
  · cases h
  · injection e with e1 e2
    subst e1
    simp [sign2, h1, h2, h3]
theorem tw_stopG {p : UInt8 → Bool} {u v : List UInt8} (hv : StopG v) (hb : p = digitB ∨ p = moreB) (hu : ∀ x ∈ u, p x = true) : (u ++ v).takeWhile p = u := by
  rw [List.takeWhile_append_of_pos hu]
  rcases hv with rfl | ⟨c, r, rfl, h1, h2, -⟩
  · simp
  · rw [List.takeWhile_cons_of_neg (by rcases hb with rfl | rfl <;> simp [h1, h2])]; simp
theorem tokL_printG {t : Tk} (h : TokOk t) {v : List UInt8} (hv : StopG v ∨ t.kind = 5 ∧ ∃ c, t.text = [c] ∧ ∀ d, sign2 c d = false) : tokL (printTk t ++ v) = .ok { t with en := (printTk t).length } ∧ printTk t ≠ [] := by
  obtain ⟨kind, num, text, en⟩ := t
  unfold TokOk at h
  unfold printTk
  simp only at h hv ⊢
  have hv5 : kind ≠ 5 → StopG v := fun hk => hv.resolve_right fun h => hk h.1
  rcases h with ⟨rfl, rfl, n, rfl, hn⟩ | ⟨rfl, ⟨rfl, h1, h2⟩ | ⟨rfl, h1, h2, c, r, rfl, hg⟩ | ⟨rfl, hw⟩ | ⟨rfl, ⟨c, rfl, hc⟩ | ⟨c, d, rfl, hc⟩⟩⟩
  · rw [if_pos rfl]
    have hi : Lib.itoa (n : Int) = Lib.decDigits n := by unfold Lib.itoa; rw [if_neg (by omega)]; simp
    rw [hi]
    obtain ⟨h1, h2, h3⟩ := dec_ok n n (Nat.le_refl _)
    refine ⟨?_, h3⟩
    have htw := tw_stopG (hv5 (by decide)) (.inl rfl) h1
    obtain ⟨c, r, hcr⟩ := List.exists_cons_of_ne_nil h3
    have hc : digitB c = true := h1 c (by rw [hcr]; simp)
    rw [hcr] at htw h2 ⊢
    unfold tokL
    simp only [List.cons_append] at htw ⊢
    rw [if_pos hc, htw, h2, if_pos hn]
  · rw [if_neg (by decide), if_pos rfl]
    unfold nameL
    by_cases hb : bareL text = true
    · rw [if_pos hb]
      unfold bareL at hb
      simp only [Bool.and_eq_true, List.all_eq_true, Bool.not_eq_true'] at hb
      obtain ⟨⟨b1, b2⟩, b3⟩ := hb
      match text, h1, h2, b1, b2, b3 with
      | [], h1, _, _, _, _ => simp at h1
      | c :: r, h1, h2, b1, b2, b3 =>
        refine ⟨?_, by simp⟩
        simp only [Bool.and_eq_true, decide_eq_true_eq] at b2
        have hs : 97 ≤ c.toNat ∧ c.toNat ≤ 122 := ⟨UInt8.le_iff_toNat_le.1 b2.1, UInt8.le_iff_toNat_le.1 b2.2⟩
        have htw := tw_stopG (hv5 (by decide)) (.inr rfl) (fun x hx => letter_more x (b1 x hx))
        unfold tokL
        simp only [List.cons_append] at htw ⊢
        have d1 : digitB c = false := by unfold digitB; simp; omega
        have d2 : smallB c = true := by unfold smallB; simp; omega
        have d3 : greatB c = false := by unfold greatB; simp; omega
        rw [if_neg (by simp [d1]), if_pos (by simp [d2])]
        simp only [htw]
        have b3' : wordsS.contains (c :: r) = false := b3
        rw [if_neg (by omega), d3, b3']; rfl
    · rw [if_neg hb]
      refine ⟨?_, by simp [quoteL]⟩
      unfold quoteL tokL
      simp only [List.cons_append, List.append_assoc, List.nil_append]
      rw [if_neg (by decide), if_neg (by decide), if_pos (by decide)]
      rw [quo_back text v 1 [] (by simpa using h1) (by simpa using h2)]
      simp [Nat.add_comm]
  · rw [if_neg (by decide), if_neg (by decide)]
    refine ⟨?_, by simp⟩
    have htw := tw_stopG (hv5 (by decide)) (.inr rfl) h2
    unfold tokL
    simp only [List.cons_append] at htw ⊢
    have d1 : digitB c = false := by unfold greatB at hg; unfold digitB; simp at hg ⊢; omega
    rw [if_neg (by simp [d1]), if_pos (by simp [hg])]
    simp only [htw]
    rw [if_neg (by omega), hg]; rfl
  · rw [if_neg (by decide), if_neg (by decide)]
    have hall : ∀ s ∈ wordsS, s ≠ [] ∧ (∀ x ∈ s, smallB x = true) ∧ s.length ≤ 255 := by decide
    obtain ⟨w1, w2, w3⟩ := hall text (List.contains_iff_mem.1 hw)
    refine ⟨?_, w1⟩
    obtain ⟨c, r, rfl⟩ := List.exists_cons_of_ne_nil w1
    have htw := tw_stopG (hv5 (by decide)) (.inr rfl) (fun x hx => show moreB x = true by unfold moreB; rw [w2 x hx]; rfl)
    have hc := w2 c (by simp)
    have d1 : digitB c = false := by unfold smallB at hc; unfold digitB; simp at hc ⊢; omega
    have d3 : greatB c = false := by unfold smallB at hc; unfold greatB; simp at hc ⊢; omega
    unfold tokL
    simp only [List.cons_append] at htw ⊢
    rw [if_neg (by simp [d1]), if_pos (by simp [hc])]
    simp only [htw]
    rw [if_neg (by omega), d3, hw]; rfl
  · rw [if_neg (by decide), if_neg (by decide)]
    refine ⟨?_, by simp⟩
    have hall : ∀ c ∈ signsL, digitB c = false ∧ smallB c = false ∧ greatB c = false ∧ c.toNat ≠ 39 := by decide
    obtain ⟨s1, s2, s3, s4⟩ := hall c (List.contains_iff_mem.1 hc)
    have hsn : signN ([c] ++ v) = 1 := by
      rcases v with _ | ⟨d, r⟩
      · simp only [List.append_nil, signN]; rw [if_pos hc]
      · have hd : sign2 c d = false := by
          rcases hv with hv | ⟨-, c', e, hv⟩
          · exact hv.sign c
          · injection e with e; subst e; exact hv d
        simp only [List.cons_append, List.nil_append, signN]; rw [hd, if_pos hc]; rfl
    unfold tokL
    simp only [List.cons_append, List.nil_append] at hsn ⊢
    rw [if_neg (by simp [s1]), if_neg (by simp [s2, s3]), if_neg s4, hsn]; rfl
  · rw [if_neg (by decide), if_neg (by decide)]
    refine ⟨?_, by simp⟩
    have hcc : c = 45 ∨ c = 61 ∨ c = 47 ∨ c = 62 := by
      unfold sign2 at hc
      simp only [Bool.or_eq_true, Bool.and_eq_true, beq_iff_eq] at hc
      rcases hc with (((h | h) | h) | h) | h
      · exact .inl h.1
      · exact .inr (.inl h.1)
      · exact .inr (.inr (.inl h.1))
      · exact .inr (.inl h.1)
      · exact .inr (.inr (.inr h.1))
    have hall : digitB c = false ∧ smallB c = false ∧ greatB c = false ∧ c.toNat ≠ 39 := by
      rcases hcc with rfl | rfl | rfl | rfl <;> decide
    obtain ⟨s1, s2, s3, s4⟩ := hall
    have hsn : signN ([c, d] ++ v) = 2 := by simp only [List.cons_append, List.nil_append, signN]; rw [if_pos hc]
    unfold tokL
    simp only [List.cons_append, List.nil_append] at hsn ⊢
    rw [if_neg (by simp [s1]), if_neg (by simp [s2, s3]), if_neg s4, hsn]; rfl

/-- pieces that scan as they stand -/
def Fine : List It → Prop
  | [] => True
  | .b c :: r => blankB c = true ∧ Fine r
  | .t k n x :: r => TokOk ⟨k, n, x, 0⟩ ∧ (StopG (flat r) ∨ (k = 5 ∧ ∃ c, x = [c] ∧ ∀ d, sign2 c d = false)) ∧ Fine r
theorem scan_flat : ∀ (l : List It) (a : Nat), Fine l → ∃ ts, scanL (flat l) a = .ok ts ∧ ts.map (fun x => core x.1) = cores l
  | [], a, _ => ⟨[], scanL_nil a, rfl⟩
  | .b c :: r, a, h => by
    obtain ⟨ts, h1, h2⟩ := scan_flat r (a + 1) h.2
    exact ⟨ts, by rw [flat_cons]; show scanL (c :: flat r) a = _; rw [scanL_blank _ _ h.1, h1], by rw [cores_b, h2]⟩
  | .t k n x :: r, a, h => by
    obtain ⟨h1, h2⟩ := tokL_printG (t := ⟨k, n, x, 0⟩) h.1 (v := flat r) h.2.1
    obtain ⟨L, hL⟩ : ∃ L, L = printTk ⟨k, n, x, 0⟩ := ⟨_, rfl⟩
    rw [← hL] at h1 h2
    obtain ⟨ts, h3, h4⟩ := scan_flat r (a + L.length) h.2.2
    have hf : flat (.t k n x :: r) = L ++ flat r := by rw [flat_cons, hL]; rfl
    obtain ⟨c, q, rfl⟩ := List.exists_cons_of_ne_nil h2
    refine ⟨(⟨k, n, x, (c :: q).length⟩, a) :: ts, ?_, by rw [List.map_cons, h4, cores_t]; rfl⟩
    rw [hf, List.cons_append]
    rw [List.cons_append] at h1
    have hh := tokL_head h1
    rw [scanL_tok _ a hh.1 hh.2, h1]
    simp only
    rw [← List.cons_append, List.drop_left' rfl, h3]
/-- pieces that scan, whatever stands behind -/
def FI (x : List It) : Prop := ∀ r, Fine r → StopG (flat r) → Fine (x ++ r)
theorem stop_sp (r : List It) : StopG (flat (sp :: r)) := .inr ⟨32, flat r, by rw [flat_cons]; rfl, by decide⟩
theorem stop_sg {c : UInt8} (hc : c ∈ [44, 41, 125, 93, 124, 40, 59, 46]) (r : List It) : StopG (flat (sg c :: r)) := by
  refine .inr ⟨c, flat r, by rw [flat_cons]; rfl, ?_⟩
  have : ∀ c ∈ ([44, 41, 125, 93, 124, 40, 59, 46] : List UInt8), digitB c = false ∧ moreB c = false ∧ c ≠ 60 ∧ c ≠ 61 ∧ c ≠ 62 := by decide
  exact this c hc
theorem fine_sg {c : UInt8} (hc : c ∈ [44, 41, 125, 93, 124, 40, 59, 46, 123, 91]) {r : List It} (h : Fine r) : Fine (sg c :: r) := by
  have : ∀ c ∈ ([44, 41, 125, 93, 124, 40, 59, 46, 123, 91] : List UInt8), signsL.contains c = true ∧ c ≠ 45 ∧ c ≠ 61 ∧ c ≠ 47 ∧ c ≠ 62 := by decide
  obtain ⟨h1, h2, h3, h4, h5⟩ := this c hc
  exact ⟨.inr ⟨rfl, .inr (.inr (.inr ⟨rfl, .inl ⟨c, rfl, h1⟩⟩))⟩, .inr ⟨rfl, c, rfl, fun d => by simp [sign2, h2, h3, h4, h5]⟩, h⟩
theorem fine_sp {r : List It} (h : Fine r) : Fine (sp :: r) := ⟨by decide, h⟩
theorem fine_t {k n : Int} {x : List UInt8} (ht : TokOk ⟨k, n, x, 0⟩) {r : List It} (hs : StopG (flat r)) (h : Fine r) : Fine (.t k n x :: r) := ⟨ht, .inl hs, h⟩
theorem ok_wd {x : List UInt8} (h : wordsS.contains x = true) : TokOk ⟨4, 0, x, 0⟩ := .inr ⟨rfl, .inr (.inr (.inl ⟨rfl, h⟩))⟩
theorem ok_sg {c : UInt8} (h : signsL.contains c = true) : TokOk ⟨5, 0, [c], 0⟩ := .inr ⟨rfl, .inr (.inr (.inr ⟨rfl, .inl ⟨c, rfl, h⟩⟩))⟩
theorem ok_to : TokOk ⟨5, 0, sTo, 0⟩ := .inr ⟨rfl, .inr (.inr (.inr ⟨rfl, .inr ⟨45, 62, rfl, by decide⟩⟩))⟩
theorem FI.brack {x : List It} (h : FI x) : FI (inBr x) := fun r hr _ => by
  unfold inBr
  simp only [List.cons_append, List.append_assoc, List.nil_append]
  exact fine_sg (by decide) (h _ (fine_sg (by decide) hr) (stop_sg (by decide) r))
theorem FI.oper {a : Nd} {x : List It} (h : FI x) : FI (operI a x) := by unfold operI; split; exact h.brack; exact h
theorem FI.clld {a : Nd} {x : List It} (h : FI x) : FI (callI a x) := by unfold callI; split; exact h; exact h.brack
theorem fine_sep {s : List It} (h1 : ∀ r, Fine r → Fine (s ++ r)) (h2 : ∀ r, StopG (flat (s ++ r))) : ∀ (ls : List (List It)), (∀ i (h : i < ls.length), FI ls[i]) → ∀ r, Fine r → StopG (flat r) → Fine (sepI s ls ++ r)
  | [], _, r, hr, _ => hr
  | [x], h, r, hr, hs => h 0 (by simp) r hr hs
  | x :: y :: q, h, r, hr, hs => by
    have ih := fine_sep h1 h2 (y :: q) (fun i hi => h (i + 1) (by simpa using hi)) r hr hs
    show Fine (x ++ s ++ sepI s (y :: q) ++ r)
    rw [List.append_assoc, List.append_assoc]
    exact h 0 (by simp) _ (h1 _ ih) (h2 _)
theorem fine_comma {ls : List (List It)} (h : ∀ i (h : i < ls.length), FI ls[i]) {r : List It} (hr : Fine r) (hs : StopG (flat r)) : Fine (sepI comma ls ++ r) :=
  fine_sep (fun r h => fine_sg (by decide) h) (fun r => stop_sg (by decide) r) ls h r hr hs
theorem fine_commaB {ls : List (List It)} (h : ∀ i (h : i < ls.length), FI ls[i]) {r : List It} (hr : Fine r) (hs : StopG (flat r)) : Fine (sepI commaB ls ++ r) :=
  fine_sep (fun r h => fine_sg (by decide) (fine_sp h)) (fun r => stop_sg (by decide) _) ls h r hr hs
theorem fine_semiB {ls : List (List It)} (h : ∀ i (h : i < ls.length), FI ls[i]) {r : List It} (hr : Fine r) (hs : StopG (flat r)) : Fine (sepI semiB ls ++ r) :=
  fine_sep (fun r h => fine_sg (by decide) (fine_sp h)) (fun r => stop_sg (by decide) _) ls h r hr hs
theorem FI.tail {gs bs : List (List It)} (hg : ∀ i (h : i < gs.length), FI gs[i]) (hb : ∀ i (h : i < bs.length), FI bs[i]) : FI (tailI gs bs) := fun r hr hs => by
  unfold tailI
  have h2 : Fine (sp :: .t 5 0 sTo :: sp :: sepI commaB bs ++ r) := fine_sp (fine_t ok_to (stop_sp _) (fine_sp (fine_commaB hb hr hs)))
  rw [List.append_assoc]
  split
  · exact h2
  · simp only [List.cons_append] at h2 ⊢
    exact fine_sp (fine_t (ok_wd (by decide)) (stop_sp _) (fine_sp (fine_commaB hg h2 (stop_sp _))))
theorem stop_tail (gs bs : List (List It)) (r : List It) : StopG (flat (tailI gs bs ++ r)) := by
  unfold tailI
  split
  · exact stop_sp _
  · exact stop_sp _
theorem fi_ls {l : List Nd} {ls : List (List It)} (hl : ls.length = l.length) (h : ∀ i (h : i < l.length) (h' : i < ls.length), FI ls[i]) : ∀ i (h : i < ls.length), FI ls[i] := fun i hi => h i (by omega) hi
theorem sep_stop (s : List It) : ∀ ls : List (List It), ls ≠ [] → (∀ i (h : i < ls.length), ∀ r, StopG (flat (ls[i] ++ r))) → ∀ r, StopG (flat (sepI s ls ++ r))
  | [], h0, _, _ => absurd rfl h0
  | [x], _, h, r => h 0 (by simp) r
  | x :: y :: q, _, h, r => by
    show StopG (flat (x ++ s ++ sepI s (y :: q) ++ r))
    rw [List.append_assoc, List.append_assoc]
    exact h 0 (by simp) _
theorem ls_ne2 {l : List Nd} {ls : List (List It)} (hl : ls.length = l.length) (h : l ≠ []) : ls ≠ [] := by rintro rfl; exact h (List.eq_nil_of_length_eq_zero hl.symm)
def FC (j : Nat) (x : List It) : Prop := FI x ∧ (j = 4 ∨ j = 2 → ∀ r, StopG (flat (x ++ r)))
theorem FC.of {x : List It} {j : Nat} (h : FI x) (hj : ¬ (j = 4 ∨ j = 2)) : FC j x := ⟨h, fun h => absurd h hj⟩
theorem fc_ls {j : Nat} {l : List Nd} {ls : List (List It)} (hl : ls.length = l.length) (h : ∀ i (h : i < l.length) (h' : i < ls.length), FC j ls[i]) : ∀ i (h : i < ls.length), FI ls[i] := fun i hi => (h i (by omega) hi).1
theorem pr_fine {j : Nat} {a : Nd} {x : List It} (h : Pr j a x) : FC j x := by
  have he : ∀ r, Fine r → StopG (flat r) → Fine (sp :: wd sEnd :: r) := fun r hr hs => fine_sp (fine_t (ok_wd (by decide)) hs hr)
  induction h with
  | leaf h h3 => exact FC.of (fun r hr hs => fine_t h hs hr) (by decide)
  | tuple hl h ih =>
    refine FC.of (fun r hr hs => ?_) (by decide)
    simp only [List.cons_append, List.append_assoc, List.nil_append]
    exact fine_sg (by decide) (fine_comma (fc_ls hl ih) (fine_sg (by decide) hr) (stop_sg (by decide) r))
  | nil => exact FC.of (fun r hr hs => fine_sg (by decide) (fine_sg (by decide) hr)) (by decide)
  | cons ha ht iha iht =>
    refine FC.of (fun r hr hs => ?_) (by decide)
    simp only [List.cons_append, List.append_assoc, List.nil_append]
    exact fine_sg (by decide) (iha.1 _ (iht.1 r hr hs) (iht.2 (.inl rfl) r))
  | rest_nil => exact ⟨fun r hr hs => fine_sg (by decide) hr, fun _ r => stop_sg (by decide) r⟩
  | rest_cons ha ht iha iht =>
    refine ⟨fun r hr hs => ?_, fun _ r => stop_sg (by decide) _⟩
    simp only [List.cons_append, List.append_assoc, List.nil_append]
    exact fine_sg (by decide) (iha.1 _ (iht.1 r hr hs) (iht.2 (.inl rfl) r))
  | rest_bar ht h5 h6 iht =>
    refine ⟨fun r hr hs => ?_, fun _ r => stop_sg (by decide) _⟩
    simp only [List.cons_append, List.append_assoc, List.nil_append]
    exact fine_sg (by decide) (iht.1 _ (fine_sg (by decide) hr) (stop_sg (by decide) _))
  | call hn hl h ih =>
    refine FC.of (fun r hr hs => ?_) (by decide)
    simp only [List.cons_append, List.append_assoc, List.nil_append]
    exact fine_t hn (stop_sg (by decide) _) (fine_sg (by decide) (fine_comma (fc_ls hl ih) (fine_sg (by decide) hr) (stop_sg (by decide) r)))
  | apply hf hl h ihf ih =>
    refine FC.of (fun r hr hs => ?_) (by decide)
    simp only [List.cons_append, List.append_assoc, List.nil_append]
    exact (FI.clld ihf.1) _ (fine_sg (by decide) (fine_comma (fc_ls hl ih) (fine_sg (by decide) hr) (stop_sg (by decide) r))) (stop_sg (by decide) _)
  | op hu ht hk h4 ha hb iha ihb =>
    refine FC.of (fun r hr hs => ?_) (by decide)
    simp only [List.cons_append, List.append_assoc, List.nil_append]
    exact (FI.oper iha.1) _ (fine_sp (fine_t hk (stop_sp _) (fine_sp ((FI.oper ihb.1) r hr hs)))) (stop_sp _)
  | un ht hk h4 ha iha =>
    refine FC.of (fun r hr hs => ?_) (by decide)
    simp only [List.cons_append, List.append_assoc, List.nil_append]
    exact fine_t hk (stop_sp _) (fine_sp ((FI.oper iha.1) r hr hs))
  | mat ha hb iha ihb =>
    refine FC.of (fun r hr hs => ?_) (by decide)
    simp only [List.cons_append, List.append_assoc, List.nil_append]
    exact (FI.oper iha.1) _ (fine_sp (fine_t (ok_sg (by decide)) (stop_sp _) (fine_sp ((FI.oper ihb.1) r hr hs)))) (stop_sp _)
  | send ha hb iha ihb =>
    refine FC.of (fun r hr hs => ?_) (by decide)
    simp only [List.cons_append, List.append_assoc, List.nil_append]
    exact (FI.oper iha.1) _ (fine_sp (fine_t (ok_sg (by decide)) (stop_sp _) (fine_sp ((FI.oper ihb.1) r hr hs)))) (stop_sp _)
  | fn h0 hl h ih =>
    refine FC.of (fun r hr hs => ?_) (by decide)
    simp only [List.cons_append, List.append_assoc, List.nil_append]
    exact fine_t (ok_wd (by decide)) (sep_stop _ _ (ls_ne2 hl h0) (fun i hi => (ih i (by omega) hi).2 (.inr rfl)) _) (fine_semiB (fc_ls hl ih) (he r hr hs) (stop_sp _))
  | case ha h0 hl h iha ih =>
    refine FC.of (fun r hr hs => ?_) (by decide)
    simp only [List.cons_append, List.append_assoc, List.nil_append]
    exact fine_t (ok_wd (by decide)) (stop_sp _) (fine_sp (iha.1 _ (fine_sp (fine_t (ok_wd (by decide)) (stop_sp _) (fine_sp (fine_semiB (fc_ls hl ih) (he r hr hs) (stop_sp _))))) (stop_sp _)))
  | tr hb0 hbl hb h0 hl h ihb ih =>
    refine FC.of (fun r hr hs => ?_) (by decide)
    simp only [List.cons_append, List.append_assoc, List.nil_append]
    exact fine_t (ok_wd (by decide)) (stop_sp _) (fine_sp (fine_commaB (fc_ls hbl ihb) (fine_sp (fine_t (ok_wd (by decide)) (stop_sp _) (fine_sp (fine_semiB (fc_ls hl ih) (he r hr hs) (stop_sp _))))) (stop_sp _)))
  | recv h0 hl h ih =>
    refine FC.of (fun r hr hs => ?_) (by decide)
    simp only [List.cons_append, List.append_assoc, List.nil_append]
    exact fine_t (ok_wd (by decide)) (stop_sp _) (fine_sp (fine_semiB (fc_ls hl ih) (he r hr hs) (stop_sp _)))
  | @recvA l b ls bs a x hl h ha hb0 hbl hb ih iha ihb =>
    refine FC.of (fun r hr hs => ?_) (by decide)
    have h2 : Fine (sp :: wd sAfter :: sp :: (x ++ sp :: .t 5 0 sTo :: sp :: (sepI commaB bs ++ sp :: wd sEnd :: r))) :=
      fine_sp (fine_t (ok_wd (by decide)) (stop_sp _) (fine_sp (iha.1 _ (fine_sp (fine_t ok_to (stop_sp _) (fine_sp (fine_commaB (fc_ls hbl ihb) (he r hr hs) (stop_sp _))))) (stop_sp _))))
    split
    · simp only [List.cons_append, List.append_assoc, List.nil_append]
      exact fine_t (ok_wd (by decide)) (stop_sp _) h2
    · simp only [List.cons_append, List.append_assoc, List.nil_append]
      exact fine_t (ok_wd (by decide)) (stop_sp _) (fine_sp (fine_semiB (fc_ls hl ih) h2 (stop_sp _)))
  | arm hp hgl hg hb0 hbl hb ihp ihg ihb =>
    refine FC.of (fun r hr hs => ?_) (by decide)
    rw [List.append_assoc]
    exact ihp.1 _ ((FI.tail (fc_ls hgl ihg) (fc_ls hbl ihb)) r hr hs) (stop_tail _ _ r)
  | head hpl hp hgl hg hb0 hbl hb ihp ihg ihb =>
    refine ⟨fun r hr hs => ?_, fun _ r => stop_sg (by decide) _⟩
    simp only [List.cons_append, List.append_assoc, List.nil_append]
    exact fine_sg (by decide) (fine_comma (fc_ls hpl ihp) (fine_sg (by decide) ((FI.tail (fc_ls hgl ihg) (fc_ls hbl ihb)) r hr hs)) (stop_sg (by decide) _))
  | fhead hn hpl hp hgl hg hb0 hbl hb ihp ihg ihb =>
    refine FC.of (fun r hr hs => ?_) (by decide)
    simp only [List.cons_append, List.append_assoc, List.nil_append]
    exact fine_t hn (stop_sg (by decide) _) (fine_sg (by decide) (fine_comma (fc_ls hpl ihp) (fine_sg (by decide) ((FI.tail (fc_ls hgl ihg) (fc_ls hbl ihb)) r hr hs)) (stop_sg (by decide) _)))
end Go.Proofs.YtdmmhfbafinkpaaGreatDoor

/- ParseBack: the plain law: there and back. -/
namespace Go.Proofs.YtdmmhfbafinkpaaGreatDoor
open Go.Emb

theorem escLen_le (c : UInt8) : (escL c).length ≤ 4 := by unfold escL; split <;> (try split) <;> simp
theorem flatEscLen_le (l : List UInt8) : (l.flatMap escL).length ≤ 4 * l.length := by
  induction l with
  | nil => simp
  | cons c r ih => have := escLen_le c; simp only [List.flatMap_cons, List.length_append, List.length_cons]; omega
theorem decLen_le : ∀ (k u : Nat), 1 ≤ k → u < 10 ^ k → (Lib.decDigits u).length ≤ k
  | 0, _, h, _ => absurd h (by omega)
  | k + 1, u, _, hu => by
    rw [Lib.decDigits]
    split
    · simp
    · rename_i h
      have hk : 1 ≤ k := by
        rcases k with _ | k
        · simp at hu; omega
        · omega
      have := decLen_le k (u / 10) hk (by rw [Nat.pow_succ] at hu; omega)
      simp only [List.length_append, List.length_cons, List.length_nil]
      omega
theorem piece_len {k n : Int} {x : List UInt8} (h : TokOk ⟨k, n, x, 0⟩) : (It.t k n x).text.length ≤ 1100 := by
  show (if k = 1 then Lib.itoa n else if k = 2 then nameL x else x).length ≤ 1100
  unfold TokOk at h
  simp only at h
  rcases h with ⟨rfl, rfl, m, rfl, hn⟩ | ⟨rfl, ⟨rfl, h1, h2⟩ | ⟨rfl, h1, h2, c, r, rfl, hg⟩ | ⟨rfl, hw⟩ | ⟨rfl, ⟨c, rfl, hc⟩ | ⟨c, d, rfl, hc⟩⟩⟩
  · rw [if_pos rfl]
    have hi : Lib.itoa (m : Int) = Lib.decDigits m := by unfold Lib.itoa; rw [if_neg (by omega)]; simp
    rw [hi]
    have := decLen_le 20 m (by omega) (by omega)
    omega
  · rw [if_neg (by decide), if_pos rfl]
    unfold nameL
    split
    · omega
    · unfold quoteL
      have := flatEscLen_le x
      simp only [List.length_cons, List.length_append, List.length_nil]
      omega
  · rw [if_neg (by decide), if_neg (by decide)]; omega
  · have hall : ∀ s ∈ wordsS, s.length ≤ 255 := by decide
    have := hall x (List.contains_iff_mem.1 hw)
    rw [if_neg (by decide), if_neg (by decide)]; omega
  · rw [if_neg (by decide), if_neg (by decide)]; simp
  · rw [if_neg (by decide), if_neg (by decide)]; simp
theorem flat_len : ∀ l : List It, Fine l → (flat l).length ≤ 1100 * l.length
  | [], _ => Nat.zero_le _
  | .b c :: r, h => by
    have := flat_len r h.2
    rw [flat_cons, List.length_append, List.length_cons]
    show 1 + _ ≤ _
    omega
  | .t k n x :: r, h => by
    have h1 := flat_len r h.2.2
    have h2 := piece_len h.1
    rw [flat_cons, List.length_append, List.length_cons]
    omega
theorem FI.fine {x : List It} (h : FI x) : Fine x := by have := h [] trivial (.inl rfl); rwa [List.append_nil] at this
theorem PrF.fine {l : List Nd} {x : List It} (h : PrF l x) : ∀ r, Fine r → Fine (x ++ r) := fun r hr => by
  cases h with
  | mk h0 hl h =>
    unfold funI
    rw [List.append_assoc]
    exact fine_semiB (fc_ls hl fun i h1 h2 => pr_fine (h i h1 h2)) (fine_sg (by decide) ⟨by decide, hr⟩) (stop_sg (by decide) _)
theorem PrG.fine : ∀ (fs : List (List Nd)) (xs : List (List It)), PrG fs xs → Fine xs.flatten
  | [], [], _ => trivial
  | [], _ :: _, ⟨h, _⟩ => by simp at h
  | _ :: _, [], ⟨h, _⟩ => by simp at h
  | a :: l, x :: xs, h => by
    obtain ⟨h1, h2⟩ := PrG.cons_iff.1 h
    rw [List.flatten_cons]
    exact h1.fine _ (PrG.fine l xs h2)
theorem fun_pr {m : Nat} {s : St} (hs : TokS s) (he : (funP m s).2.err = 0) : ∃ x, PrF (funP m s).1 x ∧ x.length + 8 * (funP m s).2.toks.length ≤ 8 * s.toks.length := by
  have h := W.seq (c0 := 0) (p := clausesL m 2 0) (f := fun l => doS (mustS sDot) (ret l)) (R := fun l c => ∃ x, PrF l x ∧ x.length ≤ c) ((allW m).clausesL 0 2 0 (by omega)) ((allS m).clausesL _ _) (fun l => .doS (.must _) (.ret _)) (fun l c hl => W.must (.ret _) (W.rt (by
    obtain ⟨h0, ls, hls, hll⟩ := hl
    have l1 := sep_len semiB (by simp) ls
    exact ⟨_, PrF.mk h0 hls.1 hls.2, by unfold funI; simp; omega⟩))) s hs he
  obtain ⟨c, ⟨x, hx, hxl⟩, h2⟩ := h
  exact ⟨x, hx, by show x.length + 8 * (bnd (clausesL m 2 0) (fun l => doS (mustS sDot) (ret l)) s).2.toks.length ≤ _; omega⟩
theorem funs_pr : ∀ (m : Nat) (b : Bool) (s : St), TokS s → (funsL m b s).2.err = 0 → ∃ xs, PrG (funsL m b s).1 xs ∧ xs.flatten.length + 8 * (funsL m b s).2.toks.length ≤ 8 * s.toks.length
  | 0, b, s, _, he => by rw [funsL] at he; exact absurd he (failS_ne 999 (by decide) s)
  | m + 1, b, s, hs, he => by
    by_cases hc : s.err = 0 ∧ (b = true ∨ s.toks ≠ [])
    · rw [funs_go hc] at he ⊢
      have he1 : (funP m s).2.err = 0 := (Good.funs m false).ne he
      obtain ⟨x, hx, hxl⟩ := fun_pr hs he1
      have hsf : Suf (funP m) := .bnd ((allS m).clausesL _ _) fun l => .doS (.must _) (.ret _)
      obtain ⟨xs, hxs, hxsl⟩ := funs_pr m false _ (hs.suf (hsf s)) he
      exact ⟨x :: xs, PrG.cons_iff.2 ⟨hx, hxs⟩, by rw [List.flatten_cons, List.length_append]; show _ + 8 * (funsL m false (funP m s).2).2.toks.length ≤ _; omega⟩
    · rw [funs_stop hc]
      exact ⟨[], ⟨rfl, fun i h => by simp at h⟩, by simp⟩
/-- what Parse makes can be printed -/
theorem law_print {l : List UInt8} {fs : List (List Nd)} (h : PrOk l fs) : ∃ xs, PrG fs xs ∧ xs.flatten.length ≤ 8 * l.length := by
  obtain ⟨ts, s1, hts, ⟨N, hev⟩, he⟩ := h
  have h1 := hev N (Nat.le_refl _)
  have hs : TokS ⟨ts, l.length, 0, 0⟩ := scan_ok ts l 0 hts
  simp only at h1
  obtain ⟨xs, h2, h3⟩ := funs_pr N true ⟨ts, l.length, 0, 0⟩ hs (by rw [h1]; exact he)
  rw [h1] at h2 h3
  have := begin_len l
  rw [begin_ok hts] at this
  simp only at this
  exact ⟨xs, h2, by simp only at h3; omega⟩
/-- what is printed is parsed to the same trees, or it is nested too deep -/
theorem law_again {fs : List (List Nd)} {xs : List (List It)} (hx : PrG fs xs) (h0 : fs ≠ []) {gs : List (List Nd)} {s2 : St} (hr : Ev (fun k => funsL k true) (beginS (flat xs.flatten)) gs s2) : s2.err = 111 ∨ (s2.err = 0 ∧ gs = fs) := by
  obtain ⟨ts, h1, h2⟩ := scan_flat xs.flatten 0 (PrG.fine fs xs hx)
  rw [begin_ok h1] at hr
  obtain ⟨N, hp⟩ := PrG.par fs xs hx true (fun _ => h0)
  obtain ⟨M, hm⟩ := hr
  have h3 := hm (N + M) (by omega)
  rcases hp (N + M) (by omega) ⟨ts, (flat xs.flatten).length, 0, 0⟩ ⟨rfl, h2⟩ with ⟨e1, e2⟩ | e1
  · simp only at h3 e1 e2
    rw [h3] at e1 e2
    exact .inr ⟨e2.1, e1⟩
  · simp only at h3 e1
    rw [h3] at e1
    exact .inl e1
end Go.Proofs.YtdmmhfbafinkpaaGreatDoor
