import Derived.Test.YtdmmhfbafinkpaaGreatDoorPaY
/- ParseBack: the plain law: an error's place lies within the text. -/
namespace Go.Proofs.YtdmmhfbafinkpaaGreatDoor
open Go.Emb

def Inv (N : Int) (s : St) : Prop := (s.err = 0 → s.en = N ∧ ∀ x ∈ s.toks, (x.2 : Int) ≤ N) ∧ (s.err ≠ 0 → 0 ≤ s.at_ ∧ s.at_ ≤ N)
def AtS (g : St → St) : Prop := ∀ s N, 0 ≤ N → Inv N s → Inv N (g s)
def At {α : Type} (p : P α) : Prop := ∀ s N, 0 ≤ N → Inv N s → Inv N (p s).2
section
variable {α β : Type}
theorem At.bnd {p : P α} {f : α → P β} (hp : At p) (hf : ∀ a, At (f a)) : At (bnd p f) := fun s N hN h => hf (p s).1 (p s).2 N hN (hp s N hN h)
theorem At.ret (a : α) : At (ret a) := fun _ _ _ h => h
theorem At.doS {g : St → St} {p : P α} (hg : AtS g) (hp : At p) : At (doS g p) := fun s N hN h => hp (g s) N hN (hg s N hN h)
theorem AtS.fail (e : Int) (he : e ≠ 0) : AtS (failS e) := fun s N hN h => by
  unfold failS
  split
  · rename_i h0
    refine ⟨fun h1 => absurd h1 he, fun _ => ?_⟩
    obtain ⟨h1, h2⟩ := h.1 h0
    show 0 ≤ plc s ∧ plc s ≤ N
    unfold plc
    split
    · omega
    · rename_i x r hx
      have := h2 x (by rw [hx]; simp)
      omega
  · exact h
theorem At.take (l : List (List UInt8)) : At (takeS l) := fun s N hN h => by
  unfold takeS
  split
  · exact ⟨fun h0 => ⟨(h.1 h0).1, fun x hx => (h.1 h0).2 x (List.mem_of_mem_tail hx)⟩, h.2⟩
  · exact h
theorem At.has (x : List UInt8) : At (hasS x) := At.take [x]
theorem AtS.must (x : List UInt8) : AtS (mustS x) := fun s N hN h => by
  unfold mustS
  split
  · exact At.has x s N hN h
  · exact AtS.fail 110 (by decide) _ N hN (At.has x s N hN h)
theorem AtS.enter (d : Nat) : AtS (enterS d) := fun s N hN h => by
  unfold enterS
  split
  · exact AtS.fail 111 (by decide) s N hN h
  · exact h
theorem At.leaf : At leafS := fun s N hN h => by
  unfold leafS
  split
  · exact h
  · split
    · rename_i x r hx _
      exact ⟨fun h0 => ⟨(h.1 h0).1, fun y hy => (h.1 h0).2 y (by rw [hx]; exact List.mem_cons_of_mem _ hy)⟩, h.2⟩
    · exact h
end
structure AllA (n : Nat) : Prop where
  expr : ∀ d, At (expr n d)
  binary : ∀ v d, At (binary n v d)
  binLoop : ∀ v d a, At (binLoop n v d a)
  unary : ∀ d, At (unary n d)
  call : ∀ d, At (call n d)
  callLoop : ∀ d b a, At (callLoop n d b a)
  someL : ∀ d, At (someL n d)
  untilL : ∀ e d, At (untilL n e d)
  bodyP : ∀ d, At (bodyP n d)
  headP : ∀ x d, At (headP n x d)
  oneC : ∀ k d, At (oneC n k d)
  clausesL : ∀ k d, At (clausesL n k d)
  listP : ∀ d, At (listP n d)
  recvP : ∀ d, At (recvP n d)
  prim : ∀ d, At (prim n d)
theorem allA : ∀ n, AllA n
  | 0 => by
    constructor
    · intro x; rw [expr]; exact fun s => AtS.fail 999 (by decide) s
    · intro x y; rw [binary]; exact fun s => AtS.fail 999 (by decide) s
    · intro x y z; rw [binLoop]; exact fun s => AtS.fail 999 (by decide) s
    · intro x; rw [unary]; exact fun s => AtS.fail 999 (by decide) s
    · intro x; rw [call]; exact fun s => AtS.fail 999 (by decide) s
    · intro x y z; rw [callLoop]; exact fun s => AtS.fail 999 (by decide) s
    · intro x; rw [someL]; exact fun s => AtS.fail 999 (by decide) s
    · intro x y; rw [untilL]; exact fun s => AtS.fail 999 (by decide) s
    · intro x; rw [bodyP]; exact fun s => AtS.fail 999 (by decide) s
    · intro x y; rw [headP]; exact fun s => AtS.fail 999 (by decide) s
    · intro x y; rw [oneC]; exact fun s => AtS.fail 999 (by decide) s
    · intro x y; rw [clausesL]; exact fun s => AtS.fail 999 (by decide) s
    · intro x; rw [listP]; exact fun s => AtS.fail 999 (by decide) s
    · intro x; rw [recvP]; exact fun s => AtS.fail 999 (by decide) s
    · intro x; rw [prim]; exact fun s => AtS.fail 999 (by decide) s
  | n + 1 => by
    have ih := allA n
    constructor
    · intro d; rw [expr]; refine .doS (.enter d) (.bnd (ih.binary _ _) fun a => .bnd (.take _) fun o => ?_)
      cases o
      · exact .ret _
      · exact .bnd (ih.expr _) fun b => .ret _
    · intro v d; rw [binary]; split
      · exact ih.unary d
      · exact .bnd (ih.binary _ _) fun a => ih.binLoop _ _ _
    · intro v d a; rw [binLoop]; refine .bnd (.take _) fun o => ?_
      cases o
      · exact .ret _
      · refine .bnd (ih.binary _ _) fun b => ?_
        split
        · exact .ret _
        · exact ih.binLoop _ _ _
    · intro d; rw [unary]; refine .doS (.enter d) (.bnd (.take _) fun o => ?_)
      cases o
      · exact ih.call d
      · exact .bnd (ih.unary _) fun a => .ret _
    · intro d; rw [call]; exact fun s => At.bnd (ih.prim d) (fun a => ih.callLoop d (bareS s) a) s
    · intro d b a; rw [callLoop]; refine .bnd (.has _) fun o => ?_
      split
      · exact .bnd (ih.untilL _ _) fun l => ih.callLoop _ _ _
      · exact .ret _
    · intro d; rw [someL]; refine .bnd (ih.expr d) fun x => .bnd (.has _) fun o => ?_
      split
      · exact .bnd (ih.someL d) fun l => .ret _
      · exact .ret _
    · intro e d; rw [untilL]; refine .bnd (.has _) fun o => ?_
      split
      · exact .ret _
      · exact .bnd (ih.someL d) fun l => .doS (.must _) (.ret _)
    · intro d; rw [bodyP]; refine .bnd (.bnd (.has _) fun o => ?_) fun g => .doS (.must _) (.bnd (ih.someL d) fun b => .ret _)
      split
      · exact ih.someL d
      · exact .ret _
    · intro x d; rw [headP]; exact .doS (.must _) (.bnd (ih.untilL _ _) fun l => .bnd (ih.bodyP d) fun g => .ret _)
    · intro k d; rw [oneC]; split
      · exact .bnd (ih.expr d) fun a => .bnd (ih.bodyP d) fun g => .ret _
      · split
        · exact ih.headP _ _
        · intro s
          simp only
          split
          · exact AtS.fail 110 (by decide) s
          · rename_i x r h
            split
            · exact fun N hN hi => ih.headP x.1.text d { s with toks := r } N hN ⟨fun h0 => ⟨(hi.1 h0).1, fun y hy => (hi.1 h0).2 y (by rw [h]; exact List.mem_cons_of_mem _ hy)⟩, hi.2⟩
            · exact AtS.fail 110 (by decide) s
    · intro k d; rw [clausesL]; refine .bnd (ih.oneC k d) fun x => .bnd (.has _) fun o => ?_
      split
      · exact .bnd (ih.clausesL k d) fun l => .ret _
      · exact .ret _
    · intro d; rw [listP]; refine .bnd (.has _) fun o => ?_
      split
      · exact .ret _
      · refine .bnd (ih.someL d) fun l => .bnd (.bnd (.has _) fun o => ?_) fun t => .doS (.must _) (.ret _)
        split
        · exact ih.expr d
        · exact .ret _
    · intro d; rw [recvP]; refine .bnd (fun s => ?_) fun l => .bnd (.has _) fun o => ?_
      · split
        · exact ih.clausesL 0 d s
        · exact fun _ _ hi => hi
      · split
        · exact .bnd (ih.expr d) fun a => .doS (.must _) (.bnd (ih.someL d) fun b => .doS (.must _) (.ret _))
        · exact .doS (.must _) (.ret _)
    · intro d; rw [prim]; refine .bnd .leaf fun o => ?_
      cases o
      · refine .bnd (.take _) fun o => ?_
        cases o
        · exact .doS (.fail _ (by decide)) (.ret _)
        · simp only
          repeat' split
          · exact .bnd (ih.expr _) fun a => .doS (.must _) (.ret _)
          · exact .bnd (ih.untilL _ _) fun l => .ret _
          · exact ih.listP _
          · exact .bnd (ih.clausesL _ _) fun l => .doS (.must _) (.ret _)
          · exact .bnd (ih.expr _) fun a => .doS (.must _) (.bnd (ih.clausesL _ _) fun l => .doS (.must _) (.ret _))
          · exact ih.recvP _
          · exact .bnd (ih.someL _) fun b => .doS (.must _) (.bnd (ih.clausesL _ _) fun l => .doS (.must _) (.ret _))
      · exact .ret _

theorem at_funs : ∀ (n : Nat) (b : Bool), At (funsL n b)
  | 0, b => by rw [funsL]; exact fun s => AtS.fail 999 (by decide) s
  | n + 1, b => fun s N hN h => by
    by_cases hc : s.err = 0 ∧ (b = true ∨ s.toks ≠ [])
    · rw [funs_go hc]
      have hf : At (funP n) := .bnd ((allA n).clausesL _ _) fun l => .doS (.must _) (.ret _)
      exact at_funs n false _ N hN (hf s N hN h)
    · rw [funs_stop hc]; exact h
theorem placed_le : ∀ (E a : Nat) (ts : List (Tk × Nat)), Placed E a ts → ∀ x ∈ ts, x.2 ≤ E
  | _, _, [], _, _, h => by simp at h
  | E, a, (t, p) :: ts, h, x, hx => by
    obtain ⟨h1, h2, h3, h4⟩ := h
    rcases List.mem_cons.1 hx with rfl | hx
    · simp only; omega
    · exact placed_le E _ ts h4 x hx
theorem begin_inv (l : List UInt8) : Inv l.length (beginS l) := by
  rcases hR : scanL l 0 with p | ts
  · obtain ⟨h1, h2, h3⟩ := scan_err _ l (Nat.le_refl _) 0 p.1 p.2 hR
    unfold beginS
    rw [hR]
    exact ⟨fun h => by simp only at h; omega, fun _ => by simp only; omega⟩
  · rw [begin_ok hR]
    have hp := scan_placed ts l 0 hR
    exact ⟨fun _ => ⟨rfl, fun x hx => by have := placed_le _ _ ts hp x hx; show (x.2 : Int) ≤ (l.length : Int); omega⟩, fun h => absurd rfl h⟩
theorem err_at {l : List UInt8} {fs : List (List Nd)} {s' : St} (h : Ev (fun n => funsL n true) (beginS l) fs s') (he : s'.err ≠ 0) : 0 ≤ s'.at_ ∧ s'.at_ ≤ l.length := by
  obtain ⟨N, hN⟩ := h
  have h1 := hN N (Nat.le_refl _)
  have h2 := at_funs N true (beginS l) l.length (by omega) (begin_inv l)
  simp only at h1
  rw [h1] at h2
  exact h2.2 he
end Go.Proofs.YtdmmhfbafinkpaaGreatDoor
