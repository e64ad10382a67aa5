import Derived.Test.YtdmmhfbafinkpaaGreatDoorPaE
/- Parse: the plain law: how many parts there may be. -/
namespace Go.Proofs.YtdmmhfbafinkpaaGreatDoor
open Go.Emb

theorem failS_len (e : Int) (s : St) : (failS e s).toks.length ≤ s.toks.length := (GoodS.fail e s).1
theorem hasS_len2 (x : List UInt8) (s : St) (h : (hasS x s).1 = true) : (hasS x s).2.toks.length + 1 ≤ s.toks.length := by
  unfold hasS takeS at h ⊢
  split at h
  · rename_i hc
    rw [if_pos hc]
    match hs : s.toks with
    | [] => exact absurd (nextS_nil hs) hc.2
    | x :: r => simp
  · cases h
theorem someL_len : ∀ n d s, (someL n d s).1.length + (someL n d s).2.toks.length ≤ s.toks.length + 1
  | 0, d, s => by
    rw [someL]
    have := failS_len 999 s
    simp
    omega
  | n + 1, d, s => by
    rw [someL]
    show (bnd (hasS sComma) (fun o => if o then bnd (someL n d) fun l => ret ((expr n d s).1 :: l) else ret [(expr n d s).1]) (expr n d s).2).1.length + (bnd (hasS sComma) (fun o => if o then bnd (someL n d) fun l => ret ((expr n d s).1 :: l) else ret [(expr n d s).1]) (expr n d s).2).2.toks.length ≤ _
    have h1 := ((allG n).expr d s).1
    obtain ⟨s1, hs1⟩ : ∃ s1, s1 = (expr n d s).2 := ⟨_, rfl⟩
    rw [← hs1] at h1 ⊢
    unfold bnd
    rcases ho : (hasS sComma s1).1 with _ | _
    · have h2 := (Good.has sComma s1).1
      simp [ret]
      omega
    · have h2 := hasS_len2 sComma s1 ho
      have h3 := someL_len n d (hasS sComma s1).2
      simp [ret]
      omega
theorem Ev.some_len {d : Nat} {s s' : St} {l : List Nd} (h : Ev (fun n => someL n d) s l s') : l.length + s'.toks.length ≤ s.toks.length + 1 := by
  obtain ⟨N, h⟩ := h
  have h1 := someL_len N d s
  have h2 : someL N d s = (l, s') := h N (Nat.le_refl _)
  rwa [h2] at h1
theorem untilL_len (n : Nat) (e : List UInt8) (d : Nat) (s : St) : (untilL n e d s).1.length ≤ s.toks.length + 1 := by
  cases n with
  | zero => rw [untilL]; simp
  | succ n =>
    rw [untilL]
    unfold bnd
    rcases ho : (hasS e s).1 with _ | _
    · have h2 := (Good.has e s).1
      have h3 := someL_len n d (hasS e s).2
      simp [ret, doS]
      omega
    · simp [ret]
theorem Ev.until_len {d : Nat} {e : List UInt8} {s s' : St} {l : List Nd} (h : Ev (fun n => untilL n e d) s l s') : l.length ≤ s.toks.length + 1 := by
  obtain ⟨N, h⟩ := h
  have h1 := untilL_len N e d s
  have h2 : untilL N e d s = (l, s') := h N (Nat.le_refl _)
  rwa [h2] at h1
end Go.Proofs.YtdmmhfbafinkpaaGreatDoor
