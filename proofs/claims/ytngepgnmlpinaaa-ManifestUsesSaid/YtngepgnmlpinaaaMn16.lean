/- What the readers of manifests come to, faults and all: plain functions; that they are pMan. -/
import Derived.Test.YtngepgnmlpinaaaMn15
namespace Go.Proofs.Ytngepgnmlpinaaa
open Go.RowKit Go.Emb

def oExt (st : Option (List UInt8)) : (Int × Int) × Option (List UInt8) := (((oInt st).1, (oInt (oInt st).2).1), (oInt (oInt st).2).2)
def oMany {α : Type} (g : List UInt8 → α × Option (List UInt8)) : Nat → Option (List UInt8) → List α × Option (List UInt8)
  | 0, st => ([], st)
  | _ + 1, none => ([], none)
  | n + 1, some l => ((g l).1 :: (oMany g n (g l).2).1, (oMany g n (g l).2).2)
def gExt (l : List UInt8) : (Int × Int) × Option (List UInt8) := oExt (some l)
def oPlc (st : Option (List UInt8)) : Plc × Option (List UInt8) :=
  (⟨(oExt st).1.1, (oExt st).1.2, (oMany gExt (oNum false (oExt st).2).1 (oNum false (oExt st).2).2.2).1⟩, (oMany gExt (oNum false (oExt st).2).1 (oNum false (oExt st).2).2.2).2)
def gPlc (l : List UInt8) : Plc × Option (List UInt8) := oPlc (some l)
def oHead (bs : List UInt8) : (List UInt8 × (Int × Int) × List UInt8) × Option (List UInt8) :=
  (((oStr (some bs)).1, (oExt (oStr (some bs)).2).1, (oStr (oExt (oStr (some bs)).2).2).1), (oStr (oExt (oStr (some bs)).2).2).2)
def oMan (bs : List UInt8) : Man × Option (List UInt8) :=
  (⟨(oHead bs).1.1, (oHead bs).1.2.1, (oHead bs).1.2.2, (oMany gPlc (oNum false (oHead bs).2).1 (oNum false (oHead bs).2).2.2).1⟩, (oMany gPlc (oNum false (oHead bs).2).1 (oNum false (oHead bs).2).2.2).2)
theorem oMany_none {α : Type} (g : List UInt8 → α × Option (List UInt8)) : ∀ n, oMany g n none = ([], none)
  | 0 => rfl
  | _ + 1 => rfl
theorem oInt_none : oInt none = (0, none) := rfl
theorem oStr_none : oStr none = ([], none) := rfl
theorem oNum_none' (m : Bool) : oNum m none = (0, false, none) := rfl
theorem oExt_none : (oExt none).2 = none := rfl
/-- a reader with faults, and one that gives up -/
def Lifts {α : Type} (p : List UInt8 → Option (α × List UInt8)) (g : List UInt8 → α × Option (List UInt8)) : Prop := ∀ l, p l = match (g l).2 with
  | none => none
  | some r => some ((g l).1, r)
theorem lifts_int : Lifts pInt (fun l => oInt (some l)) := fun l => by
  unfold oInt
  simp only [Option.bind_some]
  cases pInt l with
  | none => rfl
  | some x => rfl
theorem lifts_str : Lifts pStr (fun l => oStr (some l)) := fun l => by
  unfold oStr
  simp only [Option.bind_some]
  cases pStr l with
  | none => rfl
  | some x => rfl
theorem lifts_ext : Lifts pExt gExt := fun l => by
  have h1 := lifts_int l
  unfold pExt gExt oExt
  simp only at h1 ⊢
  cases ha : oInt (some l) with
  | mk a sa =>
    rw [ha] at h1
    cases sa with
    | none => rw [h1]; simp only [oInt_none]
    | some r =>
      rw [h1]
      simp only
      have h2 := lifts_int r
      simp only at h2
      cases hb : oInt (some r) with
      | mk b sb =>
        rw [hb] at h2
        cases sb with
        | none => rw [h2]
        | some r2 => rw [h2]
theorem lifts_many {α : Type} {p : List UInt8 → Option (α × List UInt8)} {g : List UInt8 → α × Option (List UInt8)} (h : Lifts p g) : ∀ (n : Nat) (l : List UInt8), pMany p n l = match (oMany g n (some l)).2 with
    | none => none
    | some r => some ((oMany g n (some l)).1, r)
  | 0, l => rfl
  | n + 1, l => by
    rw [pMany, h l, oMany]
    cases hg : (g l).2 with
    | none => simp only [oMany_none]
    | some r =>
      simp only
      rw [lifts_many h n r]
      cases hm : (oMany g n (some r)).2 with
      | none => rfl
      | some q => rfl
theorem lifts_num {st : Option (List UInt8)} {l : List UInt8} (h : st = some l) : pNum false l = match (oNum false st).2.2 with
    | none => none
    | some r => some ((oNum false st).1, (oNum false st).2.1, r) := by
  subst h
  unfold oNum
  simp only [Option.bind_some]
  cases pNum false l with
  | none => rfl
  | some x => rfl
theorem lifts_plc : Lifts pPlc gPlc := fun l => by
  have h1 := lifts_ext l
  unfold gExt at h1
  unfold gPlc oPlc
  have hp : pPlc l = match pExt l with
    | none => none
    | some (x, q) => match pNum false q with
      | none => none
      | some (n, _, s) => match pMany pExt n s with
        | none => none
        | some (xs, t) => some (⟨x.1, x.2, xs⟩, t) := by
    unfold pPlc pExt
    cases pInt l with
    | none => rfl
    | some y =>
      obtain ⟨a, r⟩ := y
      simp only
      cases pInt r with
      | none => rfl
      | some z => rfl
  rw [hp, h1]
  generalize oExt (some l) = x
  obtain ⟨x, sx⟩ := x
  cases sx with
  | none => simp only [oNum_none', oMany_none]
  | some q =>
    simp only
    have hn := lifts_num (st := some q) rfl
    rw [hn]
    generalize oNum false (some q) = y
    obtain ⟨n, is, sn⟩ := y
    cases sn with
    | none => simp only [oMany_none]
    | some s =>
      simp only
      rw [lifts_many lifts_ext n s]
      cases hm : (oMany gExt n (some s)).2 with
      | none => rfl
      | some t => rfl
theorem lifts_man : Lifts pManR oMan := fun l => by
  unfold pManR oMan oHead
  have h1 := lifts_str l
  simp only at h1
  rw [h1]
  generalize oStr (some l) = x
  obtain ⟨s, sx⟩ := x
  cases sx with
  | none => simp only [oExt_none, oStr_none, oNum_none', oMany_none]
  | some l1 =>
    simp only
    have h2 := lifts_ext l1
    unfold gExt at h2
    rw [h2]
    generalize oExt (some l1) = y
    obtain ⟨x, sy⟩ := y
    cases sy with
    | none => simp only [oStr_none, oNum_none', oMany_none]
    | some l2 =>
      simp only
      have h3 := lifts_str l2
      simp only at h3
      rw [h3]
      generalize oStr (some l2) = z
      obtain ⟨t, sz⟩ := z
      cases sz with
      | none => simp only [oNum_none', oMany_none]
      | some l3 =>
        simp only
        rw [lifts_num (st := some l3) rfl]
        generalize oNum false (some l3) = y
        obtain ⟨n, is, sn⟩ := y
        cases sn with
        | none => simp only [oMany_none]
        | some l4 =>
          simp only
          rw [lifts_many lifts_plc n l4]
          cases hm : (oMany gPlc n (some l4)).2 with
          | none => rfl
          | some t => rfl
theorem pMan_oMan (bs : List UInt8) : pMan bs = if (oMan bs).2 = some [] then some (oMan bs).1 else none := by
  unfold pMan
  rw [lifts_man bs]
  cases h : (oMan bs).2 with
  | none => simp
  | some r =>
    simp only [Option.some.injEq]
/-- an item takes bytes -/
theorem pNum_less {m is : Bool} {n : Nat} {l r : List UInt8} (h : pNum m l = some (n, is, r)) : r.length < l.length := by
  rw [(pNum_inv h).1, List.length_append]
  have := (numL_length n (if is then 128 else 0)).2
  omega
theorem pInt_less {n : Int} {l r : List UInt8} (h : pInt l = some (n, r)) : r.length < l.length := by
  unfold pInt at h
  split at h
  · cases h
  · rename_i m is q hm
    have := pNum_less hm
    split at h
    · cases h
    · simp only [Option.some.injEq, Prod.mk.injEq] at h
      obtain ⟨-, rfl⟩ := h
      exact this
theorem oInt_le {st : Option (List UInt8)} {r : List UInt8} (h : (oInt st).2 = some r) : ∃ l, st = some l ∧ r.length < l.length := by
  cases st with
  | none => cases h
  | some l =>
    refine ⟨l, rfl, ?_⟩
    have h1 := lifts_int l
    simp only [h] at h1
    exact pInt_less h1
theorem oExt_le {st : Option (List UInt8)} {r : List UInt8} (h : (oExt st).2 = some r) : ∃ l, st = some l ∧ r.length < l.length := by
  obtain ⟨l1, h1, h2⟩ := oInt_le h
  obtain ⟨l, rfl, h3⟩ := oInt_le h1
  exact ⟨l, rfl, by omega⟩
theorem oNum_le {st : Option (List UInt8)} {r : List UInt8} (h : (oNum false st).2.2 = some r) : ∃ l, st = some l ∧ r.length < l.length := by
  cases st with
  | none => cases h
  | some l =>
    refine ⟨l, rfl, ?_⟩
    have h1 := lifts_num (st := some l) rfl
    rw [h] at h1
    exact pNum_less h1
theorem oMany_le {α : Type} {g : List UInt8 → α × Option (List UInt8)} (hg : ∀ l r, (g l).2 = some r → r.length < l.length) : ∀ (n : Nat) (st : Option (List UInt8)) (r : List UInt8), (oMany g n st).2 = some r → ∃ l, st = some l ∧ r.length ≤ l.length
  | 0, st, r, h => ⟨r, h, Nat.le_refl _⟩
  | _ + 1, none, r, h => by cases h
  | n + 1, some l, r, h => by
    obtain ⟨l1, h1, h2⟩ := oMany_le hg n (g l).2 r h
    have := hg l l1 h1
    exact ⟨l, rfl, by omega⟩
theorem gExt_less (l r : List UInt8) (h : (gExt l).2 = some r) : r.length < l.length := by
  obtain ⟨l', h1, h2⟩ := oExt_le h
  cases h1
  exact h2
theorem gPlc_less (l r : List UInt8) (h : (gPlc l).2 = some r) : r.length < l.length := by
  obtain ⟨l1, h1, h2⟩ := oMany_le gExt_less _ _ _ h
  obtain ⟨l2, h3, h4⟩ := oNum_le h1
  obtain ⟨l3, h5, h6⟩ := oExt_le h3
  cases h5
  omega
theorem oExt_ok (st : Option (List UInt8)) : ExtOk (oExt st).1 := ⟨oInt_in st, oInt_in _⟩
theorem oMany_all {α : Type} {g : List UInt8 → α × Option (List UInt8)} {Ok : α → Prop} (hg : ∀ l, Ok (g l).1) : ∀ (n : Nat) (st : Option (List UInt8)), ∀ x ∈ (oMany g n st).1, Ok x
  | 0, st, x, h => by cases h
  | _ + 1, none, x, h => by cases h
  | n + 1, some l, x, h => by
    rcases List.mem_cons.1 h with rfl | h
    · exact hg l
    · exact oMany_all hg n _ x h
def lenO (st : Option (List UInt8)) : Nat := match st with
  | none => 0
  | some l => l.length + 1
/-- so far xs; what is still to come -/
def ManyAt {α : Type} (g : List UInt8 → α × Option (List UInt8)) (T : List α × Option (List UInt8)) (N : Nat) (m : Nat) (st : Option (List UInt8)) (xs : List α) : Prop :=
  xs ++ (oMany g m st).1 = T.1 ∧ (oMany g m st).2 = T.2 ∧ xs.length + lenO st ≤ N + 1
theorem ManyAt.start {α : Type} (g : List UInt8 → α × Option (List UInt8)) (n : Nat) (st : Option (List UInt8)) {N : Nat} (h : lenO st ≤ N + 1) : ManyAt g (oMany g n st) N n st [] := ⟨rfl, rfl, by simpa using h⟩
theorem ManyAt.done {α : Type} {g : List UInt8 → α × Option (List UInt8)} {T : List α × Option (List UInt8)} {N m : Nat} {st : Option (List UInt8)} {xs : List α} (h : ManyAt g T N m st xs) (hm : m = 0 ∨ st = none) : T = (xs, st) := by
  obtain ⟨h1, h2, -⟩ := h
  rcases hm with rfl | rfl
  · simp [oMany] at h1 h2
    exact Prod.ext h1.symm h2.symm
  · rw [oMany_none] at h1 h2
    simp at h1 h2
    exact Prod.ext h1.symm h2.symm
theorem ManyAt.next {α : Type} {g : List UInt8 → α × Option (List UInt8)} (hg : ∀ l r, (g l).2 = some r → r.length < l.length) {T : List α × Option (List UInt8)} {N m : Nat} {l : List UInt8} {xs : List α} (h : ManyAt g T N (m + 1) (some l) xs) :
    ManyAt g T N m (g l).2 (xs ++ [(g l).1]) ∧ xs.length ≤ N := by
  obtain ⟨h1, h2, h3⟩ := h
  simp [lenO] at h3
  refine ⟨⟨by rw [← h1]; simp [oMany], h2, ?_⟩, by omega⟩
  cases hr : (g l).2 with
  | none => simp [lenO]; omega
  | some r => have := hg l r hr; simp [lenO]; omega
theorem oStr_le (st : Option (List UInt8)) (N : Nat) (h : ∀ l, st = some l → l.length ≤ N) : (oStr st).1.length ≤ N := by
  cases st with
  | none => simp [oStr]
  | some l =>
    have h1 := lifts_str l
    simp only at h1
    cases hs : (oStr (some l)).2 with
    | none =>
      rw [hs] at h1
      unfold oStr
      simp only [Option.bind_some, h1]
      simp
    | some r =>
      rw [hs] at h1
      have h2 := pStr_inv h1
      have h3 := h l rfl
      rw [h2] at h3
      unfold strL at h3
      simp only [List.length_append] at h3
      omega
theorem oStr_rest {l r : List UInt8} (h : (oStr (some l)).2 = some r) : r.length ≤ l.length := by
  have h1 := lifts_str l
  simp only [h] at h1
  rw [pStr_inv h1]
  simp
end Go.Proofs.Ytngepgnmlpinaaa
