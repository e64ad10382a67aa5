import Derived.Test.YtdmmhfbafinkpaaDoorPa17
/- Parse: rows of functions; the plain law of many functions. -/
namespace Go.Proofs.YtdmmhfbafinkpaaDoor
open Go.RowKit Go.Emb Go.Shelf

/-- functions, one behind the other -/
def funsL : Nat → Bool → P (List (List Nd))
  | 0, _ => fun s => ([], failS 999 s)
  | n + 1, b => fun s => if s.err = 0 ∧ (b = true ∨ s.toks ≠ []) then bnd (funP n) (fun f => bnd (funsL n false) fun l => ret (f :: l)) s else ([], s)
theorem Ev.of_funs_stop {b : Bool} {s : St} (h : ¬ (s.err = 0 ∧ (b = true ∨ s.toks ≠ []))) : Ev (fun n => funsL n b) s [] s := by
  refine ⟨1, fun n hn => ?_⟩
  obtain ⟨m, rfl⟩ : ∃ m, n = m + 1 := ⟨n - 1, by omega⟩
  show funsL (m + 1) b s = ([], s)
  rw [funsL]
  simp only [if_neg h]
theorem Ev.of_funs_go {b : Bool} {s s1 s2 : St} {f : List Nd} {l : List (List Nd)} (h : s.err = 0 ∧ (b = true ∨ s.toks ≠ [])) (h1 : Ev funP s f s1) (h2 : Ev (fun n => funsL n false) s1 l s2) : Ev (fun n => funsL n b) s (f :: l) s2 := by
  obtain ⟨N0, h1⟩ := h1
  obtain ⟨N1, h2⟩ := h2
  refine ⟨N0 + N1 + 1, fun n hn => ?_⟩
  obtain ⟨m, rfl⟩ : ∃ m, n = m + 1 := ⟨n - 1, by omega⟩
  have h1 : funP m s = (f, s1) := h1 m (by omega)
  have h2 : funsL m false s1 = (l, s2) := h2 m (by omega)
  show funsL (m + 1) b s = (f :: l, s2)
  rw [funsL]
  simp only [if_pos h]
  simp [bnd, ret, h1, h2]
theorem Good.fun (n : Nat) : Good (funP n) := .bnd ((allG n).clausesL _ _) fun _ => .doS (.must _) (.ret _)
/-- a function takes a token, or fails -/
theorem Ev.fun_less {s s1 : St} {f : List Nd} (h : Ev funP s f s1) (he : s1.err = 0) : s1.toks.length + 1 ≤ s.toks.length := by
  obtain ⟨N, h⟩ := h
  have h0 := h N (Nat.le_refl _)
  unfold funP bnd doS ret at h0
  simp only [Prod.mk.injEq] at h0
  obtain ⟨-, h2⟩ := h0
  have h3 := ((allG N).clausesL 2 0 s).1
  rw [← h2] at he ⊢
  obtain ⟨h4, h5, h6⟩ := must_ok he
  rw [h6]
  have := has_lt h5
  omega
theorem placed_len (z : Nat) : ∀ (ts : List (Tk × Nat)) (a : Nat), a ≤ z → Placed z a ts → a + ts.length ≤ z := by
  intro ts
  induction ts with
  | nil => intro a ha _; simpa using ha
  | cons x r ih =>
    intro a _ h
    obtain ⟨t, p⟩ := x
    simp only [Placed] at h
    have := ih _ h.2.2.1 h.2.2.2
    simp only [List.length_cons]
    omega
theorem begin_len (l : List UInt8) : (beginS l).toks.length ≤ l.length := by
  unfold beginS
  rcases hR : scanL l 0 with p | ts
  · simp
  · have := placed_len _ ts 0 (by omega) (scan_placed ts l 0 hR)
    simp at this ⊢
    omega
/-- a slice of functions -/
def FsR (S : Nat → Prop) (w : World) (v : Value) (l : List (List Nd)) : Prop :=
  ∃ (es : List Value) (o : Option Nat), Rd w 1 v l.length es o ∧ (∀ x, o = some x → S x) ∧ es.length = l.length ∧ ∀ i (h : i < es.length) (h' : i < l.length), NsR S w true es[i] l[i]
def RowF (lo : Nat) (w : World) (v : Value) (l : List (List Nd)) (o : Option Nat) : Prop :=
  ∃ (es : List Value), Row w 38 1 v l.length es o ∧ es.length = l.length ∧ (∀ i (h : i < es.length) (h' : i < l.length), NsR (FrsX lo w o) w true es[i] l[i]) ∧ ∀ b, o = some b → lo ≤ b
theorem RowF.nil (lo : Nat) (w : World) : RowF lo w (.slice none 0 0) [] none := ⟨[], Row.nil _ _ _, rfl, fun i h => by simp at h, by simp⟩
theorem RowF.lt {lo : Nat} {w : World} {v : Value} {l : List (List Nd)} {o : Option Nat} (h : RowF lo w v l o) : ∀ b, o = some b → b < w.heap.size := by
  obtain ⟨es, h1, -⟩ := h; exact Row.lt h1
theorem RowF.keep {lo : Nat} {w w' : World} {v : Value} {l : List (List Nd)} {o : Option Nat} {F : List Nat} (h : RowF lo w v l o) (hk : Keep F w w') (hF : ∀ b ∈ F, b < lo) : RowF lo w' v l o := by
  obtain ⟨es, h1, h2, h3, h4⟩ := h
  exact ⟨es, h1.keep hk (fun b hb hf => absurd (h4 b hb) (by have := hF b hf; omega)), h2, fun i h h' => ((h3 i h h').keep hk (fun b hb h => absurd h.1 (by have := hF b hb; omega))).mono (fun b h => ⟨h.1, Nat.lt_of_lt_of_le h.2.1 hk.size, h.2.2⟩), h4⟩
theorem RowF.form {lo : Nat} {w : World} {v : Value} {l : List (List Nd)} {o : Option Nat} (h : RowF lo w v l o) : ∃ a c, v = .slice a l.length c := by
  obtain ⟨es, h1, -⟩ := h
  obtain ⟨o', ⟨-, a, c, hv, -⟩, -⟩ := Row.rd h1
  exact ⟨a, c, hv⟩
theorem RowF.push {lo lo' : Nat} {w w' : World} {v' : Value} {l : List (List Nd)} {o : Option Nat} {g : Nat} {cs : Value} {n : List Nd} {es : List Value}
    (he : es.length = l.length) (ht : ∀ i (h : i < es.length) (h' : i < l.length), NsR (FrsX lo w o) w true es[i] l[i]) (ho : ∀ b, o = some b → lo ≤ b) (hx : NsR (Frs lo' w) w true cs n) (hlo : lo ≤ lo') (hlo2 : lo' ≤ w.heap.size) (hol : ∀ b, o = some b → b < lo')
    (hk : Keep o.toList w w') (hg : o = some g ∨ w.heap.size ≤ g) (hr : Row w' 38 1 v' (l.length + 1) (es ++ [cs]) (some g)) : RowF lo w' v' (l ++ [n]) (some g) := by
  have hS : ∀ b, FrsX lo w o b → FrsX lo w' (some g) b := fun b h => ⟨h.1, Nat.lt_of_lt_of_le h.2.1 hk.size, fun e => by
    cases e
    rcases hg with hg | hg
    · exact h.2.2 hg
    · have := h.2.1; omega⟩
  have hX : ∀ b, Frs lo' w b → FrsX lo w' (some g) b := fun b h => ⟨Nat.le_trans hlo h.1, Nat.lt_of_lt_of_le h.2 hk.size, fun e => by
    cases e
    rcases hg with hg | hg
    · have := hol _ hg; have := h.1; omega
    · have := h.2; omega⟩
  refine ⟨es ++ [cs], by simpa using hr, by simp [he], fun i h h' => ?_, fun b hb => ?_⟩
  · by_cases hi : i < es.length
    · rw [List.getElem_append_left hi, List.getElem_append_left (by omega)]
      exact ((ht i hi (by omega)).keep hk (fun b hb h => by simp at hb; exact h.2.2 hb)).mono hS
    · obtain rfl : i = es.length := by simp at h; omega
      have e1 : (es ++ [cs])[es.length]'h = cs := by simp
      have e2 : (l ++ [n])[es.length]'h' = n := by rw [List.getElem_append_right (by omega)]; simp [he]
      rw [e1, e2]
      exact (hx.keep hk (fun b hb h => by simp at hb; have := hol _ hb; have := h.1; omega)).mono hX
  · cases hb
    rcases hg with hg | hg
    · exact ho _ hg
    · omega
theorem RowF.fs {lo : Nat} {w : World} {v : Value} {l : List (List Nd)} {o : Option Nat} (h : RowF lo w v l o) : FsR (Frs lo w) w v l := by
  have hlt := h.lt
  obtain ⟨es, h1, h2, h3, h4⟩ := h
  obtain ⟨o', h5, h6⟩ := Row.rd h1
  refine ⟨es, o', h5, fun x hx => ?_, h2, fun i h h' => (h3 i h h').mono (fun b hb => ⟨hb.1, hb.2.1⟩)⟩
  rcases h6 with h6 | h6
  · rw [h6] at hx; cases hx
  · rw [h6] at hx; exact ⟨h4 x hx, hlt x hx⟩
theorem RowF.app {lo lo' : Nat} {w : World} {v : Value} {l : List (List Nd)} {o : Option Nat} {cs : Value} {n : List Nd} (h : RowF lo w v l o) (hx : NsR (Frs lo' w) w true cs n) (hlo : lo ≤ lo') (hlo2 : lo' ≤ w.heap.size) (hol : ∀ b, o = some b → b < lo') (ar : Array Value) (t : TypeId) :
    ∃ es : List Value, Row (w.alloc (.cells ar t)) 38 1 v l.length es o ∧ ∀ g v' w4, Row w4 38 1 v' (l.length + 1) (es ++ [cs]) (some g) → Keep o.toList (w.alloc (.cells ar t)) w4 → (o = some g ∨ (w.alloc (.cells ar t)).heap.size ≤ g) → RowF lo w4 v' (l ++ [n]) (some g) := by
  have hk := (Keep.refl [] w).alloc (.cells ar t)
  obtain ⟨es, h1, h2, h3, h4⟩ := h.keep hk (by simp)
  exact ⟨es, h1, fun g v' w4 hr hk4 hg => RowF.push h2 h3 h4 (hx.up hk (by simp) (Nat.le_refl _)) hlo (Nat.le_trans hlo2 hk.size) hol hk4 hg hr⟩
theorem fun_info : (Tryd.prog.info? 38).map (fun i => (i.zero, i.size, i.bytes)) = some (some (.agg #[.slice none 0 0]), 1, 24) := by kernel_rfl
/-- what is left to do: nothing, behind an error -/
def perr (w : World) (pb : Nat) : Int := RowKit.intOf ((w.cell? ⟨pb, 2, none⟩).getD undef)
def pmeas (w : World) (pb : Nat) : Nat := if perr w pb = 0 then plen w pb + 1 else 0
theorem PS.meas {lo : Nat} {w : World} {pb : Nat} {s : St} (h : PS lo w pb s) : pmeas w pb = if s.err = 0 then s.toks.length + 1 else 0 := by
  have h1 := h.len
  obtain ⟨v, o, h2, -⟩ := h.blk
  unfold pmeas perr
  rw [(cells4p h2).2.2.1, h1]
  rfl
end Go.Proofs.YtdmmhfbafinkpaaDoor
