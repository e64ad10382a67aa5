/- A part of the proof (Mn13, Mn14, Mn15, Mn16, Mn17), joined by squeeze2.py. -/
import Derived.Test.YtimpadpeibgmoaaGreatYd06
import Derived.Lib.LazyBuf
set_option maxHeartbeats 8000000
set_option maxRecDepth 100000
namespace Go.Proofs.YtimpadpeibgmoaaGreat
open Go.RowKit Go.Emb
theorem p_end {w : World} {q : Nat} {bs : List UInt8} {v : Value} {bo : Option Nat} {st : Option (List UInt8)} (h : TSt 187 w q bs v bo st) :
  Calls Tryz.prog 104 #[.pointer (some ⟨q, 0, none⟩)] w fun e w' => ∃ E : Int, e = .returned (.int .i64 E) ∧ (E = 0 ↔ st = some []) ∧ -9223372036854775808 ≤ E ∧ E ≤ 9223372036854775807 ∧ Keep [] w w' := by
 obtain ⟨pos, fa, sp, ht, ⟨rfl, hfa, hf1, hf2⟩ | ⟨rfl, rfl, rfl⟩⟩ := h
 ·have hr := p_runs ht
  rw [show decide (fa = 0) = false from by simp [hfa]] at hr
  have hfl := p_fault ht
  have HR := hyd hr
  have HF := hyd hfl
  have HA := hyd hfa
  clear hr hfl ht hfa
  go_enter Tryz.func104, Tryz.ntmps104
  go_wp2_with fail
  refine HR.o.mono ?_
  rintro e w1 ⟨rfl, rfl⟩
  go_wp2_with fail
  refine HF.o.mono ?_
  rintro e w1 ⟨rfl, hk⟩
  go_wp2_with fail
  go_ret
  exact ⟨fa, rfl, by simp [HA.o], hf1, hf2, hk⟩
 ·have hr := p_runs ht
  rw [show decide ((0 : Int) = 0) = true from rfl] at hr
  have hrest := p_rest ht
  have hle := ht.le
  have hsz := ht.sz
  have HR := hyd hr
  have HT := hyd ht
  have HRE := hyd hrest
  clear hr ht hrest
  by_cases hp : pos < bs.length
  ·have hp' : (0 : Int) < (bs.length : Int) - (pos : Int) := by omega
   go_enter Tryz.func104, Tryz.ntmps104
   go_wp2_with fail
   refine HR.o.mono ?_
   rintro e w1 ⟨rfl, rfl⟩
   go_wp2_with fail
   refine HRE.o.mono ?_
   rintro e w1 ⟨rfl, hk⟩
   go_wp2_with fail
   go_ret
   refine ⟨4, rfl, ?_, by omega, by omega, hk⟩
   constructor
   ·intro h; omega
   ·intro h
    have := congrArg (Option.map List.length) h
    simp at this
    omega
  ·have hp' : ¬ (0 : Int) < (bs.length : Int) - (pos : Int) := by omega
   go_enter Tryz.func104, Tryz.ntmps104
   go_wp2_with fail
   refine HR.o.mono ?_
   rintro e w1 ⟨rfl, rfl⟩
   go_wp2_with fail
   refine HRE.o.mono ?_
   rintro e w1 ⟨rfl, hk⟩
   have hfl := p_fault (HT.o.keep0 hk)
   have HF := hyd hfl
   clear hfl
   go_wp2_with fail
   refine HF.o.mono ?_
   rintro e w2 ⟨rfl, hk2⟩
   go_wp2_with fail
   go_ret
   exact ⟨0, rfl, by simp; omega, by omega, by omega, hk.trans hk2 (by simp)⟩
theorem byteCells_one (bs : List UInt8) : ∀ u ∈ Lib.byteCells bs, u.oneCell' = true := by
 intro u hu
 obtain ⟨x, -, rfl⟩ := List.mem_map.1 hu
 rfl
theorem RB.rd {w : World} {v : Value} {bs : List UInt8} {o : Option Nat} (h : RB w v bs o) : ∃ o', Rd w 1 v bs.length (Lib.byteCells bs) o' ∧ (o' = none ∨ o' = o) := Row.rd h
theorem p_clone {w : World} {v : Value} {bs : List UInt8} {o : Option Nat} (h : Rd w 1 v bs.length (Lib.byteCells bs) o) (hsz : bs.length ≤ 1000000000) :
  Calls Tryz.prog 52 #[v] w fun e w' => ∃ v' o', e = .returned v' ∧ RB w' v' bs o' ∧ (∀ b, o' = some b → w.heap.size ≤ b) ∧ Keep [] w w' := by
 obtain ⟨i0, hi, hz0, hz1, hz2⟩ := info_parts byte_info
 obtain ⟨-, a, c, rfl, hc1, hc2, hrd⟩ := id h
 unfold maxLen at hc2
 have heq := fun wx : World => Lib.run_eql_slice_nil (P := Tryz.prog) (w := wx) (t := 35) (e := 5) (a := a) (n := bs.length) (c := c) (n' := 0) (c' := 0) (h := Tryz.underlying35)
 have H := hyd h
 have HI := hyd hi
 cases a with
 | none =>
  have hbs : bs = [] := by
   rcases hrd with ⟨h0, -⟩ | ⟨b, off, h0, -⟩
   ·exact List.eq_nil_of_length_eq_zero h0
   ·cases h0
  subst hbs
  clear h hrd hi
  go_enter Tryz.func52, Tryz.ntmps52
  have heq0 : ∀ wx : World, (binOp .eql 35 (.slice none 0 c) (.slice none 0 0)).run Tryz.prog wx = .ok (.bool true) wx := heq
  clear heq
  go_wp2_with fail
  go_ret
  exact ⟨_, none, rfl, RB.nil _, by simp, Keep.refl _ _⟩
 | some p =>
  clear h hrd hi
  go_enter Tryz.func52, Tryz.ntmps52
  go_wp2_with (at_builtin; refine wpList_append_rd _ rfl _ _ 35 35 rfl 5 5 i0 (.int .u8 0) 1 1 Tryz.underlying35 Tryz.underlying35 HI.o hz0 hz1 hz2 rfl w.heap.size 0 0 0 [] rfl (Row.made0 w _ _) _ rfl bs.length (Lib.byteCells bs) o (H.o.keep ((Keep.refl [] w).alloc _) (by simp)) (byteCells_one _) (by unfold maxLen; omega) (by omega) ?_)
  intro g off cap w2 hr hk hg
  try simp only [Nat.zero_add, List.nil_append] at hr
  try simp only [Nat.zero_add, List.nil_append]
  have hk2 : Keep [] w w2 := ((Keep.refl [] w).alloc _).trans hk (by simp)
  have hg2 : w.heap.size ≤ g := by
   rcases hg with h | h
   ·omega
   ·first | omega | (simp at h; omega)
  have HR := hyd (show RB w2 (.slice (some ⟨g, off, none⟩) bs.length cap) bs (some g) from hr)
  clear hr hk hg
  go_wp2_with fail
  go_ret
  exact ⟨_, some g, rfl, HR.o, fun b hb => by cases hb; exact hg2, hk2⟩
theorem p_open {w : World} {v : Value} {bs : List UInt8} {o : Option Nat} (h : Rd w 1 v bs.length (Lib.byteCells bs) o) (hsz : bs.length ≤ 1000000000) :
  Calls Tryz.prog 95 #[v] w fun e w' => ∃ q v' bo, e = .returned (.pointer (some ⟨q, 0, none⟩)) ∧ TSt 187 w' q bs v' bo (some bs) ∧ w.heap.size ≤ q ∧ (∀ b, bo = some b → w.heap.size ≤ b) ∧ (∀ b, bo = some b → b < w'.heap.size) ∧ Keep [] w w' := by
 have HC := hyd (p_clone h hsz)
 clear h
 go_enter Tryz.func95, Tryz.ntmps95
 go_wp2_with fail
 refine HC.o.mono ?_
 rintro e w1 ⟨v', o', rfl, hr, ho, hk⟩
 obtain ⟨bo, hrd, hbo⟩ := hr.rd
 have hlt := hr.lt
 obtain ⟨a2, c2, rfl, -, -⟩ := hr.form
 have H := hyd (And.intro hrd (And.intro hbo (And.intro ho (And.intro hk hlt))))
 clear hr hrd hbo ho hk hlt HC
 go_wp2_with fail
 go_ret
 obtain ⟨hrd, hbo, ho, hk, hlt⟩ := H.o
 have hk2 : Keep [] w1 (w1.alloc (.cells #[.slice a2 bs.length c2, .int .i64 0, .int .i64 0, .int .i64 0] 187)) := (Keep.refl [] w1).alloc _
 have hbo2 : ∀ b, bo = some b → o' = some b := fun b hb => by
  rcases hbo with h | h
  ·rw [h] at hb; cases hb
  ·rw [← h]; exact hb
 refine ⟨w1.heap.size, _, bo, rfl, ⟨0, 0, 0, ⟨heap_new w1 _, hrd.keep hk2 (by simp), fun b hb => by have := hlt b (hbo2 b hb); omega, Nat.zero_le _, hsz⟩, .inr ⟨rfl, rfl, rfl⟩⟩, hk.size, fun b hb => ho b (hbo2 b hb), fun b hb => by have := hlt b (hbo2 b hb); simp; omega, hk.trans hk2 (by simp)⟩
def oExt (st : Option (List UInt8)) : (Int × Int) × Option (List UInt8) := (((oInt st).1, (oInt (oInt st).2).1), (oInt (oInt st).2).2)
def oMany {α : Type} (g : List UInt8 → α × Option (List UInt8)) : Nat → Option (List UInt8) → List α × Option (List UInt8)
 | 0, st => ([], st)
 | _ + 1, none => ([], none)
 | n + 1, some l => ((g l).1 :: (oMany g n (g l).2).1, (oMany g n (g l).2).2)
def gExt (l : List UInt8) : (Int × Int) × Option (List UInt8) := oExt (some l)
def oPlc (st : Option (List UInt8)) : Plc × Option (List UInt8) :=
 (⟨(oExt st).1.1, (oExt st).1.2, (oMany gExt (oNum false (oExt st).2).1 (oNum false (oExt st).2).2.2).1⟩, (oMany gExt (oNum false (oExt st).2).1 (oNum false (oExt st).2).2.2).2)
def gPlc (l : List UInt8) : Plc × Option (List UInt8) := oPlc (some l)
def oHead (bs : List UInt8) : (List UInt8 × (Int × Int) × List UInt8) × Option (List UInt8) :=
 (((oStr (some bs)).1, (oExt (oStr (some bs)).2).1, (oStr (oExt (oStr (some bs)).2).2).1), (oStr (oExt (oStr (some bs)).2).2).2)
def oMan (bs : List UInt8) : Man × Option (List UInt8) :=
 (⟨(oHead bs).1.1, (oHead bs).1.2.1, (oHead bs).1.2.2, (oMany gPlc (oNum false (oHead bs).2).1 (oNum false (oHead bs).2).2.2).1⟩, (oMany gPlc (oNum false (oHead bs).2).1 (oNum false (oHead bs).2).2.2).2)
theorem oMany_none {α : Type} (g : List UInt8 → α × Option (List UInt8)) : ∀ n, oMany g n none = ([], none)
 | 0 => rfl
 | _ + 1 => rfl
theorem oInt_none : oInt none = (0, none) := rfl
theorem oStr_none : oStr none = ([], none) := rfl
theorem oNum_none' (m : Bool) : oNum m none = (0, false, none) := rfl
theorem oExt_none : (oExt none).2 = none := rfl
def Lifts {α : Type} (p : List UInt8 → Option (α × List UInt8)) (g : List UInt8 → α × Option (List UInt8)) : Prop := ∀ l, p l = match (g l).2 with
 | none => none
 | some r => some ((g l).1, r)
theorem lifts_int : Lifts pInt (fun l => oInt (some l)) := fun l => by
 unfold oInt
 simp only [Option.bind_some]
 cases pInt l with
 | none => rfl
 | some x => rfl
theorem lifts_str : Lifts pStr (fun l => oStr (some l)) := fun l => by
 unfold oStr
 simp only [Option.bind_some]
 cases pStr l with
 | none => rfl
 | some x => rfl
theorem lifts_ext : Lifts pExt gExt := fun l => by
 have h1 := lifts_int l
 unfold pExt gExt oExt
 simp only at h1 ⊢
 cases ha : oInt (some l) with
 | mk a sa =>
  rw [ha] at h1
  cases sa with
  | none => rw [h1]; simp only [oInt_none]
  | some r =>
   rw [h1]
   simp only
   have h2 := lifts_int r
   simp only at h2
   cases hb : oInt (some r) with
   | mk b sb =>
    rw [hb] at h2
    cases sb with
    | none => rw [h2]
    | some r2 => rw [h2]
theorem lifts_many {α : Type} {p : List UInt8 → Option (α × List UInt8)} {g : List UInt8 → α × Option (List UInt8)} (h : Lifts p g) : ∀ (n : Nat) (l : List UInt8), pMany p n l = match (oMany g n (some l)).2 with
  | none => none
  | some r => some ((oMany g n (some l)).1, r)
 | 0, l => rfl
 | n + 1, l => by
  rw [pMany, h l, oMany]
  cases hg : (g l).2 with
  | none => simp only [oMany_none]
  | some r =>
   simp only
   rw [lifts_many h n r]
   cases hm : (oMany g n (some r)).2 with
   | none => rfl
   | some q => rfl
theorem lifts_num {st : Option (List UInt8)} {l : List UInt8} (h : st = some l) : pNum false l = match (oNum false st).2.2 with
  | none => none
  | some r => some ((oNum false st).1, (oNum false st).2.1, r) := by
 subst h
 unfold oNum
 simp only [Option.bind_some]
 cases pNum false l with
 | none => rfl
 | some x => rfl
theorem lifts_plc : Lifts pPlc gPlc := fun l => by
 have h1 := lifts_ext l
 unfold gExt at h1
 unfold gPlc oPlc
 have hp : pPlc l = match pExt l with
  | none => none
  | some (x, q) => match pNum false q with
   | none => none
   | some (n, _, s) => match pMany pExt n s with
    | none => none
    | some (xs, t) => some (⟨x.1, x.2, xs⟩, t) := by
  unfold pPlc pExt
  cases pInt l with
  | none => rfl
  | some y =>
   obtain ⟨a, r⟩ := y
   simp only
   cases pInt r with
   | none => rfl
   | some z => rfl
 rw [hp, h1]
 generalize oExt (some l) = x
 obtain ⟨x, sx⟩ := x
 cases sx with
 | none => simp only [oNum_none', oMany_none]
 | some q =>
  simp only
  have hn := lifts_num (st := some q) rfl
  rw [hn]
  generalize oNum false (some q) = y
  obtain ⟨n, is, sn⟩ := y
  cases sn with
  | none => simp only [oMany_none]
  | some s =>
   simp only
   rw [lifts_many lifts_ext n s]
   cases hm : (oMany gExt n (some s)).2 with
   | none => rfl
   | some t => rfl
theorem lifts_man : Lifts pManR oMan := fun l => by
 unfold pManR oMan oHead
 have h1 := lifts_str l
 simp only at h1
 rw [h1]
 generalize oStr (some l) = x
 obtain ⟨s, sx⟩ := x
 cases sx with
 | none => simp only [oExt_none, oStr_none, oNum_none', oMany_none]
 | some l1 =>
  simp only
  have h2 := lifts_ext l1
  unfold gExt at h2
  rw [h2]
  generalize oExt (some l1) = y
  obtain ⟨x, sy⟩ := y
  cases sy with
  | none => simp only [oStr_none, oNum_none', oMany_none]
  | some l2 =>
   simp only
   have h3 := lifts_str l2
   simp only at h3
   rw [h3]
   generalize oStr (some l2) = z
   obtain ⟨t, sz⟩ := z
   cases sz with
   | none => simp only [oNum_none', oMany_none]
   | some l3 =>
    simp only
    rw [lifts_num (st := some l3) rfl]
    generalize oNum false (some l3) = y
    obtain ⟨n, is, sn⟩ := y
    cases sn with
    | none => simp only [oMany_none]
    | some l4 =>
     simp only
     rw [lifts_many lifts_plc n l4]
     cases hm : (oMany gPlc n (some l4)).2 with
     | none => rfl
     | some t => rfl
theorem pMan_oMan (bs : List UInt8) : pMan bs = if (oMan bs).2 = some [] then some (oMan bs).1 else none := by
 unfold pMan
 rw [lifts_man bs]
 cases h : (oMan bs).2 with
 | none => simp
 | some r =>
  simp only [Option.some.injEq]
theorem pNum_less {m is : Bool} {n : Nat} {l r : List UInt8} (h : pNum m l = some (n, is, r)) : r.length < l.length := by
 rw [(pNum_inv h).1, List.length_append]
 have := (numL_length n (if is then 128 else 0)).2
 omega
theorem pInt_less {n : Int} {l r : List UInt8} (h : pInt l = some (n, r)) : r.length < l.length := by
 unfold pInt at h
 split at h
 ·cases h
 ·rename_i m is q hm
  have := pNum_less hm
  split at h
  ·cases h
  ·simp only [Option.some.injEq, Prod.mk.injEq] at h
   obtain ⟨-, rfl⟩ := h
   exact this
theorem oInt_le {st : Option (List UInt8)} {r : List UInt8} (h : (oInt st).2 = some r) : ∃ l, st = some l ∧ r.length < l.length := by
 cases st with
 | none => cases h
 | some l =>
  refine ⟨l, rfl, ?_⟩
  have h1 := lifts_int l
  simp only [h] at h1
  exact pInt_less h1
theorem oExt_le {st : Option (List UInt8)} {r : List UInt8} (h : (oExt st).2 = some r) : ∃ l, st = some l ∧ r.length < l.length := by
 obtain ⟨l1, h1, h2⟩ := oInt_le h
 obtain ⟨l, rfl, h3⟩ := oInt_le h1
 exact ⟨l, rfl, by omega⟩
theorem oNum_le {st : Option (List UInt8)} {r : List UInt8} (h : (oNum false st).2.2 = some r) : ∃ l, st = some l ∧ r.length < l.length := by
 cases st with
 | none => cases h
 | some l =>
  refine ⟨l, rfl, ?_⟩
  have h1 := lifts_num (st := some l) rfl
  rw [h] at h1
  exact pNum_less h1
theorem oMany_le {α : Type} {g : List UInt8 → α × Option (List UInt8)} (hg : ∀ l r, (g l).2 = some r → r.length < l.length) : ∀ (n : Nat) (st : Option (List UInt8)) (r : List UInt8), (oMany g n st).2 = some r → ∃ l, st = some l ∧ r.length ≤ l.length
 | 0, st, r, h => ⟨r, h, Nat.le_refl _⟩
 | _ + 1, none, r, h => by cases h
 | n + 1, some l, r, h => by
  obtain ⟨l1, h1, h2⟩ := oMany_le hg n (g l).2 r h
  have := hg l l1 h1
  exact ⟨l, rfl, by omega⟩
theorem gExt_less (l r : List UInt8) (h : (gExt l).2 = some r) : r.length < l.length := by
 obtain ⟨l', h1, h2⟩ := oExt_le h
 cases h1
 exact h2
theorem gPlc_less (l r : List UInt8) (h : (gPlc l).2 = some r) : r.length < l.length := by
 obtain ⟨l1, h1, h2⟩ := oMany_le gExt_less _ _ _ h
 obtain ⟨l2, h3, h4⟩ := oNum_le h1
 obtain ⟨l3, h5, h6⟩ := oExt_le h3
 cases h5
 omega
def lenO (st : Option (List UInt8)) : Nat := match st with
 | none => 0
 | some l => l.length + 1
def ManyAt {α : Type} (g : List UInt8 → α × Option (List UInt8)) (T : List α × Option (List UInt8)) (N : Nat) (m : Nat) (st : Option (List UInt8)) (xs : List α) : Prop :=
 xs ++ (oMany g m st).1 = T.1 ∧ (oMany g m st).2 = T.2 ∧ xs.length + lenO st ≤ N + 1
theorem ManyAt.start {α : Type} (g : List UInt8 → α × Option (List UInt8)) (n : Nat) (st : Option (List UInt8)) {N : Nat} (h : lenO st ≤ N + 1) : ManyAt g (oMany g n st) N n st [] := ⟨rfl, rfl, by simpa using h⟩
theorem ManyAt.done {α : Type} {g : List UInt8 → α × Option (List UInt8)} {T : List α × Option (List UInt8)} {N m : Nat} {st : Option (List UInt8)} {xs : List α} (h : ManyAt g T N m st xs) (hm : m = 0 ∨ st = none) : T = (xs, st) := by
 obtain ⟨h1, h2, -⟩ := h
 rcases hm with rfl | rfl
 ·simp [oMany] at h1 h2
  exact Prod.ext h1.symm h2.symm
 ·rw [oMany_none] at h1 h2
  simp at h1 h2
  exact Prod.ext h1.symm h2.symm
theorem ManyAt.next {α : Type} {g : List UInt8 → α × Option (List UInt8)} (hg : ∀ l r, (g l).2 = some r → r.length < l.length) {T : List α × Option (List UInt8)} {N m : Nat} {l : List UInt8} {xs : List α} (h : ManyAt g T N (m + 1) (some l) xs) :
  ManyAt g T N m (g l).2 (xs ++ [(g l).1]) ∧ xs.length ≤ N := by
 obtain ⟨h1, h2, h3⟩ := h
 simp [lenO] at h3
 refine ⟨⟨by rw [← h1]; simp [oMany], h2, ?_⟩, by omega⟩
 cases hr : (g l).2 with
 | none => simp [lenO]; omega
 | some r => have := hg l r hr; simp [lenO]; omega
theorem oStr_le (st : Option (List UInt8)) (N : Nat) (h : ∀ l, st = some l → l.length ≤ N) : (oStr st).1.length ≤ N := by
 cases st with
 | none => simp [oStr]
 | some l =>
  have h1 := lifts_str l
  simp only at h1
  cases hs : (oStr (some l)).2 with
  | none =>
   rw [hs] at h1
   unfold oStr
   simp only [Option.bind_some, h1]
   simp
  | some r =>
   rw [hs] at h1
   have h2 := pStr_inv h1
   have h3 := h l rfl
   rw [h2] at h3
   unfold strL at h3
   simp only [List.length_append] at h3
   omega
theorem oStr_rest {l r : List UInt8} (h : (oStr (some l)).2 = some r) : r.length ≤ l.length := by
 have h1 := lifts_str l
 simp only [h] at h1
 rw [pStr_inv h1]
 simp
structure MSep (av : List Nat) (B : Nat) (w : World) (mb : Nat) (ro po : Option Nat) (x : MnV) : Prop where
 box : w.heap[mb]? = some (.cells #[.string x.s, .int .i64 x.area.1, .int .i64 x.area.2, x.rv, x.pv] 38)
 rest : Rd w 1 x.rv x.rest.length (Lib.byteCells x.rest) ro
 row : Row w 48 3 x.pv x.places.length (x.places.flatMap encP) po
 pcs : ∀ y ∈ x.places, ∃ o, Rd w 2 y.v y.p.pieces.length (y.p.pieces.flatMap encX) o ∧ ∀ b, o = some b → B ≤ b ∧ b < w.heap.size ∧ b ∉ av ∧ b ≠ mb ∧ po ≠ some b
 mbn : mb ∉ av
 mbB : B ≤ mb
 ron : ∀ b, ro = some b → B ≤ b ∧ b < w.heap.size ∧ b ∉ av ∧ b ≠ mb ∧ po ≠ some b
 pon : ∀ b, po = some b → B ≤ b ∧ b ∉ av ∧ b ≠ mb
theorem MSep.lt {av : List Nat} {B : Nat} {w : World} {mb : Nat} {ro po : Option Nat} {x : MnV} (h : MSep av B w mb ro po x) : mb < w.heap.size := (Array.getElem?_eq_some_iff.1 h.box).1
theorem MSep.keep {av : List Nat} {B : Nat} {w w' : World} {mb : Nat} {ro po : Option Nat} {x : MnV} {F : List Nat} (h : MSep av B w mb ro po x) (hk : Keep F w w') (hF : ∀ b ∈ F, b ∈ av ∨ w.heap.size ≤ b) : MSep av B w' mb ro po x where
 box := (hk.block mb h.lt (fun hm => by rcases hF _ hm with h1 | h1; exact h.mbn h1; have := h.lt; omega)).trans h.box
 rest := h.rest.keep hk (fun b hb hm => by have h0 := h.ron b hb; rcases hF _ hm with h1 | h1; exact h0.2.2.1 h1; omega)
 row := h.row.keep hk (fun b hb hm => by have h0 := h.row.lt b hb; rcases hF _ hm with h1 | h1; exact (h.pon b hb).2.1 h1; omega)
 pcs := fun y hy => by
  obtain ⟨o, h1, h2⟩ := h.pcs y hy
  refine ⟨o, h1.keep hk (fun b hb hm => ?_), fun b hb => ?_⟩
  ·have h0 := h2 b hb
   rcases hF _ hm with h3 | h3
   ·exact h0.2.2.1 h3
   ·omega
  ·have h0 := h2 b hb
   exact ⟨h0.1, Nat.lt_of_lt_of_le h0.2.1 hk.size, h0.2.2⟩
 mbn := h.mbn
 mbB := h.mbB
 ron := fun b hb => by
  have h0 := h.ron b hb
  exact ⟨h0.1, Nat.lt_of_lt_of_le h0.2.1 hk.size, h0.2.2⟩
 pon := h.pon
theorem MSep.turn {av bv : List Nat} {B : Nat} {w : World} {mb : Nat} {ro po : Option Nat} {x : MnV} (h : MSep av B w mb ro po x) (hv : ∀ b ∈ bv, b ∈ av ∨ w.heap.size ≤ b) : MSep bv B w mb ro po x where
 box := h.box
 rest := h.rest
 row := h.row
 pcs := fun y hy => by
  obtain ⟨o, h1, h2⟩ := h.pcs y hy
  refine ⟨o, h1, fun b hb => ?_⟩
  have h0 := h2 b hb
  exact ⟨h0.1, h0.2.1, fun hm => by rcases hv _ hm with h3 | h3; exact h0.2.2.1 h3; omega, h0.2.2.2⟩
 mbn := fun hm => by rcases hv _ hm with h3 | h3; exact h.mbn h3; have := h.lt; omega
 mbB := h.mbB
 ron := fun b hb => by
  have h0 := h.ron b hb
  exact ⟨h0.1, h0.2.1, fun hm => by rcases hv _ hm with h3 | h3; exact h0.2.2.1 h3; omega, h0.2.2.2⟩
 pon := fun b hb => by
  have h0 := h.pon b hb
  have h1 := h.row.lt b hb
  exact ⟨h0.1, fun hm => by rcases hv _ hm with h3 | h3; exact h0.2.1 h3; omega, h0.2.2⟩
theorem MSep.more {av : List Nat} {B : Nat} {w w2 w3 : World} {mb : Nat} {ro po po' : Option Nat} {x : MnV} {y : PlV} {pv' : Value} (h : MSep av B w mb ro po x) (hB : B ≤ w.heap.size)
  (hy : ∃ o, Rd w 2 y.v y.p.pieces.length (y.p.pieces.flatMap encX) o ∧ ∀ b, o = some b → B ≤ b ∧ b < w.heap.size ∧ b ∉ av ∧ b ≠ mb ∧ po ≠ some b)
  (hr : Row w2 48 3 pv' (x.places ++ [y]).length ((x.places ++ [y]).flatMap encP) po') (hk : Keep po.toList w w2) (hg : po' = po ∨ ∀ b, po' = some b → w.heap.size ≤ b) (hav : ∀ b ∈ av, b < w.heap.size)
  (hk3 : Keep [mb] w2 w3) (hb : w3.heap[mb]? = some (.cells #[.string x.s, .int .i64 x.area.1, .int .i64 x.area.2, x.rv, pv'] 38)) : MSep av B w3 mb ro po' { x with pv := pv', places := x.places ++ [y] } := by
 have hpo : ∀ b, b < w.heap.size → po ≠ some b → po' ≠ some b := fun b hb hn he => by
  rcases hg with h1 | h1
  ·rw [h1] at he; exact hn he
  ·have := h1 b he; omega
 have hkk : ∀ b, b < w.heap.size → po ≠ some b → b ≠ mb → b ∉ po.toList ∧ b ∉ [mb] := fun b hb hn hm => ⟨fun h1 => by
   cases po with
   | none => cases h1
   | some z => simp at h1; exact hn (by rw [h1]), by simpa using hm⟩
 have hpc : ∀ z : PlV, (∃ o, Rd w 2 z.v z.p.pieces.length (z.p.pieces.flatMap encX) o ∧ ∀ b, o = some b → B ≤ b ∧ b < w.heap.size ∧ b ∉ av ∧ b ≠ mb ∧ po ≠ some b) → (∃ o, Rd w3 2 z.v z.p.pieces.length (z.p.pieces.flatMap encX) o ∧ ∀ b, o = some b → B ≤ b ∧ b < w3.heap.size ∧ b ∉ av ∧ b ≠ mb ∧ po' ≠ some b) := fun z ⟨o, h1, h2⟩ => by
  refine ⟨o, (h1.keep hk (fun b hb' hm => ?_)).keep hk3 (fun b hb' hm => ?_), fun b hb' => ?_⟩
  ·have h0 := h2 b hb'
   exact (hkk b h0.2.1 h0.2.2.2.2 h0.2.2.2.1).1 hm
  ·have h0 := h2 b hb'
   exact (hkk b h0.2.1 h0.2.2.2.2 h0.2.2.2.1).2 hm
  ·have h0 := h2 b hb'
   exact ⟨h0.1, Nat.lt_of_lt_of_le h0.2.1 (Nat.le_trans hk.size hk3.size), h0.2.2.1, h0.2.2.2.1, hpo b h0.2.1 h0.2.2.2.2⟩
 have hpon : ∀ b, po' = some b → B ≤ b ∧ b ∉ av ∧ b ≠ mb := fun b hb' => by
  rcases hg with h1 | h1
  ·exact h.pon b (h1 ▸ hb')
  ·have h2 := h1 b hb'
   exact ⟨by omega, fun hm => by have := hav b hm; omega, by have := h.lt; omega⟩
 refine ⟨hb, (h.rest.keep hk (fun b hb' hm => ?_)).keep hk3 (fun b hb' hm => ?_), hr.keep hk3 (fun b hb' hm => (hpon b hb').2.2 (by simpa using hm)), fun z hz => ?_, h.mbn, h.mbB, fun b hb' => ?_, hpon⟩
 ·have h0 := h.ron b hb'
  exact (hkk b h0.2.1 h0.2.2.2.2 h0.2.2.2.1).1 hm
 ·have h0 := h.ron b hb'
  exact (hkk b h0.2.1 h0.2.2.2.2 h0.2.2.2.1).2 hm
 ·rcases List.mem_append.1 hz with hz | hz
  ·exact hpc z (h.pcs z hz)
  ·simp only [List.mem_singleton] at hz
   subst hz
   exact hpc z hy
 ·have h0 := h.ron b hb'
  exact ⟨h0.1, Nat.lt_of_lt_of_le h0.2.1 (Nat.le_trans hk.size hk3.size), h0.2.2.1, h0.2.2.2.1, hpo b h0.2.1 h0.2.2.2.2⟩
structure PSep (av : List Nat) (B : Nat) (w : World) (pb : Nat) (xo : Option Nat) (p : Plc) (xv : Value) : Prop where
 box : w.heap[pb]? = some (.cells #[.int .i64 p.pid, .int .i64 p.len, xv] 48)
 row : Row w 34 2 xv p.pieces.length (p.pieces.flatMap encX) xo
 pbn : pb ∉ av
 pbB : B ≤ pb
 xon : ∀ b, xo = some b → B ≤ b ∧ b ∉ av ∧ b ≠ pb
theorem PSep.lt {av : List Nat} {B : Nat} {w : World} {pb : Nat} {xo : Option Nat} {p : Plc} {xv : Value} (h : PSep av B w pb xo p xv) : pb < w.heap.size := (Array.getElem?_eq_some_iff.1 h.box).1
theorem PSep.keep {av : List Nat} {B : Nat} {w w' : World} {pb : Nat} {xo : Option Nat} {p : Plc} {xv : Value} {F : List Nat} (h : PSep av B w pb xo p xv) (hk : Keep F w w') (hF : ∀ b ∈ F, b ∈ av ∨ w.heap.size ≤ b) : PSep av B w' pb xo p xv where
 box := (hk.block pb h.lt (fun hm => by rcases hF _ hm with h1 | h1; exact h.pbn h1; have := h.lt; omega)).trans h.box
 row := h.row.keep hk (fun b hb hm => by have h0 := h.row.lt b hb; rcases hF _ hm with h1 | h1; exact (h.xon b hb).2.1 h1; omega)
 pbn := h.pbn
 pbB := h.pbB
 xon := h.xon
theorem PSep.more {av : List Nat} {B : Nat} {w w2 w3 : World} {pb : Nat} {xo xo' : Option Nat} {p : Plc} {xv xv' : Value} {y : Int × Int} (h : PSep av B w pb xo p xv) (hB : B ≤ w.heap.size)
  (hr : Row w2 34 2 xv' (p.pieces ++ [y]).length ((p.pieces ++ [y]).flatMap encX) xo') (hg : xo' = xo ∨ ∀ b, xo' = some b → w.heap.size ≤ b) (hav : ∀ b ∈ av, b < w.heap.size)
  (hk3 : Keep [pb] w2 w3) (hb : w3.heap[pb]? = some (.cells #[.int .i64 p.pid, .int .i64 p.len, xv'] 48)) : PSep av B w3 pb xo' { p with pieces := p.pieces ++ [y] } xv' := by
 have hxn : ∀ b, xo' = some b → B ≤ b ∧ b ∉ av ∧ b ≠ pb := fun b hb' => by
  rcases hg with h1 | h1
  ·exact h.xon b (h1 ▸ hb')
  ·have h2 := h1 b hb'
   exact ⟨by omega, fun hm => by have := hav b hm; omega, by have := h.lt; omega⟩
 exact ⟨hb, hr.keep hk3 (fun b hb' hm => (hxn b hb').2.2 (by simpa using hm)), h.pbn, h.pbB, hxn⟩
theorem p_times {α : Type} {g : List UInt8 → α × Option (List UInt8)} (hg : ∀ l r, (g l).2 = some r → r.length < l.length) {w : World} {q rb : Nat} {bs : List UInt8} {v : Value} {bo : Option Nat} (F : Nat) (cb : Array Value) (eg : ∀ args w, (callFunc F args).run Tryz.prog w = .ok (.enter F args) w) {I : Option (List UInt8) → List α → World → Prop}
  (hT : ∀ st xs w, I st xs w → TSt 187 w q bs v bo st ∧ w.heap[rb]? = some (.cells #[.pointer (some ⟨q, 0, none⟩)] 159))
  (hN : ∀ st st' xs w w', I st xs w → Keep [q] w w' → TSt 187 w' q bs v bo st' → I st' xs w')
  (hf : ∀ l xs w, xs.length ≤ bs.length → I (some l) xs w → Calls Tryz.prog F cb w fun e w' => e = .returned (.tuple #[]) ∧ I (g l).2 (xs ++ [(g l).1]) w')
  {st : Option (List UInt8)} (h : I st [] w) :
  Calls Tryz.prog 96 #[.func (.func F) #[] cb, .pointer (some ⟨rb, 0, none⟩)] w fun e w' => e = .returned (.tuple #[]) ∧ I (oMany g (oNum false st).1 (oNum false st).2.2).2 (oMany g (oNum false st).1 (oNum false st).2.2).1 w' := by
 obtain ⟨ht, hrb⟩ := hT _ _ _ h
 have c0 : w.cell? ⟨rb, 0, none⟩ = some (.pointer (some ⟨q, 0, none⟩)) := by simp [World.cell?, hrb]
 have hlen : lenO (oNum false st).2.2 ≤ bs.length + 1 := by
  cases hs : (oNum false st).2.2 with
  | none => simp [lenO]
  | some r =>
   obtain ⟨l, rfl, h1⟩ := oNum_le hs
   obtain ⟨pos, fa, sp, -, ⟨h2, -⟩ | ⟨-, -, h2⟩⟩ := ht
   ·cases h2
   ·cases h2
    rw [List.length_drop] at h1
    simp [lenO]; omega
 have hlt := oNum_lt false st
 have hnum := p_tnum ht
 have hst := ManyAt.start g (oNum false st).1 (oNum false st).2.2 hlen
 have HNUM := hyd hnum
 have HI := hyd h
 have HT := hyd hT
 have HN := hyd hN
 have HF := hyd hf
 have HST := hyd hst
 clear hnum h hT hN hf hst ht hrb hlen
 generalize oMany g (oNum false st).1 (oNum false st).2.2 = T at *
 generalize oNum false st = R at *
 obtain ⟨n, is, st1⟩ := R
 simp only at HNUM HST hlt
 go_enter Tryz.func96, Tryz.ntmps96
 go_wp2_with fail
 refine HNUM.o.mono ?_
 rintro e w1 ⟨rfl, ht1, hk1⟩
 have h1 := HN.o _ _ _ _ _ HI.o hk1 ht1
 have H1 := hyd h1
 clear h1 ht1 hk1 c0
 go_wp2_with fail
 go_loopw [3, 4, 5] (fun t _ _ wr => ∃ (m : Nat) (st : Option (List UInt8)) (xs : List α), m < 18446744073709551616 ∧ t = .int .u64 (m : Int) ∧ ManyAt g T bs.length m st xs ∧ I st xs wr) (fun t _ _ _ => (intOf t).toNat)
 case atStart => exact ⟨n, st1, [], hlt, rfl, HST.o, H1.o⟩
 case round =>
  obtain ⟨m, s, xs, hm, rfl, hma, hi⟩ := hrel
  have HMA := hyd hma
  have HI2 := hyd hi
  clear hma hi H1 HI HST HNUM
  by_cases hm0 : m = 0
  ·subst hm0
   go_wp2_with fail
   refine bodyPost_end (results_none rfl _ _ _) rfl ?_
   refine ⟨rfl, ?_⟩
   rw [HMA.o.done (.inl rfl)]
   exact HI2.o
  ·obtain ⟨k, rfl⟩ : ∃ k, m = k + 1 := ⟨m - 1, by omega⟩
   have hpos : (0 : Int) < ((k + 1 : Nat) : Int) := by omega
   obtain ⟨ht, hrb⟩ := HT.o _ _ _ HI2.o
   have c0 : wr.cell? ⟨rb, 0, none⟩ = some (.pointer (some ⟨q, 0, none⟩)) := by simp [World.cell?, hrb]
   obtain ⟨pos, fa, sp, htp, hs⟩ := ht
   have hfl := p_fault htp
   have HFL := hyd hfl
   have HTP := hyd htp
   have HM := hyd hm
   clear hfl htp hrb hm0 hm
   rcases hs with ⟨rfl, hfa, hf1, hf2⟩ | ⟨rfl, rfl, rfl⟩
   ·have hne : (fa != 0) = true := by simp [hfa]
    have HA := hyd (And.intro hfa (And.intro hf1 hf2))
    clear hfa
    go_wp2_with fail
    refine HFL.o.mono ?_
    rintro e w2 ⟨rfl, hk2⟩
    have h2 := HN.o _ none _ _ _ HI2.o (hk2.mono (fun b hb => by cases hb)) ⟨pos, fa, sp, HTP.o.keep0 hk2, .inl ⟨rfl, HA.o⟩⟩
    have H2 := hyd h2
    clear hk2 h2
    go_wp2_with fail
    refine bodyPost_ret (results_none rfl _ _ _) rfl ?_
    refine ⟨rfl, ?_⟩
    rw [HMA.o.done (.inr rfl)]
    exact H2.o
   ·obtain ⟨hnx, hxl⟩ := HMA.o.next hg
    have HNX := hyd hnx
    clear hnx
    go_wp2_with fail
    refine HFL.o.mono ?_
    rintro e w2 ⟨rfl, hk2⟩
    have h2 := HN.o _ (some (bs.drop pos)) _ _ _ HI2.o (hk2.mono (fun b hb => by cases hb)) ⟨pos, 0, 0, HTP.o.keep0 hk2, .inr ⟨rfl, rfl, rfl⟩⟩
    have hcall := HF.o _ _ _ hxl h2
    have HC := hyd hcall
    clear hk2 h2 hcall c0
    have hw : IntKind.u64.wrap (k : Int) = (k : Int) := IntWalk.u64_in _ (by have := HM.o; omega)
    go_wp2_with fail
    refine HC.o.mono ?_
    rintro e w3 ⟨rfl, h3⟩
    have H3 := hyd h3
    clear h3 HC
    go_wp2_with fail
    go_roundw
    case rel => exact ⟨k, _, _, by have := HM.o; omega, rfl, HNX.o, H3.o⟩
    case measure => simp [intOf]
end Go.Proofs.YtimpadpeibgmoaaGreat
