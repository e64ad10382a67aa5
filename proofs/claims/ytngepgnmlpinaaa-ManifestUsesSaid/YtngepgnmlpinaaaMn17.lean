/- A manifest and a place under construction, in memory; 'times'. -/
import Derived.Test.YtngepgnmlpinaaaMn16
namespace Go.Proofs.Ytngepgnmlpinaaa
open Go.RowKit Go.Emb

/-- block mb is a manifest under construction; none of its blocks is among av -/
structure MSep (av : List Nat) (B : Nat) (w : World) (mb : Nat) (ro po : Option Nat) (x : MnV) : Prop where
  box : w.heap[mb]? = some (.cells #[.string x.s, .int .i64 x.area.1, .int .i64 x.area.2, x.rv, x.pv] 27)
  rest : Rd w 1 x.rv x.rest.length (Lib.byteCells x.rest) ro
  row : Row w 43 3 x.pv x.places.length (x.places.flatMap encP) po
  pcs : ∀ y ∈ x.places, ∃ o, Rd w 2 y.v y.p.pieces.length (y.p.pieces.flatMap encX) o ∧ ∀ b, o = some b → B ≤ b ∧ b < w.heap.size ∧ b ∉ av ∧ b ≠ mb ∧ po ≠ some b
  mbn : mb ∉ av
  mbB : B ≤ mb
  ron : ∀ b, ro = some b → B ≤ b ∧ b < w.heap.size ∧ b ∉ av ∧ b ≠ mb ∧ po ≠ some b
  pon : ∀ b, po = some b → B ≤ b ∧ b ∉ av ∧ b ≠ mb
theorem MSep.lt {av : List Nat} {B : Nat} {w : World} {mb : Nat} {ro po : Option Nat} {x : MnV} (h : MSep av B w mb ro po x) : mb < w.heap.size := (Array.getElem?_eq_some_iff.1 h.box).1
theorem MSep.keep {av : List Nat} {B : Nat} {w w' : World} {mb : Nat} {ro po : Option Nat} {x : MnV} {F : List Nat} (h : MSep av B w mb ro po x) (hk : Keep F w w') (hF : ∀ b ∈ F, b ∈ av ∨ w.heap.size ≤ b) : MSep av B w' mb ro po x where
  box := (hk.block mb h.lt (fun hm => by rcases hF _ hm with h1 | h1; exact h.mbn h1; have := h.lt; omega)).trans h.box
  rest := h.rest.keep hk (fun b hb hm => by have h0 := h.ron b hb; rcases hF _ hm with h1 | h1; exact h0.2.2.1 h1; omega)
  row := h.row.keep hk (fun b hb hm => by have h0 := h.row.lt b hb; rcases hF _ hm with h1 | h1; exact (h.pon b hb).2.1 h1; omega)
  pcs := fun y hy => by
    obtain ⟨o, h1, h2⟩ := h.pcs y hy
    refine ⟨o, h1.keep hk (fun b hb hm => ?_), fun b hb => ?_⟩
    · have h0 := h2 b hb
      rcases hF _ hm with h3 | h3
      · exact h0.2.2.1 h3
      · omega
    · have h0 := h2 b hb
      exact ⟨h0.1, Nat.lt_of_lt_of_le h0.2.1 hk.size, h0.2.2⟩
  mbn := h.mbn
  mbB := h.mbB
  ron := fun b hb => by
    have h0 := h.ron b hb
    exact ⟨h0.1, Nat.lt_of_lt_of_le h0.2.1 hk.size, h0.2.2⟩
  pon := h.pon
/-- other blocks to be apart from: they were apart, or are new -/
theorem MSep.turn {av bv : List Nat} {B : Nat} {w : World} {mb : Nat} {ro po : Option Nat} {x : MnV} (h : MSep av B w mb ro po x) (hv : ∀ b ∈ bv, b ∈ av ∨ w.heap.size ≤ b) : MSep bv B w mb ro po x where
  box := h.box
  rest := h.rest
  row := h.row
  pcs := fun y hy => by
    obtain ⟨o, h1, h2⟩ := h.pcs y hy
    refine ⟨o, h1, fun b hb => ?_⟩
    have h0 := h2 b hb
    exact ⟨h0.1, h0.2.1, fun hm => by rcases hv _ hm with h3 | h3; exact h0.2.2.1 h3; omega, h0.2.2.2⟩
  mbn := fun hm => by rcases hv _ hm with h3 | h3; exact h.mbn h3; have := h.lt; omega
  mbB := h.mbB
  ron := fun b hb => by
    have h0 := h.ron b hb
    exact ⟨h0.1, h0.2.1, fun hm => by rcases hv _ hm with h3 | h3; exact h0.2.2.1 h3; omega, h0.2.2.2⟩
  pon := fun b hb => by
    have h0 := h.pon b hb
    have h1 := h.row.lt b hb
    exact ⟨h0.1, fun hm => by rcases hv _ hm with h3 | h3; exact h0.2.1 h3; omega, h0.2.2⟩
/-- a place more: its pieces lie apart; the row has grown to po' (in place, or anew), the box says so -/
theorem MSep.more {av : List Nat} {B : Nat} {w w2 w3 : World} {mb : Nat} {ro po po' : Option Nat} {x : MnV} {y : PlV} {pv' : Value} (h : MSep av B w mb ro po x) (hB : B ≤ w.heap.size)
    (hy : ∃ o, Rd w 2 y.v y.p.pieces.length (y.p.pieces.flatMap encX) o ∧ ∀ b, o = some b → B ≤ b ∧ b < w.heap.size ∧ b ∉ av ∧ b ≠ mb ∧ po ≠ some b)
    (hr : Row w2 43 3 pv' (x.places ++ [y]).length ((x.places ++ [y]).flatMap encP) po') (hk : Keep po.toList w w2) (hg : po' = po ∨ ∀ b, po' = some b → w.heap.size ≤ b) (hav : ∀ b ∈ av, b < w.heap.size)
    (hk3 : Keep [mb] w2 w3) (hb : w3.heap[mb]? = some (.cells #[.string x.s, .int .i64 x.area.1, .int .i64 x.area.2, x.rv, pv'] 27)) : MSep av B w3 mb ro po' { x with pv := pv', places := x.places ++ [y] } := by
  have hpo : ∀ b, b < w.heap.size → po ≠ some b → po' ≠ some b := fun b hb hn he => by
    rcases hg with h1 | h1
    · rw [h1] at he; exact hn he
    · have := h1 b he; omega
  have hkk : ∀ b, b < w.heap.size → po ≠ some b → b ≠ mb → b ∉ po.toList ∧ b ∉ [mb] := fun b hb hn hm => ⟨fun h1 => by
    cases po with
    | none => cases h1
    | some z => simp at h1; exact hn (by rw [h1]), by simpa using hm⟩
  have hpc : ∀ z : PlV, (∃ o, Rd w 2 z.v z.p.pieces.length (z.p.pieces.flatMap encX) o ∧ ∀ b, o = some b → B ≤ b ∧ b < w.heap.size ∧ b ∉ av ∧ b ≠ mb ∧ po ≠ some b) → (∃ o, Rd w3 2 z.v z.p.pieces.length (z.p.pieces.flatMap encX) o ∧ ∀ b, o = some b → B ≤ b ∧ b < w3.heap.size ∧ b ∉ av ∧ b ≠ mb ∧ po' ≠ some b) := fun z ⟨o, h1, h2⟩ => by
    refine ⟨o, (h1.keep hk (fun b hb' hm => ?_)).keep hk3 (fun b hb' hm => ?_), fun b hb' => ?_⟩
    · have h0 := h2 b hb'
      exact (hkk b h0.2.1 h0.2.2.2.2 h0.2.2.2.1).1 hm
    · have h0 := h2 b hb'
      exact (hkk b h0.2.1 h0.2.2.2.2 h0.2.2.2.1).2 hm
    · have h0 := h2 b hb'
      exact ⟨h0.1, Nat.lt_of_lt_of_le h0.2.1 (Nat.le_trans hk.size hk3.size), h0.2.2.1, h0.2.2.2.1, hpo b h0.2.1 h0.2.2.2.2⟩
  have hpon : ∀ b, po' = some b → B ≤ b ∧ b ∉ av ∧ b ≠ mb := fun b hb' => by
    rcases hg with h1 | h1
    · exact h.pon b (h1 ▸ hb')
    · have h2 := h1 b hb'
      exact ⟨by omega, fun hm => by have := hav b hm; omega, by have := h.lt; omega⟩
  refine ⟨hb, (h.rest.keep hk (fun b hb' hm => ?_)).keep hk3 (fun b hb' hm => ?_), hr.keep hk3 (fun b hb' hm => (hpon b hb').2.2 (by simpa using hm)), fun z hz => ?_, h.mbn, h.mbB, fun b hb' => ?_, hpon⟩
  · have h0 := h.ron b hb'
    exact (hkk b h0.2.1 h0.2.2.2.2 h0.2.2.2.1).1 hm
  · have h0 := h.ron b hb'
    exact (hkk b h0.2.1 h0.2.2.2.2 h0.2.2.2.1).2 hm
  · rcases List.mem_append.1 hz with hz | hz
    · exact hpc z (h.pcs z hz)
    · simp only [List.mem_singleton] at hz
      subst hz
      exact hpc z hy
  · have h0 := h.ron b hb'
    exact ⟨h0.1, Nat.lt_of_lt_of_le h0.2.1 (Nat.le_trans hk.size hk3.size), h0.2.2.1, h0.2.2.2.1, hpo b h0.2.1 h0.2.2.2.2⟩

/-- block pb is a place under construction -/
structure PSep (av : List Nat) (B : Nat) (w : World) (pb : Nat) (xo : Option Nat) (p : Plc) (xv : Value) : Prop where
  box : w.heap[pb]? = some (.cells #[.int .i64 p.pid, .int .i64 p.len, xv] 43)
  row : Row w 23 2 xv p.pieces.length (p.pieces.flatMap encX) xo
  pbn : pb ∉ av
  pbB : B ≤ pb
  xon : ∀ b, xo = some b → B ≤ b ∧ b ∉ av ∧ b ≠ pb
theorem PSep.lt {av : List Nat} {B : Nat} {w : World} {pb : Nat} {xo : Option Nat} {p : Plc} {xv : Value} (h : PSep av B w pb xo p xv) : pb < w.heap.size := (Array.getElem?_eq_some_iff.1 h.box).1
theorem PSep.keep {av : List Nat} {B : Nat} {w w' : World} {pb : Nat} {xo : Option Nat} {p : Plc} {xv : Value} {F : List Nat} (h : PSep av B w pb xo p xv) (hk : Keep F w w') (hF : ∀ b ∈ F, b ∈ av ∨ w.heap.size ≤ b) : PSep av B w' pb xo p xv where
  box := (hk.block pb h.lt (fun hm => by rcases hF _ hm with h1 | h1; exact h.pbn h1; have := h.lt; omega)).trans h.box
  row := h.row.keep hk (fun b hb hm => by have h0 := h.row.lt b hb; rcases hF _ hm with h1 | h1; exact (h.xon b hb).2.1 h1; omega)
  pbn := h.pbn
  pbB := h.pbB
  xon := h.xon
theorem PSep.more {av : List Nat} {B : Nat} {w w2 w3 : World} {pb : Nat} {xo xo' : Option Nat} {p : Plc} {xv xv' : Value} {y : Int × Int} (h : PSep av B w pb xo p xv) (hB : B ≤ w.heap.size)
    (hr : Row w2 23 2 xv' (p.pieces ++ [y]).length ((p.pieces ++ [y]).flatMap encX) xo') (hg : xo' = xo ∨ ∀ b, xo' = some b → w.heap.size ≤ b) (hav : ∀ b ∈ av, b < w.heap.size)
    (hk3 : Keep [pb] w2 w3) (hb : w3.heap[pb]? = some (.cells #[.int .i64 p.pid, .int .i64 p.len, xv'] 43)) : PSep av B w3 pb xo' { p with pieces := p.pieces ++ [y] } xv' := by
  have hxn : ∀ b, xo' = some b → B ≤ b ∧ b ∉ av ∧ b ≠ pb := fun b hb' => by
    rcases hg with h1 | h1
    · exact h.xon b (h1 ▸ hb')
    · have h2 := h1 b hb'
      exact ⟨by omega, fun hm => by have := hav b hm; omega, by have := h.lt; omega⟩
  exact ⟨hb, hr.keep hk3 (fun b hb' hm => (hxn b hb').2.2 (by simpa using hm)), h.pbn, h.pbB, hxn⟩

set_option maxHeartbeats 1000000 in
theorem p_times {α : Type} {g : List UInt8 → α × Option (List UInt8)} (hg : ∀ l r, (g l).2 = some r → r.length < l.length) {w : World} {q rb : Nat} {bs : List UInt8} {v : Value} {bo : Option Nat} (F : Nat) (cb : Array Value) (eg : ∀ args w, (callFunc F args).run Try.prog w = .ok (.enter F args) w) {I : Option (List UInt8) → List α → World → Prop}
    (hT : ∀ st xs w, I st xs w → TSt 90 w q bs v bo st ∧ w.heap[rb]? = some (.cells #[.pointer (some ⟨q, 0, none⟩)] 53))
    (hN : ∀ st st' xs w w', I st xs w → Keep [q] w w' → TSt 90 w' q bs v bo st' → I st' xs w')
    (hf : ∀ l xs w, xs.length ≤ bs.length → I (some l) xs w → Calls Try.prog F cb w fun e w' => e = .returned (.tuple #[]) ∧ I (g l).2 (xs ++ [(g l).1]) w')
    {st : Option (List UInt8)} (h : I st [] w) :
    Calls Try.prog 26 #[.func (.func F) #[] cb, .pointer (some ⟨rb, 0, none⟩)] w fun e w' => e = .returned (.tuple #[]) ∧ I (oMany g (oNum false st).1 (oNum false st).2.2).2 (oMany g (oNum false st).1 (oNum false st).2.2).1 w' := by
  obtain ⟨ht, hrb⟩ := hT _ _ _ h
  have c0 : w.cell? ⟨rb, 0, none⟩ = some (.pointer (some ⟨q, 0, none⟩)) := by simp [World.cell?, hrb]
  have hlen : lenO (oNum false st).2.2 ≤ bs.length + 1 := by
    cases hs : (oNum false st).2.2 with
    | none => simp [lenO]
    | some r =>
      obtain ⟨l, rfl, h1⟩ := oNum_le hs
      obtain ⟨pos, fa, sp, -, ⟨h2, -⟩ | ⟨-, -, h2⟩⟩ := ht
      · cases h2
      · cases h2
        rw [List.length_drop] at h1
        simp [lenO]; omega
  have hlt := oNum_lt false st
  have hnum := p_tnum ht
  have hst := ManyAt.start g (oNum false st).1 (oNum false st).2.2 hlen
  have HNUM := Lib.hid hnum
  have HI := Lib.hid h
  have HT := Lib.hid hT
  have HN := Lib.hid hN
  have HF := Lib.hid hf
  have HST := Lib.hid hst
  clear hnum h hT hN hf hst ht hrb hlen
  generalize oMany g (oNum false st).1 (oNum false st).2.2 = T at *
  generalize oNum false st = R at *
  obtain ⟨n, is, st1⟩ := R
  simp only at HNUM HST hlt
  go_enter Try.func26, Try.ntmps26
  go_wp2_with fail
  refine HNUM.out.mono ?_
  rintro e w1 ⟨rfl, ht1, hk1⟩
  have h1 := HN.out _ _ _ _ _ HI.out hk1 ht1
  have H1 := Lib.hid h1
  clear h1 ht1 hk1 c0
  go_wp2_with fail
  go_loopw [3, 4, 5] (fun t _ _ wr => ∃ (m : Nat) (st : Option (List UInt8)) (xs : List α), m < 18446744073709551616 ∧ t = .int .u64 (m : Int) ∧ ManyAt g T bs.length m st xs ∧ I st xs wr) (fun t _ _ _ => (intOf t).toNat)
  case atStart => exact ⟨n, st1, [], hlt, rfl, HST.out, H1.out⟩
  case round =>
    obtain ⟨m, s, xs, hm, rfl, hma, hi⟩ := hrel
    have HMA := Lib.hid hma
    have HI2 := Lib.hid hi
    clear hma hi H1 HI HST HNUM
    by_cases hm0 : m = 0
    · subst hm0
      go_wp2_with fail
      refine bodyPost_end (results_none rfl _ _ _) rfl ?_
      refine ⟨rfl, ?_⟩
      rw [HMA.out.done (.inl rfl)]
      exact HI2.out
    · obtain ⟨k, rfl⟩ : ∃ k, m = k + 1 := ⟨m - 1, by omega⟩
      have hpos : (0 : Int) < ((k + 1 : Nat) : Int) := by omega
      obtain ⟨ht, hrb⟩ := HT.out _ _ _ HI2.out
      have c0 : wr.cell? ⟨rb, 0, none⟩ = some (.pointer (some ⟨q, 0, none⟩)) := by simp [World.cell?, hrb]
      obtain ⟨pos, fa, sp, htp, hs⟩ := ht
      have hfl := p_fault htp
      have HFL := Lib.hid hfl
      have HTP := Lib.hid htp
      have HM := Lib.hid hm
      clear hfl htp hrb hm0 hm
      rcases hs with ⟨rfl, hfa, hf1, hf2⟩ | ⟨rfl, rfl, rfl⟩
      · have hne : (fa != 0) = true := by simp [hfa]
        have HA := Lib.hid (And.intro hfa (And.intro hf1 hf2))
        clear hfa
        go_wp2_with fail
        refine HFL.out.mono ?_
        rintro e w2 ⟨rfl, hk2⟩
        have h2 := HN.out _ none _ _ _ HI2.out (hk2.mono (fun b hb => by cases hb)) ⟨pos, fa, sp, HTP.out.keep0 hk2, .inl ⟨rfl, HA.out⟩⟩
        have H2 := Lib.hid h2
        clear hk2 h2
        go_wp2_with fail
        refine bodyPost_ret (results_none rfl _ _ _) rfl ?_
        refine ⟨rfl, ?_⟩
        rw [HMA.out.done (.inr rfl)]
        exact H2.out
      · obtain ⟨hnx, hxl⟩ := HMA.out.next hg
        have HNX := Lib.hid hnx
        clear hnx
        go_wp2_with fail
        refine HFL.out.mono ?_
        rintro e w2 ⟨rfl, hk2⟩
        have h2 := HN.out _ (some (bs.drop pos)) _ _ _ HI2.out (hk2.mono (fun b hb => by cases hb)) ⟨pos, 0, 0, HTP.out.keep0 hk2, .inr ⟨rfl, rfl, rfl⟩⟩
        have hcall := HF.out _ _ _ hxl h2
        have HC := Lib.hid hcall
        clear hk2 h2 hcall c0
        have hw : IntKind.u64.wrap (k : Int) = (k : Int) := IntWalk.u64_in _ (by have := HM.out; omega)
        go_wp2_with fail
        refine HC.out.mono ?_
        rintro e w3 ⟨rfl, h3⟩
        have H3 := Lib.hid h3
        clear h3 HC
        go_wp2_with fail
        go_roundw
        case rel => exact ⟨k, _, _, by have := HM.out; omega, rfl, HNX.out, H3.out⟩
        case measure => simp [intOf]
end Go.Proofs.Ytngepgnmlpinaaa
