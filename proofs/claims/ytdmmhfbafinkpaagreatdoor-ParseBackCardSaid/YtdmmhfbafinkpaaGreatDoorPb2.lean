import Derived.Test.YtdmmhfbafinkpaaGreatDoorPa22
import Derived.Test.YtdmmhfbafinkpaaGreatDoorSc13
import Derived.Test.YtdmmhfbafinkpaaGreatDoorPbY
/- ParseBack: parse/text.go: texts. -/
namespace Go.Proofs.YtdmmhfbafinkpaaGreatDoor
open Go.RowKit Go.Emb

def StrE (w : World) (L : List UInt8) (e : Ending) (w' : World) : Prop := (∃ X : ByteArray, e = .returned (.string X) ∧ X.data.toList = L) ∧ Keep [] w w'
/-- a tree's text -/
def TxT (B : Nat) (n : Nd) (x : List It) : Prop := ∀ (w : World) (S : Nat → Prop) (cs : List Value), TabOk B w → NdR S w false cs n → Calls Tryz.prog 10 #[.agg cs.toArray] w (StrE w (flat x))
theorem flat_sep (s : List It) : ∀ ls : List (List It), flat (sepI s ls) = Lib.join (ls.map flat) (flat s)
  | [] => rfl
  | [x] => (Lib.join_one _ _).symm
  | x :: y :: r => by
    have ih := flat_sep s (y :: r)
    rw [sep_cons, flat_app, flat_app, ih]
    show _ = Lib.join (flat x :: (y :: r).map flat) (flat s)
    rw [Lib.join_cons, List.map_cons, Lib.join_cons]
    simp [Lib.joinTail]
/-- a slice of strings -/
def SRow (w : World) (Ls : List (List UInt8)) (v : Value) (wr : World) : Prop :=
  ∃ o, Row wr 9 1 v Ls.length (Ls.map strV) o ∧ (∀ b, o = some b → w.heap.size ≤ b) ∧ Keep [] w wr
theorem strs_info : (Tryz.prog.info? 9).map (fun i => (i.zero, i.size, i.bytes)) = some (some (.string ⟨#[]⟩), 1, 16) := by kernel_rfl
theorem SRow.nil (w : World) : SRow w [] (.slice none 0 0) w := ⟨none, Row.nil _ _ _, by simp, Keep.refl _ _⟩
theorem SRow.form {w wr : World} {Ls : List (List UInt8)} {v : Value} (h : SRow w Ls v wr) : ∃ a c, v = .slice a Ls.length c := by
  obtain ⟨o, h, -, -⟩ := h
  obtain ⟨-, ⟨-, h, hn⟩ | ⟨_, _, _, _, -, h, -⟩⟩ := h
  · exact ⟨none, 0, by rw [h, hn]⟩
  · exact ⟨_, _, h⟩
theorem SRow.keep {w wr w2 : World} {Ls : List (List UInt8)} {v : Value} (h : SRow w Ls v wr) (hk : Keep [] wr w2) : SRow w Ls v w2 := by
  obtain ⟨o, h1, h2, h3⟩ := h
  exact ⟨o, Row.keep h1 hk (by simp), h2, h3.trans hk (by simp)⟩
theorem SRow.push {w w1 w2 : World} {Ls : List (List UInt8)} {g off cap : Nat} {o : Option Nat} {S : ByteArray} {L : List UInt8} (ho : ∀ b, o = some b → w.heap.size ≤ b) (hkw : Keep [] w w1)
    (hr : Row w2 9 1 (.slice (some ⟨g, off, none⟩) (Ls.length + 1) cap) (Ls.length + 1) (Ls.map strV ++ [Value.string S]) (some g)) (hk2 : Keep o.toList w1 w2) (hg : o = some g ∨ w1.heap.size ≤ g) (hS : S.data.toList = L) :
    SRow w (Ls ++ [L]) (.slice (some ⟨g, off, none⟩) (Ls.length + 1) cap) w2 := by
  refine ⟨some g, ?_, ?_, hkw.trans hk2 (fun x hx => .inr ?_)⟩
  · have e : (Ls ++ [L]).map strV = Ls.map strV ++ [Value.string S] := by
      rw [List.map_append, ← hS]; rfl
    rw [e, List.length_append]; exact hr
  · rintro b ⟨⟩
    rcases hg with h | h
    · exact ho _ h
    · have := hkw.size; omega
  · cases o with
    | none => simp at hx
    | some y => simp at hx; subst hx; exact ho _ rfl
theorem p_join {w wr : World} {Ls : List (List UInt8)} {v : Value} (h : SRow w Ls v wr) (sep : ByteArray) (hlen : (Lib.join Ls sep.data.toList).length ≤ 140737488355328) (hN : Ls.length ≤ 140737488355328) :
    Calls Tryz.prog 53 #[v, .string sep] wr (StrE wr (Lib.join Ls sep.data.toList)) := by
  obtain ⟨o, ⟨-, ⟨-, rfl, hn⟩ | ⟨b, off, cap, cs, -, rfl, hb, hcap, hmax, hcs, hcell⟩⟩, -, -⟩ := h
  · have := List.eq_nil_of_length_eq_zero hn
    subst this
    refine (Tryz.strings_Join_none none 0 sep wr).mono ?_
    rintro e w' ⟨rfl, rfl⟩
    exact ⟨⟨_, rfl, rfl⟩, Keep.refl _ _⟩
  · have hl : (Ls.map fun l => (⟨l.toArray⟩ : ByteArray)).length = Ls.length := by simp
    have hm : (Ls.map fun l => (⟨l.toArray⟩ : ByteArray)).map (·.data.toList) = Ls := by rw [List.map_map]; exact List.map_id _
    have hj := Tryz.strings_Join b off cap (Ls.map fun l => (⟨l.toArray⟩ : ByteArray)) sep wr (fun j x hx => by
      have hj : j < Ls.length := by rw [← hl]; exact (List.getElem?_eq_some_iff.1 hx).1
      have h1 := hcell j (by omega)
      simp only [World.cell?, hb]
      rw [List.getElem?_map] at hx
      rw [h1, List.getElem?_map]
      cases hq : Ls[j]? with
      | none => rw [hq] at hx; cases hx
      | some q => rw [hq] at hx; cases hx; rfl) (Array.getElem?_eq_some_iff.1 hb).1 (by rw [hl]; exact hN) (by rw [hl]; exact hcap) (by rw [hm]; exact hlen)
    rw [hl, hm] at hj
    refine hj.mono ?_
    rintro e w' ⟨rfl, hbl⟩
    exact ⟨⟨_, rfl, by simp⟩, Keep.of_below (F := []) hbl⟩
set_option maxRecDepth 100000 in
set_option maxHeartbeats 4000000 in
theorem p_texts {w : World} {B : Nat} {S : Nat → Prop} {v : Value} {l : List Nd} {ls : List (List It)} {s : List It} {sep : ByteArray} (ht : TabOk B w) (h : NsR S w false v l) (hl : ls.length = l.length) (hx : ∀ i (h : i < l.length) (h' : i < ls.length), TxT B l[i] ls[i])
    (hs : sep.data.toList = flat s) (hlen : (flat (sepI s ls)).length ≤ 140737488355328) (hN : l.length ≤ 1000000) : Calls Tryz.prog 31 #[v, .string sep] w (StrE w (flat (sepI s ls))) := by
  rw [flat_sep] at hlen ⊢
  obtain ⟨va, vc, rfl⟩ := h.form
  obtain ⟨i0, hi, hz0, hz1, hz2⟩ := info_parts strs_info
  have HI := Lib.hid hi
  have HT := Lib.hid ht
  have HH := Lib.hid h
  have HX := Lib.hid (And.intro hl hx)
  have HS := Lib.hid hs
  have HLEN := Lib.hid hlen
  clear h ht hi hx hs hlen hl
  go_enter Tryz.func31, Tryz.ntmps31
  go_wp2_with fail
  go_loopw [5, 10] (fun v i wr => ∃ k : Nat, k ≤ l.length ∧ i = .int .i64 k ∧ SRow w ((ls.take k).map flat) v wr) (fun _ i _ => l.length - (RowKit.intOf i).toNat)
  case atStart => exact ⟨0, Nat.zero_le _, rfl, SRow.nil w⟩
  case round =>
    obtain ⟨k, hk, rfl, hrow⟩ := hrel
    have hkl : ((ls.take k).map flat).length = k := by rw [List.length_map, List.length_take, HX.out.1]; omega
    obtain ⟨ra, rc, hrv⟩ := hrow.form
    rw [hkl] at hrv
    subst hrv
    have HROW := Lib.hid hrow
    have HKL := Lib.hid hkl
    have hkw : Keep [] w wr := by obtain ⟨o, -, -, h⟩ := hrow; exact h
    have HKW := Lib.hid hkw
    clear hrow hkl hkw
    by_cases hlt : k < l.length
    · have q0 : (0 : Int) ≤ (k : Int) := by omega
      have q1 : (k : Int) < (l.length : Int) := by omega
      obtain ⟨ab, aoff, csa, rfl, -, hnd, hcell⟩ := (HH.out.keep HKW.out (by simp)).at7 hlt
      obtain ⟨kd, nu, at1, nm, p1, n1, c1, p2, n2, c2, p3, n3, c3, rfl, -⟩ := id hnd.un7s
      have hleA0 := hcell 0 (by decide)
      have hleA1 := hcell 1 (by decide)
      have hleA2 := hcell 2 (by decide)
      have hleA3 := hcell 3 (by decide)
      have hleA4 := hcell 4 (by decide)
      have hleA5 := hcell 5 (by decide)
      have hleA6 := hcell 6 (by decide)
      simp only [Nat.add_zero, List.getElem?_cons_zero, List.getElem?_cons_succ] at hleA0 hleA1 hleA2 hleA3 hleA4 hleA5 hleA6
      have hk5 := (Keep.refl [] wr).alloc (.cells #[.int .i64 kd, .int .i64 nu, .string ⟨nm.toArray⟩, .int .i64 at1, .slice p1 n1 c1, .slice p2 n2 c2, .slice p3 n3 c3] 29)
      have hb5 := heap_alloc_new wr (.cells #[.int .i64 kd, .int .i64 nu, .string ⟨nm.toArray⟩, .int .i64 at1, .slice p1 n1 c1, .slice p2 n2 c2, .slice p3 n3 c3] 29)
      have hcall := HX.out.2 k hlt (by rw [HX.out.1]; exact hlt) (wr.alloc (.cells #[.int .i64 kd, .int .i64 nu, .string ⟨nm.toArray⟩, .int .i64 at1, .slice p1 n1 c1, .slice p2 n2 c2, .slice p3 n3 c3] 29)) S _ (HT.out.keep0 (HKW.out.trans hk5 (by simp))) (hnd.keep hk5 (by simp))
      have HCALL := Lib.hid hcall
      have HR5 := Lib.hid (HROW.out.keep hk5)
      obtain ⟨d0, d1, d2, d3, d4, d5, d6⟩ := cells7 hb5
      clear hcall hcell hnd hb5 hk5
      go_wp2_with fail
      refine HCALL.out.mono ?_
      rintro e w6 ⟨⟨X, rfl, hX⟩, hk6⟩
      have hr6 := HR5.out.keep hk6
      generalize wr.alloc _ = w5 at *
      have HR6 := Lib.hid hr6
      have HXX := Lib.hid hX
      clear hr6 hX hk6 d0 d1 d2 d3 d4 d5 d6 hleA0 hleA1 hleA2 hleA3 hleA4 hleA5 hleA6
      obtain ⟨o, hro, ho, hko⟩ := HR6.out
      have t1 := src_blk (P := Tryz.prog) (k := 1) Tryz.underlying90 (heap_alloc_new w6 (.cells #[.string X] 9)) rfl (by intro u hu; simp at hu; subst hu; rfl)
      have t2 := Row.keep hro ((Keep.refl [] w6).alloc (.cells #[.string X] 9)) (by simp)
      rw [HKL.out] at t2
      have T1 := Lib.hid t1
      have T2 := Lib.hid t2
      have HO := Lib.hid ho
      have HKO := Lib.hid hko
      clear t1 t2 hro ho hko
      go_wp2_with (at_builtin; refine wpList_append_row _ rfl _ _ 90 90 rfl 9 i0 (.string ⟨#[]⟩) 1 16 Tryz.underlying90 HI.out hz0 hz1 hz2 rfl _ k _ o rfl T2.out _ rfl 1 _ T1.out (by omega) (by first | (unfold maxLen; omega) | (simp [maxLen] <;> omega)) (by omega) ?_)
      intro g off cap w9 hr9 hk9 hg9
      have hpush := SRow.push (Ls := (ls.take k).map flat) (S := X) HO.out HKO.out (by rw [HKL.out]; simpa using hr9) (((Keep.refl o.toList w6).alloc _).trans hk9 (fun b hb => .inl hb)) (by rcases hg9 with h | h; (· exact .inl h); exact .inr (by first | omega | (simp at h; omega))) HXX.out
      rw [HKL.out] at hpush
      have HPUSH := Lib.hid hpush
      clear hr9 hk9 hg9 hpush T1 T2
      go_wp2_with fail
      go_roundw
      case rel => exact ⟨k + 1, by omega, by go_num, by have h := HPUSH.out; rwa [show (ls.take (k + 1)).map flat = (ls.take k).map flat ++ [flat (ls[k]'(by rw [HX.out.1]; exact hlt))] from by rw [List.take_succ_eq_append_getElem (by rw [HX.out.1]; exact hlt), List.map_append]; rfl]⟩
      case measure => simp [intOf]; omega
    · obtain rfl : k = l.length := by omega
      have q1 : ¬ (l.length : Int) < (l.length : Int) := by omega
      have hrow := HROW.out
      rw [List.take_of_length_le (by rw [HX.out.1]; exact Nat.le_refl _)] at hrow
      have hj := p_join hrow sep (by rw [HS.out]; exact HLEN.out) (by rw [List.length_map, HX.out.1]; omega)
      have HJ := Lib.hid hj
      clear hrow hj
      go_wp2_with fail
      refine HJ.out.mono ?_
      rintro e w6 ⟨⟨X, rfl, hX⟩, hk6⟩
      have HK6 := Lib.hid (And.intro hX (HKW.out.trans hk6 (by simp)))
      clear hX hk6
      go_wp2_with fail
      go_ret
      exact ⟨⟨X, rfl, by rw [HK6.out.1, HS.out]⟩, HK6.out.2⟩
end Go.Proofs.YtdmmhfbafinkpaaGreatDoor

/- ParseBack: parse/text.go: operand, called, arm. Printed by gen-pb2.py. -/
namespace Go.Proofs.YtdmmhfbafinkpaaGreatDoor
open Go.RowKit Go.Emb
theorem size_list (X : ByteArray) : X.size = X.data.toList.length := by rw [Array.length_toList]; rfl

set_option maxRecDepth 100000 in
set_option maxHeartbeats 4000000 in
theorem p_operand {w : World} {B : Nat} {S : Nat → Prop} {cs : List Value} {n : Nd} {x : List It} (ht : TabOk B w) (h : NdR S w false cs n) (hx : TxT B n x) (hlen : (flat x).length ≤ 140737488355000) : Calls Tryz.prog 34 #[.agg cs.toArray] w (StrE w (flat (operI n x))) := by
  obtain ⟨kd, nu, at1, nm, a, b, c, va, vb, vc, rfl, rfl, h1, h2, h3⟩ := id h.un7
  obtain ⟨p1, c1, rfl⟩ := h1.form
  obtain ⟨p2, c2, rfl⟩ := h2.form
  obtain ⟨p3, c3, rfl⟩ := h3.form
  obtain ⟨n1, hn1⟩ : ∃ n1, n1 = a.length := ⟨_, rfl⟩
  obtain ⟨n2, hn2⟩ : ∃ n2, n2 = b.length := ⟨_, rfl⟩
  obtain ⟨n3, hn3⟩ : ∃ n3, n3 = c.length := ⟨_, rfl⟩
  rw [← hn1, ← hn2, ← hn3] at h ⊢
  have hk5 := (Keep.refl [] w).alloc (.cells #[.int .i64 kd, .int .i64 nu, .string ⟨nm.toArray⟩, .int .i64 at1, .slice p1 n1 c1, .slice p2 n2 c2, .slice p3 n3 c3] 29)
  have hb5 := heap_alloc_new w (.cells #[.int .i64 kd, .int .i64 nu, .string ⟨nm.toArray⟩, .int .i64 at1, .slice p1 n1 c1, .slice p2 n2 c2, .slice p3 n3 c3] 29)
  have hcall := hx (w.alloc (.cells #[.int .i64 kd, .int .i64 nu, .string ⟨nm.toArray⟩, .int .i64 at1, .slice p1 n1 c1, .slice p2 n2 c2, .slice p3 n3 c3] 29)) S _ (ht.keep0 hk5) (h.keep hk5 (by simp))
  have HCALL := Lib.hid hcall
  have HLEN := Lib.hid hlen
  have HK5 := Lib.hid hk5
  obtain ⟨d0, d1, d2, d3, d4, d5, d6⟩ := cells7 hb5
  have hv : operI (.mk kd nu nm a b c) x = if kd = 9 ∨ kd = 10 ∨ kd = 11 ∨ kd = 12 then inBr x else x := rfl
  clear hcall hb5 hk5 h ht hx hlen h1 h2 h3 hn1 hn2 hn3
  go_enter Tryz.func34, Tryz.ntmps34
  by_cases hk : kd = 9 ∨ kd = 10 ∨ kd = 11 ∨ kd = 12
  · rw [if_pos hk] at hv
    rw [hv]
    clear hv
    rcases hk with rfl | rfl | rfl | rfl
    all_goals
      go_wp2_with fail
      refine HCALL.out.mono ?_
      rintro e w6 ⟨⟨X, rfl, hX⟩, hk6⟩
      have HK6 := Lib.hid (And.intro hX (HK5.out.trans hk6 (by simp)))
      have hxs : X.size ≤ 140737488355000 := by rw [size_list, hX]; exact HLEN.out
      clear hX hk6
      go_wp2_with fail
      go_ret
      exact ⟨⟨_, rfl, by simp [HK6.out.1, flat_cons, flat_app, flat_nil, inBr, It.text]⟩, HK6.out.2⟩
  · rw [if_neg hk] at hv
    rw [hv]
    clear hv
    have e9 : (kd == 9) = false := beq_eq_false_iff_ne.2 (fun h => hk (by simp [h]))
    have e10 : (kd == 10) = false := beq_eq_false_iff_ne.2 (fun h => hk (by simp [h]))
    have e11 : (kd == 11) = false := beq_eq_false_iff_ne.2 (fun h => hk (by simp [h]))
    have e12 : (kd == 12) = false := beq_eq_false_iff_ne.2 (fun h => hk (by simp [h]))
    go_wp2_with fail
    refine HCALL.out.mono ?_
    rintro e w6 ⟨⟨X, rfl, hX⟩, hk6⟩
    have HK6 := Lib.hid (And.intro hX (HK5.out.trans hk6 (by simp)))
    have hxs : X.size ≤ 140737488355000 := by rw [size_list, hX]; exact HLEN.out
    clear hX hk6
    go_wp2_with fail
    go_ret
    exact ⟨⟨_, rfl, by simp [HK6.out.1, flat_cons, flat_app, flat_nil, inBr, It.text]⟩, HK6.out.2⟩
set_option maxRecDepth 100000 in
set_option maxHeartbeats 4000000 in
theorem p_called {w : World} {B : Nat} {S : Nat → Prop} {cs : List Value} {n : Nd} {x : List It} (ht : TabOk B w) (h : NdR S w false cs n) (hx : TxT B n x) (hlen : (flat x).length ≤ 140737488355000) : Calls Tryz.prog 33 #[.agg cs.toArray] w (StrE w (flat (callI n x))) := by
  obtain ⟨kd, nu, at1, nm, a, b, c, va, vb, vc, rfl, rfl, h1, h2, h3⟩ := id h.un7
  obtain ⟨p1, c1, rfl⟩ := h1.form
  obtain ⟨p2, c2, rfl⟩ := h2.form
  obtain ⟨p3, c3, rfl⟩ := h3.form
  obtain ⟨n1, hn1⟩ : ∃ n1, n1 = a.length := ⟨_, rfl⟩
  obtain ⟨n2, hn2⟩ : ∃ n2, n2 = b.length := ⟨_, rfl⟩
  obtain ⟨n3, hn3⟩ : ∃ n3, n3 = c.length := ⟨_, rfl⟩
  rw [← hn1, ← hn2, ← hn3] at h ⊢
  have hk5 := (Keep.refl [] w).alloc (.cells #[.int .i64 kd, .int .i64 nu, .string ⟨nm.toArray⟩, .int .i64 at1, .slice p1 n1 c1, .slice p2 n2 c2, .slice p3 n3 c3] 29)
  have hb5 := heap_alloc_new w (.cells #[.int .i64 kd, .int .i64 nu, .string ⟨nm.toArray⟩, .int .i64 at1, .slice p1 n1 c1, .slice p2 n2 c2, .slice p3 n3 c3] 29)
  have hcall := hx (w.alloc (.cells #[.int .i64 kd, .int .i64 nu, .string ⟨nm.toArray⟩, .int .i64 at1, .slice p1 n1 c1, .slice p2 n2 c2, .slice p3 n3 c3] 29)) S _ (ht.keep0 hk5) (h.keep hk5 (by simp))
  have HCALL := Lib.hid hcall
  have HLEN := Lib.hid hlen
  have HK5 := Lib.hid hk5
  obtain ⟨d0, d1, d2, d3, d4, d5, d6⟩ := cells7 hb5
  have hv : callI (.mk kd nu nm a b c) x = if kd = 3 ∨ kd = 7 ∨ kd = 8 then x else inBr x := rfl
  clear hcall hb5 hk5 h ht hx hlen h1 h2 h3 hn1 hn2 hn3
  go_enter Tryz.func33, Tryz.ntmps33
  by_cases hk : kd = 3 ∨ kd = 7 ∨ kd = 8
  · rw [if_pos hk] at hv
    rw [hv]
    clear hv
    rcases hk with rfl | rfl | rfl
    all_goals
      go_wp2_with fail
      refine HCALL.out.mono ?_
      rintro e w6 ⟨⟨X, rfl, hX⟩, hk6⟩
      have HK6 := Lib.hid (And.intro hX (HK5.out.trans hk6 (by simp)))
      have hxs : X.size ≤ 140737488355000 := by rw [size_list, hX]; exact HLEN.out
      clear hX hk6
      go_wp2_with fail
      go_ret
      exact ⟨⟨_, rfl, by simp [HK6.out.1, flat_cons, flat_app, flat_nil, inBr, It.text]⟩, HK6.out.2⟩
  · rw [if_neg hk] at hv
    rw [hv]
    clear hv
    have e3 : (kd == 3) = false := beq_eq_false_iff_ne.2 (fun h => hk (by simp [h]))
    have e7 : (kd == 7) = false := beq_eq_false_iff_ne.2 (fun h => hk (by simp [h]))
    have e8 : (kd == 8) = false := beq_eq_false_iff_ne.2 (fun h => hk (by simp [h]))
    go_wp2_with fail
    refine HCALL.out.mono ?_
    rintro e w6 ⟨⟨X, rfl, hX⟩, hk6⟩
    have HK6 := Lib.hid (And.intro hX (HK5.out.trans hk6 (by simp)))
    have hxs : X.size ≤ 140737488355000 := by rw [size_list, hX]; exact HLEN.out
    clear hX hk6
    go_wp2_with fail
    go_ret
    exact ⟨⟨_, rfl, by simp [HK6.out.1, flat_cons, flat_app, flat_nil, inBr, It.text]⟩, HK6.out.2⟩
set_option maxRecDepth 100000 in
set_option maxHeartbeats 4000000 in
theorem p_arm {w : World} {B : Nat} {S : Nat → Prop} {cs : List Value} {nm : List UInt8} {p g b : List Nd} {gs bs : List (List It)} (ht : TabOk B w) (h : NdR S w true cs (.mk 0 0 nm p g b))
    (hgl : gs.length = g.length) (hg : ∀ i (h : i < g.length) (h' : i < gs.length), TxT B g[i] gs[i]) (hbl : bs.length = b.length) (hb : ∀ i (h : i < b.length) (h' : i < bs.length), TxT B b[i] bs[i])
    (hlen : (flat (tailI gs bs)).length ≤ 140737488355000) (hN : g.length ≤ 1000000 ∧ b.length ≤ 1000000) : Calls Tryz.prog 52 #[.agg cs.toArray] w (StrE w (flat (tailI gs bs))) := by
  obtain ⟨at1, nm', a', g', b', va, vb, vc, rfl, e, h1, h2, h3⟩ := id h.un5
  injection e with e1 e2 e3 e4 e5 e6
  subst e3 e4 e5 e6
  obtain ⟨p1, c1, rfl⟩ := h1.form
  obtain ⟨p2, c2, rfl⟩ := h2.form
  obtain ⟨p3, c3, rfl⟩ := h3.form
  have hk5 := (Keep.refl [] w).alloc (.cells #[.slice p1 p.length c1, .slice p2 g.length c2, .slice p3 b.length c3, .string ⟨nm.toArray⟩, .int .i64 at1] 52)
  have hb5 := heap_alloc_new w (.cells #[.slice p1 p.length c1, .slice p2 g.length c2, .slice p3 b.length c3, .string ⟨nm.toArray⟩, .int .i64 at1] 52)
  have hfl : flat (tailI gs bs) = (if gs = [] then [] else [32, 119, 104, 101, 110, 32] ++ flat (sepI commaB gs)) ++ ([32, 45, 62, 32] ++ flat (sepI commaB bs)) := by
    unfold tailI
    split <;> simp [flat_cons, flat_app, flat_nil, It.text]
  have HFL := Lib.hid hfl
  rw [hfl] at hlen
  have hT := ht.keep0 hk5
  have hcB := fun W (k : Keep [] (w.alloc (.cells #[.slice p1 p.length c1, .slice p2 g.length c2, .slice p3 b.length c3, .string ⟨nm.toArray⟩, .int .i64 at1] 52)) W) => p_texts (w := W) (s := commaB) (sep := ⟨#[44, 32]⟩) (hT.keep0 k) ((h3.keep hk5 (by simp)).keep k (by simp)) hbl hb rfl (by simp only [List.length_append] at hlen; omega) hN.2
  have HCB := Lib.hid hcB
  have HLB := Lib.hid (show (flat (sepI commaB bs)).length ≤ 140737488355000 by simp only [List.length_append] at hlen; omega)
  have HK5 := Lib.hid hk5
  obtain ⟨d0, d1, d2, d3, d4⟩ := cells5 hb5
  by_cases hg0 : g = []
  · subst hg0
    have := List.eq_nil_of_length_eq_zero hgl
    subst this
    clear hfl hlen hT hcB h h1 h2 h3 ht hb hg hb5 hk5
    go_enter Tryz.func52, Tryz.ntmps52
    go_wp2_with fail
    refine (HCB.out _ (Keep.refl _ _)).mono ?_
    rintro e w6 ⟨⟨X, rfl, hX⟩, hk6⟩
    have HK6 := Lib.hid (And.intro hX (HK5.out.trans hk6 (by simp)))
    have hxs : X.size ≤ 140737488355000 := by rw [size_list, hX]; exact HLB.out
    clear hX hk6
    go_wp2_with fail
    go_ret
    exact ⟨⟨_, rfl, by rw [HFL.out]; simp [HK6.out.1]⟩, HK6.out.2⟩
  · have hgs : gs ≠ [] := by rintro rfl; exact hg0 (List.eq_nil_of_length_eq_zero hgl.symm)
    have hgp : (0 : Int) < (g.length : Int) := by have := List.length_pos_iff.2 hg0; omega
    rw [if_neg hgs] at hlen
    have hcG := p_texts (s := commaB) (sep := ⟨#[44, 32]⟩) hT (h2.keep hk5 (by simp)) hgl hg rfl (by simp only [List.length_append] at hlen; omega) hN.1
    have HCG := Lib.hid hcG
    have HLG := Lib.hid (show (flat (sepI commaB gs)).length + (flat (sepI commaB bs)).length ≤ 140737488355000 by simp only [List.length_append] at hlen; omega)
    clear hfl hlen hT hcB hcG h h1 h2 h3 ht hb hg hb5 hk5
    go_enter Tryz.func52, Tryz.ntmps52
    go_wp2_with fail
    refine HCG.out.mono ?_
    rintro e w6 ⟨⟨X, rfl, hX⟩, hk6⟩
    have HK6 := Lib.hid (And.intro hX hk6)
    have hxs : X.size + (flat (sepI commaB bs)).length ≤ 140737488355000 := by rw [size_list, hX]; exact HLG.out
    have f2 := (hk6.cell (p := ⟨w.heap.size, 2, none⟩) (by simp) (by simp)).trans d2
    clear hX hk6 d0 d1 d2 d3 d4
    generalize w.alloc _ = w5 at *
    go_wp2_with fail
    refine (HCB.out _ HK6.out.2).mono ?_
    rintro e w7 ⟨⟨Y, rfl, hY⟩, hk7⟩
    have hys : X.size + Y.size ≤ 140737488355000 := by rw [size_list Y, hY]; exact hxs
    have HK7 := Lib.hid (And.intro hY ((HK5.out.trans HK6.out.2 (by simp)).trans hk7 (by simp)))
    clear hY hk7
    go_wp2_with fail
    go_ret
    exact ⟨⟨_, rfl, by rw [HFL.out, if_neg hgs]; simp [HK6.out.1, HK7.out.1]⟩, HK7.out.2⟩
end Go.Proofs.YtdmmhfbafinkpaaGreatDoor
