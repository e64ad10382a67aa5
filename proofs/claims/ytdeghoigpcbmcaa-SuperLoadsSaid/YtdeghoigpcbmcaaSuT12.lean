/- The program's tape: Num, Int, Str, End, Open. -/
import Derived.Test.YtdeghoigpcbmcaaSuT11
namespace Go.Proofs.Ytdeghoigpcbmcaa
open Go.RowKit Go.Emb
theorem rd_text {P : Program} {w : World} {v : Value} {bs : List UInt8} {o : Option Nat} {src e dst : TypeId} (h : Rd w 1 v bs.length (Lib.byteCells bs) o) (hs : P.underlying src = some (.slice e)) (he : P.underlying e = some (.int .u8)) (hd : P.underlying dst = some .string) : (convert src dst v).run P w = .ok (.string ⟨bs.toArray⟩) w := by
  obtain ⟨hl, a, c, rfl, h1, h2, h3⟩ := h
  cases a with
  | none =>
    have : bs = [] := by
      rcases h3 with ⟨h, -⟩ | ⟨b, off, h, -⟩
      · exact List.eq_nil_of_length_eq_zero h
      · cases h
    subst this
    exact run_convert_bytes_nil w src e hs he _ _ dst hd
  | some p =>
    refine run_convert_bytes_back w src dst e p c bs hs he hd (fun j hj => ?_)
    rcases h3 with ⟨h, -⟩ | ⟨b, off, hp, -, hc⟩
    · omega
    · cases hp
      have := hc j (by omega)
      rw [show (⟨b, off, none⟩ : Addr).add j = ⟨b, off + j, none⟩ from by simp [Addr.add], this]
      simp [Lib.byteCells, List.getElem?_eq_getElem hj]

theorem p_tnum {w : World} {q : Nat} {bs : List UInt8} {v : Value} {bo : Option Nat} {st : Option (List UInt8)} (h : TSt 108 w q bs v bo st) :
    Calls Try.prog 55 #[.pointer (some ⟨q, 0, none⟩)] w fun e w' => e = .returned (.int .u64 ((oNum false st).1 : Int)) ∧ TSt 108 w' q bs v bo (oNum false st).2.2 ∧ Keep [q] w w' := by
  have HC := Lib.hid (p_number h false)
  clear h
  generalize oNum false st = R at *
  go_enter Try.func55, Try.ntmps55
  go_wp2_with fail
  refine HC.out.mono ?_
  rintro e w1 ⟨rfl, h⟩
  have H := Lib.hid h
  clear h HC
  go_wp2_with fail
  go_ret
  exact ⟨rfl, H.out⟩
theorem oInt_num (st : Option (List UInt8)) : oInt st = if (oNum true st).2.2 = none ∨ 9223372036854775808 ≤ (oNum true st).1 then (0, none) else (if (oNum true st).2.1 then -1 - ((oNum true st).1 : Int) else ((oNum true st).1 : Int), (oNum true st).2.2) := by
  cases st with
  | none => simp [oInt, oNum]
  | some l =>
    unfold oInt oNum
    simp only [Option.bind_some, pInt]
    cases hp : pNum true l with
    | none => simp
    | some x =>
      obtain ⟨n, is, r⟩ := x
      by_cases hn : 9223372036854775808 ≤ n
      · simp [hn]
      · simp [hn]
theorem oNum_zero {more : Bool} {st : Option (List UInt8)} (h : (oNum more st).2.2 = none) : oNum more st = (0, false, none) := by
  unfold oNum at h ⊢
  split
  · rfl
  · rename_i hh; rw [hh] at h; simp at h
theorem oStr_num {st : Option (List UInt8)} {N : Nat} (h : ∀ l, st = some l → l.length ≤ N) : oStr st = match (oNum false st).2.2 with
    | none => ([], none)
    | some r => if N < (oNum false st).1 ∨ r.length < (oNum false st).1 then ([], none) else (r.take (oNum false st).1, some (r.drop (oNum false st).1)) := by
  cases st with
  | none => simp [oStr, oNum]
  | some l =>
    unfold oStr oNum
    simp only [Option.bind_some, pStr]
    cases hp : pNum false l with
    | none => simp
    | some x =>
      obtain ⟨n, is, r⟩ := x
      simp only
      by_cases hn : r.length < n
      · simp [hn]
      · have : r.length ≤ l.length := by rw [(pNum_inv hp).1]; simp
        have h3 := h l rfl
        rw [if_neg hn, if_neg (by omega)]
set_option maxHeartbeats 1000000 in
theorem p_tstr {w : World} {q : Nat} {bs : List UInt8} {v : Value} {bo : Option Nat} {st : Option (List UInt8)} (h : TSt 108 w q bs v bo st) :
    Calls Try.prog 56 #[.pointer (some ⟨q, 0, none⟩), .int .i64 (bs.length : Int)] w fun e w' => e = .returned (.string ⟨(oStr st).1.toArray⟩) ∧ TSt 108 w' q bs v bo (oStr st).2 ∧ Keep [q] w w' := by
  have hnum := p_tnum h
  have hlt := oNum_lt false st
  have hz := fun h => oNum_zero (more := false) (st := st) h
  have hR := oStr_num (N := bs.length) (st := st) (by
    obtain ⟨pos, fa, sp, ht, ⟨rfl, -⟩ | ⟨-, -, rfl⟩⟩ := h
    · intro l hl; cases hl
    · intro l hl; cases hl; rw [List.length_drop]; omega)
  generalize oStr st = R2 at *
  obtain ⟨pos, fa, sp, ht, -⟩ := h
  have hpos := p_pos ht
  have hle := ht.le
  have hsz := ht.sz
  have HP := Lib.hid hpos
  have HC := Lib.hid hnum
  have HZ := Lib.hid hz
  have HR2 := Lib.hid hR
  clear ht hnum hpos hz hR
  generalize oNum false st = R at *
  obtain ⟨n, is, st'⟩ := R
  simp only at *
  have hl0 : (0 : Int) ≤ (bs.length : Int) := by omega
  have hm : IntKind.u64.wrap (bs.length : Int) = (bs.length : Int) := IntWalk.u64_in _ (by omega)
  go_enter Try.func56, Try.ntmps56
  go_wp2_with fail
  refine HP.out.mono ?_
  rintro e w1 ⟨rfl, rfl⟩
  go_wp2_with fail
  refine HC.out.mono ?_
  rintro e w1 ⟨rfl, ⟨pos', fa', sp', ht', hst'⟩, hk⟩
  have hru := p_runs ht'
  rcases hst' with ⟨rfl, hfa, hf1, hf2⟩ | ⟨rfl, rfl, rfl⟩
  · rw [show decide (fa' = 0) = false from by simp [hfa]] at hru
    have HR := Lib.hid hru
    have H := Lib.hid (And.intro (show TSt 108 w1 q bs v bo none from ⟨pos', fa', sp', ht', .inl ⟨rfl, hfa, hf1, hf2⟩⟩) hk)
    clear hru ht' hk hfa hf1 hf2
    go_wp2_with fail
    refine HR.out.mono ?_
    rintro e w2 ⟨rfl, rfl⟩
    have h2 : R2 = ([], none) := HR2.out
    subst h2
    go_wp2_with fail
    go_ret
    exact ⟨rfl, H.out⟩
  · rw [show decide ((0 : Int) = 0) = true from rfl] at hru
    have HR := Lib.hid hru
    have HT := Lib.hid ht'
    have HK := Lib.hid hk
    have hle' := ht'.le
    clear hru ht' hk
    have hR3 : R2 = if bs.length < n ∨ (bs.drop pos').length < n then ([], none) else ((bs.drop pos').take n, some ((bs.drop pos').drop n)) := HR2.out
    have HR3 := Lib.hid hR3
    clear hR3 HR2
    go_wp2_with fail
    refine HR.out.mono ?_
    rintro e w2 ⟨rfl, rfl⟩
    by_cases hn : bs.length < n
    · have hn' : (bs.length : Int) < (n : Int) := by omega
      have hst := p_stops HT.out 1 hle
      have HS := Lib.hid hst
      clear hst
      go_wp2_with fail
      refine HS.out.mono ?_
      rintro e w3 ⟨rfl, h1, h2⟩
      have H := Lib.hid (And.intro h1 (HK.out.trans h2 (fun _ h => .inl h)))
      clear h1 h2
      go_wp2_with fail
      go_ret
      rw [HR3.out.trans (if_pos (.inl hn))]
      exact ⟨rfl, ⟨pos, 1, _, H.out.1, .inl ⟨rfl, by omega, by omega, by omega⟩⟩, H.out.2⟩
    · have hn' : ¬ (bs.length : Int) < (n : Int) := by omega
      have hw : IntKind.i64.wrap (n : Int) = (n : Int) := IntWalk.i64_in _ (by omega)
      have hcut := p_cut HT.out (n := n) (by omega) hle
      have HC2 := Lib.hid hcut
      clear hcut
      go_wp2_with fail
      refine HC2.out.mono ?_
      rintro e w2 (⟨hn2, rfl, htp, hk⟩ | ⟨hn2, sv, so, rfl, htp, hk, hrd, hso⟩)
      · have hcv := fun (wx : World) => rd_text (P := Try.prog) (w := wx) (src := 38) (e := 5) (dst := 9) (bs := []) (v := .slice none 0 0) (o := none) ⟨rfl, none, 0, rfl, Nat.le_refl _, by simp [maxLen], .inl ⟨rfl, rfl⟩⟩ Try.underlying38 Try.underlying5 Try.underlying9
        have hd : (bs.drop pos').length < n := by rw [List.length_drop]; exact hn2
        have H := Lib.hid (And.intro htp (HK.out.trans hk (fun _ h => .inl h)))
        clear htp hk
        go_wp2_with fail
        go_ret
        rw [HR3.out.trans (if_pos (.inr hd))]
        exact ⟨rfl, ⟨pos, 3, _, H.out.1, .inl ⟨rfl, by omega, by omega, by omega⟩⟩, H.out.2⟩
      · have hl : n = ((bs.drop pos').take n).length := by rw [List.length_take, List.length_drop]; omega
        obtain ⟨p, hp⟩ : ∃ p, p = (bs.drop pos').take n := ⟨_, rfl⟩
        have hdd : (bs.drop pos').drop n = bs.drop (pos' + n) := by rw [List.drop_drop]
        have hd : ¬ (bs.drop pos').length < n := by rw [List.length_drop]; omega
        rw [← hp] at hrd hl
        have hcv := rd_text (P := Try.prog) (src := 38) (e := 5) (dst := 9) (by rw [hl] at hrd; exact hrd) Try.underlying38 Try.underlying5 Try.underlying9
        have H := Lib.hid (And.intro htp (HK.out.trans hk (fun _ h => .inl h)))
        have HP2 := Lib.hid hp
        clear htp hk hl hrd hp
        go_wp2_with fail
        go_ret
        rw [HR3.out.trans (if_neg (by simp only [not_or]; exact ⟨hn, hd⟩))]
        exact ⟨by rw [HP2.out]; rfl, ⟨pos' + n, 0, 0, H.out.1, .inr ⟨rfl, rfl, by rw [hdd]⟩⟩, H.out.2⟩
end Go.Proofs.Ytdeghoigpcbmcaa
