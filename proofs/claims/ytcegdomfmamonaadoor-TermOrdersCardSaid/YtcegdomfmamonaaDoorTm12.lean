/- Terms: row (the program's); FormatInt. -/
import Derived.Test.YtcegdomfmamonaaDoorTm11
import Derived.Test.YtcegdomfmamonaaDoorTm4
import Derived.WalkSmall
namespace Go.Proofs.YtcegdomfmamonaaDoor
open Go.RowKit Go.Emb

/-- the library's table of powers of ten lies below B -/
def TabOk (B : Nat) (w : World) : Prop := Lib.TabIs Tryd.prog w "internal/strconv.uint64pow10" .u64 Lib.pow10Tab ∧ 1 < B ∧ B ≤ w.heap.size
theorem TabOk.keep {B : Nat} {w w' : World} {F : List Nat} (h : TabOk B w) (hk : Keep F w w') (hF : ∀ b ∈ F, B ≤ b) : TabOk B w' := by
  obtain ⟨h1, h2, h3⟩ := h
  exact ⟨var?_below (hk.below hF h3) (by kernel_rfl) h2 h1, h2, Nat.le_trans h3 hk.size⟩
theorem TabOk.keep0 {B : Nat} {w w' : World} (h : TabOk B w) (hk : Keep [] w w') : TabOk B w' := h.keep hk (by simp)
theorem fmt_any {B : Nat} {w : World} (h : TabOk B w) (n : Int) (h0 : -9223372036854775808 ≤ n) (h1 : n ≤ 9223372036854775807) : Calls Tryd.prog 72 #[.int .i64 n, .int .i64 10] w fun e w' => e = .returned (.string ⟨(Lib.itoa n).toArray⟩) ∧ Keep [] w w' := by
  refine (Tryd.strconv_FormatInt_10 n h0 h1 w h.1).mono ?_
  rintro e w' ⟨rfl, k, os, rfl⟩
  refine ⟨rfl, rfl, rfl, rfl, ?_, fun b hb _ => by show (w.heap ++ os)[b]? = w.heap[b]?; exact Array.getElem?_append_left hb⟩
  show w.heap.size ≤ (w.heap ++ os).size
  simp

/-- what write does at a term -/
def WriteC (x : Tm) : Prop := ∀ (B b : Nat) (bs : List UInt8) (F : List Nat) (w : World), IsB w b bs F → RdTm B w x → isTm x = true → TabOk B w → (∀ y ∈ F, B ≤ y) → bs.length + 1200 * x.sz ≤ 10000000000 →
  Calls Tryd.prog 56 #[.pointer (some ⟨b, 0, none⟩), aggTm x] w (BPost w b (bs ++ printTm x) F (.tuple #[]))

theorem QuoteR.upB {w : World} {B : Nat} {F F' : List Nat} (hF : ∀ y ∈ F, B ≤ y) (hB : B ≤ w.heap.size) (hF' : ∀ x ∈ F', x ∈ F ∨ w.heap.size ≤ x) : ∀ y ∈ F', B ≤ y := fun y hy => by
  rcases hF' y hy with h | h
  · exact hF y h
  · omega

set_option maxRecDepth 100000 in
set_option maxHeartbeats 2000000 in
theorem p_row {l : List Tm} (hl : ∀ x ∈ l, WriteC x) {B b : Nat} {bs : List UInt8} {F : List Nat} {w : World} {v : Value} (h : IsB w b bs F) (hv : HasT B w v l) (hok : ∀ x ∈ l, isTm x = true) (htab : TabOk B w) (hF : ∀ y ∈ F, B ≤ y) (hsz : bs.length + 1200 * szL l + 10 ≤ 10000000000) :
    Calls Tryd.prog 75 #[.pointer (some ⟨b, 0, none⟩), v] w (BPost w b (bs ++ rowTms l) F (.tuple #[])) := by
  obtain ⟨a, c, rfl, hc1, hc2⟩ := hv.form
  unfold maxLen at hc2
  have HH := Lib.hid h
  have HV := Lib.hid hv
  have HL := Lib.hid hl
  have HOK := Lib.hid hok
  have HT := Lib.hid htab
  have HFB := Lib.hid hF
  clear h hv hl hok htab hF
  go_enter Tryd.func75, Tryd.ntmps75
  go_wp2_with fail
  go_loopw [4, 5, 8] (fun _ _ i wr => ∃ k : Nat, k ≤ l.length ∧ i = .int .i64 k ∧ QuoteR w b F (bs ++ rowTms (l.take k)) wr) (fun _ _ i _ => l.length - (RowKit.intOf i).toNat)
  case atStart => exact ⟨0, Nat.zero_le _, rfl, F, by simpa [rowTms] using HH.out, fun x hx => .inl hx, Keep.refl _ _⟩
  case round =>
    clear HH
    obtain ⟨k, hk, rfl, F1, hb1, hf1, hk1⟩ := hrel
    by_cases hlt : k < l.length
    · obtain ⟨b', off, rfl, c0, c1, c2, c3, hrx⟩ := HasT.atF HV.out hk1 HFB.out hlt
      obtain ⟨xa, xc, hxv, -, -⟩ := hrx.has.form
      have hmem := List.getElem_mem hlt
      have hwx := HL.out _ hmem
      have hokx := HOK.out _ hmem
      have htabr := HT.out.keep hk1 HFB.out
      have hF1 := QuoteR.upB HFB.out HT.out.2.2 hf1
      have hts := szL_take_succ l k hlt
      have htl := szL_take_le l (k + 1)
      have hrl := row_le (l.take k) (fun x hx => HOK.out x (List.mem_of_mem_take hx))
      have hsn : rowTms (l.take (k + 1)) = rowTms (l.take k) ++ (if l.take k = [] then [] else [44]) ++ printTm l[k] := by rw [List.take_succ_eq_append_getElem hlt, rowTms_snoc]
      have hlen : (bs ++ rowTms (l.take k)).length = bs.length + (rowTms (l.take k)).length := List.length_append
      have i0 : (0 : Int) ≤ (k : Int) := by omega
      have i1 : (k : Int) < (l.length : Int) := by omega
      have HBK := Lib.hid (fun ob => hb1.keep ((Keep.refl [] wr).alloc ob) (by simp))
      have HRX := Lib.hid (fun W (hW : Keep [] wr W) => hrx.keep0 hW)
      have HRX2 := Lib.hid (fun W (hW : Keep F1 wr W) => hrx.keep hW hF1)
      have HTB := Lib.hid htabr
      have HF1 := Lib.hid hF1
      have HFF2 := Lib.hid hf1
      have HLT := Lib.hid hb1.lt
      have HK1 := Lib.hid hk1
      have HWX := Lib.hid hwx
      have HOKX := Lib.hid hokx
      have HSN := Lib.hid hsn
      have HLEN := Lib.hid hlen
      have HAG : Hid (aggTm l[k] = .agg #[.int .i64 l[k].kind, .int .i64 l[k].num, .string l[k].name, .slice xa l[k].items.length xc]) := by unfold aggTm; rw [hxv]; rfl
      rw [hxv] at c3
      clear hb1 hrx htabr hF1 hf1 hk1 hwx hokx hsn hlen hxv hmem
      generalize hxx : l[k] = x at *
      clear hxx
      generalize x.kind = xk at *
      generalize x.num = xn at *
      generalize x.name = xs at *
      generalize x.items.length = xl at *
      have hbl : bs.length + (rowTms (l.take k)).length + 1200 * x.sz + 5 ≤ 10000000000 := by omega
      by_cases hk0 : k = 0
      · have hnp : ¬ (0 : Int) < (k : Int) := by omega
        have hnil : l.take k = [] := by rw [hk0]; rfl
        have hcall := fun ob => HWX.out B b _ F1 (wr.alloc ob) (HBK.out ob) (HRX.out _ ((Keep.refl [] wr).alloc ob)) HOKX.out (HTB.out.keep0 ((Keep.refl [] wr).alloc ob)) HF1.out (by rw [HLEN.out]; omega)
        rw [HAG.out] at hcall
        have HC := Lib.hid hcall
        have HNIL := Lib.hid hnil
        clear hcall hk0 hnil hrl hts htl
        go_wp2_with fail
        refine (HC.out _).mono ?_
        rintro e w2 hp2
        obtain rfl := hp2.1
        have hq2 := QuoteR.next (HK1.out.alloc _) HFF2.out hp2
        have HQ2 := Lib.hid hq2
        clear hp2 hq2
        go_wp2_with fail
        go_roundw
        case rel => exact ⟨k + 1, by omega, by go_num, by rw [HSN.out, if_pos HNIL.out]; simpa using HQ2.out⟩
        case measure => simp [RowKit.intOf]; omega
      · have hpos : (0 : Int) < (k : Int) := by omega
        have hne : ¬ l.take k = [] := by intro h; have := congrArg List.length h; rw [List.length_take, List.length_nil] at this; omega
        have hcomma := fun ob => b_byte (HBK.out ob) 44 (by rw [HLEN.out]; omega)
        have HCO := Lib.hid hcomma
        have HNE := Lib.hid hne
        clear hcomma hne hk0 hrl hts htl
        go_wp2_with fail
        refine (HCO.out _).mono ?_
        rintro e w2 hp2
        obtain rfl := hp2.1
        obtain ⟨-, F2, hb2, hf2, hk2⟩ := hp2
        obtain ⟨g0, g1, g2, g3⟩ := box4F (F := F1) (w := wr) hk2 HLT.out
        have hkk : Keep F1 wr w2 := ((Keep.refl F1 wr).alloc _).trans hk2 (fun x hx => .inl hx)
        have hf2' : ∀ y ∈ F2, y ∈ F1 ∨ wr.heap.size ≤ y := fun y hy => (hf2 y hy).imp id (fun h => by simp at h; omega)
        have hF2 : ∀ y ∈ F2, B ≤ y := QuoteR.upB HF1.out HTB.out.2.2 hf2'
        have hcall := HWX.out B b _ F2 w2 hb2 (HRX2.out _ hkk) HOKX.out (HTB.out.keep hkk HF1.out) hF2 (by rw [List.length_append, HLEN.out, List.length_singleton]; omega)
        rw [HAG.out] at hcall
        have HC := Lib.hid hcall
        have HKK := Lib.hid (HK1.out.trans hkk HFF2.out)
        have HF3 : Hid (∀ y ∈ F2, y ∈ F ∨ w.heap.size ≤ y) := fun y hy => by
          rcases hf2' y hy with h | h
          · exact HFF2.out y h
          · right; have := HK1.out.size; omega
        clear hb2 hf2 hk2 hkk hf2' hF2 hcall
        go_wp2_with fail
        refine HC.out.mono ?_
        rintro e w3 hp3
        obtain rfl := hp3.1
        have hq3 := QuoteR.next HKK.out HF3.out hp3
        have HQ3 := Lib.hid hq3
        clear hp3 hq3
        go_wp2_with fail
        go_roundw
        case rel => exact ⟨k + 1, by omega, by go_num, by rw [HSN.out, if_neg HNE.out]; simpa using HQ3.out⟩
        case measure => simp [RowKit.intOf]; omega
    · obtain rfl : k = l.length := by omega
      rw [List.take_length] at hb1
      have HB1 := Lib.hid hb1
      have HFF := Lib.hid hf1
      have HK1 := Lib.hid hk1
      clear hb1 hf1 hk1
      go_wp2_with fail
      go_end0
      exact ⟨rfl, F1, HB1.out, HFF.out, HK1.out⟩
end Go.Proofs.YtcegdomfmamonaaDoor
