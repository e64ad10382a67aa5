/- Terms: counting (the program's count, Size; the statement's names, small, plain). -/
import Derived.Test.YtcegdomfmamonaaDoorTm1
namespace Go.Proofs.YtcegdomfmamonaaDoor
open Go.RowKit Go.Emb Go.Lib

/-- after counting so many parts -/
def cntN (m : Nat) (k : Nat) : Nat := min (m + k) 4097
def CountP (w : World) (cb : Nat) (m k : Nat) (e : Ending) (w' : World) : Prop := e = .returned (.bool (decide (m + k ≤ 4096))) ∧ w'.heap[cb]? = some (.cells #[.int .i64 (cntN m k)] 54) ∧ Keep [cb] w w'

theorem one_cell {w : World} {b : Nat} {v : Value} {t : TypeId} (h : w.heap[b]? = some (.cells #[v] t)) : w.cell? ⟨b, 0, none⟩ = some v ∧ w.frozen? ⟨b, 0, none⟩ = false := by
  constructor <;> simp [World.cell?, World.frozen?, h]
theorem box4F {F : List Nat} {w wr : World} {x0 x1 x2 x3 : Value} {t : TypeId} (h : Keep F (w.alloc (.cells #[x0, x1, x2, x3] t)) wr) (hF : ∀ b ∈ F, b < w.heap.size) :
    wr.cell? ⟨w.heap.size, 0, none⟩ = some x0 ∧ wr.cell? ⟨w.heap.size, 1, none⟩ = some x1 ∧ wr.cell? ⟨w.heap.size, 2, none⟩ = some x2 ∧ wr.cell? ⟨w.heap.size, 3, none⟩ = some x3 := by
  have hb : wr.heap[w.heap.size]? = some (.cells #[x0, x1, x2, x3] t) := (h.block _ (by simp) (fun hn => by have := hF _ hn; omega)).trans (heap_alloc_new w _)
  refine ⟨?_, ?_, ?_, ?_⟩ <;> simp [World.cell?, hb]
theorem HasT.atF {B : Nat} {F : List Nat} {w wr : World} {a : Option Addr} {n c : Nat} {l : List Tm} (h : HasT B w (.slice a n c) l) (hk : Keep F w wr) (hF : ∀ b ∈ F, B ≤ b) {k : Nat} (hlt : k < l.length) :
    ∃ b off, a = some ⟨b, off, none⟩ ∧ wr.cell? ⟨b, off + k * 4, none⟩ = some (.int .i64 l[k].kind) ∧ wr.cell? ⟨b, off + k * 4 + 1, none⟩ = some (.int .i64 l[k].num) ∧ wr.cell? ⟨b, off + k * 4 + 2, none⟩ = some (.string l[k].name) ∧ wr.cell? ⟨b, off + k * 4 + 3, none⟩ = some l[k].iv ∧ RdTm B wr l[k] :=
  (h.keep hk hF).at (Keep.refl [] wr) hlt

set_option maxRecDepth 100000 in
set_option maxHeartbeats 1000000 in
theorem countN : ∀ (N : Nat) (t : Tm), t.sz ≤ N → ∀ (cb m : Nat) (w : World), RdTm cb w t → w.heap[cb]? = some (.cells #[.int .i64 m] 54) → m ≤ 4096 → Calls Tryd.prog 45 #[.pointer (some ⟨cb, 0, none⟩), aggTm t] w (CountP w cb m t.sz)
  | 0, t, hN, _, _, _, _, _, _ => by have := t.sz_pos; omega
  | N + 1, t, hN, cb, m, w, hr, hcb, hm => by
    have IH := countN N
    have hh := hr.has
    have hmem := fun (x : Tm) (hx : x ∈ t.items) => sz_mem_lt hx
    have hsz : t.sz = 1 + szL t.items := by cases t; simp only [Tm.sz, Tm.items]; omega
    have hpos := t.sz_pos
    obtain ⟨a, c, hiv, hc1, hc2⟩ := hh.form
    unfold maxLen at hc2
    unfold aggTm
    rw [hiv] at hh ⊢
    have hlt0 := (Array.getElem?_eq_some_iff.1 hcb).1
    obtain ⟨d0, d1⟩ := one_cell hcb
    have HH := Lib.hid hh
    have HCB := Lib.hid hcb
    have HMEM := Lib.hid hmem
    have HSZ := Lib.hid hsz
    have HIH := Lib.hid IH
    clear hh hr hmem hsz IH hiv hcb
    generalize t.items = l at *
    generalize t.kind = tk at *
    generalize t.num = tn at *
    generalize t.name = ts at *
    by_cases hfull : m = 4096
    · subst hfull
      have hres : decide (4096 + t.sz ≤ 4096) = false := by simp; omega
      have hc' : cntN 4096 t.sz = 4097 := by unfold cntN; omega
      have HRES := Lib.hid hres
      have HC' := Lib.hid hc'
      clear hres hc'
      go_enter Tryd.func45, Tryd.ntmps45
      go_wp2_with fail
      go_ret
      refine ⟨by rw [HRES.out]; rfl, ?_, ((Keep.refl [cb] w).setCell (.inl (by simp)) _).alloc _⟩
      rw [HC'.out, (((Keep.refl [] _).alloc _).block cb (by simpa [World.setCell] using hlt0) (by simp)), heap_setCell_at HCB.out]
      rfl
    · have hm1 : m + 1 ≤ 4096 := by omega
      have hb1 : cntN m 1 = m + 1 := by unfold cntN; omega
      have hcb1 : (w.setCell ⟨cb, 0, none⟩ (.int .i64 ((m : Int) + 1))).heap[cb]? = some (.cells #[.int .i64 (cntN m (1 + szL (l.take 0)) : Nat)] 54) := by
        rw [heap_setCell_at HCB.out, List.take_zero, szL_nil, Nat.add_zero, hb1]
        simp
      have HCB1 := Lib.hid hcb1
      clear hcb1 hb1
      go_enter Tryd.func45, Tryd.ntmps45
      go_wp2_with fail
      go_loopw [6, 19] (fun _ i wr => ∃ j : Nat, j ≤ l.length ∧ i = .int .i64 j ∧ m + (1 + szL (l.take j)) ≤ 4096 ∧ wr.heap[cb]? = some (.cells #[.int .i64 (cntN m (1 + szL (l.take j)) : Nat)] 54) ∧ Keep [cb] w wr) (fun _ i _ => l.length - (intOf i).toNat)
      case atStart => exact ⟨0, Nat.zero_le _, rfl, by simp [szL_nil]; omega, ((((Keep.refl [] _).alloc _).block cb (by simpa [World.setCell] using hlt0) (by simp))).trans HCB1.out, ((Keep.refl [cb] w).setCell (.inl (by simp)) _).alloc _⟩
      case round =>
        clear HCB1 d0 d1
        obtain ⟨j, hj, rfl, hle, hcj, hK⟩ := hrel
        have HK := Lib.hid hK
        have HCJ := Lib.hid hcj
        clear hK hcj
        by_cases hlt : j < l.length
        · obtain ⟨b, off, rfl, c0, c1, c2, c3, hrx⟩ := HasT.atF HH.out HK.out (by simp) hlt
          have hcn : cntN m (1 + szL (l.take j)) = m + (1 + szL (l.take j)) := by unfold cntN; omega
          have hts := szL_take_succ l j hlt
          have hxl := List.getElem_mem hlt
          have hcall := fun ob => HIH.out l[j] (by have := HMEM.out _ hxl; omega) cb (m + (1 + szL (l.take j))) (wr.alloc ob) (hrx.keep0 ((Keep.refl [] wr).alloc ob)) ((((Keep.refl [] wr).alloc ob).block cb (Array.getElem?_eq_some_iff.1 HCJ.out).1 (by simp)).trans (by rw [HCJ.out, hcn])) (by omega)
          have hstep : m + (1 + szL (l.take j)) + l[j].sz = m + (1 + szL (l.take (j + 1))) := by omega
          have hstep2 : cntN (m + (1 + szL (l.take j))) l[j].sz = cntN m (1 + szL (l.take (j + 1))) := by unfold cntN; omega
          unfold CountP at hcall
          rw [hstep, hstep2] at hcall
          have i0 : (0 : Int) ≤ (j : Int) := by omega
          have i1 : (j : Int) < (l.length : Int) := by omega
          obtain ⟨xa, xc, hxv, -, -⟩ := hrx.has.form
          unfold aggTm at hcall
          rw [hxv] at c3 hcall
          clear hxv
          generalize l[j].items.length = xl at *
          have hend := HSZ.out
          have htl := szL_take_le l (j + 1)
          clear hrx hts hstep hstep2 hcn hxl
          generalize l[j].kind = xk at *
          generalize l[j].num = xn at *
          generalize l[j].name = xs at *
          by_cases hfit : m + (1 + szL (l.take (j + 1))) ≤ 4096
          · have hd : decide (m + (1 + szL (l.take (j + 1))) ≤ 4096) = true := by simpa using hfit
            simp only [hd] at hcall
            have HC := Lib.hid hcall
            clear hcall hd hend htl
            go_wp2_with fail
            refine (HC.out _).mono ?_
            rintro e w2 ⟨rfl, hc2', hk2⟩
            have HC2' := Lib.hid hc2'
            clear hc2'
            go_wp2_with fail
            go_roundw
            case rel => exact ⟨j + 1, by omega, by go_num, hfit, HC2'.out, HK.out.trans (((Keep.refl [cb] wr).alloc _).trans hk2 (by simp)) (by simp)⟩
            case measure => simp [intOf]; omega
          · have hd : decide (m + (1 + szL (l.take (j + 1))) ≤ 4096) = false := by simpa using hfit
            have hres : decide (m + t.sz ≤ 4096) = false := by simp; omega
            have hcm : cntN m (1 + szL (l.take (j + 1))) = cntN m t.sz := by unfold cntN; omega
            simp only [hd, hcm] at hcall
            have HC := Lib.hid hcall
            have HRES := Lib.hid hres
            clear hcall hd hend htl hres hcm
            go_wp2_with fail
            refine (HC.out _).mono ?_
            rintro e w2 ⟨rfl, hc2', hk2⟩
            have HC2' := Lib.hid hc2'
            clear hc2'
            go_wp2_with fail
            go_ret
            exact ⟨by rw [HRES.out]; rfl, HC2'.out, HK.out.trans (((Keep.refl [cb] wr).alloc _).trans hk2 (by simp)) (by simp)⟩
        · obtain rfl : j = l.length := by omega
          rw [List.take_length, ← HSZ.out] at *
          have hres : decide (m + t.sz ≤ 4096) = true := by simpa using hle
          have HRES := Lib.hid hres
          clear hres
          go_wp2_with fail
          go_ret
          exact ⟨by rw [HRES.out]; rfl, HCJ.out, HK.out⟩
end Go.Proofs.YtcegdomfmamonaaDoor
