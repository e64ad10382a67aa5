/- SuperBetter: the walk. Printed by gen-su24.py. -/
import Derived.Test.YtdeghoigpcbmcaaSu23
import Derived.Test.YtdeghoigpcbmcaaBaseInv
namespace Go.Proofs.Ytdeghoigpcbmcaa
open Go.RowKit Go.Emb Go.Emb.Ext

def boxS (x : Sup) (pv : Value) : Obj := .cells #[.int .u64 x.gen, pv, .int .i64 x.len, .int .i64 x.ep] 25
/-- while both supers are made one's own, in whatever order -/
structure R8 (w7 : World) (A B : Sup) (d : Nat → Bool) (f : Nat → Value) (W : World) : Prop where
  keep : Keep [] w7 W
  ra : d 1 = true → ∃ pv po, f 94 = aggS A pv ∧ RowE W pv A.ps po ∧ ∀ c, po = some c → w7.heap.size ≤ c
  rb : d 3 = true → ∃ pv po, f 96 = aggS B pv ∧ RowE W pv B.ps po ∧ ∀ c, po = some c → w7.heap.size ≤ c
  b9 : d 4 = true → d 6 = false → ∃ g, f 9 = .pointer (some ⟨g, 0, none⟩) ∧ w7.heap.size ≤ g ∧ W.heap[g]? = some (.cells #[.int .u64 0, .slice none 0 0, .int .i64 0, .int .i64 0] 25)
  c9 : d 6 = true → ∃ g pv po, f 9 = .pointer (some ⟨g, 0, none⟩) ∧ w7.heap.size ≤ g ∧ W.heap[g]? = some (boxS A pv) ∧ RowE W pv A.ps po ∧ ∀ c, po = some c → w7.heap.size ≤ c
  b10 : d 5 = true → d 7 = false → ∃ g, f 10 = .pointer (some ⟨g, 0, none⟩) ∧ w7.heap.size ≤ g ∧ W.heap[g]? = some (.cells #[.int .u64 0, .slice none 0 0, .int .i64 0, .int .i64 0] 25) ∧ (d 4 = true → f 9 ≠ .pointer (some ⟨g, 0, none⟩))
  c10 : d 7 = true → ∃ g pv po, f 10 = .pointer (some ⟨g, 0, none⟩) ∧ w7.heap.size ≤ g ∧ W.heap[g]? = some (boxS B pv) ∧ RowE W pv B.ps po ∧ (∀ c, po = some c → w7.heap.size ≤ c) ∧ f 9 ≠ .pointer (some ⟨g, 0, none⟩)
  ord6 : d 6 = true → d 4 = true ∧ d 1 = true ∧ d 5 = true
  ord7 : d 7 = true → d 3 = true ∧ d 6 = true ∧ d 5 = true
theorem row_neS {w : World} {pv : Value} {l : List E} {po : Option Nat} {b : Nat} {cs : Array Value} (h : RowE w pv l po) (h2 : w.heap[b]? = some (.cells cs 25 (0, 0))) : ∀ c, po = some c → c ≠ b :=
  row_ne h h2 (fun cs h => by injection h with _ h _; exact absurd h (by decide))
theorem rb_set {w : World} {b off cap : Nat} {bs : List UInt8} {o : Option Nat} (h : RB w (.slice (some ⟨b, off, none⟩) bs.length cap) bs o) {i : Nat} (hi : i < bs.length) (x : UInt8) :
    w.cell? ⟨b, off + i, none⟩ = some (.int .u8 (bs[i].toNat : Int)) ∧ w.frozen? ⟨b, off + i, none⟩ = false ∧ RB (w.setCell ⟨b, off + i, none⟩ (.int .u8 (x.toNat : Int))) (.slice (some ⟨b, off, none⟩) bs.length cap) (bs.set i x) o ∧ o = some b := by
  obtain ⟨hl, h⟩ := h
  rcases h with ⟨rfl, h2, -⟩ | ⟨b', off', cap', cs, rfl, h2, hb, h3, h4, h5, h6⟩
  · cases h2
  cases h2
  have hci := h6 i (by omega)
  have hx : (Lib.byteCells bs)[i]? = some (.int .u8 (bs[i].toNat : Int)) := by simp [Lib.byteCells, hi]
  rw [hx] at hci
  refine ⟨by simpa [World.cell?, hb] using hci, by simp [World.frozen?, hb], ⟨by simp [Lib.byteCells], .inr ⟨b, off, cap, cs.setIfInBounds (off + i) (.int .u8 (x.toNat : Int)), rfl, by simp, heap_setCell_at hb _, by simpa using h3, h4, by simpa using h5, fun j hj => ?_⟩⟩, rfl⟩
  rw [List.length_set] at hj
  by_cases hji : j = i
  · subst hji
    rw [Array.getElem?_setIfInBounds_self_of_lt (by omega)]
    simp [Lib.byteCells, List.getElem?_set, hi]
  · rw [Array.getElem?_setIfInBounds_ne (by omega), h6 j hj]
    simp only [Lib.byteCells, List.map_set]
    rw [List.getElem?_set_ne (by omega)]
theorem row_blk {w : World} {E k n b : Nat} {v : Value} {xs : List Value} (h : Row w E k v n xs (some b)) : ∃ cs, w.heap[b]? = some (.cells cs E (0, 0)) := by
  obtain ⟨-, h⟩ := h
  rcases h with ⟨h, -⟩ | ⟨b', off', cap', cs, h, -, hb, -⟩
  · cases h
  · cases h; exact ⟨cs, hb⟩
/-- a block of another type is none of the disk's -/
theorem DK.notin {w : World} {q m : Nat} {D : List Nat} {d : DS} (h : DK w q m D d) {b : Nat} {cs : Array Value} {t : TypeId} (hb : w.heap[b]? = some (.cells cs t (0, 0))) (h1 : t ≠ 61) (h2 : t ≠ 5) (h3 : t ≠ 3) : b ∉ D := by
  obtain ⟨gb, c, logv, logs, lo, s, r, rfl, e1, e2, e3, e4, -, -⟩ := h
  have e2' : w.heap[gb]? = some (.cells (Lib.byteCells d.L).toArray 5 (0, 0)) := e2
  intro hm
  simp only [List.mem_cons, Option.mem_toList] at hm
  rcases hm with rfl | rfl | rfl | hm
  · rw [e1] at hb; injection hb with hb; injection hb with _ hb; exact h1 hb.symm
  · rw [e2'] at hb; injection hb with hb; injection hb with _ hb; exact h2 hb.symm
  · rw [e3] at hb; injection hb with hb; cases hb
  · have e4' : Row w 3 1 logv logs.length logs (some b) := by rw [← hm]; exact e4
    obtain ⟨cs', hc⟩ := row_blk e4'
    rw [hc] at hb; injection hb with hb; injection hb with _ hb; exact h3 hb.symm
theorem cell1 {w : World} {b : Nat} {v : Value} {t : TypeId} (h : w.heap[b]? = some (.cells #[v] t (0, 0))) : w.cell? ⟨b, 0, none⟩ = some v := by simp [World.cell?, h]
theorem xor1 (c : UInt8) : bits .xor .u8 (c.toNat : Int) 1 = ((c ^^^ 1).toNat : Int) := by
  have h : ∀ n : Fin 256, bits .xor .u8 (n.val : Int) 1 = (((UInt8.ofNat n.val) ^^^ 1).toNat : Int) := by decide +kernel
  have := h ⟨c.toNat, c.toNat_lt⟩
  simpa using this
theorem xor_ne (c : UInt8) : c ^^^ 1 ≠ c := by
  have h : ∀ n : Fin 256, (UInt8.ofNat n.val) ^^^ 1 ≠ UInt8.ofNat n.val := by decide +kernel
  have := h ⟨c.toNat, c.toNat_lt⟩
  simpa using this
theorem openS_seal {b : List UInt8} {x : Seal} (h : openS b = some x) : sealL b.length x = b := by
  unfold openS at h
  split at h
  · rename_i hc
    cases h
    exact hc.2.2.2
  · cases h
theorem flip128 {b : List UInt8} {x : Sup} (h : openS b = some ⟨83, x.gen, loadL x⟩) (hx : okS 32 x) (hg : x.gen < 18446744073709551616) (hl : b.length = 128) {i : Nat} (hi : i < 124) (c : UInt8) (hc : b[i]? = some c) : openS (b.set i (c ^^^ 1)) = none := by
  have hb := openS_seal h
  rw [hl] at hb
  have hok : SealOk 128 ⟨83, x.gen, loadL x⟩ := ⟨by decide, (show (83 : UInt8) ≠ 0 by decide), Nat.le_trans (loadL_fits (by omega) hx) (by decide), hg⟩
  rw [← hb] at hc ⊢
  exact openS_flip hok (by omega) hc (xor_ne c)
/-- what is known behind the swap: X is the better one, Y the other -/
structure T2 (w0 : World) (q : Nat) (A B X Y : Sup) (torn : Int) (f : Nat → Value) (W : World) : Prop where
  ld : LD w0 W q 2 32 128 (updS (updS (fun _ => none) A) B)
  f2 : f 2 = .int .i64 torn
  f7 : f 7 = .pointer (some ⟨q, 0, none⟩)
  ex : ∃ g9 g10 xv xo yv yo, f 9 = .pointer (some ⟨g9, 0, none⟩) ∧ f 10 = .pointer (some ⟨g10, 0, none⟩) ∧ W.heap[g9]? = some (boxS X xv) ∧ W.heap[g10]? = some (boxS Y yv) ∧ RowE W xv X.ps xo ∧ RowE W yv Y.ps yo
  hX : (updS (updS (fun _ => none) A) B) (X.gen % 2) = some X
  hY : (updS (updS (fun _ => none) A) B) (Y.gen % 2) = some Y
  lt : Y.gen < X.gen ∧ Y.gen ≠ 0 ∧ X.gen % 2 ≠ Y.gen % 2 ∧ X.ps.length ≤ 8 ∧ Y.ps.length ≤ 8
/-- what is known behind both -/
def R8E (w7 : World) (n q : Nat) (torn : Int) (A B : Sup) (f : Nat → Value) (W : World) : Prop :=
  f 3 = .pointer (some ⟨n, 0, none⟩) ∧ f 4 = .pointer (some ⟨n + 1, 0, none⟩) ∧ f 2 = .int .i64 torn ∧ f 7 = .pointer (some ⟨q, 0, none⟩) ∧ Keep [] w7 W ∧ ∃ g pv po g2 pv2 po2, f 9 = .pointer (some ⟨g, 0, none⟩) ∧ w7.heap.size ≤ g ∧ W.heap[g]? = some (boxS A pv) ∧ RowE W pv A.ps po ∧ (∀ c, po = some c → w7.heap.size ≤ c) ∧ f 10 = .pointer (some ⟨g2, 0, none⟩) ∧ w7.heap.size ≤ g2 ∧ W.heap[g2]? = some (boxS B pv2) ∧ RowE W pv2 B.ps po2 ∧ (∀ c, po2 = some c → w7.heap.size ≤ c) ∧ f 9 ≠ .pointer (some ⟨g2, 0, none⟩)
def T2E (w0 : World) (q : Nat) (A B : Sup) (torn : Int) (f : Nat → Value) (W : World) : Prop := ∃ X Y, T2 w0 q A B X Y torn f W
/-- what is known of two supers that came in and are in their boxes -/
structure Bt (w : World) (ag : Nat) (aps : List E) (al ae : Int) (aa : Option Addr) (ac : Nat) (oa : Option Nat) : Prop where
  r : RdE w (.slice aa aps.length ac) aps oa
  lt : ∀ b, oa = some b → b < w.heap.size
  g : ag < 18446744073709551616
theorem Bt.keep0 {w w' : World} {ag : Nat} {aps : List E} {al ae : Int} {aa : Option Addr} {ac : Nat} {oa : Option Nat} (h : Bt w ag aps al ae aa ac oa) (hk : Keep [] w w') : Bt w' ag aps al ae aa ac oa :=
  ⟨h.r.keep0 hk, fun b hb => Nat.lt_of_lt_of_le (h.lt b hb) hk.size, h.g⟩
set_option maxRecDepth 100000 in
set_option maxHeartbeats 8000000 in
theorem better_walk {w : World} {a b : SpV} {torn : Int} (ha : RdS w.heap.size w a) (hb : RdS w.heap.size w b) (ht : I64 torn) : Calls Try.prog 3 #[aggS a.x a.pv, aggS b.x b.pv, .int .i64 torn] w fun e w' => e = .returned (.bool true) ∧ Keep [] w w' := by
  obtain ⟨ha1, -, -, ⟨oa, har, hao⟩, -, ha5⟩ := ha
  obtain ⟨hb1, -, -, ⟨ob, hbr, hbo⟩, -, hb5⟩ := hb
  obtain ⟨aa, ac, hapv⟩ : ∃ p c, a.pv = .slice p a.x.ps.length c := by obtain ⟨-, p, c, h, -⟩ := har; exact ⟨p, c, h⟩
  obtain ⟨ba, bc, hbpv⟩ : ∃ p c, b.pv = .slice p b.x.ps.length c := by obtain ⟨-, p, c, h, -⟩ := hbr; exact ⟨p, c, h⟩
  obtain ⟨⟨ag, aps, al, ae⟩, apv⟩ := a
  obtain ⟨⟨bg, bps, bl, be⟩, bpv⟩ := b
  simp only at hapv hbpv
  subst hapv hbpv
  unfold aggS
  simp only at *
  have HA := Lib.hid (show Bt w ag aps al ae aa ac oa from ⟨har, hao, ha1⟩)
  have HB := Lib.hid (show Bt w bg bps bl be ba bc ob from ⟨hbr, hbo, hb1⟩)
  have h1 := lit_alloc (heap_new w (.cells #[.int .u64 ag, .slice aa aps.length ac, .int .i64 al, .int .i64 ae] 25)) (.cells #[.int .u64 bg, .slice ba bps.length bc, .int .i64 bl, .int .i64 be] 25)
  have h2 := heap_new (w.alloc (.cells #[.int .u64 ag, .slice aa aps.length ac, .int .i64 al, .int .i64 ae] 25)) (.cells #[.int .u64 bg, .slice ba bps.length bc, .int .i64 bl, .int .i64 be] 25)
  simp only [size_alloc] at h2
  obtain ⟨c0, c1, c2, c3⟩ := cells4s h1
  obtain ⟨d0, d1, d2, d3⟩ := cells4s h2
  have HK1 := Lib.hid (((Keep.refl [] w).alloc (.cells #[.int .u64 ag, .slice aa aps.length ac, .int .i64 al, .int .i64 ae] 25)).alloc (.cells #[.int .u64 bg, .slice ba bps.length bc, .int .i64 bl, .int .i64 be] 25))
  have H1 := Lib.hid h1
  have H2 := Lib.hid h2
  unfold I64 at ht
  clear har hbr hao hbo ha1 hb1 h1 h2
  by_cases q1 : 8 < aps.length
  · have q1' : (8 : Int) < (aps.length : Int) := by omega
    go_enter Try.func3, Try.ntmps3
    go_wp2_with fail
    refine live_any.mono ?_
    rintro e w2 ⟨rfl, hk2⟩
    go_wp2_with fail
    go_ret
    exact ⟨rfl, HK1.out.trans hk2 (by simp)⟩
  have q1' : ¬ (8 : Int) < (aps.length : Int) := by omega
  by_cases q2 : 8 < bps.length
  · have q2' : (8 : Int) < (bps.length : Int) := by omega
    go_enter Try.func3, Try.ntmps3
    go_wp2_with fail
    refine live_any.mono ?_
    rintro e w2 ⟨rfl, hk2⟩
    go_wp2_with fail
    go_ret
    exact ⟨rfl, HK1.out.trans hk2 (by simp)⟩
  have q2' : ¬ (8 : Int) < (bps.length : Int) := by omega
  by_cases q3 : ag = 0
  · subst q3
    go_enter Try.func3, Try.ntmps3
    go_wp2_with fail
    refine live_any.mono ?_
    rintro e w2 ⟨rfl, hk2⟩
    go_wp2_with fail
    go_ret
    exact ⟨rfl, HK1.out.trans hk2 (by simp)⟩
  have q3' : ((ag : Int) == 0) = false := beq_eq_false_iff_ne.2 (by omega)
  by_cases q4 : bg = 0
  · subst q4
    go_enter Try.func3, Try.ntmps3
    go_wp2_with fail
    refine live_any.mono ?_
    rintro e w2 ⟨rfl, hk2⟩
    go_wp2_with fail
    go_ret
    exact ⟨rfl, HK1.out.trans hk2 (by simp)⟩
  have q4' : ((bg : Int) == 0) = false := beq_eq_false_iff_ne.2 (by omega)
  by_cases q5 : ag % 2 = bg % 2
  · have q5' : ((ag : Int) % 2 == (bg : Int) % 2) = true := beq_iff_eq.2 (by omega)
    have HQ5 := Lib.hid q5
    have HQ3 := Lib.hid q3
    have HQ4 := Lib.hid q4
    clear q5 q3 q4
    go_enter Try.func3, Try.ntmps3
    go_wp2_with fail
    refine live_any.mono ?_
    rintro e w2 ⟨rfl, hk2⟩
    go_wp2_with fail
    go_ret
    exact ⟨rfl, HK1.out.trans hk2 (by simp)⟩
  have q5' : ((ag : Int) % 2 == (bg : Int) % 2) = false := beq_eq_false_iff_ne.2 (by omega)
  have HQ5 := Lib.hid q5
  have HQ3 := Lib.hid q3
  have HQ4 := Lib.hid q4
  have HQL := Lib.hid (And.intro q1 q2)
  clear q5 q3 q4
  go_enter Try.func3, Try.ntmps3
  go_wp2_with fail
  clear q3' q4' q5' c0 c1 c2 c3 d0 d1 d2 d3
  refine (l_new (n := 32) (sz := 128) (by omega) (by omega) (by omega) (by omega)).mono ?_
  rintro e w1 ⟨q, rfl, hd⟩
  have HD1 := Lib.hid hd
  clear hd
  obtain ⟨c0, c1, c2, c3⟩ := cells4s (blkk H1.out HD1.out.keep (by simp))
  obtain ⟨d0, d1, d2, d3⟩ := cells4s (blkk H2.out HD1.out.keep (by simp))
  have HCA := Lib.hid (p_check (w := w1) (n := 32) (x := ⟨ag, aps, al, ae⟩) (HA.out.keep0 (HK1.out.trans HD1.out.keep (by simp))).r (HA.out.keep0 (HK1.out.trans HD1.out.keep (by simp))).lt (by omega) (by simp only; omega))
  unfold aggS at HCA
  go_wp2_with (go_at_call 9; refine (p_numF _).mono ?_; rintro e w2 ⟨rfl, rfl⟩)
  refine HCA.out.mono ?_
  rintro e w2 ⟨c, rfl, hcc, hk2⟩
  have HD2 := Lib.hid (HD1.out.keep0 hk2)
  clear c0 c1 c2 c3 d0 d1 d2 d3 HCA HD1 hk2
  obtain ⟨c0, c1, c2, c3⟩ := cells4s (blkk H1.out HD2.out.keep (by simp))
  obtain ⟨d0, d1, d2, d3⟩ := cells4s (blkk H2.out HD2.out.keep (by simp))
  rcases hcc with ⟨rfl, hoka⟩ | ⟨rfl, -⟩
  rotate_left
  · go_wp2_with (first | (go_at_call 9; refine (p_numF _).mono ?_; rintro e w2 ⟨rfl, rfl⟩) | (go_at_call 7; refine live_any.mono ?_; rintro e wl ⟨rfl, hkl⟩; have HKL := Lib.hid ((HK1.out.trans HD2.out.keep (by simp)).trans hkl (by simp)); clear hkl))
    go_ret
    exact ⟨rfl, HKL.out⟩
  have HOA := Lib.hid hoka
  have HCB := Lib.hid (p_check (w := w2) (n := 32) (x := ⟨bg, bps, bl, be⟩) (HB.out.keep0 (HK1.out.trans HD2.out.keep (by simp))).r (HB.out.keep0 (HK1.out.trans HD2.out.keep (by simp))).lt (by omega) (by simp only; omega))
  unfold aggS at HCB
  clear hoka
  go_wp2_with (go_at_call 9; refine (p_numF _).mono ?_; rintro e w2 ⟨rfl, rfl⟩)
  refine HCB.out.mono ?_
  rintro e w3 ⟨c, rfl, hcc, hk3⟩
  have HD3 := Lib.hid (HD2.out.keep0 hk3)
  clear c0 c1 c2 c3 d0 d1 d2 d3 HCB HD2 hk3
  obtain ⟨c0, c1, c2, c3⟩ := cells4s (blkk H1.out HD3.out.keep (by simp))
  obtain ⟨d0, d1, d2, d3⟩ := cells4s (blkk H2.out HD3.out.keep (by simp))
  rcases hcc with ⟨rfl, hokb⟩ | ⟨rfl, -⟩
  rotate_left
  · go_wp2_with (first | (go_at_call 9; refine (p_numF _).mono ?_; rintro e w2 ⟨rfl, rfl⟩) | (go_at_call 7; refine live_any.mono ?_; rintro e wl ⟨rfl, hkl⟩; have HKL := Lib.hid ((HK1.out.trans HD3.out.keep (by simp)).trans hkl (by simp)); clear hkl))
    go_ret
    exact ⟨rfl, HKL.out⟩
  have HOB := Lib.hid hokb
  have HWA := Lib.hid (q_own (x := ⟨ag, aps, al, ae⟩) (HA.out.keep0 (HK1.out.trans HD3.out.keep (by simp))).r (by simp only; omega))
  unfold aggS at HWA
  clear hokb
  go_wp2_with (go_at_call 9; refine (p_numF _).mono ?_; rintro e w2 ⟨rfl, rfl⟩)
  refine HWA.out.mono ?_
  rintro e w4 ⟨pv, po, rfl, hrow, hpo, hk4⟩
  have hd4 := HD3.out.keep0 hk4
  obtain ⟨po', hrd, hpo'⟩ := RowE.rde hrow
  have hput := hd4.put (by omega) (by omega) hrd (fun b hb => by
    rcases hpo' with h | h
    · rw [h] at hb; cases hb
    · rw [h] at hb; exact hrow.lt b hb) HOA.out (Nat.le_trans (loadL_fits (by omega) HOA.out) (by decide)) HA.out.g
  have HPUT := Lib.hid hput
  clear hrow hpo hk4 hd4 hrd hpo' hput HWA HD3 c0 c1 c2 c3 d0 d1 d2 d3
  go_wp2_with fail
  refine HPUT.out.mono ?_
  rintro e w5 ⟨rfl, hd5, -⟩
  have HD5 := Lib.hid hd5
  clear hd5 HPUT
  obtain ⟨c0, c1, c2, c3⟩ := cells4s (blkk H1.out HD5.out.keep (by simp))
  obtain ⟨d0, d1, d2, d3⟩ := cells4s (blkk H2.out HD5.out.keep (by simp))
  have HWB := Lib.hid (q_own (x := ⟨bg, bps, bl, be⟩) (HB.out.keep0 (HK1.out.trans HD5.out.keep (by simp))).r (by simp only; omega))
  unfold aggS at HWB
  go_wp2_with (go_at_call 9; refine (p_numF _).mono ?_; rintro e w2 ⟨rfl, rfl⟩)
  refine HWB.out.mono ?_
  rintro e w6 ⟨pv, po, rfl, hrow, hpo, hk4⟩
  have hd4 := HD5.out.keep0 hk4
  obtain ⟨po', hrd, hpo'⟩ := RowE.rde hrow
  have hput := hd4.put (by omega) (by omega) hrd (fun b hb => by
    rcases hpo' with h | h
    · rw [h] at hb; cases hb
    · rw [h] at hb; exact hrow.lt b hb) HOB.out (Nat.le_trans (loadL_fits (by omega) HOB.out) (by decide)) HB.out.g
  have HPUT := Lib.hid hput
  clear hrow hpo hk4 hd4 hrd hpo' hput HWB HD5 c0 c1 c2 c3 d0 d1 d2 d3
  go_wp2_with fail
  refine HPUT.out.mono ?_
  rintro e w7 ⟨rfl, hd7, -⟩
  have HD7 := Lib.hid hd7
  clear hd7 HPUT
  go_upto_region 8 with (go_at_call 9; refine (p_numF _).mono ?_; rintro e w2 ⟨rfl, rfl⟩)
  rename_i K_out a_out
  have hcut : ∀ a' w', CutF 169 (fun f W => R8E w7 w.heap.size q torn ⟨ag, aps, al, ae⟩ ⟨bg, bps, bl, be⟩ f W) a' w' → K_out a' w' := by
    intro a' w' hc
    refine a_out _ _ ?_
    clear a_out
    obtain ⟨f, rfl, hR⟩ := hc.lit
    rw [show ((List.range 169).map f).toArray = #[f 0, f 1, f 2, f 3, f 4, f 5, f 6, f 7, f 8, f 9, f 10, f 11, f 12, f 13, f 14, f 15, f 16, f 17, f 18, f 19, f 20, f 21, f 22, f 23, f 24, f 25, f 26, f 27, f 28, f 29, f 30, f 31, f 32, f 33, f 34, f 35, f 36, f 37, f 38, f 39, f 40, f 41, f 42, f 43, f 44, f 45, f 46, f 47, f 48, f 49, f 50, f 51, f 52, f 53, f 54, f 55, f 56, f 57, f 58, f 59, f 60, f 61, f 62, f 63, f 64, f 65, f 66, f 67, f 68, f 69, f 70, f 71, f 72, f 73, f 74, f 75, f 76, f 77, f 78, f 79, f 80, f 81, f 82, f 83, f 84, f 85, f 86, f 87, f 88, f 89, f 90, f 91, f 92, f 93, f 94, f 95, f 96, f 97, f 98, f 99, f 100, f 101, f 102, f 103, f 104, f 105, f 106, f 107, f 108, f 109, f 110, f 111, f 112, f 113, f 114, f 115, f 116, f 117, f 118, f 119, f 120, f 121, f 122, f 123, f 124, f 125, f 126, f 127, f 128, f 129, f 130, f 131, f 132, f 133, f 134, f 135, f 136, f 137, f 138, f 139, f 140, f 141, f 142, f 143, f 144, f 145, f 146, f 147, f 148, f 149, f 150, f 151, f 152, f 153, f 154, f 155, f 156, f 157, f 158, f 159, f 160, f 161, f 162, f 163, f 164, f 165, f 166, f 167, f 168] from rfl]
    obtain ⟨f3, f4, f2, f7, hk, g, pv, po, g2, pv2, po2, e9, hg, hb, hr, hf, e10, hg2, hb2, hr2, hf2, hn⟩ := hR
    have HDR := Lib.hid (HD7.out.keep0 hk)
    obtain ⟨xa, xc, rfl⟩ := hr.form
    obtain ⟨ya, yc, rfl⟩ := hr2.form
    unfold boxS at hb hb2
    simp only at hr hr2 hb hb2
    have hgn : g2 ≠ g := fun e => hn (by rw [e9, e])
    have HB9 := Lib.hid hb
    have HB10 := Lib.hid hb2
    have HR9 := Lib.hid hr
    have HR10 := Lib.hid hr2
    have HKR := Lib.hid hk
    have HG := Lib.hid (And.intro hg hg2)
    obtain ⟨c0, c1, c2, c3⟩ := cells4s (blkk H1.out HDR.out.keep (by simp))
    obtain ⟨d0, d1, d2, d3⟩ := cells4s (blkk H2.out HDR.out.keep (by simp))
    obtain ⟨i0, i1, i2, i3⟩ := cells4s hb
    obtain ⟨j0, j1, j2, j3⟩ := cells4s hb2
    have fi := frozen4 hb
    have fj := frozen4 hb2
    rw [f2, f3, f4, f7, e9, e10]
    clear hc hb hb2 hr hr2 hk
    go_upto_if 101 with fail
    rename_i K_o a_o
    have hcut2 : ∀ a' w', CutF 169 (fun f W => T2E ((w.alloc (.cells #[.int .u64 ag, .slice aa aps.length ac, .int .i64 al, .int .i64 ae] 25)).alloc (.cells #[.int .u64 bg, .slice ba bps.length bc, .int .i64 bl, .int .i64 be] 25)) q ⟨ag, aps, al, ae⟩ ⟨bg, bps, bl, be⟩ torn f W) a' w' → K_o a' w' := by
      intro a' w' hc
      refine a_o _ _ ?_
      clear a_o
      obtain ⟨f, rfl, X, Y, hT⟩ := hc.lit
      rw [show ((List.range 169).map f).toArray = #[f 0, f 1, f 2, f 3, f 4, f 5, f 6, f 7, f 8, f 9, f 10, f 11, f 12, f 13, f 14, f 15, f 16, f 17, f 18, f 19, f 20, f 21, f 22, f 23, f 24, f 25, f 26, f 27, f 28, f 29, f 30, f 31, f 32, f 33, f 34, f 35, f 36, f 37, f 38, f 39, f 40, f 41, f 42, f 43, f 44, f 45, f 46, f 47, f 48, f 49, f 50, f 51, f 52, f 53, f 54, f 55, f 56, f 57, f 58, f 59, f 60, f 61, f 62, f 63, f 64, f 65, f 66, f 67, f 68, f 69, f 70, f 71, f 72, f 73, f 74, f 75, f 76, f 77, f 78, f 79, f 80, f 81, f 82, f 83, f 84, f 85, f 86, f 87, f 88, f 89, f 90, f 91, f 92, f 93, f 94, f 95, f 96, f 97, f 98, f 99, f 100, f 101, f 102, f 103, f 104, f 105, f 106, f 107, f 108, f 109, f 110, f 111, f 112, f 113, f 114, f 115, f 116, f 117, f 118, f 119, f 120, f 121, f 122, f 123, f 124, f 125, f 126, f 127, f 128, f 129, f 130, f 131, f 132, f 133, f 134, f 135, f 136, f 137, f 138, f 139, f 140, f 141, f 142, f 143, f 144, f 145, f 146, f 147, f 148, f 149, f 150, f 151, f 152, f 153, f 154, f 155, f 156, f 157, f 158, f 159, f 160, f 161, f 162, f 163, f 164, f 165, f 166, f 167, f 168] from rfl]
      obtain ⟨hld, f2, f7, ⟨g9, g10, xv, xo, yv, yo, e9, e10, hb9, hb10, hrx, hry⟩, hX, hY, hlt1, hlt2, hlt3, hlt4, hlt5⟩ := hT
      have hbest : bkN (updS (updS (fun _ => none) ⟨ag, aps, al, ae⟩) ⟨bg, bps, bl, be⟩) 2 = X := best_two hlt2 (by omega) hlt1 (fun e => hlt3 e.symm) hY hX
      have HBT := Lib.hid (hld.best (by omega))
      rw [hbest] at HBT
      have hXg : X.gen < 18446744073709551616 := by
        obtain ⟨⟨D, d, -, ⟨-, -, -, -, h⟩, -⟩, -⟩ := hld
        exact ((h _ (Nat.mod_lt _ (by omega))).2 X hX).2.1
      have hXok : okS 32 X := by
        obtain ⟨⟨D, d, -, ⟨h0, -, -, -, h⟩, -⟩, -⟩ := hld
        rw [← h0]
        exact ((h _ (Nat.mod_lt _ (by omega))).2 X hX).1
      have HXOK := Lib.hid hXok
      clear hXok
      obtain ⟨xa, xc, rfl⟩ := hrx.form
      obtain ⟨ya, yc, rfl⟩ := hry.form
      have HLD := Lib.hid hld
      have HB9 := Lib.hid hb9
      have HB10 := Lib.hid hb10
      have HRX := Lib.hid hrx
      have HRY := Lib.hid hry
      have HXY := Lib.hid (And.intro hX hY)
      have HLT := Lib.hid (And.intro hlt1 (And.intro hlt2 hlt3))
      have HXG := Lib.hid hXg
      obtain ⟨xg, xp, xl, xe⟩ := X
      obtain ⟨yg, yp, yl, ye⟩ := Y
      unfold boxS at HB9 HB10 hb9 hb10
      simp only at HB9 HB10 HRX HRY HLT HXG hlt4 hlt5 hb9 hb10
      rw [f2, f7, e9, e10]
      clear hc hld hrx hry hX hY hlt1 hlt2 hlt3 hXg hbest f2 f7 e9 e10 c0 c1 c2 c3 d0 d1 d2 d3 i0 i1 i2 i3 j0 j1 j2 j3 fi fj hb9 hb10
      go_wp2_with fail
      refine HBT.out.mono ?_
      rintro e w2 ⟨pv, po, rfl, hrow, hpo, hk2⟩
      obtain ⟨pa, pc, rfl⟩ := hrow.form
      have hxg0 : ¬ xg = 0 := by have := HLT.out; omega
      unfold aggS
      simp only [if_neg hxg0] at hrow ⊢
      clear hxg0
      have hb9 := blkk HB9.out hk2 (by simp)
      have hlt9 := (Array.getElem?_eq_some_iff.1 hb9).1
      obtain ⟨c0, c1, c2, c3⟩ := cells4s hb9
      have HK2 := Lib.hid hk2
      have HROW := Lib.hid hrow
      have hka := (Keep.refl [] w2).alloc (.cells #[.int .u64 xg, .slice pa xp.length pc, .int .i64 xl, .int .i64 xe] 25)
      obtain ⟨po', hrd1, -⟩ := RowE.rde (hrow.keep hka (by simp))
      obtain ⟨xo', hrd2, -⟩ := RowE.rde ((HRX.out.keep hk2 (by simp)).keep hka (by simp))
      have HSM := Lib.hid (q_same (x := ⟨xg, xp, xl, xe⟩) (y := ⟨xg, xp, xl, xe⟩) hrd1 hrd2 (by simp only; omega) (by simp only; omega))
      unfold aggS at HSM
      clear hk2 hrow hpo hb9 hka hrd1 hrd2 HBT
      go_wp2_with (go_at_call 9; refine (p_numF _).mono ?_; rintro e w2 ⟨rfl, rfl⟩)
      refine HSM.out.mono ?_
      rintro e w3 ⟨⟨bb, rfl, hbb⟩, hk3⟩
      obtain rfl : bb = true := by first | exact hbb.2 rfl | exact hbb.2 trivial | simpa using hbb
      have hk3' := (HK2.out.alloc (.cells #[.int .u64 xg, .slice pa xp.length pc, .int .i64 xl, .int .i64 xe] 25)).trans hk3 (by simp)
      have HLD3 := Lib.hid (HLD.out.keep0 hk3')
      have HB93 := Lib.hid (blkk HB9.out hk3' (by simp))
      have HB103 := Lib.hid (blkk HB10.out hk3' (by simp))
      have HRX3 := Lib.hid (HRX.out.keep hk3' (by simp))
      have HRY3 := Lib.hid (HRY.out.keep hk3' (by simp))
      clear hbb hk3 hk3' c0 c1 c2 c3 hlt9 HSM HROW HK2 HLD HB9 HB10 HRX HRY
      obtain ⟨c0, c1, c2, c3⟩ := cells4s HB93.out
      obtain ⟨k2, hk2d⟩ : ∃ k : Nat, k = xg % 2 := ⟨_, rfl⟩
      have hkm : (xg : Int) % 2 = (k2 : Int) := by omega
      have HKM := Lib.hid hkm
      have HK2D := Lib.hid hk2d
      have hk22 : k2 < 2 := by omega
      have HRD := Lib.hid (HLD3.out.read (k := k2) (by omega))
      clear hk2d
      go_wp2_with fail
      refine HRD.out.mono ?_
      rintro e w4 ⟨⟨v, o, b, rfl, hrb, ho, hbl, hbo⟩, hk4⟩
      have hopen := hbo _ hk22 (by rw [HK2D.out]; exact HXY.out.1)
      obtain ⟨va, vc, rfl, -⟩ := hrb.form
      obtain ⟨pb, poff, rfl⟩ : ∃ pb poff, va = some ⟨pb, poff, none⟩ := by
        rcases hrb.2 with ⟨-, -, h⟩ | ⟨b', off, cap, cs, -, h, -⟩
        · omega
        · cases h; exact ⟨_, _, rfl⟩
      have HSET := Lib.hid (fun (i : Nat) (hi : i < b.length) => rb_set hrb hi (b[i] ^^^ 1))
      obtain rfl : o = some pb := (HSET.out 0 (by omega)).2.2.2
      have hrow := row_blk (show Row w4 5 1 _ _ _ (some pb) from hrb)
      have hne : ¬ pb = g9 := fun e => by obtain ⟨cs, h⟩ := hrow; rw [e, blkk HB93.out hk4 (by simp)] at h; injection h with h; injection h with _ h; exact absurd h (by decide)
      rw [hbl] at ⊢
      have HOPEN := Lib.hid hopen
      have HLD4 := Lib.hid (HLD3.out.keep0 hk4)
      have HRB := Lib.hid hrb
      have HBL := Lib.hid hbl
      have HB94 := Lib.hid (blkk HB93.out hk4 (by simp))
      have HB104 := Lib.hid (blkk HB103.out hk4 (by simp))
      have HRY4 := Lib.hid (HRY3.out.keep hk4 (by simp))
      have HK4 := Lib.hid hk4
      have HO := Lib.hid ho
      clear hrb ho hbl hbo hk4 hopen hrow c0 c1 c2 c3 HRD HRX3
      by_cases ht1 : torn < 0
      · go_wp2_with (go_at_call 7; refine live_any.mono ?_; rintro e wl ⟨rfl, hkl⟩; have HKL := Lib.hid ((HK1.out.trans HLD4.out.keep (by simp)).trans hkl (by simp)); clear hkl)
        go_ret
        exact ⟨rfl, HKL.out⟩
      by_cases ht2 : 124 ≤ torn
      · go_wp2_with (go_at_call 7; refine live_any.mono ?_; rintro e wl ⟨rfl, hkl⟩; have HKL := Lib.hid ((HK1.out.trans HLD4.out.keep (by simp)).trans hkl (by simp)); clear hkl)
        go_ret
        exact ⟨rfl, HKL.out⟩
      obtain ⟨tn, rfl⟩ : ∃ n : Nat, torn = n := ⟨torn.toNat, by omega⟩
      have htn : tn < 124 := by omega
      clear ht1 ht2
      obtain ⟨c0, c1, c2, c3⟩ := cells4s HB94.out
      obtain ⟨cset, fset, hrbs, -⟩ := HSET.out tn (by have := HBL.out; omega)
      obtain ⟨bt, hbt⟩ : ∃ z, z = b[tn]'(by have := HBL.out; omega) := ⟨_, rfl⟩
      rw [← hbt] at cset hrbs
      rw [HBL.out] at hrbs
      have HBT := Lib.hid hbt
      have HRBS := Lib.hid hrbs
      clear hrbs hbt HSET
      go_wp2_with fail
      rw [xor1 bt]
      have hk5 : Keep [] w3 (w4.setCell ⟨pb, poff + tn, none⟩ (.int .u8 ((bt ^^^ 1).toNat : Int))) := HK4.out.trans (Keep.set1 w4 ⟨pb, poff + tn, none⟩ _) (fun b hb => by simp at hb; subst hb; exact .inr (HO.out _ rfl))
      have hop := flip128 HOPEN.out HXOK.out HXG.out HBL.out htn bt (by rw [List.getElem?_eq_getElem (by have := HBL.out; omega), HBT.out])
      have hka := (Keep.refl [] (w4.setCell ⟨pb, poff + tn, none⟩ (.int .u8 ((bt ^^^ 1).toNat : Int)))).alloc (.cells #[.slice (some ⟨pb, poff, none⟩) 128 vc] 38)
      have hnew := heap_new (w4.setCell ⟨pb, poff + tn, none⟩ (.int .u8 ((bt ^^^ 1).toNat : Int))) (.cells #[.slice (some ⟨pb, poff, none⟩) 128 vc] 38)
      rw [show (w4.setCell ⟨pb, poff + tn, none⟩ (.int .u8 ((bt ^^^ 1).toNat : Int))).heap.size = w4.heap.size from by simp] at hnew
      have hk6 := hk5.trans hka (by simp)
      obtain ⟨o6, hrd6, -⟩ := (HRBS.out.keep hka (by simp)).rd
      have HRAW := Lib.hid ((HLD3.out.keep0 hk6).raw (by omega) (by omega) (k := k2) (lb := w4.heap.size) (lo' := 0) (lc := 1) hk22 (cell1 hnew) hrd6 (by rw [List.length_set]; exact HBL.out) hop)
      have HB95 := Lib.hid (blkk HB93.out hk6 (by simp))
      have HB105 := Lib.hid (blkk HB103.out hk6 (by simp))
      have HRY5 := Lib.hid (HRY3.out.keep hk6 (by simp))
      clear hk5 hop hka hnew hk6 hrd6 cset fset c0 c1 c2 c3
      refine HRAW.out.mono ?_
      rintro e w6 ⟨rfl, hld6, D, hD, hkD, d, hdk⟩
      have n9 := hdk.notin HB95.out (by decide) (by decide) (by decide)
      have n10 := hdk.notin HB105.out (by decide) (by decide) (by decide)
      have HB106 := Lib.hid (blkk HB105.out hkD n10)
      have HRY6 := Lib.hid (HRY5.out.keep hkD (fun b hb => by
        subst hb
        obtain ⟨cs, hcs⟩ := row_blk (show Row _ _ _ _ _ _ (some b) from HRY5.out)
        exact hdk.notin hcs (by decide) (by decide) (by decide)))
      have hbest2 : bkN (fun j => if j = k2 then none else updS (updS (fun _ => none) ⟨ag, aps, al, ae⟩) ⟨bg, bps, bl, be⟩ j) 2 = ⟨yg, yp, yl, ye⟩ := by
        have h1 := HLT.out
        have h2 := HK2D.out
        refine best_one (x := ⟨yg, yp, yl, ye⟩) h1.2.1 ?_ ?_
        · show (if yg % 2 = k2 then none else _) = _
          rw [if_neg (by omega)]
          exact HXY.out.2
        · show (if 1 - yg % 2 = k2 then none else _) = _
          rw [if_pos (by omega)]
      have HBT6 := Lib.hid (hld6.best (by omega))
      rw [hbest2] at HBT6
      have HLD6 := Lib.hid hld6
      clear hld6 hD hkD hdk n9 n10 hbest2 HRAW HB95 HB105 HRY5 HLD3 HB93 HB103 HRY3
      go_wp2_with fail
      refine HBT6.out.mono ?_
      rintro e w7' ⟨pv, po, rfl, hrow, hpo, hk7⟩
      obtain ⟨qa, qc, rfl⟩ := hrow.form
      have hyg0 : ¬ yg = 0 := HLT.out.2.1
      unfold aggS
      simp only [if_neg hyg0] at hrow ⊢
      clear hyg0
      have hb10 := blkk HB106.out hk7 (by simp)
      have hlt10 := (Array.getElem?_eq_some_iff.1 hb10).1
      obtain ⟨c0, c1, c2, c3⟩ := cells4s hb10
      have hka := (Keep.refl [] w7').alloc (.cells #[.int .u64 yg, .slice qa yp.length qc, .int .i64 yl, .int .i64 ye] 25)
      obtain ⟨po', hrd1, -⟩ := RowE.rde (hrow.keep hka (by simp))
      obtain ⟨yo', hrd2, -⟩ := RowE.rde ((HRY6.out.keep hk7 (by simp)).keep hka (by simp))
      have HSM := Lib.hid (q_same (x := ⟨yg, yp, yl, ye⟩) (y := ⟨yg, yp, yl, ye⟩) hrd1 hrd2 (by simp only; omega) (by simp only; omega))
      unfold aggS at HSM
      have HLD7 := Lib.hid ((HLD6.out.keep0 hk7).keep0 hka)
      clear hk7 hrow hpo hb10 hka hrd1 hrd2 HBT6 HLD6
      go_wp2_with (go_at_call 9; refine (p_numF _).mono ?_; rintro e w2 ⟨rfl, rfl⟩)
      refine HSM.out.mono ?_
      rintro e w8 ⟨⟨bb, rfl, hbb⟩, hk8⟩
      obtain rfl : bb = true := by first | exact hbb.2 rfl | exact hbb.2 trivial | simpa using hbb
      have HLD8 := Lib.hid (HLD7.out.keep0 hk8)
      clear hbb hk8 c0 c1 c2 c3 hlt10 HSM HLD7
      go_wp2_with (go_at_call 7; refine live_any.mono ?_; rintro e wl ⟨rfl, hkl⟩; have HKL := Lib.hid ((HK1.out.trans HLD8.out.keep (by simp)).trans hkl (by simp)); clear hkl)
      go_ret
      exact ⟨rfl, HKL.out⟩
    have HCUT2 := Lib.hid hcut2
    clear hcut2 a_o
    by_cases hlt : ag < bg
    · have hlt' : (ag : Int) < (bg : Int) := by omega
      obtain ⟨hs1, hks1⟩ := set4 HB9.out (.int .u64 bg) (.slice ya bps.length yc) (.int .i64 bl) (.int .i64 be)
      obtain ⟨hs2, hks2⟩ := set4 (blkk HB10.out hks1 (by simpa using hgn)) (.int .u64 ag) (.slice xa aps.length xc) (.int .i64 al) (.int .i64 ae)
      have hs1' := blkk hs1 hks2 (by simpa using fun e => hgn e.symm)
      have hkw := (HKR.out.trans hks1 (fun b hb => by simp at hb; subst hb; exact .inr HG.out.1)).trans hks2 (fun b hb => by simp at hb; subst hb; exact .inr HG.out.2)
      have hra := (HR9.out.keep hks1 (fun b hb => by simpa using row_neS HR9.out HB9.out b hb)).keep hks2 (fun b hb => by simpa using row_neS HR9.out HB10.out b hb)
      have hrb := (HR10.out.keep hks1 (fun b hb => by simpa using row_neS HR10.out HB9.out b hb)).keep hks2 (fun b hb => by simpa using row_neS HR10.out HB10.out b hb)
      have HT := Lib.hid (And.intro hs1' (And.intro hs2 (And.intro hkw (And.intro hra hrb))))
      have HLT := Lib.hid hlt
      clear hs1 hks1 hs2 hks2 hs1' hkw hra hrb hlt
      go_wp2_with fail
      exact HCUT2.out _ _ (CutF.mk rfl ⟨⟨bg, bps, bl, be⟩, ⟨ag, aps, al, ae⟩, ⟨HD7.out.keep0 HT.out.2.2.1, rfl, rfl, ⟨_, _, _, _, _, _, rfl, rfl, HT.out.1, HT.out.2.1, HT.out.2.2.2.2, HT.out.2.2.2.1⟩, updS_same _ _, by rw [updS_other _ (show (⟨ag, aps, al, ae⟩ : Sup).gen % 2 ≠ (⟨bg, bps, bl, be⟩ : Sup).gen % 2 from HQ5.out)]; exact updS_same _ _, HLT.out, HQ3.out, fun e => HQ5.out e.symm, Nat.not_lt.1 HQL.out.2, Nat.not_lt.1 HQL.out.1⟩⟩)
    · have hlt' : ¬ (ag : Int) < (bg : Int) := by omega
      have HLT := Lib.hid hlt
      clear hlt
      go_wp2_with fail
      exact HCUT2.out _ _ (CutF.mk rfl ⟨⟨ag, aps, al, ae⟩, ⟨bg, bps, bl, be⟩, ⟨HDR.out, rfl, rfl, ⟨_, _, _, _, _, _, rfl, rfl, HB9.out, HB10.out, HR9.out, HR10.out⟩, by rw [updS_other _ (show (⟨ag, aps, al, ae⟩ : Sup).gen % 2 ≠ (⟨bg, bps, bl, be⟩ : Sup).gen % 2 from HQ5.out)]; exact updS_same _ _, updS_same _ _, (by have h1 := HLT.out; have h2 := HQ5.out; show bg < ag; rcases Nat.lt_trichotomy ag bg with h3 | h3 | h3 <;> first | exact h3 | exact absurd h3 h1 | exact absurd (by rw [h3]) h2), HQ4.out, HQ5.out, Nat.not_lt.1 HQL.out.1, Nat.not_lt.1 HQL.out.2⟩⟩)
  have HCUT := Lib.hid hcut
  clear hcut a_out
  refine wp_region_held_drew (S := fun w' => Keep [] w7 w') (by kernel_rfl) ((Keep.refl [] w7).drew) (fun hHeld => ?_)
  refine wpAnyH_takeL (i := 0) (v := ?vR0) rfl (by kernel_rfl) (by kernel_rfl) (by kernel_rfl) (fun _ _ _ h => h) (Or.inl ⟨by kernel_rfl, ?runR0⟩) hHeld ?_
  case runR0 => (intro w9 hS9; obtain ⟨⟨c0, c1, c2, c3⟩, d0, d1, d2, d3⟩ := (And.intro (cells4s (blkk H1.out (HD7.out.keep.trans hS9 (by simp)) (by simp))) (cells4s (blkk H2.out (HD7.out.keep.trans hS9 (by simp)) (by simp)))); go_simp; try exact rfl)
  try simp only [Act.put, List.setIfInBounds_toArray, List.set_cons_zero, List.set_cons_succ]
  refine wpAnyH_takeL (i := 2) (v := ?vR2) rfl (by kernel_rfl) (by kernel_rfl) (by kernel_rfl) (fun _ _ _ h => h) (Or.inl ⟨by kernel_rfl, ?runR2⟩) hHeld ?_
  case runR2 => (intro w9 hS9; obtain ⟨⟨c0, c1, c2, c3⟩, d0, d1, d2, d3⟩ := (And.intro (cells4s (blkk H1.out (HD7.out.keep.trans hS9 (by simp)) (by simp))) (cells4s (blkk H2.out (HD7.out.keep.trans hS9 (by simp)) (by simp)))); go_simp; try exact rfl)
  try simp only [Act.put, List.setIfInBounds_toArray, List.set_cons_zero, List.set_cons_succ]
  refine wpAnyH_inv (R8 w7 ⟨ag, aps, al, ae⟩ ⟨bg, bps, bl, be⟩) [9, 10, 94, 96] [1, 3, 4, 5, 6, 7] (by kernel_rfl) (by kernel_rfl) (by kernel_rfl) (fun _ _ _ h => h.keep) ⟨hHeld, (fun h => (nomatch (show false = true from h))), (fun h => (nomatch (show false = true from h))), (fun h => (nomatch (show false = true from h))), (fun h => (nomatch (show false = true from h))), (fun h => (nomatch (show false = true from h))), (fun h => (nomatch (show false = true from h))), (fun h => (nomatch (show false = true from h))), (fun h => (nomatch (show false = true from h)))⟩ (AllInv.cons rfl rfl (fun d f W hi hdep h K hK => ?_) (AllInv.cons rfl rfl (fun d f W hi hdep h K hK => ?_) (AllInv.cons rfl rfl (fun d f W hi hdep h K hK => ?_) (AllInv.cons rfl rfl (fun d f W hi hdep h K hK => ?_) (AllInv.cons rfl rfl (fun d f W hi hdep h K hK => ?_) (AllInv.cons rfl rfl (fun d f W hi hdep h K hK => ?_) AllInv.nil)))))) (fun f W h => ?_)
  · have hct := q_own (x := ⟨ag, aps, al, ae⟩) (HA.out.keep0 (HK1.out.trans (HD7.out.keep.trans h.keep (by simp)) (by simp))).r (by simp only; omega)
    unfold aggS at hct
    have HCT := Lib.hid hct
    clear hct
    have n6 : d 6 = false := by cases hdn : d 6 with
      | false => rfl
      | true => have := h.ord6 hdn; simp_all
    have n7 : d 7 = false := by cases hdn : d 7 with
      | false => rfl
      | true => have := h.ord7 hdn; simp_all
    simp only [mixA, List.foldl, List.setIfInBounds_toArray, List.set_cons_zero, List.set_cons_succ]
    go_simp
    refine HCT.out.mono ?_
    rintro e W' ⟨pv, po, rfl, hr, hf, hk⟩
    go_wp2_with fail
    have hz := hK.out (fun i => if i = 94 then aggS ⟨ag, aps, al, ae⟩ pv else f i) _ ⟨h.keep.trans hk (by simp), fun _ => ⟨pv, po, rfl, hr, fun c hc => Nat.le_trans h.keep.size (hf c hc)⟩, fun h1 => by obtain ⟨pv, po, e, hr, hf⟩ := h.rb (by simpa [upd] using h1); exact ⟨pv, po, e, hr.keep hk (by simp), hf⟩, fun h1 h2 => by obtain ⟨g, e, hg, hb⟩ := h.b9 (by simpa [upd] using h1) (by simpa [upd] using h2); exact ⟨g, e, hg, blkk hb hk (by simp)⟩, fun h1 => by simp [upd, n6] at h1, fun h1 h2 => by obtain ⟨g, e, hg, hb, hn⟩ := h.b10 (by simpa [upd] using h1) (by simpa [upd] using h2); exact ⟨g, e, hg, blkk hb hk (by simp), fun h3 => hn (by simpa [upd] using h3)⟩, fun h1 => by simp [upd, n7] at h1, fun h1 => by simp [upd, n6] at h1, fun h1 => by simp [upd, n7] at h1⟩
    clear hK
    simp only [mixA, List.foldl, List.setIfInBounds_toArray, List.set_cons_zero, List.set_cons_succ] at hz
    exact hz
  · have hct := q_own (x := ⟨bg, bps, bl, be⟩) (HB.out.keep0 (HK1.out.trans (HD7.out.keep.trans h.keep (by simp)) (by simp))).r (by simp only; omega)
    unfold aggS at hct
    have HCT := Lib.hid hct
    clear hct
    have n7 : d 7 = false := by cases hdn : d 7 with
      | false => rfl
      | true => have := h.ord7 hdn; simp_all
    simp only [mixA, List.foldl, List.setIfInBounds_toArray, List.set_cons_zero, List.set_cons_succ]
    go_simp
    refine HCT.out.mono ?_
    rintro e W' ⟨pv, po, rfl, hr, hf, hk⟩
    go_wp2_with fail
    have hz := hK.out (fun i => if i = 96 then aggS ⟨bg, bps, bl, be⟩ pv else f i) _ ⟨h.keep.trans hk (by simp), fun h1 => by obtain ⟨pv, po, e, hr, hf⟩ := h.ra (by simpa [upd] using h1); exact ⟨pv, po, e, hr.keep hk (by simp), hf⟩, fun _ => ⟨pv, po, rfl, hr, fun c hc => Nat.le_trans h.keep.size (hf c hc)⟩, fun h1 h2 => by obtain ⟨g, e, hg, hb⟩ := h.b9 (by simpa [upd] using h1) (by simpa [upd] using h2); exact ⟨g, e, hg, blkk hb hk (by simp)⟩, fun h1 => by obtain ⟨g, pv, po, e, hg, hb, hr, hf⟩ := h.c9 (by simpa [upd] using h1); exact ⟨g, pv, po, e, hg, blkk hb hk (by simp), hr.keep hk (by simp), hf⟩, fun h1 h2 => by obtain ⟨g, e, hg, hb, hn⟩ := h.b10 (by simpa [upd] using h1) (by simpa [upd] using h2); exact ⟨g, e, hg, blkk hb hk (by simp), fun h3 => hn (by simpa [upd] using h3)⟩, fun h1 => by simp [upd, n7] at h1, fun h1 => by have := h.ord6 (by simpa [upd] using h1); simpa [upd] using this, fun h1 => by simp [upd, n7] at h1⟩
    clear hK
    simp only [mixA, List.foldl, List.setIfInBounds_toArray, List.set_cons_zero, List.set_cons_succ] at hz
    exact hz
  · have n6 : d 6 = false := by cases hdn : d 6 with
      | false => rfl
      | true => have := h.ord6 hdn; simp_all
    have n7 : d 7 = false := by cases hdn : d 7 with
      | false => rfl
      | true => have := h.ord7 hdn; simp_all
    simp only [mixA, List.foldl, List.setIfInBounds_toArray, List.set_cons_zero, List.set_cons_succ]
    go_simp
    have hka := (Keep.refl [] W).alloc (.cells #[.int .u64 0, .slice none 0 0, .int .i64 0, .int .i64 0] 25)
    have hnew := heap_new W (.cells #[.int .u64 0, .slice none 0 0, .int .i64 0, .int .i64 0] 25)
    have hz := hK.out (fun i => if i = 9 then .pointer (some ⟨W.heap.size, 0, none⟩) else f i) _ ⟨h.keep.trans hka (by simp), fun h1 => by obtain ⟨pv, po, e, hr, hf⟩ := h.ra (by simpa [upd] using h1); exact ⟨pv, po, e, hr.keep hka (by simp), hf⟩, fun h1 => by obtain ⟨pv, po, e, hr, hf⟩ := h.rb (by simpa [upd] using h1); exact ⟨pv, po, e, hr.keep hka (by simp), hf⟩, fun _ _ => ⟨W.heap.size, rfl, h.keep.size, hnew⟩, fun h1 => by simp [upd, n6] at h1, fun h1 h2 => by obtain ⟨g, e, hg, hb, hn⟩ := h.b10 (by simpa [upd] using h1) (by simpa [upd] using h2); exact ⟨g, e, hg, blkk hb hka (by simp), fun _ => by have := (Array.getElem?_eq_some_iff.1 hb).1; simp <;> omega⟩, fun h1 => by simp [upd, n7] at h1, fun h1 => by simp [upd, n6] at h1, fun h1 => by simp [upd, n7] at h1⟩
    clear hK
    simp only [mixA, List.foldl, List.setIfInBounds_toArray, List.set_cons_zero, List.set_cons_succ] at hz
    exact hz
  · have n6 : d 6 = false := by cases hdn : d 6 with
      | false => rfl
      | true => have := h.ord6 hdn; simp_all
    have n7 : d 7 = false := by cases hdn : d 7 with
      | false => rfl
      | true => have := h.ord7 hdn; simp_all
    simp only [mixA, List.foldl, List.setIfInBounds_toArray, List.set_cons_zero, List.set_cons_succ]
    go_simp
    have hka := (Keep.refl [] W).alloc (.cells #[.int .u64 0, .slice none 0 0, .int .i64 0, .int .i64 0] 25)
    have hnew := heap_new W (.cells #[.int .u64 0, .slice none 0 0, .int .i64 0, .int .i64 0] 25)
    have hz := hK.out (fun i => if i = 10 then .pointer (some ⟨W.heap.size, 0, none⟩) else f i) _ ⟨h.keep.trans hka (by simp), fun h1 => by obtain ⟨pv, po, e, hr, hf⟩ := h.ra (by simpa [upd] using h1); exact ⟨pv, po, e, hr.keep hka (by simp), hf⟩, fun h1 => by obtain ⟨pv, po, e, hr, hf⟩ := h.rb (by simpa [upd] using h1); exact ⟨pv, po, e, hr.keep hka (by simp), hf⟩, fun h1 h2 => by obtain ⟨g, e, hg, hb⟩ := h.b9 (by simpa [upd] using h1) (by simpa [upd] using h2); exact ⟨g, e, hg, blkk hb hka (by simp)⟩, fun h1 => by simp [upd, n6] at h1, fun _ _ => ⟨W.heap.size, rfl, h.keep.size, hnew, fun h3 => by obtain ⟨g, e, hg, hb⟩ := h.b9 (by simpa [upd] using h3) n6; have := (Array.getElem?_eq_some_iff.1 hb).1; simp [e] <;> omega⟩, fun h1 => by simp [upd, n7] at h1, fun h1 => by simp [upd, n6] at h1, fun h1 => by simp [upd, n7] at h1⟩
    clear hK
    simp only [mixA, List.foldl, List.setIfInBounds_toArray, List.set_cons_zero, List.set_cons_succ] at hz
    exact hz
  · obtain ⟨pv, po, e1, hr, hf⟩ := h.ra (hdep 1 (of_decide_eq_true (by kernel_rfl)))
    obtain ⟨g, e2, hg, hb⟩ := h.b9 (hdep 4 (of_decide_eq_true (by kernel_rfl))) hi
    have n7 : d 7 = false := by cases hdn : d 7 with
      | false => rfl
      | true => have := h.ord7 hdn; simp_all
    obtain ⟨pa, pc, rfl⟩ := hr.form
    unfold aggS at e1
    simp only at e1 hr
    obtain ⟨k0, k1, k2, k3⟩ := cells4s hb
    have fk := frozen4 hb
    obtain ⟨hb2, hk2⟩ := set4 hb (.int .u64 ag) (.slice pa aps.length pc) (.int .i64 al) (.int .i64 ae)
    have hrn := row_neS hr hb
    simp only [mixA, List.foldl, List.setIfInBounds_toArray, List.set_cons_zero, List.set_cons_succ]
    rw [e1, e2]
    go_simp
    have hkw : Keep [] w7 _ := h.keep.trans hk2 (fun b hb => by simp at hb; subst hb; exact .inr hg)
    have hz := hK.out f _ ⟨hkw, fun h1 => by obtain ⟨pv', po', e, hr', hf'⟩ := h.ra (by simpa [upd] using h1); exact ⟨pv', po', e, hr'.keep hk2 (fun b hb' => by simpa using row_neS hr' hb b hb'), hf'⟩, fun h1 => by obtain ⟨pv', po', e, hr', hf'⟩ := h.rb (by simpa [upd] using h1); exact ⟨pv', po', e, hr'.keep hk2 (fun b hb' => by simpa using row_neS hr' hb b hb'), hf'⟩, fun _ h2 => by simp [upd] at h2, fun _ => ⟨g, _, po, e2, hg, hb2, hr.keep hk2 (fun b hb' => by simpa using hrn b hb'), hf⟩, fun h1 h2 => by obtain ⟨g', e, hg', hb', hn'⟩ := h.b10 (by simpa [upd] using h1) (by simpa [upd] using h2); have hne : g' ≠ g := fun h3 => (hn' (hdep 4 (of_decide_eq_true (by kernel_rfl)))) (by rw [e2, h3]); exact ⟨g', e, hg', blkk hb' hk2 (by simpa using hne), fun h3 => hn' (by simpa [upd] using h3)⟩, fun h1 => by simp [upd, n7] at h1, fun _ => by have a1 := hdep 4 (of_decide_eq_true (by kernel_rfl)); have a2 := hdep 1 (of_decide_eq_true (by kernel_rfl)); have a3 := hdep 5 (of_decide_eq_true (by kernel_rfl)); simp [upd, a1, a2, a3], fun h1 => by simp [upd, n7] at h1⟩
    clear hK
    simp only [mixA, List.foldl, List.setIfInBounds_toArray, List.set_cons_zero, List.set_cons_succ] at hz
    rw [e1, e2] at hz
    exact hz
  · obtain ⟨pv, po, e1, hr, hf⟩ := h.rb (hdep 3 (of_decide_eq_true (by kernel_rfl)))
    obtain ⟨g, e2, hg, hb, hn⟩ := h.b10 (hdep 5 (of_decide_eq_true (by kernel_rfl))) hi
    obtain ⟨pa, pc, rfl⟩ := hr.form
    unfold aggS at e1
    simp only at e1 hr
    obtain ⟨k0, k1, k2, k3⟩ := cells4s hb
    have fk := frozen4 hb
    obtain ⟨hb2, hk2⟩ := set4 hb (.int .u64 bg) (.slice pa bps.length pc) (.int .i64 bl) (.int .i64 be)
    have hrn := row_neS hr hb
    simp only [mixA, List.foldl, List.setIfInBounds_toArray, List.set_cons_zero, List.set_cons_succ]
    rw [e1, e2]
    go_simp
    have hkw : Keep [] w7 _ := h.keep.trans hk2 (fun b hb => by simp at hb; subst hb; exact .inr hg)
    have hz := hK.out f _ ⟨hkw, fun h1 => by obtain ⟨pv', po', e, hr', hf'⟩ := h.ra (by simpa [upd] using h1); exact ⟨pv', po', e, hr'.keep hk2 (fun b hb' => by simpa using row_neS hr' hb b hb'), hf'⟩, fun h1 => by obtain ⟨pv', po', e, hr', hf'⟩ := h.rb (by simpa [upd] using h1); exact ⟨pv', po', e, hr'.keep hk2 (fun b hb' => by simpa using row_neS hr' hb b hb'), hf'⟩, fun h1 h2 => by obtain ⟨g', e, hg', hb'⟩ := h.b9 (by simpa [upd] using h1) (by simpa [upd] using h2); have h6 := hdep 6 (of_decide_eq_true (by kernel_rfl)); simp [upd, h6] at h2, fun h1 => by obtain ⟨g', pv', po', e, hg', hb', hr', hf'⟩ := h.c9 (by simpa [upd] using h1); have hne : g' ≠ g := fun h3 => (hn (hdep 4 (of_decide_eq_true (by kernel_rfl)))) (by rw [e, h3]); exact ⟨g', pv', po', e, hg', blkk hb' hk2 (by simpa using hne), hr'.keep hk2 (fun b hb'' => by simpa using row_neS hr' hb b hb''), hf'⟩, fun _ h2 => by simp [upd] at h2, fun _ => ⟨g, _, po, e2, hg, hb2, hr.keep hk2 (fun b hb' => by simpa using hrn b hb'), hf, hn (hdep 4 (of_decide_eq_true (by kernel_rfl)))⟩, fun h1 => by have := h.ord6 (by simpa [upd] using h1); simpa [upd] using this, fun _ => by have a1 := hdep 3 (of_decide_eq_true (by kernel_rfl)); have a2 := hdep 6 (of_decide_eq_true (by kernel_rfl)); have a3 := hdep 5 (of_decide_eq_true (by kernel_rfl)); simp [upd, a1, a2, a3]⟩
    clear hK
    simp only [mixA, List.foldl, List.setIfInBounds_toArray, List.set_cons_zero, List.set_cons_succ] at hz
    rw [e1, e2] at hz
    exact hz
  · obtain ⟨g, pv, po, e, hg, hb, hr, hf⟩ := h.c9 rfl
    obtain ⟨g2, pv2, po2, e2, hg2, hb2, hr2, hf2, hn⟩ := h.c10 rfl
    exact HCUT.out _ _ (CutF.mk rfl ⟨rfl, rfl, rfl, rfl, h.keep, g, pv, po, g2, pv2, po2, e, hg, hb, hr, hf, e2, hg2, hb2, hr2, hf2, hn⟩)
end Go.Proofs.Ytdeghoigpcbmcaa
