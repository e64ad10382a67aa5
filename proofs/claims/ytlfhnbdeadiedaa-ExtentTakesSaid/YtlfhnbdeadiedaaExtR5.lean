/- Extents, the document's: Take. -/
import Derived.Test.YtlfhnbdeadiedaaExtR4
import Derived.Test.YtlfhnbdeadiedaaBaseApp2
import Derived.Deep.DeepCutAuto
namespace Go.Emb.Ext
/-- the first of the longest of the first i -/
structure MaxI (l : List E) (i k : Nat) : Prop where
  lt : k < i ∨ (i = 0 ∧ k = 0)
  le : ∀ j x y, j < i → l[j]? = some x → l[k]? = some y → x.2 ≤ y.2
  first : ∀ j x y, j < k → l[j]? = some x → l[k]? = some y → x.2 < y.2
theorem MaxI.start (l : List E) : MaxI l 0 0 := ⟨.inr ⟨rfl, rfl⟩, fun _ _ _ h => absurd h (Nat.not_lt_zero _), fun _ _ _ h => absurd h (Nat.not_lt_zero _)⟩
theorem MaxI.more {l : List E} {i k : Nat} (h : MaxI l i k) {x y : E} (hx : l[i]? = some x) (hy : l[k]? = some y) (hlt : y.2 < x.2) : MaxI l (i + 1) i := by
  refine ⟨.inl (by omega), fun j a b hj ha hb => ?_, fun j a b hj ha hb => ?_⟩
  · rw [hx] at hb; cases hb
    by_cases e : j = i
    · subst e; rw [hx] at ha; cases ha; omega
    · have := h.le j a y (by omega) ha hy; omega
  · rw [hx] at hb; cases hb
    have := h.le j a y hj ha hy
    omega
theorem MaxI.same {l : List E} {i k : Nat} (h : MaxI l i k) {x y : E} (hx : l[i]? = some x) (hy : l[k]? = some y) (hlt : ¬ y.2 < x.2) : MaxI l (i + 1) k := by
  refine ⟨.inl (by rcases h.lt with h | h <;> omega), fun j a b hj ha hb => ?_, h.first⟩
  rw [hy] at hb; cases hb
  by_cases e : j = i
  · subst e; rw [hx] at ha; cases ha; omega
  · exact h.le j a y (by omega) ha hy
theorem MaxI.done {l : List E} {k : Nat} (h : MaxI l l.length k) (hl : l ≠ []) : k < l.length ∧ maxI l = k := by
  have hk : k < l.length := by
    have := List.length_pos_iff.2 hl
    rcases h.lt with h | h <;> omega
  refine ⟨hk, maxI_eq hk (fun y hy => ?_) (fun j hj => ?_)⟩
  · obtain ⟨j, hj, rfl⟩ := List.getElem_of_mem hy
    exact h.le j _ _ hj (List.getElem?_eq_getElem hj) (List.getElem?_eq_getElem hk)
  · exact h.first j _ _ hj (List.getElem?_eq_getElem (by omega)) (List.getElem?_eq_getElem hk)
theorem chooseI_none {l : List E} {n : Int} (h : ∀ (j : Nat) (x : E), l[j]? = some x → x.2 < n) : chooseI l n = maxI l := by
  unfold chooseI
  rw [show l.findIdx? (fun x => decide (n ≤ x.2)) = none from ?_]
  rw [List.findIdx?_eq_none_iff]
  intro x hx
  obtain ⟨j, hj, rfl⟩ := List.getElem_of_mem hx
  have := h j _ (List.getElem?_eq_getElem hj)
  simp; omega
end Go.Emb.Ext
namespace Go.Proofs.Ytlfhnbdeadiedaa
open Go.RowKit Go.Emb Go.Lib Go.Emb.Ext Go.Shelf Go.Sort

def CutP (wr : World) (s : Value) (x y : Value) (wx : World) : Prop := ∃ B, s = .pointer (some ⟨B, 0, none⟩) ∧ wx.heap[B]? = some (.cells #[x, y] 36 (0, 0)) ∧ B = wr.heap.size ∧ Keep [] wr wx

/-- the loop of the document's Take: what is left lies somewhere, got is a row of its own -/
structure TakeS (w : World) (a : List E) (m0 : Nat) (n0 : Int) (m : Nat) (n : Int) (vg vl : Value) (left got : List E) (og : Option Nat) (wr : World) : Prop where
  same : takeL m0 n0 a [] = takeL m n left got
  inv : TInv a n0 n left got
  n0' : 0 ≤ n
  nle : n ≤ sumL left
  rl : ∀ x ∈ left, right x = true
  rg : ∀ x ∈ got, right x = true
  hasl : HasE wr vl left
  rowg : RowE wr vg got og
  apart : ∀ o b, RdE wr vl left o → o = some b → og ≠ some b
  newg : ∀ b, og = some b → w.heap.size ≤ b
  keep : Keep [] w wr
  ll : left.length ≤ a.length
  lg : (got.length : Int) ≤ n0 - n
theorem TakeS.drewN {w : World} {a : List E} {m0 : Nat} {n0 : Int} {m : Nat} {n : Int} {vg vl : Value} {left got : List E} {og : Option Nat} {wr : World} (h : TakeS w a m0 n0 m n vg vl left got og wr) (q : Nat) : TakeS w a m0 n0 m n vg vl left got og (wr.drewN q) :=
  ⟨h.same, h.inv, h.n0', h.nle, h.rl, h.rg, h.hasl, h.rowg, fun o b h1 => h.apart o b h1, h.newg, h.keep.drewN q, h.ll, h.lg⟩


/-- in the midst of a round of the document's Take -/
structure MidS (w : World) (b off cl : Nat) (left got2 rest : List E) (vg vr : Value) (nr g g5 B : Nat) (x1 t : Int) (W : World) : Prop where
  keep : Keep [] w W
  box : W.heap[B]? = some (.cells #[.int .i64 x1, .int .i64 t] 36 (0, 0))
  rdl : RdE W (.slice (some ⟨b, off, none⟩) left.length cl) left (some b)
  rowg : RowE W vg got2 (some g)
  rowr' : Row W 36 2 vr nr (rest.flatMap encE) (some g5)
  gg : g < g5
  bg : B < g5
  newg : w.heap.size ≤ g
  bl : b < g5
theorem MidS.drewN {w : World} {b off cl : Nat} {left got2 rest : List E} {vg vr : Value} {nr g g5 B : Nat} {x1 t : Int} {W : World} (h : MidS w b off cl left got2 rest vg vr nr g g5 B x1 t W) (n : Nat) : MidS w b off cl left got2 rest vg vr nr g g5 B x1 t (W.drewN n) :=
  ⟨h.keep.drewN n, h.box, h.rdl, h.rowg, h.rowr', h.gg, h.bg, h.newg, h.bl⟩
theorem MidS.cells {w : World} {b off cl : Nat} {left got2 rest : List E} {vg vr : Value} {nr g g5 B : Nat} {x1 t : Int} {W : World} (h : MidS w b off cl left got2 rest vg vr nr g g5 B x1 t W) {J : Nat} {x : E} (hx : left[J]? = some x) :
    W.cell? ⟨B, 0, none⟩ = some (.int .i64 x1) ∧ W.cell? ⟨B, 1, none⟩ = some (.int .i64 t) ∧ W.cell? ⟨b, off + J * 2 + 1, none⟩ = some (.int .i64 x.2) := by
  obtain ⟨h1, h2⟩ := cells2 h.box
  obtain ⟨hJ, rfl⟩ := List.getElem?_eq_some_iff.1 hx
  obtain ⟨b', off', e1, _, _, h3⟩ := RdE.at h.rdl hJ
  cases e1
  exact ⟨h1, h2, h3⟩
theorem MidS.mk' {w wz wc w4 w5 : World} {b off cl : Nat} {left got rest : List E} {vg vr : Value} {nr ng g g5 B : Nat} {og : Option Nat} {x1 t : Int} (k0 : Keep [] w wz) (n0 : ∀ b, og = some b → w.heap.size ≤ b) (kc : Keep [] wz wc) (k4 : Keep og.toList wc w4)
    (hbx : wc.heap[B]? = some (.cells #[.int .i64 x1, .int .i64 t] 36 (0, 0))) (hB : B = wz.heap.size) (hlt : ∀ b, og = some b → b < wz.heap.size) (hl : RdE w4 (.slice (some ⟨b, off, none⟩) left.length cl) left (some b))
    (hrow4 : Row w4 36 2 vg ng (got.flatMap encE ++ [.int .i64 x1, .int .i64 t]) (some g)) (hg : og = some g ∨ (wc.alloc (.cells #[.int .i64 x1, .int .i64 t] 36)).heap.size ≤ g)
    (hrow5 : Row w5 36 2 vr nr (rest.flatMap encE) (some g5)) (hk5 : Keep [w4.heap.size] (w4.alloc (.cells #[] 36)) w5) (hg5 : w4.heap.size = g5 ∨ (w4.alloc (.cells #[] 36)).heap.size ≤ g5) (hb : b < wz.heap.size) (hng : ng = (got ++ [(x1, t)]).length := by simp) :
    MidS w b off cl left (got ++ [(x1, t)]) rest vg vr nr g g5 B x1 t w5 := by
  subst hng
  have hgl := hrow4.lt g rfl
  have hBl := (Array.getElem?_eq_some_iff.1 hbx).1
  have s4 := k4.size
  have hK5 : Keep [] w4 w5 := ((Keep.refl [] w4).alloc _).trans hk5 (fun x hx => .inr (by simp at hx; omega))
  have hg5' : w4.heap.size ≤ g5 := by
    rcases hg5 with h | h
    · omega
    · simp at h; omega
  have hbx4 : w4.heap[B]? = some (.cells #[.int .i64 x1, .int .i64 t] 36 (0, 0)) := (k4.block B hBl (by
    cases og with
    | none => simp
    | some b' => have := hlt b' rfl; simp; omega)).trans hbx
  refine ⟨((k0.trans kc (by simp)).trans k4 (fun x hx => ?_)).trans hK5 (by simp), (hK5.block B (by omega) (by simp)).trans hbx4, hl.keep hK5 (by simp), ?_, hrow5, by omega, by omega, ?_, by have := kc.size; omega⟩
  · cases og with
    | none => simp at hx
    | some b' => simp at hx; subst hx; exact .inr (n0 _ rfl)
  · unfold RowE
    have h4 : Row w4 36 2 vg (got ++ [(x1, t)]).length ((got ++ [(x1, t)]).flatMap encE) (some g) := by simpa [encE] using hrow4
    exact h4.keep hK5 (by simp)
  · have h1 := (k0.trans kc (by simp)).size
    rcases hg with h | h
    · exact n0 g h
    · simp at h; omega
/-- behind one more append to the row that is made -/
theorem MidS.app {w W W' w7 : World} {b off cl : Nat} {left got2 rest rest2 : List E} {vg vr vr2 : Value} {nr nr2 g g5 g6 B : Nat} {x1 t : Int} (h : MidS w b off cl left got2 rest vg vr nr g g5 B x1 t W) (hW : Keep [] W W') (hk : Keep [g5] W' w7)
    (hrow : Row w7 36 2 vr2 nr2 (rest2.flatMap encE) (some g6)) (hg : g5 = g6 ∨ W'.heap.size ≤ g6) : MidS w b off cl left got2 rest2 vg vr2 nr2 g g6 B x1 t w7 := by
  have hg5 := h.rowr'.lt g5 rfl
  have hs := hW.size
  have hle : g5 ≤ g6 := by rcases hg with h | h <;> omega
  have hgg := h.gg
  have hbg := h.bg
  have hbl := h.bl
  have hnew : w.heap.size ≤ g5 := by have := h.newg; omega
  have hBl := (Array.getElem?_eq_some_iff.1 h.box).1
  have hK : Keep [g5] W w7 := (hW.mono (by simp)).trans hk (fun x hx => .inl hx)
  exact ⟨h.keep.trans hK (fun x hx => by simp at hx; subst hx; exact .inr hnew), (hK.block B hBl (by simp; omega)).trans h.box, h.rdl.keep hK (by rintro b' ⟨⟩; simp; omega), RowE.keep h.rowg hK (by rintro b' ⟨⟩; simp; omega), hrow, by omega, by omega, h.newg, by omega⟩
theorem TakeS.of {w w8 : World} {b off cl : Nat} {left got2 left2 a : List E} {vg : Value} {g g8 off8 cap8 n8 B m0 m' : Nat} {x1 t n0 n' : Int} (hM : MidS w b off cl left got2 left2 vg (.slice (some ⟨g8, off8, none⟩) n8 cap8) n8 g g8 B x1 t w8) (hn8 : n8 = left2.length)
    (same : takeL m0 n0 a [] = takeL m' n' left2 got2) (inv : TInv a n0 n' left2 got2) (h0 : 0 ≤ n') (hle : n' ≤ sumL left2) (rl : ∀ x ∈ left2, right x = true) (rg : ∀ x ∈ got2, right x = true) (ll : left2.length ≤ a.length) (lg : (got2.length : Int) ≤ n0 - n') :
    TakeS w a m0 n0 m' n' vg (.slice (some ⟨g8, off8, none⟩) n8 cap8) left2 got2 (some g) w8 := by
  subst hn8
  refine ⟨same, inv, h0, hle, rl, rg, RowE.has (o := some g8) hM.rowr', hM.rowg, fun o b' h1 h2 h3 => ?_, (by rintro b' ⟨⟩; exact hM.newg), hM.keep, ll, lg⟩
  obtain ⟨_, a9, c9, hv, _, _, h9⟩ := h1
  cases hv
  subst h2
  rcases h9 with ⟨_, h9⟩ | ⟨b9, off9, e1, e2, _⟩
  · cases h9
  · cases e1
    cases e2
    cases h3
    have := hM.gg
    omega

set_option maxRecDepth 100000 in
set_option maxHeartbeats 8000000 in
theorem r_take {w : World} {v : Value} {l : List E} (n most : Int) (hr : HasE w v l) (hsz : l.length ≤ 1000000) (hmost : most ≤ 9223372036854775807) :
    Calls Try.prog 11 #[.int .i64 n, .int .i64 most, v] w (TakeH w n most l) := by
  obtain ⟨i0, hi, hz0, hz1, hz2⟩ := info_parts ext_info
  have HI := Lib.hid hi
  obtain ⟨a, c, rfl⟩ := hr.slice
  have HR := Lib.hid hr
  clear hr hi
  have hnilH : ∀ W, HasE W (.slice none 0 0) [] := fun W => RowE.has (o := none) (Row.nil _ _ _)
  have HNIL := Lib.hid hnilH
  clear hnilH
  by_cases hn1 : n < 0
  · go_enter Try.func11, Try.ntmps11
    go_wp2_with fail
    go_ret3
    exact ⟨_, _, [], [], 2, rfl, .inl ⟨.inl hn1, rfl, rfl, rfl⟩, HNIL.out _, HNIL.out _, Keep.refl _ _⟩
  by_cases hm1 : most < 0
  · go_enter Try.func11, Try.ntmps11
    go_wp2_with fail
    go_ret3
    exact ⟨_, _, [], [], 2, rfl, .inl ⟨.inr hm1, rfl, rfl, rfl⟩, HNIL.out _, HNIL.out _, Keep.refl _ _⟩
  have hn2 : 0 ≤ n := by omega
  have hm2 : 0 ≤ most := by omega
  go_enter Try.func11, Try.ntmps11
  go_wp2_with fail
  refine (r_join HR.out hsz).mono ?_
  rintro e w1 ⟨v1, s, err, rfl, hres, hs1, hk1⟩
  by_cases hne : err = 0
  · subst hne
    obtain ⟨hlr, hok, hsr⟩ := hres.ok
    have hsl : s.length ≤ 1000000 := Nat.le_trans hok.len hsz
    have hcs := countE_right hsr
    have hcnt := r_count hs1 hsl
    rw [hcs] at hcnt
    have hs16 := sumL_le hok.plain hsr
    obtain ⟨a1, c1, rfl⟩ := hs1.slice
    have HRES := Lib.hid hres
    have HSR := Lib.hid hsr
    have HK1 := Lib.hid hk1
    have HS1 := Lib.hid hs1
    have HPL := Lib.hid hok.plain
    clear hres hlr hok hsr hk1 hcs HR hs1
    go_wp2_with fail
    refine hcnt.mono ?_
    rintro e w2 ⟨rfl, hk2⟩
    have HK2 := Lib.hid hk2
    clear hk2 hcnt
    by_cases hful : sumL s < n
    · have HFUL := Lib.hid hful
      go_wp2_with fail
      go_ret3
      exact ⟨_, _, [], [], 5, rfl, .inr ⟨⟨hn2, hm2⟩, s, 0, HRES.out, .inr (.inl ⟨rfl, .inl HFUL.out, rfl, rfl, rfl⟩)⟩, HNIL.out _, HNIL.out _, HK1.out.trans HK2.out (by simp)⟩
    · have hle : n ≤ sumL s := by omega
      have hstart : TakeS w s most.toNat n most.toNat n (.slice none 0 0) (.slice a1 s.length c1) s [] none w2 :=
        ⟨rfl, TInv.start HPL.out n, hn2, hle, HSR.out, by simp, HS1.out.keep HK2.out, Row.nil _ _ _, by simp, by simp, HK1.out.trans HK2.out (by simp), Nat.le_refl _, by simp⟩
      have HST := Lib.hid hstart
      have HLE := Lib.hid hle
      clear hstart hle HS1 HK1 HK2 HPL HSR
      have hsb : n ≤ 16384 := by omega
      obtain ⟨m0, rfl⟩ := Int.eq_ofNat_of_zero_le hm2
      rw [Int.toNat_natCast] at HST
      go_wp2_with fail
      go_loopw [0, 1, 9, 11] (fun sn sm sl sg wr => ∃ (m : Nat) (k : Int) (vg vl : Value) (left got : List E) (og : Option Nat), .int .i64 k = sn ∧ .int .i64 (m : Int) = sm ∧ vg = sg ∧ vl = sl ∧ m ≤ m0 ∧ TakeS w s m0 n m k vg vl left got og wr) (fun sn _ _ _ _ => (intOf sn).toNat)
      case atStart => exact ⟨m0, n, _, _, s, [], none, rfl, rfl, rfl, rfl, Nat.le_refl _, HST.out⟩
      case round =>
        obtain ⟨m, k, vg, vl, left, got, og, rfl, rfl, rfl, rfl, hmm, hT⟩ := hrel
        have HT := Lib.hid hT
        have hk0 := hT.n0'
        have hkn : k ≤ n := by have := hT.lg; omega
        have hll := hT.ll
        have hlg := hT.lg
        clear hT HST
        obtain ⟨al, cl, rfl⟩ := HT.out.hasl.slice
        obtain ⟨ag, cg, rfl⟩ := RowE.slice HT.out.rowg
        by_cases hkz : 0 < k
        · by_cases hm : m = 0
          · subst hm
            have hres5 : takeL m0 n s [] = none := by rw [HT.out.same]; unfold takeL; rw [if_neg (by omega)]
            have HR5 := Lib.hid hres5
            clear hres5
            go_wp2_with fail
            go_ret3
            exact ⟨_, _, [], [], 5, rfl, .inr ⟨⟨hn2, hm2⟩, s, 0, HRES.out, .inr (.inl ⟨rfl, .inr ⟨HLE.out, by rw [Int.toNat_natCast]; exact HR5.out⟩, rfl, rfl, rfl⟩)⟩, HNIL.out _, HNIL.out _, HT.out.keep⟩
          · have hmb : ((m : Int) == 0) = false := by simp; exact hm
            have hlne : left ≠ [] := by
              rintro rfl
              have := HT.out.nle
              simp [sumL] at this
              omega
            have hllp := List.length_pos_iff.2 hlne
            have HLNE := Lib.hid hlne
            clear hlne
            go_wp2_with fail
            go_loopw [12, 13] (fun sk si wq => ∃ (i j : Nat), i ≤ left.length ∧ si = .int .i64 i ∧ sk = .int .i64 j ∧ j ≤ i ∧ (∀ t x, t < i → left[t]? = some x → x.2 < k) ∧ MaxI left i j ∧ ∃ q, wq = wr.drewN q) (fun _ si _ => left.length - (intOf si).toNat)
            case atStart => exact ⟨0, 0, Nat.zero_le _, rfl, rfl, Nat.le_refl _, fun t x h => absurd h (Nat.not_lt_zero _), MaxI.start _, 0, rfl⟩
            case round =>
              obtain ⟨i, j, hi, rfl, rfl, hji, hno, hmx, q, rfl⟩ := hrel
              have HNO := Lib.hid hno
              have HMX := Lib.hid hmx
              clear hno hmx
              by_cases hlt : i < left.length
              · obtain ⟨ob, hrd, -⟩ := HT.out.hasl
                have hjl : j < left.length := by omega
                obtain ⟨b, off, rfl, rfl, g0, g1⟩ := hrd.at hlt
                obtain ⟨b', off', hbb, -, g2, g3⟩ := hrd.at hjl
                cases hbb
                have hxi : left[i]? = some left[i] := List.getElem?_eq_getElem hlt
                have hxj : left[j]? = some left[j] := List.getElem?_eq_getElem hjl
                have hch : k ≤ left[i].2 → chooseI left k = i := fun h => chooseI_first hlt h (fun t ht => HNO.out t _ ht (List.getElem?_eq_getElem (by omega)))
                have HXI := Lib.hid hxi
                have HXJ := Lib.hid hxj
                have HCH := Lib.hid hch
                clear hrd hxi hxj hch g2
                generalize left[i] = x at *
                generalize left[j] = y at *
                obtain ⟨x1, x2⟩ := x
                obtain ⟨y1, y2⟩ := y
                simp only at g0 g1 g3
                have q0 : (0 : Int) ≤ (i : Int) := by omega
                have q1 : (i : Int) < (left.length : Int) := by omega
                have q2 : (0 : Int) ≤ (j : Int) := by omega
                have q3 : (j : Int) < (left.length : Int) := by omega
                by_cases hge : k ≤ x2
                · have hci := HCH.out hge
                  clear HCH HMX HNO g3 q2 q3 HXJ hjl
                  have HCI := Lib.hid hci
                  clear hci
                  go_upto_region 21 with fail
                  have HT2 := Lib.hid (TakeS.drewN HT.out q)
                  have g0' : (wr.drewN q).cell? ⟨b, off + i * 2, none⟩ = some (.int .i64 x1) := g0
                  have g1' : (wr.drewN q).cell? ⟨b, off + i * 2 + 1, none⟩ = some (.int .i64 x2) := g1
                  clear HT g0 g1
                  generalize wr.drewN q = wz at *
                  have g0 := g0'
                  have g1 := g1'
                  clear g0' g1'
                  have hxr := HT2.out.rl _ (List.mem_of_getElem? HXI.out)
                  have hxb := (right_iff _).1 hxr
                  simp only at hxb
                  have hJl : i < left.length := (List.getElem?_eq_some_iff.1 HXI.out).1
                  have htl : takeL m k left got = takeL (m - 1) (k - min x2 k) (updI left i (min x2 k)) (got ++ [(x1, min x2 k)]) := by
                    obtain ⟨m', rfl⟩ : ∃ m', m = m' + 1 := ⟨m - 1, by omega⟩
                    conv => lhs; unfold takeL
                    rw [if_neg (by omega)]
                    simp only [HCI.out, HXI.out, Nat.add_sub_cancel]
                  have HTL := Lib.hid htl
                  have HXR := Lib.hid hxr
                  obtain ⟨ob2, hrd2, hlt2⟩ := HT2.out.hasl
                  obtain rfl : ob2 = some b := by
                    obtain ⟨b9, off9, h9, h10, _⟩ := RdE.at hrd2 hJl
                    cases h9
                    exact h10
                  have hbl : b < wz.heap.size := hlt2 b rfl
                  have hnbg : b ∉ og.toList := by
                    intro hb
                    cases og with
                    | none => simp at hb
                    | some b' => simp at hb; subst hb; exact HT2.out.apart _ _ hrd2 rfl rfl
                  have hcl : left.length ≤ cl ∧ cl ≤ maxLen := by
                    obtain ⟨_, _, _, hv, h1, h2, _⟩ := hrd2
                    cases hv
                    exact ⟨h1, h2⟩
                  have HCLM := Lib.hid hcl.2
                  have hcl1 := hcl.1
                  clear hcl
                  have HRDL0 : Hid (∀ w4, Keep og.toList wz w4 → RdE w4 (.slice (some ⟨b, off, none⟩) left.length cl) left (some b)) := fun w4 hk => hrd2.keep hk (by rintro b' ⟨⟩; exact hnbg)
                  have HROWG0 : Hid (RowE wz (.slice ag got.length cg) got og) := HT2.out.rowg
                  have HLTG : Hid (∀ b, og = some b → b < wz.heap.size) := Row.lt HT2.out.rowg
                  have hsk : ∀ w, (sizeOf 36).run Try.prog w = .ok 2 w := Try.sizeOf36
                  have s2 : ∀ W, (Instr.slice 22 (.slice (some ⟨b, off, none⟩) left.length cl) none (some (.int .i64 (i : Int))) none).run Try.prog W = .ok (.slice (some ⟨b, off, none⟩) i cl) W := fun W => run_sliceHi W Try.underlying22 hsk b off left.length cl i (by omega)
                  have s3 : ∀ W, (Instr.slice 22 (.slice (some ⟨b, off, none⟩) left.length cl) (some (.int .i64 ((i : Int) + 1))) none none).run Try.prog W = .ok (.slice (some ⟨b, sliceOff off cl (i + 1) 2, none⟩) (left.length - (i + 1)) (cl - (i + 1))) W := fun W => by
                    have := run_slice_lo W Try.underlying22 hsk b off left.length cl (i + 1) (by omega)
                    simpa using this
                  have eA0 : ∀ ob, (wz.alloc ob).cell? ⟨b, off + i * 2, none⟩ = some (.int .i64 x1) := fun ob => ((Keep.refl [] wz).alloc ob).cellOf g0
                  have eA1 : ∀ ob, (wz.alloc ob).cell? ⟨b, off + i * 2 + 1, none⟩ = some (.int .i64 x2) := fun ob => ((Keep.refl [] wz).alloc ob).cellOf g1
                  have hglen : (got.length : Int) ≤ 16384 := by omega
                  have p1 : (i : Int) < (left.length : Int) := by omega
                  have p2 : (0 : Int) ≤ (i : Int) := by omega
                  clear htl hxr hrd2 hlt2 hnbg hsk
                  by_cases hcase : k < x2
                  · have hmin : min k x2 = k := by omega
                    have hlist : (left.set i (x1 + k, x2 - k)).flatMap encE = (left.take i ++ [(x1 + k, x2 - k)]).flatMap encE ++ (left.drop (i + 1)).flatMap encE := by
                      rw [List.set_eq_take_append_cons_drop, if_pos hJl, ← List.flatMap_append]; simp
                    have hlen : (left.set i (x1 + k, x2 - k)).length = left.length := by simp
                    have htl2 : takeL m k left got = takeL (m - 1) (k - k) (left.set i (x1 + k, x2 - k)) (got ++ [(x1, k)]) := by
                      rw [HTL.out, Int.min_comm, hmin, updI_set HXI.out hcase]
                    have hinv : TInv s n (k - k) (left.set i (x1 + k, x2 - k)) (got ++ [(x1, k)]) := by
                      rw [← updI_set HXI.out hcase]; exact HT2.out.inv.step HXI.out (by omega) (by simp; omega)
                    have hrl2 : ∀ y ∈ left.set i (x1 + k, x2 - k), right y = true := by
                      rw [← updI_set HXI.out hcase]; exact updI_right HXI.out (by omega) HT2.out.rl
                    have hsum2 : k - k ≤ sumL (left.set i (x1 + k, x2 - k)) := by
                      rw [Int.sub_self]; exact (sumL_pos (fun y hy => ((right_iff y).1 (hrl2 y hy)).2.2.1)).1
                    have hxk : right (x1, k) = true := by rw [right_iff]; simp; omega
                    have HLIST := Lib.hid hlist
                    have HLEN := Lib.hid hlen
                    have HTL2 := Lib.hid htl2
                    have HINV := Lib.hid hinv
                    have HRL2 := Lib.hid hrl2
                    have HSUM := Lib.hid hsum2
                    have HXK := Lib.hid hxk
                    clear hlist hlen htl2 hinv hrl2 hsum2 hxk
                    go_cut [14] (fun s14 wx => CutP wz s14 (.int .i64 x1) (.int .i64 k) wx)
                    case first =>
                      go_region
                      all_goals
                        go_wp2_with fail
                        go_meet
                        exact ⟨_, rfl, heap_alloc_new wz _, rfl, (by repeat (first | exact Keep.refl _ _ | refine Keep.drewN ?_ _ | refine Keep.drew ?_ | refine Keep.alloc ?_ _))⟩
                    case rest =>
                      obtain ⟨B, rfl, hbx, hBB, hkc⟩ := hcut
                      obtain ⟨cb0, cb1⟩ := cells2 hbx
                      have HROWG : Hid (RowE wc (.slice ag got.length cg) got og) := RowE.keep HROWG0.out hkc (by simp)
                      have HRDL : Hid (∀ w4, Keep og.toList wc w4 → RdE w4 (.slice (some ⟨b, off, none⟩) left.length cl) left (some b)) := fun w4 hk => HRDL0.out w4 ((hkc.mono (by simp)).trans hk (fun x hx => .inl hx))
                      have HBX := Lib.hid hbx
                      have HBB := Lib.hid hBB
                      have HKC := Lib.hid hkc
                      clear hbx hBB hkc HRDL0 HROWG0 eA0 eA1 g0
                      go_wp2_with (first | (at_builtin; refine wpList_append_rd _ rfl (.tmp 83) (.tmp 86) 22 22 rfl 36 36 i0 _ 2 16 Try.underlying22 Try.underlying22 HI.out hz0 hz1 hz2 rfl w4.heap.size 0 0 0 [] rfl (Row.made0 w4 _ _) _ rfl i _ oU (Rd.keep0 Try.underlying22P.out ((Keep.refl [] w4).alloc _)) (encE_one _) (by unfold maxLen; omega) (by omega) ?_; intro g5 off5 cap5 w5 hrow5 hk5 hg5; simp only [Nat.zero_add, List.nil_append] at hrow5) | (at_builtin; refine wpList_append_row _ rfl (.tmp 79) (.tmp 81) 22 22 rfl 36 i0 _ 2 16 Try.underlying22 HI.out hz0 hz1 hz2 rfl _ _ _ og rfl (Row.keep HROWG.out (F := []) (by repeat (first | exact Keep.refl _ _ | refine Keep.drewN ?_ _ | refine Keep.drew ?_ | refine Keep.alloc ?_ _)) (by simp)) _ rfl 1 _ (two_srcB Try.underlying22 _ _ (by first | rfl | simp) _ _ rfl rfl _) (by omega) (by first | (unfold maxLen; omega) | (simp [maxLen] <;> omega)) (by first | omega | (simp <;> omega)) ?_; intro g offg capg w4 hrow4 hk4 hg4; have hK4 : Keep og.toList wc w4 := Keep.trans (F := og.toList) (G := og.toList) (by repeat (first | exact Keep.refl _ _ | refine Keep.drewN ?_ _ | refine Keep.drew ?_ | refine Keep.alloc ?_ _)) hk4 (fun x hx => .inl hx); obtain ⟨oU, hup, -⟩ := Rd.upTo (HRDL.out w4 hK4) i (by omega); rw [flat_take] at hup; have Try.underlying22P := Lib.hid hup; have HROW4 := Lib.hid hrow4; have HK4 := Lib.hid hK4; have HG4 := Lib.hid hg4; clear hup hrow4 hK4 hk4 hg4))
                      have hM5 := MidS.mk' (w := w) HT2.out.keep HT2.out.newg HKC.out HK4.out HBX.out HBB.out HLTG.out (HRDL.out w4 HK4.out) HROW4.out HG4.out hrow5 hk5 hg5 hbl
                      obtain ⟨bx0, bx1, e1⟩ := hM5.cells (J := i) HXI.out
                      have HM5 := Lib.hid hM5
                      clear hrow5 hk5 hg5 hM5 cb0 cb1
                      have HM6 := Lib.hid (HM5.out.drewN 0)
                      clear HM6
                      have hq24 : decide (k < x2) = true := by simpa using hcase
                      go_quiet (fail)
                      have HM6 := Lib.hid (HM5.out.drewN nq)
                      clear HM5 bx0 bx1 e1
                      generalize w5.drewN nq = w6 at *
                      obtain ⟨bx0, bx1, e1⟩ := HM6.out.cells (J := i) HXI.out
                      go_wp2_with fail
                      have hb63 : i + 1 ≤ maxLen := by unfold maxLen; omega
                      have hb47 : (i + 1) * 16 ≤ 140737488355328 := by omega
                      have wr1 : IntKind.i64.wrap (x1 + k) = x1 + k := IntWalk.i64_in _ (by omega)
                      have wr2 : IntKind.i64.wrap (x2 - k) = x2 - k := IntWalk.i64_in _ (by omega)
                      go_region_held3 (fun w' => (w'.cell? ⟨B, 0, none⟩ = some (.int .i64 x1) ∧ w'.cell? ⟨B, 1, none⟩ = some (.int .i64 k)) ∧ w'.cell? ⟨b, off + i * 2 + 1, none⟩ = some (.int .i64 x2)) (go_keep)
                        ((refine step_append_rd _ (by rfl) _ _ 22 22 (by rfl) 36 36 i0 _ 2 16 Try.underlying22 Try.underlying22 HI.out hz0 hz1 hz2 rfl g5 off5 i cap5 _ (by rfl) (Row.keep HM6.out.rowr' (F := []) (by repeat (first | exact Keep.refl _ _ | refine Keep.drewN ?_ _ | refine Keep.drew ?_ | refine Keep.alloc ?_ _)) (by simp)) (.slice (some ⟨w6.heap.size, 0, none⟩) 1 1) (by rfl) 1 _ _ (Rd.keep0 (rd_lit1 w6 (x1 + k) (x2 - k) 36) (by repeat (first | exact Keep.refl _ _ | refine Keep.drewN ?_ _ | refine Keep.drew ?_ | refine Keep.alloc ?_ _))) (encE_one _) hb63 hb47 ?_; intro g6 off6 cap6 w7 hrow7 hk7 hg7; have hM7 := HM6.out.app (rest2 := left.take i ++ [(x1 + k, x2 - k)]) (by repeat (first | exact Keep.refl _ _ | refine Keep.drewN ?_ _ | refine Keep.drew ?_ | refine Keep.alloc ?_ _)) hk7 (by simpa [encE] using hrow7) hg7; obtain ⟨z0, z1, z2⟩ := hM7.cells (J := i) HXI.out))
                      have HM7 := Lib.hid hM7
                      clear wr1 wr2 hM7 hrow7 hk7 hg7
                      obtain ⟨oF, hF, -⟩ := Rd.fromAt HM7.out.rdl (i + 1) (by omega)
                      rw [flat_drop] at hF
                      have HF := Lib.hid hF
                      clear hF
                      go_wp2_with (at_builtin; refine wpList_append_rd _ rfl (.tmp 113) (.tmp 117) 22 22 rfl 36 36 i0 _ 2 16 Try.underlying22 Try.underlying22 HI.out hz0 hz1 hz2 rfl g6 off6 (i + 1) cap6 _ rfl HM7.out.rowr' _ rfl (left.length - (i + 1)) _ oF HF.out (encE_one _) (by unfold maxLen; omega) (by omega) ?_; intro g8 off8 cap8 w8 hrow8 hk8 hg8; obtain ⟨b80, b81⟩ := cells2 ((hk8.block B (Array.getElem?_eq_some_iff.1 HM7.out.box).1 (by have := HM7.out.bg; simp; omega)).trans HM7.out.box))
                      have hM8 := HM7.out.app (rest2 := left.set i (x1 + k, x2 - k)) (Keep.refl _ _) hk8 (by rw [HLIST.out]; simpa using hrow8) hg8
                      have HM8 := Lib.hid hM8
                      clear hM8 hrow8 hk8 hg8
                      go_roundw
                      case rel =>
                        refine ⟨m - 1, k - k, _, _, left.set i (x1 + k, x2 - k), got ++ [(x1, k)], some g, (by first | rfl | (congr 1; omega)), (by congr 1; omega), rfl, rfl, by omega, TakeS.of HM8.out ?_ (HT2.out.same.trans HTL2.out) HINV.out (by omega) HSUM.out HRL2.out ?_ ?_ ?_⟩
                        · rw [HLEN.out]; omega
                        · intro y hy
                          rcases List.mem_append.1 hy with hy | hy
                          · exact HT2.out.rg y hy
                          · simp at hy; subst hy; exact HXK.out
                        · rw [HLEN.out]; omega
                        · simp; omega
                      case measure => simp [intOf] <;> omega
                  · have hmin : min k x2 = x2 := by omega
                    have hlist : (left.eraseIdx i).flatMap encE = (left.take i).flatMap encE ++ (left.drop (i + 1)).flatMap encE := by rw [List.eraseIdx_eq_take_drop_succ, List.flatMap_append]
                    have hlen : (left.eraseIdx i).length = left.length - 1 := List.length_eraseIdx_of_lt hJl
                    have htl2 : takeL m k left got = takeL (m - 1) (k - x2) (left.eraseIdx i) (got ++ [(x1, x2)]) := by
                      rw [HTL.out, Int.min_comm, hmin, updI_erase HXI.out (by simp)]
                    have hinv : TInv s n (k - x2) (left.eraseIdx i) (got ++ [(x1, x2)]) := by
                      rw [← updI_erase (k := x2) HXI.out (by simp)]; exact HT2.out.inv.step HXI.out (by omega) (by simp)
                    have hrl2 : ∀ y ∈ left.eraseIdx i, right y = true := by
                      rw [← updI_erase (k := x2) HXI.out (by simp)]; exact updI_right HXI.out (by omega) HT2.out.rl
                    have hsum2 : k - x2 ≤ sumL (left.eraseIdx i) := by
                      have h1 := HT2.out.nle
                      have h2 := HT2.out.inv.sum
                      have h3 := hinv.sum
                      rw [sumL_append] at h3
                      simp [sumL] at h3
                      unfold sumL at *
                      omega
                    have HLIST := Lib.hid hlist
                    have HLEN := Lib.hid hlen
                    have HTL2 := Lib.hid htl2
                    have HINV := Lib.hid hinv
                    have HRL2 := Lib.hid hrl2
                    have HSUM := Lib.hid hsum2
                    have HXK := HXR
                    clear hlist hlen htl2 hinv hrl2 hsum2
                    go_cut [14] (fun s14 wx => CutP wz s14 (.int .i64 x1) (.int .i64 x2) wx)
                    case first =>
                      go_region
                      all_goals
                        go_wp2_with fail
                        go_meet
                        exact ⟨_, rfl, heap_alloc_new wz _, rfl, (by repeat (first | exact Keep.refl _ _ | refine Keep.drewN ?_ _ | refine Keep.drew ?_ | refine Keep.alloc ?_ _))⟩
                    case rest =>
                      obtain ⟨B, rfl, hbx, hBB, hkc⟩ := hcut
                      obtain ⟨cb0, cb1⟩ := cells2 hbx
                      have HROWG : Hid (RowE wc (.slice ag got.length cg) got og) := RowE.keep HROWG0.out hkc (by simp)
                      have HRDL : Hid (∀ w4, Keep og.toList wc w4 → RdE w4 (.slice (some ⟨b, off, none⟩) left.length cl) left (some b)) := fun w4 hk => HRDL0.out w4 ((hkc.mono (by simp)).trans hk (fun x hx => .inl hx))
                      have HBX := Lib.hid hbx
                      have HBB := Lib.hid hBB
                      have HKC := Lib.hid hkc
                      clear hbx hBB hkc HRDL0 HROWG0 eA0 eA1 g0
                      go_wp2_with (first | (at_builtin; refine wpList_append_rd _ rfl (.tmp 83) (.tmp 86) 22 22 rfl 36 36 i0 _ 2 16 Try.underlying22 Try.underlying22 HI.out hz0 hz1 hz2 rfl w4.heap.size 0 0 0 [] rfl (Row.made0 w4 _ _) _ rfl i _ oU (Rd.keep0 Try.underlying22P.out ((Keep.refl [] w4).alloc _)) (encE_one _) (by unfold maxLen; omega) (by omega) ?_; intro g5 off5 cap5 w5 hrow5 hk5 hg5; simp only [Nat.zero_add, List.nil_append] at hrow5) | (at_builtin; refine wpList_append_row _ rfl (.tmp 79) (.tmp 81) 22 22 rfl 36 i0 _ 2 16 Try.underlying22 HI.out hz0 hz1 hz2 rfl _ _ _ og rfl (Row.keep HROWG.out (F := []) (by repeat (first | exact Keep.refl _ _ | refine Keep.drewN ?_ _ | refine Keep.drew ?_ | refine Keep.alloc ?_ _)) (by simp)) _ rfl 1 _ (two_srcB Try.underlying22 _ _ (by first | rfl | simp) _ _ rfl rfl _) (by omega) (by first | (unfold maxLen; omega) | (simp [maxLen] <;> omega)) (by first | omega | (simp <;> omega)) ?_; intro g offg capg w4 hrow4 hk4 hg4; have hK4 : Keep og.toList wc w4 := Keep.trans (F := og.toList) (G := og.toList) (by repeat (first | exact Keep.refl _ _ | refine Keep.drewN ?_ _ | refine Keep.drew ?_ | refine Keep.alloc ?_ _)) hk4 (fun x hx => .inl hx); obtain ⟨oU, hup, -⟩ := Rd.upTo (HRDL.out w4 hK4) i (by omega); rw [flat_take] at hup; have Try.underlying22P := Lib.hid hup; have HROW4 := Lib.hid hrow4; have HK4 := Lib.hid hK4; have HG4 := Lib.hid hg4; clear hup hrow4 hK4 hk4 hg4))
                      have hM5 := MidS.mk' (w := w) HT2.out.keep HT2.out.newg HKC.out HK4.out HBX.out HBB.out HLTG.out (HRDL.out w4 HK4.out) HROW4.out HG4.out hrow5 hk5 hg5 hbl
                      obtain ⟨bx0, bx1, e1⟩ := hM5.cells (J := i) HXI.out
                      have HM5 := Lib.hid hM5
                      clear hrow5 hk5 hg5 hM5 cb0 cb1
                      have HM6 := Lib.hid (HM5.out.drewN 0)
                      clear HM6
                      have hq24 : decide (x2 < x2) = false := by simp
                      go_quiet (fail)
                      have HM6 := Lib.hid (HM5.out.drewN nq)
                      clear HM5 bx0 bx1 e1
                      generalize w5.drewN nq = w6 at *
                      obtain ⟨bx0, bx1, e1⟩ := HM6.out.cells (J := i) HXI.out
                      obtain ⟨oF, hF, -⟩ := Rd.fromAt HM6.out.rdl (i + 1) (by omega)
                      rw [flat_drop] at hF
                      have HF := Lib.hid hF
                      clear hF
                      go_wp2_with (at_builtin; refine wpList_append_rd _ rfl (.tmp 113) (.tmp 117) 22 22 rfl 36 36 i0 _ 2 16 Try.underlying22 Try.underlying22 HI.out hz0 hz1 hz2 rfl g5 off5 i cap5 _ rfl HM6.out.rowr' _ rfl (left.length - (i + 1)) _ oF HF.out (encE_one _) (by unfold maxLen; omega) (by omega) ?_; intro g8 off8 cap8 w8 hrow8 hk8 hg8; obtain ⟨b80, b81⟩ := cells2 ((hk8.block B (Array.getElem?_eq_some_iff.1 HM6.out.box).1 (by have := HM6.out.bg; simp; omega)).trans HM6.out.box))
                      have hM8 := HM6.out.app (rest2 := left.eraseIdx i) (Keep.refl _ _) hk8 (by rw [HLIST.out]; simpa using hrow8) hg8
                      have HM8 := Lib.hid hM8
                      clear hM8 hrow8 hk8 hg8
                      go_roundw
                      case rel =>
                        refine ⟨m - 1, k - x2, _, _, left.eraseIdx i, got ++ [(x1, x2)], some g, (by first | rfl | (congr 1; omega)), (by congr 1; omega), rfl, rfl, by omega, TakeS.of HM8.out ?_ (HT2.out.same.trans HTL2.out) HINV.out (by omega) HSUM.out HRL2.out ?_ ?_ ?_⟩
                        · rw [HLEN.out]; omega
                        · intro y hy
                          rcases List.mem_append.1 hy with hy | hy
                          · exact HT2.out.rg y hy
                          · simp at hy; subst hy; exact HXK.out
                        · rw [HLEN.out]; omega
                        · simp; omega
                      case measure => simp [intOf] <;> omega
                · have hno2 : ∀ t x, t < i + 1 → left[t]? = some x → x.2 < k := by
                    intro t x ht hx
                    by_cases e : t = i
                    · subst e; rw [HXI.out] at hx; cases hx; simp; omega
                    · exact HNO.out t x (by omega) hx
                  have HNO2 := Lib.hid hno2
                  clear hno2 HCH
                  by_cases hgt : y2 < x2
                  · have hmx2 := HMX.out.more HXI.out HXJ.out hgt
                    have HMX2 := Lib.hid hmx2
                    clear hmx2
                    go_wp2_with fail
                    go_quiet (fail)
                    go_wp2_with fail
                    go_roundw
                    case rel => exact ⟨i + 1, i, by omega, by go_num, rfl, by omega, HNO2.out, HMX2.out, _, rfl⟩
                    case measure => simp [intOf]; omega
                  · have hmx2 := HMX.out.same HXI.out HXJ.out hgt
                    have HMX2 := Lib.hid hmx2
                    clear hmx2
                    go_wp2_with fail
                    go_quiet (fail)
                    go_wp2_with fail
                    go_roundw
                    case rel => exact ⟨i + 1, j, by omega, by go_num, rfl, by omega, HNO2.out, HMX2.out, _, rfl⟩
                    case measure => simp [intOf]; omega
              · obtain rfl : i = left.length := by omega
                obtain ⟨hjl, hmj⟩ := HMX.out.done HLNE.out
                have hci : chooseI left k = j := by rw [chooseI_none (fun t x hx => HNO.out t x (List.getElem?_eq_some_iff.1 hx).1 hx), hmj]
                obtain ⟨ob, hrd, -⟩ := HT.out.hasl
                obtain ⟨b, off, rfl, rfl, g0, g1⟩ := hrd.at hjl
                have hxi : left[j]? = some left[j] := List.getElem?_eq_getElem hjl
                have HXI := Lib.hid hxi
                have HCI := Lib.hid hci
                clear hrd hxi hci hmj HNO HMX
                generalize left[j] = x at *
                obtain ⟨x1, x2⟩ := x
                simp only at g0 g1
                have q0 : (0 : Int) ≤ (j : Int) := by omega
                go_upto_region 21 with fail
                have HT2 := Lib.hid (TakeS.drewN HT.out q)
                have g0' : (wr.drewN q).cell? ⟨b, off + j * 2, none⟩ = some (.int .i64 x1) := g0
                have g1' : (wr.drewN q).cell? ⟨b, off + j * 2 + 1, none⟩ = some (.int .i64 x2) := g1
                clear HT g0 g1
                generalize wr.drewN q = wz at *
                have g0 := g0'
                have g1 := g1'
                clear g0' g1'
                have hxr := HT2.out.rl _ (List.mem_of_getElem? HXI.out)
                have hxb := (right_iff _).1 hxr
                simp only at hxb
                have hJl : j < left.length := (List.getElem?_eq_some_iff.1 HXI.out).1
                have htl : takeL m k left got = takeL (m - 1) (k - min x2 k) (updI left j (min x2 k)) (got ++ [(x1, min x2 k)]) := by
                  obtain ⟨m', rfl⟩ : ∃ m', m = m' + 1 := ⟨m - 1, by omega⟩
                  conv => lhs; unfold takeL
                  rw [if_neg (by omega)]
                  simp only [HCI.out, HXI.out, Nat.add_sub_cancel]
                have HTL := Lib.hid htl
                have HXR := Lib.hid hxr
                obtain ⟨ob2, hrd2, hlt2⟩ := HT2.out.hasl
                obtain rfl : ob2 = some b := by
                  obtain ⟨b9, off9, h9, h10, _⟩ := RdE.at hrd2 hJl
                  cases h9
                  exact h10
                have hbl : b < wz.heap.size := hlt2 b rfl
                have hnbg : b ∉ og.toList := by
                  intro hb
                  cases og with
                  | none => simp at hb
                  | some b' => simp at hb; subst hb; exact HT2.out.apart _ _ hrd2 rfl rfl
                have hcl : left.length ≤ cl ∧ cl ≤ maxLen := by
                  obtain ⟨_, _, _, hv, h1, h2, _⟩ := hrd2
                  cases hv
                  exact ⟨h1, h2⟩
                have HCLM := Lib.hid hcl.2
                have hcl1 := hcl.1
                clear hcl
                have HRDL0 : Hid (∀ w4, Keep og.toList wz w4 → RdE w4 (.slice (some ⟨b, off, none⟩) left.length cl) left (some b)) := fun w4 hk => hrd2.keep hk (by rintro b' ⟨⟩; exact hnbg)
                have HROWG0 : Hid (RowE wz (.slice ag got.length cg) got og) := HT2.out.rowg
                have HLTG : Hid (∀ b, og = some b → b < wz.heap.size) := Row.lt HT2.out.rowg
                have hsk : ∀ w, (sizeOf 36).run Try.prog w = .ok 2 w := Try.sizeOf36
                have s2 : ∀ W, (Instr.slice 22 (.slice (some ⟨b, off, none⟩) left.length cl) none (some (.int .i64 (j : Int))) none).run Try.prog W = .ok (.slice (some ⟨b, off, none⟩) j cl) W := fun W => run_sliceHi W Try.underlying22 hsk b off left.length cl j (by omega)
                have s3 : ∀ W, (Instr.slice 22 (.slice (some ⟨b, off, none⟩) left.length cl) (some (.int .i64 ((j : Int) + 1))) none none).run Try.prog W = .ok (.slice (some ⟨b, sliceOff off cl (j + 1) 2, none⟩) (left.length - (j + 1)) (cl - (j + 1))) W := fun W => by
                  have := run_slice_lo W Try.underlying22 hsk b off left.length cl (j + 1) (by omega)
                  simpa using this
                have eA0 : ∀ ob, (wz.alloc ob).cell? ⟨b, off + j * 2, none⟩ = some (.int .i64 x1) := fun ob => ((Keep.refl [] wz).alloc ob).cellOf g0
                have eA1 : ∀ ob, (wz.alloc ob).cell? ⟨b, off + j * 2 + 1, none⟩ = some (.int .i64 x2) := fun ob => ((Keep.refl [] wz).alloc ob).cellOf g1
                have hglen : (got.length : Int) ≤ 16384 := by omega
                have p1 : (j : Int) < (left.length : Int) := by omega
                have p2 : (0 : Int) ≤ (j : Int) := by omega
                clear htl hxr hrd2 hlt2 hnbg hsk
                by_cases hcase : k < x2
                · have hmin : min k x2 = k := by omega
                  have hlist : (left.set j (x1 + k, x2 - k)).flatMap encE = (left.take j ++ [(x1 + k, x2 - k)]).flatMap encE ++ (left.drop (j + 1)).flatMap encE := by
                    rw [List.set_eq_take_append_cons_drop, if_pos hJl, ← List.flatMap_append]; simp
                  have hlen : (left.set j (x1 + k, x2 - k)).length = left.length := by simp
                  have htl2 : takeL m k left got = takeL (m - 1) (k - k) (left.set j (x1 + k, x2 - k)) (got ++ [(x1, k)]) := by
                    rw [HTL.out, Int.min_comm, hmin, updI_set HXI.out hcase]
                  have hinv : TInv s n (k - k) (left.set j (x1 + k, x2 - k)) (got ++ [(x1, k)]) := by
                    rw [← updI_set HXI.out hcase]; exact HT2.out.inv.step HXI.out (by omega) (by simp; omega)
                  have hrl2 : ∀ y ∈ left.set j (x1 + k, x2 - k), right y = true := by
                    rw [← updI_set HXI.out hcase]; exact updI_right HXI.out (by omega) HT2.out.rl
                  have hsum2 : k - k ≤ sumL (left.set j (x1 + k, x2 - k)) := by
                    rw [Int.sub_self]; exact (sumL_pos (fun y hy => ((right_iff y).1 (hrl2 y hy)).2.2.1)).1
                  have hxk : right (x1, k) = true := by rw [right_iff]; simp; omega
                  have HLIST := Lib.hid hlist
                  have HLEN := Lib.hid hlen
                  have HTL2 := Lib.hid htl2
                  have HINV := Lib.hid hinv
                  have HRL2 := Lib.hid hrl2
                  have HSUM := Lib.hid hsum2
                  have HXK := Lib.hid hxk
                  clear hlist hlen htl2 hinv hrl2 hsum2 hxk
                  go_cut [14] (fun s14 wx => CutP wz s14 (.int .i64 x1) (.int .i64 k) wx)
                  case first =>
                    go_region
                    all_goals
                      go_wp2_with fail
                      go_meet
                      exact ⟨_, rfl, heap_alloc_new wz _, rfl, (by repeat (first | exact Keep.refl _ _ | refine Keep.drewN ?_ _ | refine Keep.drew ?_ | refine Keep.alloc ?_ _))⟩
                  case rest =>
                    obtain ⟨B, rfl, hbx, hBB, hkc⟩ := hcut
                    obtain ⟨cb0, cb1⟩ := cells2 hbx
                    have HROWG : Hid (RowE wc (.slice ag got.length cg) got og) := RowE.keep HROWG0.out hkc (by simp)
                    have HRDL : Hid (∀ w4, Keep og.toList wc w4 → RdE w4 (.slice (some ⟨b, off, none⟩) left.length cl) left (some b)) := fun w4 hk => HRDL0.out w4 ((hkc.mono (by simp)).trans hk (fun x hx => .inl hx))
                    have HBX := Lib.hid hbx
                    have HBB := Lib.hid hBB
                    have HKC := Lib.hid hkc
                    clear hbx hBB hkc HRDL0 HROWG0 eA0 eA1 g0
                    go_wp2_with (first | (at_builtin; refine wpList_append_rd _ rfl (.tmp 83) (.tmp 86) 22 22 rfl 36 36 i0 _ 2 16 Try.underlying22 Try.underlying22 HI.out hz0 hz1 hz2 rfl w4.heap.size 0 0 0 [] rfl (Row.made0 w4 _ _) _ rfl j _ oU (Rd.keep0 Try.underlying22P.out ((Keep.refl [] w4).alloc _)) (encE_one _) (by unfold maxLen; omega) (by omega) ?_; intro g5 off5 cap5 w5 hrow5 hk5 hg5; simp only [Nat.zero_add, List.nil_append] at hrow5) | (at_builtin; refine wpList_append_row _ rfl (.tmp 79) (.tmp 81) 22 22 rfl 36 i0 _ 2 16 Try.underlying22 HI.out hz0 hz1 hz2 rfl _ _ _ og rfl (Row.keep HROWG.out (F := []) (by repeat (first | exact Keep.refl _ _ | refine Keep.drewN ?_ _ | refine Keep.drew ?_ | refine Keep.alloc ?_ _)) (by simp)) _ rfl 1 _ (two_srcB Try.underlying22 _ _ (by first | rfl | simp) _ _ rfl rfl _) (by omega) (by first | (unfold maxLen; omega) | (simp [maxLen] <;> omega)) (by first | omega | (simp <;> omega)) ?_; intro g offg capg w4 hrow4 hk4 hg4; have hK4 : Keep og.toList wc w4 := Keep.trans (F := og.toList) (G := og.toList) (by repeat (first | exact Keep.refl _ _ | refine Keep.drewN ?_ _ | refine Keep.drew ?_ | refine Keep.alloc ?_ _)) hk4 (fun x hx => .inl hx); obtain ⟨oU, hup, -⟩ := Rd.upTo (HRDL.out w4 hK4) j (by omega); rw [flat_take] at hup; have Try.underlying22P := Lib.hid hup; have HROW4 := Lib.hid hrow4; have HK4 := Lib.hid hK4; have HG4 := Lib.hid hg4; clear hup hrow4 hK4 hk4 hg4))
                    have hM5 := MidS.mk' (w := w) HT2.out.keep HT2.out.newg HKC.out HK4.out HBX.out HBB.out HLTG.out (HRDL.out w4 HK4.out) HROW4.out HG4.out hrow5 hk5 hg5 hbl
                    obtain ⟨bx0, bx1, e1⟩ := hM5.cells (J := j) HXI.out
                    have HM5 := Lib.hid hM5
                    clear hrow5 hk5 hg5 hM5 cb0 cb1
                    have HM6 := Lib.hid (HM5.out.drewN 0)
                    clear HM6
                    have hq24 : decide (k < x2) = true := by simpa using hcase
                    go_quiet (fail)
                    have HM6 := Lib.hid (HM5.out.drewN nq)
                    clear HM5 bx0 bx1 e1
                    generalize w5.drewN nq = w6 at *
                    obtain ⟨bx0, bx1, e1⟩ := HM6.out.cells (J := j) HXI.out
                    go_wp2_with fail
                    have hb63 : j + 1 ≤ maxLen := by unfold maxLen; omega
                    have hb47 : (j + 1) * 16 ≤ 140737488355328 := by omega
                    have wr1 : IntKind.i64.wrap (x1 + k) = x1 + k := IntWalk.i64_in _ (by omega)
                    have wr2 : IntKind.i64.wrap (x2 - k) = x2 - k := IntWalk.i64_in _ (by omega)
                    go_region_held3 (fun w' => (w'.cell? ⟨B, 0, none⟩ = some (.int .i64 x1) ∧ w'.cell? ⟨B, 1, none⟩ = some (.int .i64 k)) ∧ w'.cell? ⟨b, off + j * 2 + 1, none⟩ = some (.int .i64 x2)) (go_keep)
                      ((refine step_append_rd _ (by rfl) _ _ 22 22 (by rfl) 36 36 i0 _ 2 16 Try.underlying22 Try.underlying22 HI.out hz0 hz1 hz2 rfl g5 off5 j cap5 _ (by rfl) (Row.keep HM6.out.rowr' (F := []) (by repeat (first | exact Keep.refl _ _ | refine Keep.drewN ?_ _ | refine Keep.drew ?_ | refine Keep.alloc ?_ _)) (by simp)) (.slice (some ⟨w6.heap.size, 0, none⟩) 1 1) (by rfl) 1 _ _ (Rd.keep0 (rd_lit1 w6 (x1 + k) (x2 - k) 36) (by repeat (first | exact Keep.refl _ _ | refine Keep.drewN ?_ _ | refine Keep.drew ?_ | refine Keep.alloc ?_ _))) (encE_one _) hb63 hb47 ?_; intro g6 off6 cap6 w7 hrow7 hk7 hg7; have hM7 := HM6.out.app (rest2 := left.take j ++ [(x1 + k, x2 - k)]) (by repeat (first | exact Keep.refl _ _ | refine Keep.drewN ?_ _ | refine Keep.drew ?_ | refine Keep.alloc ?_ _)) hk7 (by simpa [encE] using hrow7) hg7; obtain ⟨z0, z1, z2⟩ := hM7.cells (J := j) HXI.out))
                    have HM7 := Lib.hid hM7
                    clear wr1 wr2 hM7 hrow7 hk7 hg7
                    obtain ⟨oF, hF, -⟩ := Rd.fromAt HM7.out.rdl (j + 1) (by omega)
                    rw [flat_drop] at hF
                    have HF := Lib.hid hF
                    clear hF
                    go_wp2_with (at_builtin; refine wpList_append_rd _ rfl (.tmp 113) (.tmp 117) 22 22 rfl 36 36 i0 _ 2 16 Try.underlying22 Try.underlying22 HI.out hz0 hz1 hz2 rfl g6 off6 (j + 1) cap6 _ rfl HM7.out.rowr' _ rfl (left.length - (j + 1)) _ oF HF.out (encE_one _) (by unfold maxLen; omega) (by omega) ?_; intro g8 off8 cap8 w8 hrow8 hk8 hg8; obtain ⟨b80, b81⟩ := cells2 ((hk8.block B (Array.getElem?_eq_some_iff.1 HM7.out.box).1 (by have := HM7.out.bg; simp; omega)).trans HM7.out.box))
                    have hM8 := HM7.out.app (rest2 := left.set j (x1 + k, x2 - k)) (Keep.refl _ _) hk8 (by rw [HLIST.out]; simpa using hrow8) hg8
                    have HM8 := Lib.hid hM8
                    clear hM8 hrow8 hk8 hg8
                    go_roundw
                    case rel =>
                      refine ⟨m - 1, k - k, _, _, left.set j (x1 + k, x2 - k), got ++ [(x1, k)], some g, (by first | rfl | (congr 1; omega)), (by congr 1; omega), rfl, rfl, by omega, TakeS.of HM8.out ?_ (HT2.out.same.trans HTL2.out) HINV.out (by omega) HSUM.out HRL2.out ?_ ?_ ?_⟩
                      · rw [HLEN.out]; omega
                      · intro y hy
                        rcases List.mem_append.1 hy with hy | hy
                        · exact HT2.out.rg y hy
                        · simp at hy; subst hy; exact HXK.out
                      · rw [HLEN.out]; omega
                      · simp; omega
                    case measure => simp [intOf] <;> omega
                · have hmin : min k x2 = x2 := by omega
                  have hlist : (left.eraseIdx j).flatMap encE = (left.take j).flatMap encE ++ (left.drop (j + 1)).flatMap encE := by rw [List.eraseIdx_eq_take_drop_succ, List.flatMap_append]
                  have hlen : (left.eraseIdx j).length = left.length - 1 := List.length_eraseIdx_of_lt hJl
                  have htl2 : takeL m k left got = takeL (m - 1) (k - x2) (left.eraseIdx j) (got ++ [(x1, x2)]) := by
                    rw [HTL.out, Int.min_comm, hmin, updI_erase HXI.out (by simp)]
                  have hinv : TInv s n (k - x2) (left.eraseIdx j) (got ++ [(x1, x2)]) := by
                    rw [← updI_erase (k := x2) HXI.out (by simp)]; exact HT2.out.inv.step HXI.out (by omega) (by simp)
                  have hrl2 : ∀ y ∈ left.eraseIdx j, right y = true := by
                    rw [← updI_erase (k := x2) HXI.out (by simp)]; exact updI_right HXI.out (by omega) HT2.out.rl
                  have hsum2 : k - x2 ≤ sumL (left.eraseIdx j) := by
                    have h1 := HT2.out.nle
                    have h2 := HT2.out.inv.sum
                    have h3 := hinv.sum
                    rw [sumL_append] at h3
                    simp [sumL] at h3
                    unfold sumL at *
                    omega
                  have HLIST := Lib.hid hlist
                  have HLEN := Lib.hid hlen
                  have HTL2 := Lib.hid htl2
                  have HINV := Lib.hid hinv
                  have HRL2 := Lib.hid hrl2
                  have HSUM := Lib.hid hsum2
                  have HXK := HXR
                  clear hlist hlen htl2 hinv hrl2 hsum2
                  go_cut [14] (fun s14 wx => CutP wz s14 (.int .i64 x1) (.int .i64 x2) wx)
                  case first =>
                    go_region
                    all_goals
                      go_wp2_with fail
                      go_meet
                      exact ⟨_, rfl, heap_alloc_new wz _, rfl, (by repeat (first | exact Keep.refl _ _ | refine Keep.drewN ?_ _ | refine Keep.drew ?_ | refine Keep.alloc ?_ _))⟩
                  case rest =>
                    obtain ⟨B, rfl, hbx, hBB, hkc⟩ := hcut
                    obtain ⟨cb0, cb1⟩ := cells2 hbx
                    have HROWG : Hid (RowE wc (.slice ag got.length cg) got og) := RowE.keep HROWG0.out hkc (by simp)
                    have HRDL : Hid (∀ w4, Keep og.toList wc w4 → RdE w4 (.slice (some ⟨b, off, none⟩) left.length cl) left (some b)) := fun w4 hk => HRDL0.out w4 ((hkc.mono (by simp)).trans hk (fun x hx => .inl hx))
                    have HBX := Lib.hid hbx
                    have HBB := Lib.hid hBB
                    have HKC := Lib.hid hkc
                    clear hbx hBB hkc HRDL0 HROWG0 eA0 eA1 g0
                    go_wp2_with (first | (at_builtin; refine wpList_append_rd _ rfl (.tmp 83) (.tmp 86) 22 22 rfl 36 36 i0 _ 2 16 Try.underlying22 Try.underlying22 HI.out hz0 hz1 hz2 rfl w4.heap.size 0 0 0 [] rfl (Row.made0 w4 _ _) _ rfl j _ oU (Rd.keep0 Try.underlying22P.out ((Keep.refl [] w4).alloc _)) (encE_one _) (by unfold maxLen; omega) (by omega) ?_; intro g5 off5 cap5 w5 hrow5 hk5 hg5; simp only [Nat.zero_add, List.nil_append] at hrow5) | (at_builtin; refine wpList_append_row _ rfl (.tmp 79) (.tmp 81) 22 22 rfl 36 i0 _ 2 16 Try.underlying22 HI.out hz0 hz1 hz2 rfl _ _ _ og rfl (Row.keep HROWG.out (F := []) (by repeat (first | exact Keep.refl _ _ | refine Keep.drewN ?_ _ | refine Keep.drew ?_ | refine Keep.alloc ?_ _)) (by simp)) _ rfl 1 _ (two_srcB Try.underlying22 _ _ (by first | rfl | simp) _ _ rfl rfl _) (by omega) (by first | (unfold maxLen; omega) | (simp [maxLen] <;> omega)) (by first | omega | (simp <;> omega)) ?_; intro g offg capg w4 hrow4 hk4 hg4; have hK4 : Keep og.toList wc w4 := Keep.trans (F := og.toList) (G := og.toList) (by repeat (first | exact Keep.refl _ _ | refine Keep.drewN ?_ _ | refine Keep.drew ?_ | refine Keep.alloc ?_ _)) hk4 (fun x hx => .inl hx); obtain ⟨oU, hup, -⟩ := Rd.upTo (HRDL.out w4 hK4) j (by omega); rw [flat_take] at hup; have Try.underlying22P := Lib.hid hup; have HROW4 := Lib.hid hrow4; have HK4 := Lib.hid hK4; have HG4 := Lib.hid hg4; clear hup hrow4 hK4 hk4 hg4))
                    have hM5 := MidS.mk' (w := w) HT2.out.keep HT2.out.newg HKC.out HK4.out HBX.out HBB.out HLTG.out (HRDL.out w4 HK4.out) HROW4.out HG4.out hrow5 hk5 hg5 hbl
                    obtain ⟨bx0, bx1, e1⟩ := hM5.cells (J := j) HXI.out
                    have HM5 := Lib.hid hM5
                    clear hrow5 hk5 hg5 hM5 cb0 cb1
                    have HM6 := Lib.hid (HM5.out.drewN 0)
                    clear HM6
                    have hq24 : decide (x2 < x2) = false := by simp
                    go_quiet (fail)
                    have HM6 := Lib.hid (HM5.out.drewN nq)
                    clear HM5 bx0 bx1 e1
                    generalize w5.drewN nq = w6 at *
                    obtain ⟨bx0, bx1, e1⟩ := HM6.out.cells (J := j) HXI.out
                    obtain ⟨oF, hF, -⟩ := Rd.fromAt HM6.out.rdl (j + 1) (by omega)
                    rw [flat_drop] at hF
                    have HF := Lib.hid hF
                    clear hF
                    go_wp2_with (at_builtin; refine wpList_append_rd _ rfl (.tmp 113) (.tmp 117) 22 22 rfl 36 36 i0 _ 2 16 Try.underlying22 Try.underlying22 HI.out hz0 hz1 hz2 rfl g5 off5 j cap5 _ rfl HM6.out.rowr' _ rfl (left.length - (j + 1)) _ oF HF.out (encE_one _) (by unfold maxLen; omega) (by omega) ?_; intro g8 off8 cap8 w8 hrow8 hk8 hg8; obtain ⟨b80, b81⟩ := cells2 ((hk8.block B (Array.getElem?_eq_some_iff.1 HM6.out.box).1 (by have := HM6.out.bg; simp; omega)).trans HM6.out.box))
                    have hM8 := HM6.out.app (rest2 := left.eraseIdx j) (Keep.refl _ _) hk8 (by rw [HLIST.out]; simpa using hrow8) hg8
                    have HM8 := Lib.hid hM8
                    clear hM8 hrow8 hk8 hg8
                    go_roundw
                    case rel =>
                      refine ⟨m - 1, k - x2, _, _, left.eraseIdx j, got ++ [(x1, x2)], some g, (by first | rfl | (congr 1; omega)), (by congr 1; omega), rfl, rfl, by omega, TakeS.of HM8.out ?_ (HT2.out.same.trans HTL2.out) HINV.out (by omega) HSUM.out HRL2.out ?_ ?_ ?_⟩
                      · rw [HLEN.out]; omega
                      · intro y hy
                        rcases List.mem_append.1 hy with hy | hy
                        · exact HT2.out.rg y hy
                        · simp at hy; subst hy; exact HXK.out
                      · rw [HLEN.out]; omega
                      · simp; omega
                    case measure => simp [intOf] <;> omega
        · have hkz0 : k = 0 := by omega
          subst hkz0
          have hsame : takeL m0 n s [] = some (got, left) := by rw [HT.out.same]; unfold takeL; rw [if_pos (Int.le_refl _)]
          have hjg := r_join (RowE.has HT.out.rowg) (by omega)
          have HSAME := Lib.hid hsame
          have hdj : Disj got := (List.pairwise_append.1 HT.out.inv.disj).1
          have HDJ := Lib.hid hdj
          clear hsame hdj
          go_wp2_with fail
          refine hjg.mono ?_
          rintro e w3 ⟨v3, got2, err3, rfl, hres3, hhas3, hk3⟩
          have hres4 : JoinRes got got2 0 := by
            rcases hres3 with ⟨_, _, x, hx, hn⟩ | ⟨_, _, _, hn⟩ | ⟨h0, h1, h2⟩
            · rw [HT.out.rg x hx] at hn; cases hn
            · exact absurd HDJ.out hn
            · exact .inr (.inr ⟨rfl, h1, h2⟩)
          have HRES4 := Lib.hid hres4
          have HH3 := Lib.hid hhas3
          have HK3 := Lib.hid hk3
          clear hres3 hres4 hhas3 hk3 hjg
          go_wp2_with fail
          go_ret3
          exact ⟨v3, _, got2, left, 0, rfl, .inr ⟨⟨hn2, hm2⟩, s, 0, HRES.out, .inr (.inr ⟨rfl, HLE.out, got, by rw [Int.toNat_natCast]; exact HSAME.out, HT.out.rg, HRES4.out⟩)⟩, HH3.out, HT.out.hasl.keep HK3.out, HT.out.keep.trans HK3.out (by simp)⟩
  · have hneb : (err != 0) = true := by simp [hne]
    have HRES := Lib.hid hres
    have HNE := Lib.hid hne
    have HK1 := Lib.hid hk1
    clear hres hk1 hne hs1
    go_wp2_with fail
    go_ret3
    exact ⟨_, _, [], [], err, rfl, .inr ⟨⟨hn2, hm2⟩, s, err, HRES.out, .inl ⟨HNE.out, rfl, rfl, rfl⟩⟩, HNIL.out _, HNIL.out _, HK1.out⟩
end Go.Proofs.Ytlfhnbdeadiedaa
