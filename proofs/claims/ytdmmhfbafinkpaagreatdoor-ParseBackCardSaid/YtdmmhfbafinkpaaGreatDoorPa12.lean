import Derived.Test.YtdmmhfbafinkpaaGreatDoorPa11
/- Parse: list. Printed by gen-pa12.py. -/
namespace Go.Proofs.YtdmmhfbafinkpaaGreatDoor
open Go.RowKit Go.Emb

theorem flat_at : ∀ (es : List (List Value)) (m : Nat), (∀ e ∈ es, e.length = m) → ∀ (i : Nat) (hi : i < es.length) (j : Nat), j < m → es.flatten[i * m + j]? = es[i][j]?
  | [], _, _, i, hi, _, _ => by simp at hi
  | e :: es, m, h, i, hi, j, hj => by
    have he := h e (by simp)
    cases i with
    | zero => simp [List.getElem?_append_left (show j < e.length by omega)]
    | succ i =>
      have := flat_at es m (fun x hx => h x (by simp [hx])) i (by simpa using hi) j hj
      rw [List.flatten_cons, List.getElem?_append_right (by rw [he, Nat.succ_mul]; omega)]
      simp only [List.getElem_cons_succ]
      rw [← this, he]
      congr 1
      rw [Nat.succ_mul]
      omega
/-- another place -/
theorem NdR.reat {S : Nat → Prop} {w : World} {kind num a : Int} {name : List UInt8} {v1 v2 v3 : Value} {n : Nd} (h : NdR S w false [.int .i64 kind, .int .i64 num, .string ⟨name.toArray⟩, .int .i64 a, v1, v2, v3] n) (b : Int) : NdR S w false [.int .i64 kind, .int .i64 num, .string ⟨name.toArray⟩, .int .i64 b, v1, v2, v3] n := by
  obtain ⟨k', n', a', nm', x, y, z, va, vb, vc, e, rfl, h1, h2, h3⟩ := h.un7
  simp at e
  obtain ⟨rfl, rfl, rfl, rfl, rfl, rfl, rfl⟩ := e
  exact NdR.mk7 h1 h2 h3
/-- an element of a slice of nodes -/
theorem NsR.at7 {S : Nat → Prop} {w : World} {a : Option Addr} {n c : Nat} {l : List Nd} (h : NsR S w false (.slice a n c) l) {i : Nat} (hi : i < l.length) :
    ∃ b off cs, a = some ⟨b, off, none⟩ ∧ S b ∧ NdR S w false cs l[i] ∧ ∀ j, j < 7 → w.cell? ⟨b, off + i * 7 + j, none⟩ = cs[j]? := by
  obtain ⟨es, o, ⟨-, a', c', e, h1, h2, h3⟩, hs, hl, ht⟩ := h
  cases e
  rcases h3 with ⟨h3, _⟩ | ⟨b, off, rfl, ho, h3⟩
  · rw [h3] at hi; simp at hi
  · have h7 : ∀ e ∈ es, e.length = 7 := fun e he => by
      obtain ⟨k, hk, rfl⟩ := List.mem_iff_getElem.1 he
      exact (ht k hk (by omega)).len
    refine ⟨b, off, es[i], rfl, hs b ho, ht i (by omega) hi, fun j hj => ?_⟩
    rw [Nat.add_assoc]
    have := flat_at es 7 h7 i (by omega) j hj
    rw [← this]
    exact h3 _ (by show i * 7 + j < l.length * 7; omega)
theorem consL_snoc (l : List Nd) (k : Nat) (hk : k < l.length) (t : Nd) : consL (l.drop k) t = .mk 6 0 [] [l[k], consL (l.drop (k + 1)) t] [] [] := by
  rw [List.drop_eq_getElem_cons hk]; rfl
set_option maxRecDepth 100000 in
set_option maxHeartbeats 4000000 in
theorem w_list {lo pb : Nat} {w : World} {s : St} {d : Nat} {at_ : Int} (ih : AllC lo pb (32 * s.toks.length + 12)) (h : PS lo w pb s) (hlo : lo ≤ w.heap.size) (hd : d + s.toks.length ≤ 1000000) :
    Calls Tryz.prog 144 #[.pointer (some ⟨pb, 0, none⟩), .int .i64 at_, .int .i64 d] w (NodeP lo w pb (fun n => listP n d) s) := by
  have hplo := h.plo
  have hk1 := (Keep.refl [] w).alloc zN
  have hb1 := heap_alloc_new w zN
  have hh := p_has (h.keep0 hk1) (Nat.le_trans hlo hk1.size) sShutB
  have hs1 := fun (W : World) (s1 : St) (hW : PS lo W pb s1) (hl : lo ≤ W.heap.size) (hle : s1.toks.length ≤ s.toks.length) => ih.someL (d := d) hW hl (by omega) (by omega)
  have he1 := fun (W : World) (s1 : St) (hW : PS lo W pb s1) (hl : lo ≤ W.heap.size) (hle : s1.toks.length ≤ s.toks.length) => ih.expr (d := d) hW hl (by omega) (by omega)
  have HH := Lib.hid hh
  have HS := Lib.hid hs1
  have HE := Lib.hid he1
  have HB1 := Lib.hid hb1
  have HK1 := Lib.hid hk1
  have HLO := Lib.hid hlo
  have HPLO := Lib.hid hplo
  have HTL := Lib.hid (show s.toks.length ≤ 1000000 by omega)
  obtain ⟨B, hB⟩ : ∃ B, B = w.heap.size := ⟨_, rfl⟩
  have HBB := Lib.hid hB
  clear ih h hlo hd hplo hk1 hb1 hh hs1 he1
  go_enter Tryz.func144, Tryz.ntmps144
  go_wp2_with fail
  refine HH.out.mono ?_
  rintro e w2 ⟨rfl, hps2, hk2⟩
  rw [← hB]
  rw [← hB] at HB1
  have hBp : B ≠ pb := by have := HPLO.out; have := HLO.out; omega
  have HBP := Lib.hid hBp
  have hb2 := blkK HB1.out hk2 (by simp; exact hBp)
  have hkw2 := (HK1.out.mono (G := [pb]) (by simp)).trans hk2 (by simp)
  have hs2 := hk2.size
  rw [size_alloc, ← hB] at hs2
  have HB2 := Lib.hid hb2
  have HPS2 := Lib.hid hps2
  have HKW2 := Lib.hid hkw2
  have HS2 := Lib.hid hs2
  have HLE2 := Lib.hid (has_len sShutB s)
  clear hb2 hps2 hkw2 hs2 hk2 hBp HH HB1 HK1 hB
  rcases ho : (hasS sShutB s).1 with _ | _
  · have HO := Lib.hid ho
    clear ho
    go_wp2_with fail
    refine (HS.out w2 _ HPS2.out (by have := HS2.out; have := HLO.out; have := HBB.out; omega) HLE2.out).mono ?_
    rintro e w3 ⟨v, l, s3, rfl, hev3, hns3, hps3, hle3, hk3⟩
    obtain ⟨la, lc, rfl⟩ := hns3.form
    have hk4 := (Keep.refl [] w3).alloc zN
    have ht4 := heap_alloc_new w3 zN
    obtain ⟨T, hT⟩ : ∃ T, T = w3.heap.size := ⟨_, rfl⟩
    rw [← hT] at ht4
    have hs3 := hk3.size
    have hs2 := HS2.out
    have hBT : B + 1 ≤ T := by omega
    have hb3 := blkK HB2.out hk3 (by simp; exact HBP.out)
    have hb4 := blkK hb3 hk4 (by simp)
    have hns4 : NsR (FrI (B + 1) T) (w3.alloc zN) false (.slice la l.length lc) l := (hns3.keep hk4 (by simp)).mono (fun b h => ⟨Nat.le_trans hs2 h.1, by rw [hT]; exact h.2⟩)
    have hkw4 := (HKW2.out.trans hk3 (by simp)).trans hk4 (by simp)
    have hlen : l.length ≤ 1000001 := by have h1 := hev3.some_len; have := HLE2.out; have := HTL.out; omega
    have hl4 : lo ≤ (w3.alloc zN).heap.size := by rw [size_alloc]; have := HLO.out; have := HBB.out; omega
    have hhas := p_has (hps3.keep0 hk4) hl4 sBar
    have HEV3 := Lib.hid hev3
    have HT4 := Lib.hid ht4
    have HB4 := Lib.hid hb4
    have HNS4 := Lib.hid hns4
    have HKW4 := Lib.hid hkw4
    have HLEN := Lib.hid hlen
    have HHAS := Lib.hid hhas
    have HLE3 := Lib.hid hle3
    have HBT := Lib.hid hBT
    have HTT := Lib.hid hT
    clear hT hev3 hns3 hps3 hle3 hk3 hk4 ht4 hs3 hs2 hBT hb3 hb4 hns4 hkw4 hlen hl4 hhas HS HPS2 HKW2 HB2
    go_upto_region 5 with fail
    rw [← HTT.out]
    rename_i K_out a_out K_in a_in
    have hcut : ∀ a' w', CutF 49 (fun f wx => f 0 = .pointer (some ⟨pb, 0, none⟩) ∧ f 1 = .int .i64 at_ ∧ f 6 = .pointer (some ⟨B, 0, none⟩) ∧ f 7 = .slice la l.length lc ∧ f 8 = .pointer (some ⟨T, 0, none⟩) ∧ ∃ (t : Nd) (s6 : St) (cs : List Value), (∀ s7, s7 = mustS sShutB s6 → Ev (fun n => listP n d) s (consL l t) s7) ∧ wx.heap[T]? = some (.cells cs.toArray 29 (0, 0)) ∧ wx.heap[B]? = some zN ∧ NdR (FrsX (B + 1) wx (some T)) wx false cs t ∧ NsR (FrI (B + 1) T) wx false (.slice la l.length lc) l ∧ PS lo wx pb s6 ∧ Keep [pb] w wx ∧ s6.toks.length ≤ s.toks.length) a' w' → K_out a' w' := by
      intro a' w' hc
      refine a_out _ _ ?_
      clear a_out a_in K_in HHAS HE HT4 HB4 HNS4 HKW4
      obtain ⟨f, rfl, h0, h1, h6, h7, h8, t, s6, cs, hev, hT6, hB6, hnd, hns, hps, hkw, hle⟩ := hc.lit
      obtain ⟨kindA, numA, atA, nameA, p1A, n1A, c1A, p2A, n2A, c2A, p3A, n3A, c3A, rfl, -⟩ := id hnd.un7s
      rw [show ((List.range 49).map f).toArray = #[f 0, f 1, f 2, f 3, f 4, f 5, f 6, f 7, f 8, f 9, f 10, f 11, f 12, f 13, f 14, f 15, f 16, f 17, f 18, f 19, f 20, f 21, f 22, f 23, f 24, f 25, f 26, f 27, f 28, f 29, f 30, f 31, f 32, f 33, f 34, f 35, f 36, f 37, f 38, f 39, f 40, f 41, f 42, f 43, f 44, f 45, f 46, f 47, f 48] from rfl]
      rw [h0, h1, h6, h7, h8]
      have hl6 := Nat.le_trans HLO.out hkw.size
      have HM := Lib.hid (p_must hps hl6 sShutB)
      have HEV := Lib.hid (hev _ rfl)
      have HT6 := Lib.hid hT6
      have HB6 := Lib.hid hB6
      have HND := Lib.hid hnd
      have HNS := Lib.hid hns
      have HKW := Lib.hid hkw
      have HLE := Lib.hid hle
      clear hc h0 h1 h6 h7 h8 hev hT6 hB6 hnd hns hps hkw hle hl6
      go_wp2_with fail
      refine HM.out.mono ?_
      rintro e w7 ⟨rfl, hps7, hk7⟩
      have hpl := HPLO.out
      have hlw := HLO.out
      have hbt := HBT.out
      have hbb := HBB.out
      have hbp := HBP.out
      have hT7 := blkK HT6.out hk7 (by simp; omega)
      have hB7 := blkK HB6.out hk7 (by simp; omega)
      have hnd7 := HND.out.keepX hk7 (by simp; omega)
      have hns7 := HNS.out.keep hk7 (fun b hb hc => by simp at hb; have := hc.1; omega)
      have hkw7 := HKW.out.trans hk7 (by simp)
      have hle7 := Nat.le_trans (must_len sShutB s6) HLE.out
      have hinit : ∃ (k : Nat) (t' : Nd) (cs : List Value), Value.int .i64 ((l.length : Int) - 1) = .int .i64 ((k : Int) - 1) ∧ k ≤ l.length ∧ t' = consL (l.drop k) t ∧ w7.heap[T]? = some (.cells cs.toArray 29 (0, 0)) ∧ w7.heap[B]? = some zN ∧ NdR (FrsX (B + 1) w7 (some T)) w7 false cs t' ∧ NsR (FrI (B + 1) T) w7 false (.slice la l.length lc) l ∧ PS lo w7 pb (mustS sShutB s6) ∧ Keep [pb] w w7 :=
        ⟨l.length, t, _, rfl, Nat.le_refl _, by simp [consL], hT7, hB7, hnd7, hns7, hps7, hkw7⟩
      have HINIT := Lib.hid hinit
      have HLE7 := Lib.hid hle7
      have hlen := HLEN.out
      have hw1 : IntKind.i64.wrap ((l.length : Int) - 1) = (l.length : Int) - 1 := IntWalk.i64_in _ (by omega)
      clear hpl hlw hbt hbb hbp hT7 hB7 hnd7 hns7 hkw7 hle7 hinit hps7 hk7 HM HT6 HB6 HND HNS HKW HLE hlen
      go_wp2_with fail
      go_loopw [9] (fun v wr => ∃ (k : Nat) (t' : Nd) (cs : List Value), v = .int .i64 ((k : Int) - 1) ∧ k ≤ l.length ∧ t' = consL (l.drop k) t ∧ wr.heap[T]? = some (.cells cs.toArray 29 (0, 0)) ∧ wr.heap[B]? = some zN ∧ NdR (FrsX (B + 1) wr (some T)) wr false cs t' ∧ NsR (FrI (B + 1) T) wr false (.slice la l.length lc) l ∧ PS lo wr pb (mustS sShutB s6) ∧ Keep [pb] w wr) (fun v _ => (RowKit.intOf v + 1).toNat)
      case atStart => exact HINIT.out
      case round =>
        obtain ⟨k, t', cs, rfl, hk, rfl, hT8, hB8, hnd8, hns8, hps8, hkw8⟩ := hrel
        obtain ⟨kindC, numC, atC, nameC, p1C, n1C, c1C, p2C, n2C, c2C, p3C, n3C, c3C, rfl, -⟩ := id hnd8.un7s
        clear HINIT
        have HPS8 := Lib.hid hps8
        have HKW8 := Lib.hid hkw8
        have HND8 := Lib.hid hnd8
        have HNS8 := Lib.hid hns8
        have HT8 := Lib.hid hT8
        have HB8 := Lib.hid hB8
        clear hps8 hkw8 hnd8 hns8 hT8 hB8
        cases k with
        | zero =>
          obtain ⟨c0, c1, c2, c3, c4, c5, c6⟩ := cells7 HT8.out
          obtain ⟨d0, d1, d2, d3, d4, d5, d6⟩ := cells7 HB8.out
          have f8 := frozenP HT8.out
          have g8 := frozenP HB8.out
          have hne : T ≠ B := by have := HBT.out; omega
          have hneg : ¬ (0 : Int) ≤ ((0 : Nat) : Int) - 1 := by omega
          go_wp2_with fail
          have hT9 := heap_setCell_at (i := 3) HT8.out (.int .i64 at_)
          have hk9 := Keep.set1 wr ⟨T, 3, none⟩ (.int .i64 at_)
          have hB9 := blkK HB8.out hk9 (by simp; omega)
          obtain ⟨hb10, hk10⟩ := set7 hB9 (.int .i64 kindC) (.int .i64 numC) (.string ⟨nameC.toArray⟩) (.int .i64 at_) (.slice p1C n1C c1C) (.slice p2C n2C c2C) (.slice p3C n3C c3C)
          refine bodyPost_ret (results_cell_row (ty := 29) rfl _ _ B _ _ _ _ rfl hb10 Tryz.underlying29 rfl node_size) rfl ?_
          have hbt := HBT.out
          have hbb := HBB.out
          have hlw := HLO.out
          have hkk : Keep [T, B] wr _ := (hk9.mono (G := [T, B]) (by simp)).trans hk10 (by simp)
          refine ⟨_, _, _, rfl, HEV.out, NdR.reat ((HND8.out.keepX (o := some T) (F := [T]) hk9 (by simp)).keep hk10 (fun b hb hc => by simp at hb; have := hc.1; omega)) at_ |>.mono (fun b h => ⟨by have := h.1; omega, Nat.lt_of_lt_of_le h.2.1 hk10.size⟩), HPS8.out.keep hkk (by simp; omega), HLE7.out, keepB (lo := w.heap.size) ((HKW8.out.mono (G := [pb, T, B]) (by simp)).trans hkk (by simp)) (by simp; omega) (Nat.le_refl _)⟩
        | succ i =>
          have hi : i < l.length := by omega
          obtain ⟨ab, aoff, cse, rfl, hab, hnde, hcell⟩ := HNS8.out.at7 hi
          obtain ⟨kindD, numD, atD, nameD, p1D, n1D, c1D, p2D, n2D, c2D, p3D, n3D, c3D, rfl, -⟩ := id hnde.un7s
          have hle0 := hcell 0 (by omega)
          have hle1 := hcell 1 (by omega)
          have hle2 := hcell 2 (by omega)
          have hle3 := hcell 3 (by omega)
          have hle4 := hcell 4 (by omega)
          have hle5 := hcell 5 (by omega)
          have hle6 := hcell 6 (by omega)
          simp only [Nat.add_zero, List.getElem?_cons_zero, List.getElem?_cons_succ] at hle0 hle1 hle2 hle3 hle4 hle5 hle6
          have HCE := Lib.hid (And.intro hle0 (And.intro hle1 (And.intro hle2 (And.intro hle3 (And.intro hle4 (And.intro hle5 hle6))))))
          have hii : ((i + 1 : Nat) : Int) - 1 = (i : Int) := by omega
          rw [hii]
          have hge : (0 : Int) ≤ (i : Int) := by omega
          have hlt : (i : Int) < (l.length : Int) := by omega
          have HDD := Lib.hid hnde
          have HAB := Lib.hid hab
          have hABl : ab < wr.heap.size := by have h1 := hab.2; have h2 := (Array.getElem?_eq_some_iff.1 HT8.out).1; omega
          have HABL := Lib.hid hABl
          have hw2 : IntKind.i64.wrap ((i : Int) - 1) = (i : Int) - 1 := IntWalk.i64_in _ (by have := HLEN.out; omega)
          clear hle0 hle1 hle2 hle3 hle4 hle5 hle6 hcell hnde hab hABl hii
          go_wp2_with fail
          refine wp_regionB [4, 8, 9, 10] (fun w' => Keep [] wr w') (by kernel_rfl) ?_
          refine wpAnyB_takeY (i := 0) (v := ?vA0) rfl (by kernel_rfl) (by kernel_rfl) (by kernel_rfl) (by kernel_rfl) (fun _ _ _ h => h) (Or.inl ⟨by kernel_rfl, ?runA0⟩) ?_
          case runA0 => (intro w9 _; go_simp; try exact rfl)
          try simp only [Act.put, List.setIfInBounds_toArray, List.set_cons_zero, List.set_cons_succ]
          refine wpAnyB_takeY (i := 1) (v := ?vA1) rfl (by kernel_rfl) (by kernel_rfl) (by kernel_rfl) (by kernel_rfl) (fun _ _ _ h => h) (Or.inl ⟨by kernel_rfl, ?runA1⟩) ?_
          case runA1 => (intro w9 _; go_simp; try exact rfl)
          try simp only [Act.put, List.setIfInBounds_toArray, List.set_cons_zero, List.set_cons_succ]
          refine wpAnyB_takeY (i := 2) (v := ?vA2) rfl (by kernel_rfl) (by kernel_rfl) (by kernel_rfl) (by kernel_rfl) (fun _ _ _ h => h) (Or.inl ⟨by kernel_rfl, ?runA2⟩) ?_
          case runA2 => (intro w9 _; go_simp; try exact rfl)
          try simp only [Act.put, List.setIfInBounds_toArray, List.set_cons_zero, List.set_cons_succ]
          refine wpAnyB_takeY (i := 3) (v := ?vA3) rfl (by kernel_rfl) (by kernel_rfl) (by kernel_rfl) (by kernel_rfl) (fun _ _ _ h => h) (Or.inl ⟨by kernel_rfl, ?runA3⟩) ?_
          case runA3 => (intro w9 _; go_simp; try exact rfl)
          try simp only [Act.put, List.setIfInBounds_toArray, List.set_cons_zero, List.set_cons_succ]
          refine wpAnyB_takeY (i := 5) (v := ?vA5) rfl (by kernel_rfl) (by kernel_rfl) (by kernel_rfl) (by kernel_rfl) (fun _ _ _ h => h) (Or.inl ⟨by kernel_rfl, ?runA5⟩) ?_
          case runA5 => (intro w9 _; go_simp; try exact rfl)
          try simp only [Act.put, List.setIfInBounds_toArray, List.set_cons_zero, List.set_cons_succ]
          refine wpAnyB_takeY (i := 6) (v := ?vA6) rfl (by kernel_rfl) (by kernel_rfl) (by kernel_rfl) (by kernel_rfl) (fun _ _ _ h => h) (Or.inl ⟨by kernel_rfl, ?runA6⟩) ?_
          case runA6 => (intro w9 _; go_simp; try exact rfl)
          try simp only [Act.put, List.setIfInBounds_toArray, List.set_cons_zero, List.set_cons_succ]
          refine wpAnyB_takeY (i := 7) (v := ?vA7) rfl (by kernel_rfl) (by kernel_rfl) (by kernel_rfl) (by kernel_rfl) (fun _ _ _ h => h) (Or.inl ⟨by kernel_rfl, ?runA7⟩) ?_
          case runA7 => (intro w9 _; go_simp; try exact rfl)
          try simp only [Act.put, List.setIfInBounds_toArray, List.set_cons_zero, List.set_cons_succ]
          refine wpAnyB_take [8, 9, 10] (i := 4) (v := ?vA4) rfl (by kernel_rfl) (by kernel_rfl) (by kernel_rfl) (by kernel_rfl) (by kernel_rfl) (fun _ _ _ h => h) (Or.inl ⟨by kernel_rfl, ?runA4⟩) ((Keep.refl [] wr).drew) ?_
          case runA4 => (intro w9 hS9; obtain ⟨x0, x1, x2, x3, x4, x5, x6, c0, c1, c2, c3, c4, c5, c6⟩ := And.intro (hS9.cell (p := ⟨ab, aoff + i * 7, none⟩) HABL.out (by simp) |>.trans HCE.out.1) (And.intro (hS9.cell (p := ⟨ab, aoff + i * 7 + 1, none⟩) HABL.out (by simp) |>.trans HCE.out.2.1) (And.intro (hS9.cell (p := ⟨ab, aoff + i * 7 + 2, none⟩) HABL.out (by simp) |>.trans HCE.out.2.2.1) (And.intro (hS9.cell (p := ⟨ab, aoff + i * 7 + 3, none⟩) HABL.out (by simp) |>.trans HCE.out.2.2.2.1) (And.intro (hS9.cell (p := ⟨ab, aoff + i * 7 + 4, none⟩) HABL.out (by simp) |>.trans HCE.out.2.2.2.2.1) (And.intro (hS9.cell (p := ⟨ab, aoff + i * 7 + 5, none⟩) HABL.out (by simp) |>.trans HCE.out.2.2.2.2.2.1) (And.intro (hS9.cell (p := ⟨ab, aoff + i * 7 + 6, none⟩) HABL.out (by simp) |>.trans HCE.out.2.2.2.2.2.2) (cells7 (blkK HT8.out hS9 (by simp))))))))); go_simp; try exact rfl)
          try simp only [Act.put, List.setIfInBounds_toArray, List.set_cons_zero, List.set_cons_succ]
          refine wpAnyB_take [9] (i := 8) (v := ?vA8) rfl (by kernel_rfl) (by kernel_rfl) (by kernel_rfl) (by kernel_rfl) (by kernel_rfl) (fun _ _ _ h => h) (Or.inl ⟨by kernel_rfl, ?runA8⟩) ((Keep.refl [] wr).drew) ?_
          case runA8 => (intro w9 hS9; obtain ⟨x0, x1, x2, x3, x4, x5, x6, c0, c1, c2, c3, c4, c5, c6⟩ := And.intro (hS9.cell (p := ⟨ab, aoff + i * 7, none⟩) HABL.out (by simp) |>.trans HCE.out.1) (And.intro (hS9.cell (p := ⟨ab, aoff + i * 7 + 1, none⟩) HABL.out (by simp) |>.trans HCE.out.2.1) (And.intro (hS9.cell (p := ⟨ab, aoff + i * 7 + 2, none⟩) HABL.out (by simp) |>.trans HCE.out.2.2.1) (And.intro (hS9.cell (p := ⟨ab, aoff + i * 7 + 3, none⟩) HABL.out (by simp) |>.trans HCE.out.2.2.2.1) (And.intro (hS9.cell (p := ⟨ab, aoff + i * 7 + 4, none⟩) HABL.out (by simp) |>.trans HCE.out.2.2.2.2.1) (And.intro (hS9.cell (p := ⟨ab, aoff + i * 7 + 5, none⟩) HABL.out (by simp) |>.trans HCE.out.2.2.2.2.2.1) (And.intro (hS9.cell (p := ⟨ab, aoff + i * 7 + 6, none⟩) HABL.out (by simp) |>.trans HCE.out.2.2.2.2.2.2) (cells7 (blkK HT8.out hS9 (by simp))))))))); go_simp; try exact rfl)
          try simp only [Act.put, List.setIfInBounds_toArray, List.set_cons_zero, List.set_cons_succ]
          refine wpAnyB_take [] (i := 9) (v := ?vA9) rfl (by kernel_rfl) (by kernel_rfl) (by kernel_rfl) (by kernel_rfl) (by kernel_rfl) (fun _ _ _ h => h) (Or.inl ⟨by kernel_rfl, ?runA9⟩) ((Keep.refl [] wr).drew) ?_
          case runA9 => (intro w9 hS9; obtain ⟨x0, x1, x2, x3, x4, x5, x6, c0, c1, c2, c3, c4, c5, c6⟩ := And.intro (hS9.cell (p := ⟨ab, aoff + i * 7, none⟩) HABL.out (by simp) |>.trans HCE.out.1) (And.intro (hS9.cell (p := ⟨ab, aoff + i * 7 + 1, none⟩) HABL.out (by simp) |>.trans HCE.out.2.1) (And.intro (hS9.cell (p := ⟨ab, aoff + i * 7 + 2, none⟩) HABL.out (by simp) |>.trans HCE.out.2.2.1) (And.intro (hS9.cell (p := ⟨ab, aoff + i * 7 + 3, none⟩) HABL.out (by simp) |>.trans HCE.out.2.2.2.1) (And.intro (hS9.cell (p := ⟨ab, aoff + i * 7 + 4, none⟩) HABL.out (by simp) |>.trans HCE.out.2.2.2.2.1) (And.intro (hS9.cell (p := ⟨ab, aoff + i * 7 + 5, none⟩) HABL.out (by simp) |>.trans HCE.out.2.2.2.2.2.1) (And.intro (hS9.cell (p := ⟨ab, aoff + i * 7 + 6, none⟩) HABL.out (by simp) |>.trans HCE.out.2.2.2.2.2.2) (cells7 (blkK HT8.out hS9 (by simp))))))))); go_simp; try exact rfl)
          try simp only [Act.put, List.setIfInBounds_toArray, List.set_cons_zero, List.set_cons_succ]
          refine wpAnyB_ready (rs := [10]) (by kernel_rfl) (by simp) ?_
          refine AllReadyB.cons rfl (fun K hK => ?_) AllReadyB.nil
          go_simp
          refine hK.out _ _ (fun h => (Keep.refl [] wr).drew.alloc _) ?_
          clear hK K
          try simp only [Act.put, List.setIfInBounds_toArray, List.set_cons_zero, List.set_cons_succ]
          refine wpAnyB_takeY (i := 11) (v := ?vA11) rfl (by kernel_rfl) (by kernel_rfl) (by kernel_rfl) (by kernel_rfl) (fun _ _ _ h => h) (Or.inl ⟨by kernel_rfl, ?runA11⟩) ?_
          case runA11 => (intro w9 _; go_simp; try exact rfl)
          try simp only [Act.put, List.setIfInBounds_toArray, List.set_cons_zero, List.set_cons_succ]
          refine wpAnyB_ready (rs := [12]) (by kernel_rfl) (by simp) ?_
          refine AllReadyB.cons rfl (fun K hK => ?_) AllReadyB.nil
          have hk9 := (Keep.refl [] wr).alloc (.cells #[.int .i64 kindD, .int .i64 numD, .string ⟨nameD.toArray⟩, .int .i64 atD, .slice p1D n1D c1D, .slice p2D n2D c2D, .slice p3D n3D c3D, .int .i64 kindC, .int .i64 numC, .string ⟨nameC.toArray⟩, .int .i64 atC, .slice p1C n1C c1C, .slice p2C n2C c2C, .slice p3C n3C c3C] 29)
          have hT9 := blkK HT8.out hk9 (by simp)
          obtain ⟨e0, e1, e2, e3, e4, e5, e6⟩ := cells7 hT9
          have f9 := frozenP hT9
          have HT9 := Lib.hid hT9
          have HK9 := Lib.hid hk9
          clear hT9 hk9
          go_simp
          refine hK.out _ _ (fun h => (nomatch h)) ?_
          clear hK K
          try simp only [Act.put, List.setIfInBounds_toArray, List.set_cons_zero, List.set_cons_succ]
          refine wpAnyB_done (by kernel_rfl) ?_ _
          clear e0 e1 e2 e3 e4 e5 e6 f9
          obtain ⟨hT10, hk10⟩ := set7 HT9.out (.int .i64 6) (.int .i64 0) (.string ⟨#[]⟩) (.int .i64 atD) (.slice (some ⟨wr.heap.size, 0, none⟩) 2 2) (.slice none 0 0) (.slice none 0 0)
          have hbt := HBT.out
          have hbb := HBB.out
          have hlw := HLO.out
          have hpl := HPLO.out
          have hT8l := (Array.getElem?_eq_some_iff.1 HT8.out).1
          have hndD : NdR (FrsX (B + 1) wr (some T)) wr false _ l[i] := HDD.out.mono (fun b h => ⟨h.1, by have := h.2; omega, fun e => by cases e; have := h.2; omega⟩)
          have hlit := NsR.lit2X (cs := #[.int .i64 kindD, .int .i64 numD, .string ⟨nameD.toArray⟩, .int .i64 atD, .slice p1D n1D c1D, .slice p2D n2D c2D, .slice p3D n3D c3D, .int .i64 kindC, .int .i64 numC, .string ⟨nameC.toArray⟩, .int .i64 atC, .slice p1C n1C c1C, .slice p2C n2C c2C, .slice p3C n3C c3C]) 29 rfl (by omega) (fun b hb => by cases hb; exact hT8l) hndD HND8.out
          have hlit10 := hlit.keepX hk10 (by simp)
          have hB10 := blkK (blkK HB8.out HK9.out (by simp)) hk10 (by simp; omega)
          have hns10 := (HNS8.out.keep HK9.out (by simp)).keep hk10 (fun b hb hc => by simp at hb; have := hc.2; omega)
          have hps10 := (HPS8.out.keep0 HK9.out).keep hk10 (by simp; omega)
          have hkw10 := keepB (pb := pb) (lo := w.heap.size) (((HKW8.out.trans HK9.out (by simp)).mono (G := [pb, T]) (by simp)).trans hk10 (by simp)) (by simp; omega) (Nat.le_refl _)
          have hnd10 := NdR.mk7 (kind := 6) (num := 0) (name := []) (at_ := atD) hlit10 (NsR.nil _ _ true) (NsR.nil _ _ false)
          generalize ((((((((wr.alloc (.cells #[.int .i64 kindD, .int .i64 numD, .string ⟨nameD.toArray⟩, .int .i64 atD, .slice p1D n1D c1D, .slice p2D n2D c2D, .slice p3D n3D c3D, .int .i64 kindC, .int .i64 numC, .string ⟨nameC.toArray⟩, .int .i64 atC, .slice p1C n1C c1C, .slice p2C n2C c2C, .slice p3C n3C c3C] 29)).setCell ⟨T, 0, none⟩ (.int .i64 6)).setCell ⟨T, 1, none⟩ (.int .i64 0)).setCell ⟨T, 2, none⟩ (.string ⟨#[]⟩)).setCell ⟨T, 3, none⟩ (.int .i64 atD)).setCell ⟨T, 4, none⟩ (.slice (some ⟨wr.heap.size, 0, none⟩) 2 2)).setCell ⟨T, 5, none⟩ (.slice none 0 0)).setCell ⟨T, 6, none⟩ (.slice none 0 0)) = w10 at *
          have H10 := Lib.hid (show ∃ (k : Nat) (t' : Nd) (cs : List Value), Value.int .i64 ((i : Int) - 1) = .int .i64 ((k : Int) - 1) ∧ k ≤ l.length ∧ t' = consL (l.drop k) t ∧ w10.heap[T]? = some (.cells cs.toArray 29 (0, 0)) ∧ w10.heap[B]? = some zN ∧ NdR (FrsX (B + 1) w10 (some T)) w10 false cs t' ∧ NsR (FrI (B + 1) T) w10 false (.slice (some ⟨ab, aoff, none⟩) l.length lc) l ∧ PS lo w10 pb (mustS sShutB s6) ∧ Keep [pb] w w10 from ⟨i, _, _, rfl, by omega, (consL_snoc l i hi t).symm, hT10, hB10, hnd10, hns10, hps10, hkw10⟩)
          clear hT10 hk10 hbt hbb hlw hpl hT8l hndD hlit hlit10 hB10 hns10 hps10 hkw10 hnd10 HT9 HK9
          go_wp2_with fail
          go_roundw
          case rel =>
            obtain ⟨k, t', cs, e1, e2, e3, ea, eb, ec, ed, ee, ef⟩ := H10.out
            have hk := (Keep.refl [] w10).drew
            exact ⟨k, t', cs, e1, e2, e3, blkK ea hk (by simp), blkK eb hk (by simp), ec.keepX hk (by simp), ed.keep hk (by simp), ee.keep0 hk, ef.trans hk (by simp)⟩
          case measure => simp [RowKit.intOf]
    go_wp2_with fail
    refine HHAS.out.mono ?_
    rintro e w5 ⟨rfl, hps5, hk5⟩
    have hpl := HPLO.out
    have hlw := HLO.out
    have hbt := HBT.out
    have hbb := HBB.out
    have hbp := HBP.out
    have hT5 := blkK HT4.out hk5 (by simp; omega)
    have hB5 := blkK HB4.out hk5 (by simp; omega)
    have hns5 := HNS4.out.keep hk5 (fun b hb hc => by simp at hb; have := hc.1; omega)
    have hkw5 := HKW4.out.trans hk5 (by simp)
    have hl5 : lo ≤ w5.heap.size := Nat.le_trans hlw hkw5.size
    have hT5l := (Array.getElem?_eq_some_iff.1 hT5).1
    have HT5 := Lib.hid hT5
    have HB5 := Lib.hid hB5
    have HNS5 := Lib.hid hns5
    have HKW5 := Lib.hid hkw5
    have HPS5 := Lib.hid hps5
    have HL5 := Lib.hid (And.intro hl5 hT5l)
    have HLE5 := Lib.hid (has_len sBar s3)
    have HCUT := Lib.hid hcut
    clear hcut a_out hpl hlw hbt hbb hbp hT5 hB5 hns5 hkw5 hl5 hT5l hps5 hk5 HHAS HT4 HB4 HNS4 HKW4
    rcases hbar : (hasS sBar s3).1 with _ | _
    · have HBAR := Lib.hid hbar
      clear hbar
      obtain ⟨c0, c1, c2, c3, c4, c5, c6⟩ := cells7 HT5.out
      have f5 := frozenP HT5.out
      go_wp2_with (go_at_call 67; refine (p_place HPS5.out).mono ?_; rintro e w5' ⟨rfl, rfl⟩)
      obtain ⟨hT6, hk6⟩ := set7 HT5.out (.int .i64 5) (.int .i64 0) (.string ⟨#[]⟩) (.int .i64 (plc (hasS sBar s3).2)) (.slice none 0 0) (.slice none 0 0) (.slice none 0 0)
      have hpl := HPLO.out
      have hlw := HLO.out
      have hbt := HBT.out
      have hbb := HBB.out
      refine HCUT.out _ _ (CutF.mk rfl ⟨rfl, rfl, rfl, rfl, rfl, nilN, _, _, fun s7 h7 => ?_, hT6, blkK HB5.out hk6 (by simp; omega), NdR.mk7 (kind := 5) (num := 0) (name := []) (at_ := plc (hasS sBar s3).2) (NsR.nil _ _ false) (NsR.nil _ _ true) (NsR.nil _ _ false), HNS5.out.keep hk6 (fun b hb hc => by simp at hb; have := hc.2; omega), HPS5.out.keep hk6 (by simp; omega), keepB (lo := w.heap.size) ((HKW5.out.mono (G := [pb, T]) (by simp)).trans hk6 (by simp)) (by simp; omega) (Nat.le_refl _), Nat.le_trans HLE5.out (Nat.le_trans HLE3.out HLE2.out)⟩)
      subst h7
      exact Ev.of_list_some HO.out HEV3.out HBAR.out
    · have HBAR := Lib.hid hbar
      clear hbar
      have HCALL := Lib.hid (HE.out w5 _ HPS5.out HL5.out.1 (by have := HLE5.out; have := HLE3.out; have := HLE2.out; omega))
      go_wp2_with fail
      refine HCALL.out.mono ?_
      rintro e w6 ⟨cs, t, s6, rfl, hev6, hnd6, hps6, hle6, hk6⟩
      obtain ⟨kindA, numA, atA, nameA, p1A, n1A, c1A, p2A, n2A, c2A, p3A, n3A, c3A, rfl, -⟩ := id hnd6.un7s
      have hpl := HPLO.out
      have hlw := HLO.out
      have hbt := HBT.out
      have hbb := HBB.out
      have hT6 := blkK HT5.out hk6 (by simp; omega)
      have hB6 := blkK HB5.out hk6 (by simp; omega)
      have hns6 := HNS5.out.keep hk6 (fun b hb hc => by simp at hb; have := hc.1; omega)
      have hkw6 := HKW5.out.trans hk6 (by simp)
      have hT5l := HL5.out.2
      have hnd6' : NdR (FrsX (B + 1) w6 (some T)) w6 false _ t := hnd6.toX (by omega) (fun b hb => by cases hb; exact hT5l)
      have HT6 := Lib.hid hT6
      have HB6 := Lib.hid hB6
      have HNS6 := Lib.hid hns6
      have HKW6 := Lib.hid hkw6
      have HPS6 := Lib.hid hps6
      have HND6 := Lib.hid hnd6'
      have HEV6 := Lib.hid hev6
      have HLE6 := Lib.hid hle6
      obtain ⟨c0, c1, c2, c3, c4, c5, c6⟩ := cells7 hT6
      have f6 := frozenP hT6
      clear hpl hlw hbt hbb hT6 hB6 hns6 hkw6 hps6 hnd6' hev6 hle6 hk6 hnd6 hT5l HCALL HT5 HB5 HNS5 HKW5 HPS5
      go_wp2_with fail
      obtain ⟨hT7, hk7⟩ := set7 HT6.out (.int .i64 kindA) (.int .i64 numA) (.string ⟨nameA.toArray⟩) (.int .i64 atA) (.slice p1A n1A c1A) (.slice p2A n2A c2A) (.slice p3A n3A c3A)
      have hpl := HPLO.out
      have hlw := HLO.out
      have hbt := HBT.out
      have hbb := HBB.out
      refine HCUT.out _ _ (CutF.mk rfl ⟨rfl, rfl, rfl, rfl, rfl, t, _, _, fun s7 h7 => ?_, hT7, blkK HB6.out hk7 (by simp; omega), HND6.out.keepX hk7 (by simp), HNS6.out.keep hk7 (fun b hb hc => by simp at hb; have := hc.2; omega), HPS6.out.keep hk7 (by simp; omega), keepB (lo := w.heap.size) ((HKW6.out.mono (G := [pb, T]) (by simp)).trans hk7 (by simp)) (by simp; omega) (Nat.le_refl _), Nat.le_trans HLE6.out (Nat.le_trans HLE5.out (Nat.le_trans HLE3.out HLE2.out))⟩)
      subst h7
      exact Ev.of_list_bar HO.out HEV3.out HBAR.out HEV6.out
  · have HO := Lib.hid ho
    clear ho
    obtain ⟨d0, d1, d2, d3, d4, d5, d6⟩ := cells7 HB2.out
    have f2 := frozenP HB2.out
    go_wp2_with fail
    obtain ⟨hb3, hk3⟩ := set7 HB2.out (.int .i64 5) (.int .i64 0) (.string ⟨#[]⟩) (.int .i64 at_) (.slice none 0 0) (.slice none 0 0) (.slice none 0 0)
    refine bodyPost_ret (results_cell_row (ty := 29) rfl _ _ B _ _ _ _ rfl hb3 Tryz.underlying29 rfl node_size) rfl ?_
    have hbb := HBB.out
    have hlw := HLO.out
    exact ⟨_, nilN, _, rfl, Ev.of_list_nil HO.out, NdR.mk7 (kind := 5) (num := 0) (name := []) (at_ := at_) (NsR.nil _ _ false) (NsR.nil _ _ true) (NsR.nil _ _ false), HPS2.out.keep hk3 (by simp; omega), HLE2.out, keepB (lo := w.heap.size) ((HKW2.out.mono (G := [pb, B]) (by simp)).trans hk3 (by simp)) (by simp; omega) (Nat.le_refl _)⟩
end Go.Proofs.YtdmmhfbafinkpaaGreatDoor
