/- ManifestUses: the walk. Printed by gen-mnuses.py. -/
import Derived.Test.YtngepgnmlpinaaaMnUsesP
namespace Go.Proofs.Ytngepgnmlpinaaa
open Go.RowKit Go.Emb Go.Emb.Ext

theorem chkR_ok {b s : Int} {a : Int × Int} {ps : List PlV} (h : OkM b s a ps) : chkR b s a ps = 0 := by
  unfold chkR; rw [if_pos h]
theorem chkR_no {b s : Int} {a : Int × Int} {ps : List PlV} (h : ¬ OkM b s a ps) : chkR b s a ps = 2 := by
  unfold chkR; rw [if_neg h]
theorem cell_keep {w w' : World} {p : Addr} {v : Value} (h : w.cell? p = some v) (k : Keep [] w w') : w'.cell? p = some v := by
  rw [k.cell (World.block_lt_of_cell? _ _ h) (by simp)]; exact h
theorem wrap3 {a q : Int} (h1 : 0 ≤ a) (h2 : a ≤ 16384000000) (h3 : 0 ≤ q) (h4 : q ≤ 9223372036854775807) (h5 : a + q + 1 ≤ 16384000000) : wrap64 (wrap64 (a + wrap64 q) + 1) = a + q + 1 := by
  have e1 : ∀ z : Int, -9223372036854775808 ≤ z → z ≤ 9223372036854775807 → wrap64 z = z := fun z a b => by unfold wrap64; omega
  rw [e1 q (by omega) (by omega), e1 (a + q) (by omega) (by omega), e1 (a + q + 1) (by omega) (by omega)]
theorem gap_at' {l : List E} (h : Plain l) {k : Nat} (h1 : 1 ≤ k) (hk : k < l.length) (hk' : k - 1 < l.length) : l[k - 1].1 + l[k - 1].2 < l[k].1 := by
  obtain ⟨k', rfl⟩ : ∃ k', k = k' + 1 := ⟨k - 1, by omega⟩
  exact gap_at h hk
theorem find_at {w : World} {m : MnV} {b s : Int} (h : RdM w.heap.size w m) (hl : m.places.length ≤ 100) (ok : OkM b s m.area m.places) {k : Nat} (hk : k < m.places.length) :
    Calls Try.prog 17 #[aggM m, .int .i64 m.places[k].p.pid] w fun e w' => e = .returned (.tuple #[aggP m.places[k], .bool true]) ∧ Keep [] w w' := by
  have hp : I64 m.places[k].p.pid := (h.2.2.2.2.1 _ (List.getElem_mem hk)).1
  refine (p_find h hl hp).mono (fun e w' hf => ?_)
  obtain ⟨h1, h2⟩ := hf
  rw [ok_find ok hk] at h2
  exact ⟨h2, h1⟩
set_option maxRecDepth 100000 in
set_option maxHeartbeats 4000000 in
theorem uses_walk {w : World} {m : MnV} {blocks size : Int} (hbl : -9223372036854775808 ≤ blocks ∧ blocks ≤ 9223372036854775807) (hsi : -9223372036854775808 ≤ size ∧ size ≤ 9223372036854775807) (hm : RdM w.heap.size w m) :
    Calls Try.prog 7 #[.int .i64 blocks, .int .i64 size, aggM m] w fun e w' => e = .returned (.bool true) ∧ Keep [] w w' := by
  have HSI := Lib.hid hsi
  clear hsi hbl
  obtain ⟨⟨ra, rc, hrv, -, -⟩, pa, pc, hpv, -, -⟩ := hm.forms
  obtain ⟨ms, me, mrv, ml, mpv, mps⟩ := m
  simp only at hrv hpv
  subst hrv hpv
  have hk1 : Keep [] w (w.alloc (.cells #[.string ms, .int .i64 me.1, .int .i64 me.2, .slice ra ml.length rc, .slice pa mps.length pc] 27)) := (Keep.refl [] w).alloc _
  have hb1 := heap_new w (.cells #[.string ms, .int .i64 me.1, .int .i64 me.2, .slice ra ml.length rc, .slice pa mps.length pc] 27)
  have hm1 := hm.next hk1
  have hsm := q_small hm1
  unfold aggM at hsm ⊢
  simp only at hsm ⊢
  obtain ⟨m0, m1, m2, m3, m4⟩ := cells5 hb1
  have HK1 := Lib.hid hk1
  have HB1 := Lib.hid hb1
  have HM1 := Lib.hid hm1
  have HSM := Lib.hid hsm
  clear hk1 hb1 hm1 hsm hm
  go_enter Try.func7, Try.ntmps7
  go_wp2_with fail
  generalize w.alloc (.cells #[.string ms, .int .i64 me.1, .int .i64 me.2, .slice ra ml.length rc, .slice pa mps.length pc] 27) = w1 at *
  refine HSM.out.mono ?_
  rintro e w2 ⟨b, rfl, hb, hk2⟩
  have HK2 := Lib.hid (HK1.out.trans hk2 (by simp))
  have hb2 := blk_keep HB1.out hk2 (by simp)
  have HB2 := Lib.hid hb2
  have HM2 := Lib.hid (HM1.out.next hk2)
  clear hk2 HK1 HB1 HM1 HSM m0 m1 m2 m3 m4
  obtain ⟨m0, m1, m2, m3, m4⟩ := cells5 hb2
  clear hb2
  cases b with
  | false =>
    clear hb
    go_wp2_with fail
    refine (q_live w2).mono ?_
    rintro e wl ⟨rfl, hkl⟩
    go_wp2_with fail
    go_ret
    exact ⟨rfl, HK2.out.trans hkl (by simp)⟩
  | true =>
    have HSP := Lib.hid (hb rfl)
    clear hb
    by_cases hlen : 20 < mps.length
    · have hlen' : (20 : Int) < (mps.length : Int) := by omega
      go_wp2_with fail
      refine (q_live w2).mono ?_
      rintro e wl ⟨rfl, hkl⟩
      go_wp2_with fail
      go_ret
      exact ⟨rfl, HK2.out.trans hkl (by simp)⟩
    · have hlen' : ¬ (20 : Int) < (mps.length : Int) := by omega
      have hcp := (p_check (blocks := blocks) HM2.out HSP.out.all HSI.out.1 HSI.out.2).mono (fun e w' h => h.one)
      unfold aggM at hcp
      simp only at hcp
      by_cases hok : OkM blocks size me mps
      · rw [chkR_ok hok] at hcp
        have HCP := Lib.hid hcp
        have HOK := Lib.hid hok
        clear hcp hok
        go_wp2_with fail
        refine HCP.out.mono ?_
        rintro e w3 ⟨rfl, hk3⟩
        go_wp2_with fail
        refine (q_num _ w3).mono ?_
        rintro e w4 ⟨rfl, rfl⟩
        have HK3 := Lib.hid (HK2.out.trans hk3 (by simp))
        have hb3 := blk_keep HB2.out hk3 (by simp)
        have HB3 := Lib.hid hb3
        have HM3 := Lib.hid (HM2.out.next hk3)
        clear hk3 HK2 HB2 HM2 HCP m0 m1 m2 m3 m4
        obtain ⟨m0, m1, m2, m3, m4⟩ := cells5 hb3
        clear hb3
        go_wp2_with fail
        go_loopw [7, 8] (fun n i wr => ∃ k : Nat, k ≤ mps.length ∧ i = .int .i64 (k : Int) ∧ n = .int .i64 (useK me mps k) ∧ Keep [] w3 wr) (fun _ i _ => mps.length - (intOf i).toNat)
        case atStart => exact ⟨0, Nat.zero_le _, rfl, by rw [useK_zero], Keep.refl _ _⟩
        case round =>
          obtain ⟨k, hk, rfl, rfl, hkw⟩ := hrel
          have HKW := Lib.hid hkw
          have hbw := blk_keep HB3.out hkw (by simp)
          have HBW := Lib.hid hbw
          have hmw := HM3.out.next hkw
          have HMW := Lib.hid hmw
          clear m0 m1 m2 m3 m4
          obtain ⟨m0, m1, m2, m3, m4⟩ := cells5 hbw
          clear hkw hbw
          have hbd := useK_bd HOK.out HSP.out.all k
          by_cases hlt : k < mps.length
          · have hbd2 := useK_bd HOK.out HSP.out.all (k + 1)
            have hsucc := useK_succ HOK.out hlt
            have hroom := ok_room HOK.out
            have hpl := hmw.2.2.2
            have hpid := okPl_mem _ _ HOK.out.2.2.2.2.2.2 mps[k].p (List.mem_map_of_mem (List.getElem_mem hlt))
            obtain ⟨pb, poff, rfl, hpb, q0, q1, q2⟩ := hpl.at hlt
            have hpx := hpl.2.1 _ (List.getElem_mem hlt)
            have hk5 : ∀ C, Keep [] wr (wr.alloc C) := fun C => (Keep.refl [] wr).alloc C
            have hfind := fun C => find_at (hmw.next (hk5 C)) (by simp only; omega) HOK.out hlt
            have hmk := fun C => hmw.next (hk5 C)
            unfold aggM aggP at hfind
            simp only at hfind
            obtain ⟨x, hx⟩ : ∃ x, x = mps[k] := ⟨_, rfl⟩
            rw [← hx] at q0 q1 q2 hpx hsucc hpid
            simp only [← hx] at hfind
            obtain ⟨hx1, hx2, hx3⟩ := hpx
            obtain ⟨xa, xc, hxv, hxc1, hxc2⟩ := hx3.slice
            rw [hxv] at q2
            simp only [hxv] at hfind
            have HX3 := Lib.hid hx3
            have HXV := Lib.hid hxv
            have HX := Lib.hid hx
            have HFI := Lib.hid (hfind (.cells #[.int .i64 x.p.pid, .int .i64 x.p.len, .slice xa x.p.pieces.length xc] 43))
            obtain ⟨n0, n1, n2, n3, n4⟩ := cells5 (blk_keep HBW.out (hk5 (.cells #[.int .i64 x.p.pid, .int .i64 x.p.len, .slice xa x.p.pieces.length xc] 43)) (by simp))
            have HM5 := Lib.hid (hmk (.cells #[.int .i64 x.p.pid, .int .i64 x.p.len, .slice xa x.p.pieces.length xc] 43))
            have HR5 := Lib.hid (hk5 (.cells #[.int .i64 x.p.pid, .int .i64 x.p.len, .slice xa x.p.pieces.length xc] 43))
            have HK5 := Lib.hid (HKW.out.trans (hk5 (.cells #[.int .i64 x.p.pid, .int .i64 x.p.len, .slice xa x.p.pieces.length xc] 43)) (by simp))
            have hb5 := heap_new wr (.cells #[.int .i64 x.p.pid, .int .i64 x.p.len, .slice xa x.p.pieces.length xc] 43)
            obtain ⟨p0, p1, p2, -⟩ := cells3 hb5
            have HP5 := Lib.hid hb5
            have HB5 := Lib.hid (blk_keep HBW.out (hk5 (.cells #[.int .i64 x.p.pid, .int .i64 x.p.len, .slice xa x.p.pieces.length xc] 43)) (by simp))
            have i0' : (0 : Int) ≤ (k : Int) := by omega
            have i1' : (k : Int) < (mps.length : Int) := by omega
            have hsz15 : IntKind.i64.wrap (size - 15) = size - 15 := IntWalk.i64_in _ (by omega)
            have hx15 : IntKind.i64.wrap (x.p.len - 1) = x.p.len - 1 := IntWalk.i64_in _ (by have := hx2.2; omega)
            have hnz : (size - 15 == 0) = false := beq_eq_false_iff_ne.2 (by omega)
            have hd0 : (0 : Int) ≤ (x.p.len - 1) / (size - 15) := Int.ediv_nonneg (by omega) (by omega)
            have hd1 : (x.p.len - 1) / (size - 15) ≤ x.p.len - 1 := Int.ediv_le_self _ (by omega)
            have hsu : wrap64 (wrap64 (useK me mps k + wrap64 ((x.p.len - 1).tdiv (size - 15))) + 1) = useK me mps (k + 1) := by
              rw [Int.tdiv_eq_ediv_of_nonneg (by omega), hsucc]
              obtain ⟨q, hq⟩ : ∃ q, q = (x.p.len - 1) / (size - 15) := ⟨_, rfl⟩
              rw [← hq] at hd0 hd1 hsucc ⊢
              exact wrap3 (by omega) (by omega) (by omega) (by omega) (by omega)
            have HSU := Lib.hid hsu
            clear hsu hsucc hbd hbd2 hpid
            clear hfind hmk hk5 hpl hx3 hxv hx hmw hb5
            go_wp2_with fail
            generalize hw5 : wr.alloc (.cells #[.int .i64 x.p.pid, .int .i64 x.p.len, .slice xa x.p.pieces.length xc] 43) = w5 at *
            clear hw5
            refine HFI.out.mono ?_
            rintro e w6 ⟨rfl, hk6⟩
            clear n0 n1 n2 n3 n4 p0 p1 p2 q0 q1 q2 m0 m1 m2 m3 m4
            have hk7 : Keep [] w6 (w6.alloc (.cells #[.int .i64 x.p.pid, .int .i64 x.p.len, .slice xa x.p.pieces.length xc] 43)) := (Keep.refl [] w6).alloc _
            have hk57 := hk6.trans hk7 (by simp)
            obtain ⟨n0, n1, n2, n3, n4⟩ := cells5 (blk_keep HB5.out hk57 (by simp))
            obtain ⟨p0, p1, p2, -⟩ := cells3 (blk_keep HP5.out hk57 (by simp))
            have hb7 := heap_new w6 (.cells #[.int .i64 x.p.pid, .int .i64 x.p.len, .slice xa x.p.pieces.length xc] 43)
            obtain ⟨c0, c1, c2, -⟩ := cells3 hb7
            have HK7 := Lib.hid (HK5.out.trans hk57 (by simp))
            have hpx7 : RdP1 wr.heap.size (w6.alloc (.cells #[.int .i64 x.p.pid, .int .i64 x.p.len, .slice xa x.p.pieces.length xc] 43)) x := ⟨hx1, hx2, (HX3.out.keep (HR5.out.trans hk57 (by simp)) (by simp))⟩
            have hxl : x.p.pieces.length ≤ 1000000 := HSP.out.v x (by rw [HX.out]; exact List.getElem_mem hlt)
            have hsm := r_sameplace hpx7 hpx7 hxl hxl
            simp only [show plcB x.p x.p = true from by simp [plcB]] at hsm
            unfold aggP at hsm
            rw [HXV.out] at hsm
            have HSMP := Lib.hid hsm
            clear hk7 hk57 hb7 hpx7 hsm hk6
            go_wp2_with fail
            generalize hw7 : w6.alloc (.cells #[.int .i64 x.p.pid, .int .i64 x.p.len, .slice xa x.p.pieces.length xc] 43) = w7 at *
            clear hw7
            refine HSMP.out.mono ?_
            rintro e w8 ⟨rfl, hk8⟩
            have HK8 := Lib.hid (HK7.out.trans hk8 (by simp))
            clear n0 n1 n2 n3 n4 p0 p1 p2 c0 c1 c2 hk8
            go_wp2_with fail
            go_roundw
            case rel => exact ⟨k + 1, by omega, by go_num, by rw [HSU.out], HK8.out⟩
            case measure => simp [intOf]; omega
          · obtain rfl : k = mps.length := by omega
            have i1' : ¬ (mps.length : Int) < (mps.length : Int) := by omega
            rw [useK_all]
            have hus := p_used hmw HSP.out.all
            unfold aggM at hus
            simp only at hus
            have HUS := Lib.hid hus
            have HKV := Lib.hid (HK3.out.trans HKW.out (by simp))
            clear hus hbd hmw
            go_wp2_with fail
            refine HUS.out.mono ?_
            rintro e w5 ⟨u, o, out, err, rfl, hj, hr, ho, hk5⟩
            obtain ⟨hpl, hsum, hin⟩ := ok_used HOK.out hj
            have hh := hr.has
            have hol : out.length ≤ 1000000 := Nat.le_trans (JoinRes.len hj) HSP.out.all
            have hsb := useK_bd HOK.out HSP.out.all mps.length
            rw [useK_all] at hsb
            rw [← hsum] at hsb ⊢
            obtain ⟨ua, uc, rfl⟩ := hh.slice
            have HKU := Lib.hid (HKV.out.trans hk5 (by simp))
            have HPL := Lib.hid hpl
            have HIN := Lib.hid hin
            have HH := Lib.hid hh
            clear hj hr ho hk5 hpl hsum hin hh HUS HKV HMW HBW HKW m0 m1 m2 m3 m4
            go_wp2_with fail
            go_loopw [13, 14] (fun n i wr => ∃ k : Nat, k ≤ out.length ∧ i = .int .i64 (k : Int) ∧ n = .int .i64 (sumL (out.take k)) ∧ Keep [] w5 wr) (fun _ i _ => out.length - (intOf i).toNat)
            case atStart => exact ⟨0, Nat.zero_le _, rfl, rfl, Keep.refl _ _⟩
            case round =>
              obtain ⟨k, hk, rfl, rfl, hkw⟩ := hrel
              have HKX := Lib.hid hkw
              clear hkw
              by_cases hlt : k < out.length
              · have i0' : (0 : Int) ≤ (k : Int) := by omega
                have i1' : (k : Int) < (out.length : Int) := by omega
                have hb0 := sum_take_bd HPL.out.pos k
                have hb1 := sum_take_bd HPL.out.pos (k + 1)
                have hsucc := sum_take_succ hlt
                have hin := HIN.out _ (List.getElem_mem hlt)
                have hin' := HIN.out _ (List.getElem_mem (show k - 1 < out.length by omega))
                obtain ⟨o1, hrd, hro⟩ := HH.out.keep HKX.out
                obtain ⟨b, off, rfl, rfl, g0, g1⟩ := hrd.at hlt
                obtain ⟨b', off', hbb, _, g2, g3⟩ := hrd.at (show k - 1 < out.length by omega)
                cases hbb
                obtain ⟨⟨f, n⟩, hx⟩ : ∃ x, x = out[k] := ⟨_, rfl⟩
                obtain ⟨⟨f', n'⟩, hy⟩ : ∃ x, x = out[k - 1] := ⟨_, rfl⟩
                rw [← hx] at g0 g1 hin hsucc
                rw [← hy] at g2 g3 hin'
                have hgap : 1 ≤ k → f' + n' < f := fun h => by
                  have h2 := gap_at' HPL.out h hlt (show k - 1 < out.length by omega)
                  rw [← hx, ← hy] at h2
                  exact h2
                simp only at g0 g1 g2 g3 hin hin' hsucc
                have hw1 : IntKind.i64.wrap (sumL (out.take k) + n) = sumL (out.take (k + 1)) := (IntWalk.i64_in _ (by omega)).trans hsucc.symm
                clear hrd hro hx hy
                have HG0 := Lib.hid g0
                have HG1 := Lib.hid g1
                have HG2 := Lib.hid g2
                have HG3 := Lib.hid g3
                have hblk := HOK.out.2.2.1
                have hq1 : IntKind.i64.wrap (f + n) = f + n := IntWalk.i64_in _ (by omega)
                have hq2 : IntKind.i64.wrap (f' + n') = f' + n' := IntWalk.i64_in _ (by omega)
                have hq3 : ¬ f < 2 := by omega
                have hq4 : ¬ blocks < f + n := by omega
                by_cases hk0 : k = 0
                · subst hk0
                  have HG0 := Lib.hid (show wr.cell? ⟨b, off, none⟩ = some (.int .i64 f) from by simpa using g0)
                  have HG1 := Lib.hid (show wr.cell? ⟨b, off + 1, none⟩ = some (.int .i64 n) from by simpa using g1)
                  go_wp2_with fail
                  refine wp_region_held_drew (S := fun w' => Keep [] wr w') (by kernel_rfl) ((Keep.refl [] wr).drew) (fun hHeld => ?_)
                  refine wpAnyH_takeL (i := 0) (v := ?vZ0) rfl (by kernel_rfl) (by kernel_rfl) (by kernel_rfl) (fun _ _ _ h => h) (Or.inl ⟨by kernel_rfl, ?runZ0⟩) hHeld ?_
                  case runZ0 => (intro w9 hS9; obtain ⟨g0, g1, g2, g3⟩ := (And.intro (cell_keep HG0.out hS9) (And.intro (cell_keep HG1.out hS9) (And.intro (cell_keep HG2.out hS9) (cell_keep HG3.out hS9)))); go_simp; try exact rfl)
                  try simp only [Act.put, List.setIfInBounds_toArray, List.set_cons_zero, List.set_cons_succ]
                  refine wpAnyH_takeL (i := 1) (v := ?vZ1) rfl (by kernel_rfl) (by kernel_rfl) (by kernel_rfl) (fun _ _ _ h => h) (Or.inl ⟨by kernel_rfl, ?runZ1⟩) hHeld ?_
                  case runZ1 => (intro w9 hS9; obtain ⟨g0, g1, g2, g3⟩ := (And.intro (cell_keep HG0.out hS9) (And.intro (cell_keep HG1.out hS9) (And.intro (cell_keep HG2.out hS9) (cell_keep HG3.out hS9)))); go_simp; try exact rfl)
                  try simp only [Act.put, List.setIfInBounds_toArray, List.set_cons_zero, List.set_cons_succ]
                  refine wpAnyH_takeL (i := 2) (v := ?vZ2) rfl (by kernel_rfl) (by kernel_rfl) (by kernel_rfl) (fun _ _ _ h => h) (Or.inl ⟨by kernel_rfl, ?runZ2⟩) hHeld ?_
                  case runZ2 => (intro w9 hS9; obtain ⟨g0, g1, g2, g3⟩ := (And.intro (cell_keep HG0.out hS9) (And.intro (cell_keep HG1.out hS9) (And.intro (cell_keep HG2.out hS9) (cell_keep HG3.out hS9)))); go_simp; try exact rfl)
                  try simp only [Act.put, List.setIfInBounds_toArray, List.set_cons_zero, List.set_cons_succ]
                  refine wpAnyH_takeL (i := 3) (v := ?vZ3) rfl (by kernel_rfl) (by kernel_rfl) (by kernel_rfl) (fun _ _ _ h => h) (Or.inl ⟨by kernel_rfl, ?runZ3⟩) hHeld ?_
                  case runZ3 => (intro w9 hS9; obtain ⟨g0, g1, g2, g3⟩ := (And.intro (cell_keep HG0.out hS9) (And.intro (cell_keep HG1.out hS9) (And.intro (cell_keep HG2.out hS9) (cell_keep HG3.out hS9)))); go_simp; try exact rfl)
                  try simp only [Act.put, List.setIfInBounds_toArray, List.set_cons_zero, List.set_cons_succ]
                  refine wpAnyH_takeL (i := 4) (v := ?vZ4) rfl (by kernel_rfl) (by kernel_rfl) (by kernel_rfl) (fun _ _ _ h => h) (Or.inl ⟨by kernel_rfl, ?runZ4⟩) hHeld ?_
                  case runZ4 => (intro w9 hS9; obtain ⟨g0, g1, g2, g3⟩ := (And.intro (cell_keep HG0.out hS9) (And.intro (cell_keep HG1.out hS9) (And.intro (cell_keep HG2.out hS9) (cell_keep HG3.out hS9)))); go_simp; try exact rfl)
                  try simp only [Act.put, List.setIfInBounds_toArray, List.set_cons_zero, List.set_cons_succ]
                  refine wpAnyH_takeL (i := 5) (v := .bool false) rfl (by kernel_rfl) (by kernel_rfl) (by kernel_rfl) (fun _ _ _ h => h) (Or.inl ⟨by kernel_rfl, ?runZ5⟩) hHeld ?_
                  case runZ5 => (intro w9 hS9; obtain ⟨g0, g1, g2, g3⟩ := (And.intro (cell_keep HG0.out hS9) (And.intro (cell_keep HG1.out hS9) (And.intro (cell_keep HG2.out hS9) (cell_keep HG3.out hS9)))); go_simp; first | done | exact rfl | (simp [*]; done) | (simp; omega))
                  try simp only [Act.put, List.setIfInBounds_toArray, List.set_cons_zero, List.set_cons_succ]
                  refine wpAnyH_takeL (i := 6) (v := ?vZ6) rfl (by kernel_rfl) (by kernel_rfl) (by kernel_rfl) (fun _ _ _ h => h) (Or.inl ⟨by kernel_rfl, ?runZ6⟩) hHeld ?_
                  case runZ6 => (intro w9 hS9; obtain ⟨g0, g1, g2, g3⟩ := (And.intro (cell_keep HG0.out hS9) (And.intro (cell_keep HG1.out hS9) (And.intro (cell_keep HG2.out hS9) (cell_keep HG3.out hS9)))); go_simp; try exact rfl)
                  try simp only [Act.put, List.setIfInBounds_toArray, List.set_cons_zero, List.set_cons_succ]
                  refine wpAnyH_takeL (i := 7) (v := ?vZ7) rfl (by kernel_rfl) (by kernel_rfl) (by kernel_rfl) (fun _ _ _ h => h) (Or.inl ⟨by kernel_rfl, ?runZ7⟩) hHeld ?_
                  case runZ7 => (intro w9 hS9; obtain ⟨g0, g1, g2, g3⟩ := (And.intro (cell_keep HG0.out hS9) (And.intro (cell_keep HG1.out hS9) (And.intro (cell_keep HG2.out hS9) (cell_keep HG3.out hS9)))); go_simp; try exact rfl)
                  try simp only [Act.put, List.setIfInBounds_toArray, List.set_cons_zero, List.set_cons_succ]
                  refine wpAnyH_takeL (i := 8) (v := ?vZ8) rfl (by kernel_rfl) (by kernel_rfl) (by kernel_rfl) (fun _ _ _ h => h) (Or.inl ⟨by kernel_rfl, ?runZ8⟩) hHeld ?_
                  case runZ8 => (intro w9 hS9; obtain ⟨g0, g1, g2, g3⟩ := (And.intro (cell_keep HG0.out hS9) (And.intro (cell_keep HG1.out hS9) (And.intro (cell_keep HG2.out hS9) (cell_keep HG3.out hS9)))); go_simp; try exact rfl)
                  try simp only [Act.put, List.setIfInBounds_toArray, List.set_cons_zero, List.set_cons_succ]
                  refine wpAnyH_takeL (i := 9) (v := ?vZ9) rfl (by kernel_rfl) (by kernel_rfl) (by kernel_rfl) (fun _ _ _ h => h) (Or.inl ⟨by kernel_rfl, ?runZ9⟩) hHeld ?_
                  case runZ9 => (intro w9 hS9; obtain ⟨g0, g1, g2, g3⟩ := (And.intro (cell_keep HG0.out hS9) (And.intro (cell_keep HG1.out hS9) (And.intro (cell_keep HG2.out hS9) (cell_keep HG3.out hS9)))); go_simp; try exact rfl)
                  try simp only [Act.put, List.setIfInBounds_toArray, List.set_cons_zero, List.set_cons_succ]
                  refine wpAnyH_takeL (i := 10) (v := ?vZ10) rfl (by kernel_rfl) (by kernel_rfl) (by kernel_rfl) (fun _ _ _ h => h) (Or.inl ⟨by kernel_rfl, ?runZ10⟩) hHeld ?_
                  case runZ10 => (intro w9 hS9; obtain ⟨g0, g1, g2, g3⟩ := (And.intro (cell_keep HG0.out hS9) (And.intro (cell_keep HG1.out hS9) (And.intro (cell_keep HG2.out hS9) (cell_keep HG3.out hS9)))); go_simp; try exact rfl)
                  try simp only [Act.put, List.setIfInBounds_toArray, List.set_cons_zero, List.set_cons_succ]
                  refine wpAnyH_takeL (i := 11) (v := ?vZ11) rfl (by kernel_rfl) (by kernel_rfl) (by kernel_rfl) (fun _ _ _ h => h) (Or.inl ⟨by kernel_rfl, ?runZ11⟩) hHeld ?_
                  case runZ11 => (intro w9 hS9; obtain ⟨g0, g1, g2, g3⟩ := (And.intro (cell_keep HG0.out hS9) (And.intro (cell_keep HG1.out hS9) (And.intro (cell_keep HG2.out hS9) (cell_keep HG3.out hS9)))); go_simp; try exact rfl)
                  try simp only [Act.put, List.setIfInBounds_toArray, List.set_cons_zero, List.set_cons_succ]
                  refine wpAnyH_takeL (i := 12) (v := ?vZ12) rfl (by kernel_rfl) (by kernel_rfl) (by kernel_rfl) (fun _ _ _ h => h) (Or.inl ⟨by kernel_rfl, ?runZ12⟩) hHeld ?_
                  case runZ12 => (intro w9 hS9; obtain ⟨g0, g1, g2, g3⟩ := (And.intro (cell_keep HG0.out hS9) (And.intro (cell_keep HG1.out hS9) (And.intro (cell_keep HG2.out hS9) (cell_keep HG3.out hS9)))); go_simp; try exact rfl)
                  try simp only [Act.put, List.setIfInBounds_toArray, List.set_cons_zero, List.set_cons_succ]
                  refine wpAnyH_takeL (i := 13) (v := ?vZ13) rfl (by kernel_rfl) (by kernel_rfl) (by kernel_rfl) (fun _ _ _ h => h) (Or.inl ⟨by kernel_rfl, ?runZ13⟩) hHeld ?_
                  case runZ13 => (intro w9 hS9; obtain ⟨g0, g1, g2, g3⟩ := (And.intro (cell_keep HG0.out hS9) (And.intro (cell_keep HG1.out hS9) (And.intro (cell_keep HG2.out hS9) (cell_keep HG3.out hS9)))); go_simp; try exact rfl)
                  try simp only [Act.put, List.setIfInBounds_toArray, List.set_cons_zero, List.set_cons_succ]
                  refine wpAnyH_takeL (i := 14) (v := ?vZ14) rfl (by kernel_rfl) (by kernel_rfl) (by kernel_rfl) (fun _ _ _ h => h) (Or.inl ⟨by kernel_rfl, ?runZ14⟩) hHeld ?_
                  case runZ14 => (intro w9 hS9; obtain ⟨g0, g1, g2, g3⟩ := (And.intro (cell_keep HG0.out hS9) (And.intro (cell_keep HG1.out hS9) (And.intro (cell_keep HG2.out hS9) (cell_keep HG3.out hS9)))); go_simp; try exact rfl)
                  try simp only [Act.put, List.setIfInBounds_toArray, List.set_cons_zero, List.set_cons_succ]
                  refine wpAnyH_takeL (i := 15) (v := ?vZ15) rfl (by kernel_rfl) (by kernel_rfl) (by kernel_rfl) (fun _ _ _ h => h) (Or.inl ⟨by kernel_rfl, ?runZ15⟩) hHeld ?_
                  case runZ15 => (intro w9 hS9; obtain ⟨g0, g1, g2, g3⟩ := (And.intro (cell_keep HG0.out hS9) (And.intro (cell_keep HG1.out hS9) (And.intro (cell_keep HG2.out hS9) (cell_keep HG3.out hS9)))); go_simp; try exact rfl)
                  try simp only [Act.put, List.setIfInBounds_toArray, List.set_cons_zero, List.set_cons_succ]
                  refine wpAnyH_takeL (i := 16) (v := ?vZ16) rfl (by kernel_rfl) (by kernel_rfl) (by kernel_rfl) (fun _ _ _ h => h) (Or.inl ⟨by kernel_rfl, ?runZ16⟩) hHeld ?_
                  case runZ16 => (intro w9 hS9; obtain ⟨g0, g1, g2, g3⟩ := (And.intro (cell_keep HG0.out hS9) (And.intro (cell_keep HG1.out hS9) (And.intro (cell_keep HG2.out hS9) (cell_keep HG3.out hS9)))); go_simp; try exact rfl)
                  try simp only [Act.put, List.setIfInBounds_toArray, List.set_cons_zero, List.set_cons_succ]
                  refine wpAnyH_takeL (i := 17) (v := ?vZ17) rfl (by kernel_rfl) (by kernel_rfl) (by kernel_rfl) (fun _ _ _ h => h) (Or.inl ⟨by kernel_rfl, ?runZ17⟩) hHeld ?_
                  case runZ17 => (intro w9 hS9; obtain ⟨g0, g1, g2, g3⟩ := (And.intro (cell_keep HG0.out hS9) (And.intro (cell_keep HG1.out hS9) (And.intro (cell_keep HG2.out hS9) (cell_keep HG3.out hS9)))); go_simp; try exact rfl)
                  try simp only [Act.put, List.setIfInBounds_toArray, List.set_cons_zero, List.set_cons_succ]
                  refine wpAnyH_takeL (i := 18) (v := ?vZ18) rfl (by kernel_rfl) (by kernel_rfl) (by kernel_rfl) (fun _ _ _ h => h) (Or.inl ⟨by kernel_rfl, ?runZ18⟩) hHeld ?_
                  case runZ18 => (intro w9 hS9; obtain ⟨g0, g1, g2, g3⟩ := (And.intro (cell_keep HG0.out hS9) (And.intro (cell_keep HG1.out hS9) (And.intro (cell_keep HG2.out hS9) (cell_keep HG3.out hS9)))); go_simp; try exact rfl)
                  try simp only [Act.put, List.setIfInBounds_toArray, List.set_cons_zero, List.set_cons_succ]
                  refine wpAnyH_takeL (i := 19) (v := .bool false) rfl (by kernel_rfl) (by kernel_rfl) (by kernel_rfl) (fun _ _ _ h => h) (Or.inl ⟨by kernel_rfl, ?runZ19⟩) hHeld ?_
                  case runZ19 => (intro w9 hS9; obtain ⟨g0, g1, g2, g3⟩ := (And.intro (cell_keep HG0.out hS9) (And.intro (cell_keep HG1.out hS9) (And.intro (cell_keep HG2.out hS9) (cell_keep HG3.out hS9)))); go_simp; first | done | exact rfl | (simp [*]; done) | (simp; omega))
                  try simp only [Act.put, List.setIfInBounds_toArray, List.set_cons_zero, List.set_cons_succ]
                  refine wpAnyH_takeL (i := 20) (v := .bool false) rfl (by kernel_rfl) (by kernel_rfl) (by kernel_rfl) (fun _ _ _ h => h) (Or.inl ⟨by kernel_rfl, ?runZ20⟩) hHeld ?_
                  case runZ20 => (intro w9 hS9; obtain ⟨g0, g1, g2, g3⟩ := (And.intro (cell_keep HG0.out hS9) (And.intro (cell_keep HG1.out hS9) (And.intro (cell_keep HG2.out hS9) (cell_keep HG3.out hS9)))); go_simp; first | done | exact rfl | (simp [*]; done) | (simp; omega))
                  try simp only [Act.put, List.setIfInBounds_toArray, List.set_cons_zero, List.set_cons_succ]
                  refine wpAnyH_takeL (i := 21) (v := ?vZ21) rfl (by kernel_rfl) (by kernel_rfl) (by kernel_rfl) (fun _ _ _ h => h) (Or.inl ⟨by kernel_rfl, ?runZ21⟩) hHeld ?_
                  case runZ21 => (intro w9 hS9; obtain ⟨g0, g1, g2, g3⟩ := (And.intro (cell_keep HG0.out hS9) (And.intro (cell_keep HG1.out hS9) (And.intro (cell_keep HG2.out hS9) (cell_keep HG3.out hS9)))); go_simp; try exact rfl)
                  try simp only [Act.put, List.setIfInBounds_toArray, List.set_cons_zero, List.set_cons_succ]
                  refine wpAnyH_takeL (i := 22) (v := ?vZ22) rfl (by kernel_rfl) (by kernel_rfl) (by kernel_rfl) (fun _ _ _ h => h) (Or.inl ⟨by kernel_rfl, ?runZ22⟩) hHeld ?_
                  case runZ22 => (intro w9 hS9; obtain ⟨g0, g1, g2, g3⟩ := (And.intro (cell_keep HG0.out hS9) (And.intro (cell_keep HG1.out hS9) (And.intro (cell_keep HG2.out hS9) (cell_keep HG3.out hS9)))); go_simp; try exact rfl)
                  try simp only [Act.put, List.setIfInBounds_toArray, List.set_cons_zero, List.set_cons_succ]
                  refine wpAnyH_takeL (i := 23) (v := .bool false) rfl (by kernel_rfl) (by kernel_rfl) (by kernel_rfl) (fun _ _ _ h => h) (Or.inl ⟨by kernel_rfl, ?runZ23⟩) hHeld ?_
                  case runZ23 => (intro w9 hS9; obtain ⟨g0, g1, g2, g3⟩ := (And.intro (cell_keep HG0.out hS9) (And.intro (cell_keep HG1.out hS9) (And.intro (cell_keep HG2.out hS9) (cell_keep HG3.out hS9)))); go_simp; first | done | exact rfl | omega | (simp [*]; done) | (simp; omega))
                  try simp only [Act.put, List.setIfInBounds_toArray, List.set_cons_zero, List.set_cons_succ]
                  refine wpAnyH_takeL (i := 24) (v := ?vZ24) rfl (by kernel_rfl) (by kernel_rfl) (by kernel_rfl) (fun _ _ _ h => h) (Or.inl ⟨by kernel_rfl, ?runZ24⟩) hHeld ?_
                  case runZ24 => (intro w9 hS9; obtain ⟨g0, g1, g2, g3⟩ := (And.intro (cell_keep HG0.out hS9) (And.intro (cell_keep HG1.out hS9) (And.intro (cell_keep HG2.out hS9) (cell_keep HG3.out hS9)))); go_simp; try exact rfl)
                  try simp only [Act.put, List.setIfInBounds_toArray, List.set_cons_zero, List.set_cons_succ]
                  refine wpAnyH_takeL (i := 25) (v := undef) rfl (by kernel_rfl) (by kernel_rfl) (by kernel_rfl) (fun _ _ _ h => h) (Or.inr ⟨by kernel_rfl, rfl⟩) hHeld ?_
                  try simp only [Act.put, List.setIfInBounds_toArray, List.set_cons_zero, List.set_cons_succ]
                  refine wpAnyH_takeL (i := 26) (v := undef) rfl (by kernel_rfl) (by kernel_rfl) (by kernel_rfl) (fun _ _ _ h => h) (Or.inr ⟨by kernel_rfl, rfl⟩) hHeld ?_
                  try simp only [Act.put, List.setIfInBounds_toArray, List.set_cons_zero, List.set_cons_succ]
                  refine wpAnyH_takeL (i := 27) (v := undef) rfl (by kernel_rfl) (by kernel_rfl) (by kernel_rfl) (fun _ _ _ h => h) (Or.inr ⟨by kernel_rfl, rfl⟩) hHeld ?_
                  try simp only [Act.put, List.setIfInBounds_toArray, List.set_cons_zero, List.set_cons_succ]
                  refine wpAnyH_takeL (i := 28) (v := undef) rfl (by kernel_rfl) (by kernel_rfl) (by kernel_rfl) (fun _ _ _ h => h) (Or.inr ⟨by kernel_rfl, rfl⟩) hHeld ?_
                  try simp only [Act.put, List.setIfInBounds_toArray, List.set_cons_zero, List.set_cons_succ]
                  refine wpAnyH_takeL (i := 29) (v := undef) rfl (by kernel_rfl) (by kernel_rfl) (by kernel_rfl) (fun _ _ _ h => h) (Or.inr ⟨by kernel_rfl, rfl⟩) hHeld ?_
                  try simp only [Act.put, List.setIfInBounds_toArray, List.set_cons_zero, List.set_cons_succ]
                  refine wpAnyH_takeL (i := 30) (v := undef) rfl (by kernel_rfl) (by kernel_rfl) (by kernel_rfl) (fun _ _ _ h => h) (Or.inr ⟨by kernel_rfl, rfl⟩) hHeld ?_
                  try simp only [Act.put, List.setIfInBounds_toArray, List.set_cons_zero, List.set_cons_succ]
                  refine wpAnyH_takeL (i := 31) (v := undef) rfl (by kernel_rfl) (by kernel_rfl) (by kernel_rfl) (fun _ _ _ h => h) (Or.inr ⟨by kernel_rfl, rfl⟩) hHeld ?_
                  try simp only [Act.put, List.setIfInBounds_toArray, List.set_cons_zero, List.set_cons_succ]
                  refine wpAnyH_takeL (i := 32) (v := undef) rfl (by kernel_rfl) (by kernel_rfl) (by kernel_rfl) (fun _ _ _ h => h) (Or.inr ⟨by kernel_rfl, rfl⟩) hHeld ?_
                  try simp only [Act.put, List.setIfInBounds_toArray, List.set_cons_zero, List.set_cons_succ]
                  refine wpAnyH_takeL (i := 33) (v := undef) rfl (by kernel_rfl) (by kernel_rfl) (by kernel_rfl) (fun _ _ _ h => h) (Or.inr ⟨by kernel_rfl, rfl⟩) hHeld ?_
                  try simp only [Act.put, List.setIfInBounds_toArray, List.set_cons_zero, List.set_cons_succ]
                  refine wpAnyH_takeL (i := 34) (v := undef) rfl (by kernel_rfl) (by kernel_rfl) (by kernel_rfl) (fun _ _ _ h => h) (Or.inr ⟨by kernel_rfl, rfl⟩) hHeld ?_
                  try simp only [Act.put, List.setIfInBounds_toArray, List.set_cons_zero, List.set_cons_succ]
                  refine wpAnyH_takeL (i := 35) (v := undef) rfl (by kernel_rfl) (by kernel_rfl) (by kernel_rfl) (fun _ _ _ h => h) (Or.inr ⟨by kernel_rfl, rfl⟩) hHeld ?_
                  try simp only [Act.put, List.setIfInBounds_toArray, List.set_cons_zero, List.set_cons_succ]
                  refine wpAnyH_takeL (i := 36) (v := undef) rfl (by kernel_rfl) (by kernel_rfl) (by kernel_rfl) (fun _ _ _ h => h) (Or.inr ⟨by kernel_rfl, rfl⟩) hHeld ?_
                  try simp only [Act.put, List.setIfInBounds_toArray, List.set_cons_zero, List.set_cons_succ]
                  refine wpAnyH_takeL (i := 37) (v := undef) rfl (by kernel_rfl) (by kernel_rfl) (by kernel_rfl) (fun _ _ _ h => h) (Or.inr ⟨by kernel_rfl, rfl⟩) hHeld ?_
                  try simp only [Act.put, List.setIfInBounds_toArray, List.set_cons_zero, List.set_cons_succ]
                  refine wpAnyH_takeL (i := 38) (v := undef) rfl (by kernel_rfl) (by kernel_rfl) (by kernel_rfl) (fun _ _ _ h => h) (Or.inr ⟨by kernel_rfl, rfl⟩) hHeld ?_
                  try simp only [Act.put, List.setIfInBounds_toArray, List.set_cons_zero, List.set_cons_succ]
                  refine wpAnyH_takeL (i := 39) (v := undef) rfl (by kernel_rfl) (by kernel_rfl) (by kernel_rfl) (fun _ _ _ h => h) (Or.inr ⟨by kernel_rfl, rfl⟩) hHeld ?_
                  try simp only [Act.put, List.setIfInBounds_toArray, List.set_cons_zero, List.set_cons_succ]
                  refine wpAnyH_takeL (i := 40) (v := undef) rfl (by kernel_rfl) (by kernel_rfl) (by kernel_rfl) (fun _ _ _ h => h) (Or.inr ⟨by kernel_rfl, rfl⟩) hHeld ?_
                  try simp only [Act.put, List.setIfInBounds_toArray, List.set_cons_zero, List.set_cons_succ]
                  refine wpAnyH_takeL (i := 41) (v := undef) rfl (by kernel_rfl) (by kernel_rfl) (by kernel_rfl) (fun _ _ _ h => h) (Or.inr ⟨by kernel_rfl, rfl⟩) hHeld ?_
                  try simp only [Act.put, List.setIfInBounds_toArray, List.set_cons_zero, List.set_cons_succ]
                  refine wpAnyH_takeL (i := 42) (v := undef) rfl (by kernel_rfl) (by kernel_rfl) (by kernel_rfl) (fun _ _ _ h => h) (Or.inr ⟨by kernel_rfl, rfl⟩) hHeld ?_
                  try simp only [Act.put, List.setIfInBounds_toArray, List.set_cons_zero, List.set_cons_succ]
                  refine wpAnyH_takeL (i := 43) (v := undef) rfl (by kernel_rfl) (by kernel_rfl) (by kernel_rfl) (fun _ _ _ h => h) (Or.inr ⟨by kernel_rfl, rfl⟩) hHeld ?_
                  try simp only [Act.put, List.setIfInBounds_toArray, List.set_cons_zero, List.set_cons_succ]
                  refine wpAnyH_takeL (i := 44) (v := .bool false) rfl (by kernel_rfl) (by kernel_rfl) (by kernel_rfl) (fun _ _ _ h => h) (Or.inl ⟨by kernel_rfl, ?runZ44⟩) hHeld ?_
                  case runZ44 => (intro w9 hS9; obtain ⟨g0, g1, g2, g3⟩ := (And.intro (cell_keep HG0.out hS9) (And.intro (cell_keep HG1.out hS9) (And.intro (cell_keep HG2.out hS9) (cell_keep HG3.out hS9)))); go_simp; first | done | exact rfl | (simp [*]; done) | (simp; omega))
                  try simp only [Act.put, List.setIfInBounds_toArray, List.set_cons_zero, List.set_cons_succ]
                  refine wpAnyH_takeL (i := 45) (v := .bool false) rfl (by kernel_rfl) (by kernel_rfl) (by kernel_rfl) (fun _ _ _ h => h) (Or.inl ⟨by kernel_rfl, ?runZ45⟩) hHeld ?_
                  case runZ45 => (intro w9 hS9; obtain ⟨g0, g1, g2, g3⟩ := (And.intro (cell_keep HG0.out hS9) (And.intro (cell_keep HG1.out hS9) (And.intro (cell_keep HG2.out hS9) (cell_keep HG3.out hS9)))); go_simp; first | done | exact rfl | (simp [*]; done) | (simp; omega))
                  try simp only [Act.put, List.setIfInBounds_toArray, List.set_cons_zero, List.set_cons_succ]
                  refine wpAnyH_done (by kernel_rfl) ?_ _
                  clear hHeld
                  go_wp2_with fail
                  go_roundw
                  case rel => exact ⟨1, by omega, by go_num, by rw [show sumL ([] : List E) = sumL (out.take 0) from rfl, ← IntWalk.i64_left, hw1], HKX.out.drew⟩
                  case measure => simp [intOf]; omega
                · have hq5 : ¬ f ≤ f' + n' := by have := hgap (by omega); omega
                  have hq6 : IntKind.i64.wrap ((k : Int) - 1) = ((k - 1 : Nat) : Int) := (IntWalk.i64_in _ (by omega)).trans (by omega)
                  have hq7 : (0 : Int) < (k : Int) := by omega
                  have hq8 : k - 1 < out.length := by omega
                  go_wp2_with fail
                  refine wp_region_held_drew (S := fun w' => Keep [] wr w') (by kernel_rfl) ((Keep.refl [] wr).drew) (fun hHeld => ?_)
                  refine wpAnyH_takeL (i := 0) (v := ?vQ0) rfl (by kernel_rfl) (by kernel_rfl) (by kernel_rfl) (fun _ _ _ h => h) (Or.inl ⟨by kernel_rfl, ?runQ0⟩) hHeld ?_
                  case runQ0 => (intro w9 hS9; obtain ⟨g0, g1, g2, g3⟩ := (And.intro (cell_keep HG0.out hS9) (And.intro (cell_keep HG1.out hS9) (And.intro (cell_keep HG2.out hS9) (cell_keep HG3.out hS9)))); go_simp; try exact rfl)
                  try simp only [Act.put, List.setIfInBounds_toArray, List.set_cons_zero, List.set_cons_succ]
                  refine wpAnyH_takeL (i := 1) (v := ?vQ1) rfl (by kernel_rfl) (by kernel_rfl) (by kernel_rfl) (fun _ _ _ h => h) (Or.inl ⟨by kernel_rfl, ?runQ1⟩) hHeld ?_
                  case runQ1 => (intro w9 hS9; obtain ⟨g0, g1, g2, g3⟩ := (And.intro (cell_keep HG0.out hS9) (And.intro (cell_keep HG1.out hS9) (And.intro (cell_keep HG2.out hS9) (cell_keep HG3.out hS9)))); go_simp; try exact rfl)
                  try simp only [Act.put, List.setIfInBounds_toArray, List.set_cons_zero, List.set_cons_succ]
                  refine wpAnyH_takeL (i := 2) (v := ?vQ2) rfl (by kernel_rfl) (by kernel_rfl) (by kernel_rfl) (fun _ _ _ h => h) (Or.inl ⟨by kernel_rfl, ?runQ2⟩) hHeld ?_
                  case runQ2 => (intro w9 hS9; obtain ⟨g0, g1, g2, g3⟩ := (And.intro (cell_keep HG0.out hS9) (And.intro (cell_keep HG1.out hS9) (And.intro (cell_keep HG2.out hS9) (cell_keep HG3.out hS9)))); go_simp; try exact rfl)
                  try simp only [Act.put, List.setIfInBounds_toArray, List.set_cons_zero, List.set_cons_succ]
                  refine wpAnyH_takeL (i := 3) (v := ?vQ3) rfl (by kernel_rfl) (by kernel_rfl) (by kernel_rfl) (fun _ _ _ h => h) (Or.inl ⟨by kernel_rfl, ?runQ3⟩) hHeld ?_
                  case runQ3 => (intro w9 hS9; obtain ⟨g0, g1, g2, g3⟩ := (And.intro (cell_keep HG0.out hS9) (And.intro (cell_keep HG1.out hS9) (And.intro (cell_keep HG2.out hS9) (cell_keep HG3.out hS9)))); go_simp; try exact rfl)
                  try simp only [Act.put, List.setIfInBounds_toArray, List.set_cons_zero, List.set_cons_succ]
                  refine wpAnyH_takeL (i := 4) (v := ?vQ4) rfl (by kernel_rfl) (by kernel_rfl) (by kernel_rfl) (fun _ _ _ h => h) (Or.inl ⟨by kernel_rfl, ?runQ4⟩) hHeld ?_
                  case runQ4 => (intro w9 hS9; obtain ⟨g0, g1, g2, g3⟩ := (And.intro (cell_keep HG0.out hS9) (And.intro (cell_keep HG1.out hS9) (And.intro (cell_keep HG2.out hS9) (cell_keep HG3.out hS9)))); go_simp; try exact rfl)
                  try simp only [Act.put, List.setIfInBounds_toArray, List.set_cons_zero, List.set_cons_succ]
                  refine wpAnyH_takeL (i := 5) (v := .bool false) rfl (by kernel_rfl) (by kernel_rfl) (by kernel_rfl) (fun _ _ _ h => h) (Or.inl ⟨by kernel_rfl, ?runQ5⟩) hHeld ?_
                  case runQ5 => (intro w9 hS9; obtain ⟨g0, g1, g2, g3⟩ := (And.intro (cell_keep HG0.out hS9) (And.intro (cell_keep HG1.out hS9) (And.intro (cell_keep HG2.out hS9) (cell_keep HG3.out hS9)))); go_simp; first | done | exact rfl | (simp [*]; done) | (simp; omega))
                  try simp only [Act.put, List.setIfInBounds_toArray, List.set_cons_zero, List.set_cons_succ]
                  refine wpAnyH_takeL (i := 6) (v := ?vQ6) rfl (by kernel_rfl) (by kernel_rfl) (by kernel_rfl) (fun _ _ _ h => h) (Or.inl ⟨by kernel_rfl, ?runQ6⟩) hHeld ?_
                  case runQ6 => (intro w9 hS9; obtain ⟨g0, g1, g2, g3⟩ := (And.intro (cell_keep HG0.out hS9) (And.intro (cell_keep HG1.out hS9) (And.intro (cell_keep HG2.out hS9) (cell_keep HG3.out hS9)))); go_simp; try exact rfl)
                  try simp only [Act.put, List.setIfInBounds_toArray, List.set_cons_zero, List.set_cons_succ]
                  refine wpAnyH_takeL (i := 7) (v := ?vQ7) rfl (by kernel_rfl) (by kernel_rfl) (by kernel_rfl) (fun _ _ _ h => h) (Or.inl ⟨by kernel_rfl, ?runQ7⟩) hHeld ?_
                  case runQ7 => (intro w9 hS9; obtain ⟨g0, g1, g2, g3⟩ := (And.intro (cell_keep HG0.out hS9) (And.intro (cell_keep HG1.out hS9) (And.intro (cell_keep HG2.out hS9) (cell_keep HG3.out hS9)))); go_simp; try exact rfl)
                  try simp only [Act.put, List.setIfInBounds_toArray, List.set_cons_zero, List.set_cons_succ]
                  refine wpAnyH_takeL (i := 8) (v := ?vQ8) rfl (by kernel_rfl) (by kernel_rfl) (by kernel_rfl) (fun _ _ _ h => h) (Or.inl ⟨by kernel_rfl, ?runQ8⟩) hHeld ?_
                  case runQ8 => (intro w9 hS9; obtain ⟨g0, g1, g2, g3⟩ := (And.intro (cell_keep HG0.out hS9) (And.intro (cell_keep HG1.out hS9) (And.intro (cell_keep HG2.out hS9) (cell_keep HG3.out hS9)))); go_simp; try exact rfl)
                  try simp only [Act.put, List.setIfInBounds_toArray, List.set_cons_zero, List.set_cons_succ]
                  refine wpAnyH_takeL (i := 9) (v := ?vQ9) rfl (by kernel_rfl) (by kernel_rfl) (by kernel_rfl) (fun _ _ _ h => h) (Or.inl ⟨by kernel_rfl, ?runQ9⟩) hHeld ?_
                  case runQ9 => (intro w9 hS9; obtain ⟨g0, g1, g2, g3⟩ := (And.intro (cell_keep HG0.out hS9) (And.intro (cell_keep HG1.out hS9) (And.intro (cell_keep HG2.out hS9) (cell_keep HG3.out hS9)))); go_simp; try exact rfl)
                  try simp only [Act.put, List.setIfInBounds_toArray, List.set_cons_zero, List.set_cons_succ]
                  refine wpAnyH_takeL (i := 10) (v := ?vQ10) rfl (by kernel_rfl) (by kernel_rfl) (by kernel_rfl) (fun _ _ _ h => h) (Or.inl ⟨by kernel_rfl, ?runQ10⟩) hHeld ?_
                  case runQ10 => (intro w9 hS9; obtain ⟨g0, g1, g2, g3⟩ := (And.intro (cell_keep HG0.out hS9) (And.intro (cell_keep HG1.out hS9) (And.intro (cell_keep HG2.out hS9) (cell_keep HG3.out hS9)))); go_simp; try exact rfl)
                  try simp only [Act.put, List.setIfInBounds_toArray, List.set_cons_zero, List.set_cons_succ]
                  refine wpAnyH_takeL (i := 11) (v := ?vQ11) rfl (by kernel_rfl) (by kernel_rfl) (by kernel_rfl) (fun _ _ _ h => h) (Or.inl ⟨by kernel_rfl, ?runQ11⟩) hHeld ?_
                  case runQ11 => (intro w9 hS9; obtain ⟨g0, g1, g2, g3⟩ := (And.intro (cell_keep HG0.out hS9) (And.intro (cell_keep HG1.out hS9) (And.intro (cell_keep HG2.out hS9) (cell_keep HG3.out hS9)))); go_simp; try exact rfl)
                  try simp only [Act.put, List.setIfInBounds_toArray, List.set_cons_zero, List.set_cons_succ]
                  refine wpAnyH_takeL (i := 12) (v := ?vQ12) rfl (by kernel_rfl) (by kernel_rfl) (by kernel_rfl) (fun _ _ _ h => h) (Or.inl ⟨by kernel_rfl, ?runQ12⟩) hHeld ?_
                  case runQ12 => (intro w9 hS9; obtain ⟨g0, g1, g2, g3⟩ := (And.intro (cell_keep HG0.out hS9) (And.intro (cell_keep HG1.out hS9) (And.intro (cell_keep HG2.out hS9) (cell_keep HG3.out hS9)))); go_simp; try exact rfl)
                  try simp only [Act.put, List.setIfInBounds_toArray, List.set_cons_zero, List.set_cons_succ]
                  refine wpAnyH_takeL (i := 13) (v := ?vQ13) rfl (by kernel_rfl) (by kernel_rfl) (by kernel_rfl) (fun _ _ _ h => h) (Or.inl ⟨by kernel_rfl, ?runQ13⟩) hHeld ?_
                  case runQ13 => (intro w9 hS9; obtain ⟨g0, g1, g2, g3⟩ := (And.intro (cell_keep HG0.out hS9) (And.intro (cell_keep HG1.out hS9) (And.intro (cell_keep HG2.out hS9) (cell_keep HG3.out hS9)))); go_simp; try exact rfl)
                  try simp only [Act.put, List.setIfInBounds_toArray, List.set_cons_zero, List.set_cons_succ]
                  refine wpAnyH_takeL (i := 14) (v := ?vQ14) rfl (by kernel_rfl) (by kernel_rfl) (by kernel_rfl) (fun _ _ _ h => h) (Or.inl ⟨by kernel_rfl, ?runQ14⟩) hHeld ?_
                  case runQ14 => (intro w9 hS9; obtain ⟨g0, g1, g2, g3⟩ := (And.intro (cell_keep HG0.out hS9) (And.intro (cell_keep HG1.out hS9) (And.intro (cell_keep HG2.out hS9) (cell_keep HG3.out hS9)))); go_simp; try exact rfl)
                  try simp only [Act.put, List.setIfInBounds_toArray, List.set_cons_zero, List.set_cons_succ]
                  refine wpAnyH_takeL (i := 15) (v := ?vQ15) rfl (by kernel_rfl) (by kernel_rfl) (by kernel_rfl) (fun _ _ _ h => h) (Or.inl ⟨by kernel_rfl, ?runQ15⟩) hHeld ?_
                  case runQ15 => (intro w9 hS9; obtain ⟨g0, g1, g2, g3⟩ := (And.intro (cell_keep HG0.out hS9) (And.intro (cell_keep HG1.out hS9) (And.intro (cell_keep HG2.out hS9) (cell_keep HG3.out hS9)))); go_simp; try exact rfl)
                  try simp only [Act.put, List.setIfInBounds_toArray, List.set_cons_zero, List.set_cons_succ]
                  refine wpAnyH_takeL (i := 16) (v := ?vQ16) rfl (by kernel_rfl) (by kernel_rfl) (by kernel_rfl) (fun _ _ _ h => h) (Or.inl ⟨by kernel_rfl, ?runQ16⟩) hHeld ?_
                  case runQ16 => (intro w9 hS9; obtain ⟨g0, g1, g2, g3⟩ := (And.intro (cell_keep HG0.out hS9) (And.intro (cell_keep HG1.out hS9) (And.intro (cell_keep HG2.out hS9) (cell_keep HG3.out hS9)))); go_simp; try exact rfl)
                  try simp only [Act.put, List.setIfInBounds_toArray, List.set_cons_zero, List.set_cons_succ]
                  refine wpAnyH_takeL (i := 17) (v := ?vQ17) rfl (by kernel_rfl) (by kernel_rfl) (by kernel_rfl) (fun _ _ _ h => h) (Or.inl ⟨by kernel_rfl, ?runQ17⟩) hHeld ?_
                  case runQ17 => (intro w9 hS9; obtain ⟨g0, g1, g2, g3⟩ := (And.intro (cell_keep HG0.out hS9) (And.intro (cell_keep HG1.out hS9) (And.intro (cell_keep HG2.out hS9) (cell_keep HG3.out hS9)))); go_simp; try exact rfl)
                  try simp only [Act.put, List.setIfInBounds_toArray, List.set_cons_zero, List.set_cons_succ]
                  refine wpAnyH_takeL (i := 18) (v := ?vQ18) rfl (by kernel_rfl) (by kernel_rfl) (by kernel_rfl) (fun _ _ _ h => h) (Or.inl ⟨by kernel_rfl, ?runQ18⟩) hHeld ?_
                  case runQ18 => (intro w9 hS9; obtain ⟨g0, g1, g2, g3⟩ := (And.intro (cell_keep HG0.out hS9) (And.intro (cell_keep HG1.out hS9) (And.intro (cell_keep HG2.out hS9) (cell_keep HG3.out hS9)))); go_simp; try exact rfl)
                  try simp only [Act.put, List.setIfInBounds_toArray, List.set_cons_zero, List.set_cons_succ]
                  refine wpAnyH_takeL (i := 19) (v := .bool false) rfl (by kernel_rfl) (by kernel_rfl) (by kernel_rfl) (fun _ _ _ h => h) (Or.inl ⟨by kernel_rfl, ?runQ19⟩) hHeld ?_
                  case runQ19 => (intro w9 hS9; obtain ⟨g0, g1, g2, g3⟩ := (And.intro (cell_keep HG0.out hS9) (And.intro (cell_keep HG1.out hS9) (And.intro (cell_keep HG2.out hS9) (cell_keep HG3.out hS9)))); go_simp; first | done | exact rfl | (simp [*]; done) | (simp; omega))
                  try simp only [Act.put, List.setIfInBounds_toArray, List.set_cons_zero, List.set_cons_succ]
                  refine wpAnyH_takeL (i := 20) (v := .bool false) rfl (by kernel_rfl) (by kernel_rfl) (by kernel_rfl) (fun _ _ _ h => h) (Or.inl ⟨by kernel_rfl, ?runQ20⟩) hHeld ?_
                  case runQ20 => (intro w9 hS9; obtain ⟨g0, g1, g2, g3⟩ := (And.intro (cell_keep HG0.out hS9) (And.intro (cell_keep HG1.out hS9) (And.intro (cell_keep HG2.out hS9) (cell_keep HG3.out hS9)))); go_simp; first | done | exact rfl | (simp [*]; done) | (simp; omega))
                  try simp only [Act.put, List.setIfInBounds_toArray, List.set_cons_zero, List.set_cons_succ]
                  refine wpAnyH_takeL (i := 21) (v := ?vQ21) rfl (by kernel_rfl) (by kernel_rfl) (by kernel_rfl) (fun _ _ _ h => h) (Or.inl ⟨by kernel_rfl, ?runQ21⟩) hHeld ?_
                  case runQ21 => (intro w9 hS9; obtain ⟨g0, g1, g2, g3⟩ := (And.intro (cell_keep HG0.out hS9) (And.intro (cell_keep HG1.out hS9) (And.intro (cell_keep HG2.out hS9) (cell_keep HG3.out hS9)))); go_simp; try exact rfl)
                  try simp only [Act.put, List.setIfInBounds_toArray, List.set_cons_zero, List.set_cons_succ]
                  refine wpAnyH_takeL (i := 22) (v := ?vQ22) rfl (by kernel_rfl) (by kernel_rfl) (by kernel_rfl) (fun _ _ _ h => h) (Or.inl ⟨by kernel_rfl, ?runQ22⟩) hHeld ?_
                  case runQ22 => (intro w9 hS9; obtain ⟨g0, g1, g2, g3⟩ := (And.intro (cell_keep HG0.out hS9) (And.intro (cell_keep HG1.out hS9) (And.intro (cell_keep HG2.out hS9) (cell_keep HG3.out hS9)))); go_simp; try exact rfl)
                  try simp only [Act.put, List.setIfInBounds_toArray, List.set_cons_zero, List.set_cons_succ]
                  refine wpAnyH_takeL (i := 23) (v := .bool true) rfl (by kernel_rfl) (by kernel_rfl) (by kernel_rfl) (fun _ _ _ h => h) (Or.inl ⟨by kernel_rfl, ?runQ23⟩) hHeld ?_
                  case runQ23 => (intro w9 hS9; obtain ⟨g0, g1, g2, g3⟩ := (And.intro (cell_keep HG0.out hS9) (And.intro (cell_keep HG1.out hS9) (And.intro (cell_keep HG2.out hS9) (cell_keep HG3.out hS9)))); go_simp; first | done | exact rfl | omega | (simp [*]; done) | (simp; omega))
                  try simp only [Act.put, List.setIfInBounds_toArray, List.set_cons_zero, List.set_cons_succ]
                  refine wpAnyH_takeL (i := 24) (v := ?vQ24) rfl (by kernel_rfl) (by kernel_rfl) (by kernel_rfl) (fun _ _ _ h => h) (Or.inl ⟨by kernel_rfl, ?runQ24⟩) hHeld ?_
                  case runQ24 => (intro w9 hS9; obtain ⟨g0, g1, g2, g3⟩ := (And.intro (cell_keep HG0.out hS9) (And.intro (cell_keep HG1.out hS9) (And.intro (cell_keep HG2.out hS9) (cell_keep HG3.out hS9)))); go_simp; try exact rfl)
                  try simp only [Act.put, List.setIfInBounds_toArray, List.set_cons_zero, List.set_cons_succ]
                  refine wpAnyH_takeL (i := 25) (v := ?vQ25) rfl (by kernel_rfl) (by kernel_rfl) (by kernel_rfl) (fun _ _ _ h => h) (Or.inl ⟨by kernel_rfl, ?runQ25⟩) hHeld ?_
                  case runQ25 => (intro w9 hS9; obtain ⟨g0, g1, g2, g3⟩ := (And.intro (cell_keep HG0.out hS9) (And.intro (cell_keep HG1.out hS9) (And.intro (cell_keep HG2.out hS9) (cell_keep HG3.out hS9)))); go_simp; try exact rfl)
                  try simp only [Act.put, List.setIfInBounds_toArray, List.set_cons_zero, List.set_cons_succ]
                  refine wpAnyH_takeL (i := 26) (v := ?vQ26) rfl (by kernel_rfl) (by kernel_rfl) (by kernel_rfl) (fun _ _ _ h => h) (Or.inl ⟨by kernel_rfl, ?runQ26⟩) hHeld ?_
                  case runQ26 => (intro w9 hS9; obtain ⟨g0, g1, g2, g3⟩ := (And.intro (cell_keep HG0.out hS9) (And.intro (cell_keep HG1.out hS9) (And.intro (cell_keep HG2.out hS9) (cell_keep HG3.out hS9)))); go_simp; try exact rfl)
                  try simp only [Act.put, List.setIfInBounds_toArray, List.set_cons_zero, List.set_cons_succ]
                  refine wpAnyH_takeL (i := 27) (v := ?vQ27) rfl (by kernel_rfl) (by kernel_rfl) (by kernel_rfl) (fun _ _ _ h => h) (Or.inl ⟨by kernel_rfl, ?runQ27⟩) hHeld ?_
                  case runQ27 => (intro w9 hS9; obtain ⟨g0, g1, g2, g3⟩ := (And.intro (cell_keep HG0.out hS9) (And.intro (cell_keep HG1.out hS9) (And.intro (cell_keep HG2.out hS9) (cell_keep HG3.out hS9)))); go_simp; try exact rfl)
                  try simp only [Act.put, List.setIfInBounds_toArray, List.set_cons_zero, List.set_cons_succ]
                  refine wpAnyH_takeL (i := 28) (v := ?vQ28) rfl (by kernel_rfl) (by kernel_rfl) (by kernel_rfl) (fun _ _ _ h => h) (Or.inl ⟨by kernel_rfl, ?runQ28⟩) hHeld ?_
                  case runQ28 => (intro w9 hS9; obtain ⟨g0, g1, g2, g3⟩ := (And.intro (cell_keep HG0.out hS9) (And.intro (cell_keep HG1.out hS9) (And.intro (cell_keep HG2.out hS9) (cell_keep HG3.out hS9)))); go_simp; try exact rfl)
                  try simp only [Act.put, List.setIfInBounds_toArray, List.set_cons_zero, List.set_cons_succ]
                  refine wpAnyH_takeL (i := 29) (v := ?vQ29) rfl (by kernel_rfl) (by kernel_rfl) (by kernel_rfl) (fun _ _ _ h => h) (Or.inl ⟨by kernel_rfl, ?runQ29⟩) hHeld ?_
                  case runQ29 => (intro w9 hS9; obtain ⟨g0, g1, g2, g3⟩ := (And.intro (cell_keep HG0.out hS9) (And.intro (cell_keep HG1.out hS9) (And.intro (cell_keep HG2.out hS9) (cell_keep HG3.out hS9)))); go_simp; try exact rfl)
                  try simp only [Act.put, List.setIfInBounds_toArray, List.set_cons_zero, List.set_cons_succ]
                  refine wpAnyH_takeL (i := 30) (v := ?vQ30) rfl (by kernel_rfl) (by kernel_rfl) (by kernel_rfl) (fun _ _ _ h => h) (Or.inl ⟨by kernel_rfl, ?runQ30⟩) hHeld ?_
                  case runQ30 => (intro w9 hS9; obtain ⟨g0, g1, g2, g3⟩ := (And.intro (cell_keep HG0.out hS9) (And.intro (cell_keep HG1.out hS9) (And.intro (cell_keep HG2.out hS9) (cell_keep HG3.out hS9)))); go_simp; try exact rfl)
                  try simp only [Act.put, List.setIfInBounds_toArray, List.set_cons_zero, List.set_cons_succ]
                  refine wpAnyH_takeL (i := 31) (v := ?vQ31) rfl (by kernel_rfl) (by kernel_rfl) (by kernel_rfl) (fun _ _ _ h => h) (Or.inl ⟨by kernel_rfl, ?runQ31⟩) hHeld ?_
                  case runQ31 => (intro w9 hS9; obtain ⟨g0, g1, g2, g3⟩ := (And.intro (cell_keep HG0.out hS9) (And.intro (cell_keep HG1.out hS9) (And.intro (cell_keep HG2.out hS9) (cell_keep HG3.out hS9)))); go_simp; try exact rfl)
                  try simp only [Act.put, List.setIfInBounds_toArray, List.set_cons_zero, List.set_cons_succ]
                  refine wpAnyH_takeL (i := 32) (v := ?vQ32) rfl (by kernel_rfl) (by kernel_rfl) (by kernel_rfl) (fun _ _ _ h => h) (Or.inl ⟨by kernel_rfl, ?runQ32⟩) hHeld ?_
                  case runQ32 => (intro w9 hS9; obtain ⟨g0, g1, g2, g3⟩ := (And.intro (cell_keep HG0.out hS9) (And.intro (cell_keep HG1.out hS9) (And.intro (cell_keep HG2.out hS9) (cell_keep HG3.out hS9)))); go_simp; try exact rfl)
                  try simp only [Act.put, List.setIfInBounds_toArray, List.set_cons_zero, List.set_cons_succ]
                  refine wpAnyH_takeL (i := 33) (v := ?vQ33) rfl (by kernel_rfl) (by kernel_rfl) (by kernel_rfl) (fun _ _ _ h => h) (Or.inl ⟨by kernel_rfl, ?runQ33⟩) hHeld ?_
                  case runQ33 => (intro w9 hS9; obtain ⟨g0, g1, g2, g3⟩ := (And.intro (cell_keep HG0.out hS9) (And.intro (cell_keep HG1.out hS9) (And.intro (cell_keep HG2.out hS9) (cell_keep HG3.out hS9)))); go_simp; try exact rfl)
                  try simp only [Act.put, List.setIfInBounds_toArray, List.set_cons_zero, List.set_cons_succ]
                  refine wpAnyH_takeL (i := 34) (v := ?vQ34) rfl (by kernel_rfl) (by kernel_rfl) (by kernel_rfl) (fun _ _ _ h => h) (Or.inl ⟨by kernel_rfl, ?runQ34⟩) hHeld ?_
                  case runQ34 => (intro w9 hS9; obtain ⟨g0, g1, g2, g3⟩ := (And.intro (cell_keep HG0.out hS9) (And.intro (cell_keep HG1.out hS9) (And.intro (cell_keep HG2.out hS9) (cell_keep HG3.out hS9)))); go_simp; try exact rfl)
                  try simp only [Act.put, List.setIfInBounds_toArray, List.set_cons_zero, List.set_cons_succ]
                  refine wpAnyH_takeL (i := 35) (v := ?vQ35) rfl (by kernel_rfl) (by kernel_rfl) (by kernel_rfl) (fun _ _ _ h => h) (Or.inl ⟨by kernel_rfl, ?runQ35⟩) hHeld ?_
                  case runQ35 => (intro w9 hS9; obtain ⟨g0, g1, g2, g3⟩ := (And.intro (cell_keep HG0.out hS9) (And.intro (cell_keep HG1.out hS9) (And.intro (cell_keep HG2.out hS9) (cell_keep HG3.out hS9)))); go_simp; try exact rfl)
                  try simp only [Act.put, List.setIfInBounds_toArray, List.set_cons_zero, List.set_cons_succ]
                  refine wpAnyH_takeL (i := 36) (v := ?vQ36) rfl (by kernel_rfl) (by kernel_rfl) (by kernel_rfl) (fun _ _ _ h => h) (Or.inl ⟨by kernel_rfl, ?runQ36⟩) hHeld ?_
                  case runQ36 => (intro w9 hS9; obtain ⟨g0, g1, g2, g3⟩ := (And.intro (cell_keep HG0.out hS9) (And.intro (cell_keep HG1.out hS9) (And.intro (cell_keep HG2.out hS9) (cell_keep HG3.out hS9)))); go_simp; try exact rfl)
                  try simp only [Act.put, List.setIfInBounds_toArray, List.set_cons_zero, List.set_cons_succ]
                  refine wpAnyH_takeL (i := 37) (v := ?vQ37) rfl (by kernel_rfl) (by kernel_rfl) (by kernel_rfl) (fun _ _ _ h => h) (Or.inl ⟨by kernel_rfl, ?runQ37⟩) hHeld ?_
                  case runQ37 => (intro w9 hS9; obtain ⟨g0, g1, g2, g3⟩ := (And.intro (cell_keep HG0.out hS9) (And.intro (cell_keep HG1.out hS9) (And.intro (cell_keep HG2.out hS9) (cell_keep HG3.out hS9)))); go_simp; try exact rfl)
                  try simp only [Act.put, List.setIfInBounds_toArray, List.set_cons_zero, List.set_cons_succ]
                  refine wpAnyH_takeL (i := 38) (v := ?vQ38) rfl (by kernel_rfl) (by kernel_rfl) (by kernel_rfl) (fun _ _ _ h => h) (Or.inl ⟨by kernel_rfl, ?runQ38⟩) hHeld ?_
                  case runQ38 => (intro w9 hS9; obtain ⟨g0, g1, g2, g3⟩ := (And.intro (cell_keep HG0.out hS9) (And.intro (cell_keep HG1.out hS9) (And.intro (cell_keep HG2.out hS9) (cell_keep HG3.out hS9)))); go_simp; try exact rfl)
                  try simp only [Act.put, List.setIfInBounds_toArray, List.set_cons_zero, List.set_cons_succ]
                  refine wpAnyH_takeL (i := 39) (v := ?vQ39) rfl (by kernel_rfl) (by kernel_rfl) (by kernel_rfl) (fun _ _ _ h => h) (Or.inl ⟨by kernel_rfl, ?runQ39⟩) hHeld ?_
                  case runQ39 => (intro w9 hS9; obtain ⟨g0, g1, g2, g3⟩ := (And.intro (cell_keep HG0.out hS9) (And.intro (cell_keep HG1.out hS9) (And.intro (cell_keep HG2.out hS9) (cell_keep HG3.out hS9)))); go_simp; try exact rfl)
                  try simp only [Act.put, List.setIfInBounds_toArray, List.set_cons_zero, List.set_cons_succ]
                  refine wpAnyH_takeL (i := 40) (v := ?vQ40) rfl (by kernel_rfl) (by kernel_rfl) (by kernel_rfl) (fun _ _ _ h => h) (Or.inl ⟨by kernel_rfl, ?runQ40⟩) hHeld ?_
                  case runQ40 => (intro w9 hS9; obtain ⟨g0, g1, g2, g3⟩ := (And.intro (cell_keep HG0.out hS9) (And.intro (cell_keep HG1.out hS9) (And.intro (cell_keep HG2.out hS9) (cell_keep HG3.out hS9)))); go_simp; try exact rfl)
                  try simp only [Act.put, List.setIfInBounds_toArray, List.set_cons_zero, List.set_cons_succ]
                  refine wpAnyH_takeL (i := 41) (v := ?vQ41) rfl (by kernel_rfl) (by kernel_rfl) (by kernel_rfl) (fun _ _ _ h => h) (Or.inl ⟨by kernel_rfl, ?runQ41⟩) hHeld ?_
                  case runQ41 => (intro w9 hS9; obtain ⟨g0, g1, g2, g3⟩ := (And.intro (cell_keep HG0.out hS9) (And.intro (cell_keep HG1.out hS9) (And.intro (cell_keep HG2.out hS9) (cell_keep HG3.out hS9)))); go_simp; try exact rfl)
                  try simp only [Act.put, List.setIfInBounds_toArray, List.set_cons_zero, List.set_cons_succ]
                  refine wpAnyH_takeL (i := 42) (v := ?vQ42) rfl (by kernel_rfl) (by kernel_rfl) (by kernel_rfl) (fun _ _ _ h => h) (Or.inl ⟨by kernel_rfl, ?runQ42⟩) hHeld ?_
                  case runQ42 => (intro w9 hS9; obtain ⟨g0, g1, g2, g3⟩ := (And.intro (cell_keep HG0.out hS9) (And.intro (cell_keep HG1.out hS9) (And.intro (cell_keep HG2.out hS9) (cell_keep HG3.out hS9)))); go_simp; try exact rfl)
                  try simp only [Act.put, List.setIfInBounds_toArray, List.set_cons_zero, List.set_cons_succ]
                  refine wpAnyH_takeL (i := 43) (v := .bool false) rfl (by kernel_rfl) (by kernel_rfl) (by kernel_rfl) (fun _ _ _ h => h) (Or.inl ⟨by kernel_rfl, ?runQ43⟩) hHeld ?_
                  case runQ43 => (intro w9 hS9; obtain ⟨g0, g1, g2, g3⟩ := (And.intro (cell_keep HG0.out hS9) (And.intro (cell_keep HG1.out hS9) (And.intro (cell_keep HG2.out hS9) (cell_keep HG3.out hS9)))); go_simp; first | done | exact rfl | (simp [*]; done) | (simp; omega))
                  try simp only [Act.put, List.setIfInBounds_toArray, List.set_cons_zero, List.set_cons_succ]
                  refine wpAnyH_takeL (i := 44) (v := .bool false) rfl (by kernel_rfl) (by kernel_rfl) (by kernel_rfl) (fun _ _ _ h => h) (Or.inl ⟨by kernel_rfl, ?runQ44⟩) hHeld ?_
                  case runQ44 => (intro w9 hS9; obtain ⟨g0, g1, g2, g3⟩ := (And.intro (cell_keep HG0.out hS9) (And.intro (cell_keep HG1.out hS9) (And.intro (cell_keep HG2.out hS9) (cell_keep HG3.out hS9)))); go_simp; first | done | exact rfl | (simp [*]; done) | (simp; omega))
                  try simp only [Act.put, List.setIfInBounds_toArray, List.set_cons_zero, List.set_cons_succ]
                  refine wpAnyH_takeL (i := 45) (v := .bool false) rfl (by kernel_rfl) (by kernel_rfl) (by kernel_rfl) (fun _ _ _ h => h) (Or.inl ⟨by kernel_rfl, ?runQ45⟩) hHeld ?_
                  case runQ45 => (intro w9 hS9; obtain ⟨g0, g1, g2, g3⟩ := (And.intro (cell_keep HG0.out hS9) (And.intro (cell_keep HG1.out hS9) (And.intro (cell_keep HG2.out hS9) (cell_keep HG3.out hS9)))); go_simp; first | done | exact rfl | (simp [*]; done) | (simp; omega))
                  try simp only [Act.put, List.setIfInBounds_toArray, List.set_cons_zero, List.set_cons_succ]
                  refine wpAnyH_done (by kernel_rfl) ?_ _
                  clear hHeld
                  go_wp2_with fail
                  go_roundw
                  case rel => exact ⟨k + 1, by omega, by go_num, by rw [hsucc], HKX.out.drew⟩
                  case measure => simp [intOf]; omega
              · obtain rfl : k = out.length := by omega
                have i1' : ¬ (out.length : Int) < (out.length : Int) := by omega
                rw [List.take_length]
                go_wp2_with fail
                refine (q_live _).mono ?_
                rintro e wl ⟨rfl, hkl⟩
                go_wp2_with fail
                go_ret
                exact ⟨rfl, (HKU.out.trans HKX.out (by simp)).trans hkl (by simp)⟩
      · rw [chkR_no hok] at hcp
        have HCP := Lib.hid hcp
        clear hcp hok
        go_wp2_with fail
        refine HCP.out.mono ?_
        rintro e w3 ⟨rfl, hk3⟩
        go_wp2_with fail
        refine (q_num _ w3).mono ?_
        rintro e w4 ⟨rfl, rfl⟩
        have HK3 := Lib.hid (HK2.out.trans hk3 (by simp))
        clear hk3 HK2 HCP
        go_wp2_with fail
        refine (q_live w3).mono ?_
        rintro e wl ⟨rfl, hkl⟩
        go_wp2_with fail
        go_ret
        exact ⟨rfl, HK3.out.trans hkl (by simp)⟩

end Go.Proofs.Ytngepgnmlpinaaa
