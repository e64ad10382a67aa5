/- TermChecks: the walk. -/
import Derived.Test.YtcegdomfmamonaaDoorTmOpen
import Derived.Test.YtcegdomfmamonaaDoorTm2
namespace Go.Proofs.YtcegdomfmamonaaDoor
open Go.RowKit Go.Emb

theorem TabOk.top {B : Nat} {w w' : World} (h : TabOk B w) (hk : Keep [] w w') : TabOk w'.heap.size w' := (h.keep0 hk).up (Nat.le_trans h.2.2 hk.size) (Nat.le_refl _)

set_option maxRecDepth 100000 in
set_option maxHeartbeats 1000000 in
theorem checks_walk {B : Nat} {w : World} {v : Value} {l : List Tm} (h : HasT B w v l) (hB : B ≤ w.heap.size) (hl : l.length * 56 ≤ 140737488355328) (ht : TabOk B w) : Calls Tryd.prog 3 #[v] w fun e w' => e = .returned (.bool true) ∧ Keep [] w w' := by
  have hsm := l_small h hB
  obtain ⟨a, c, rfl, hc1, hc2⟩ := h.form
  have hone : ∀ u ∈ l.flatMap encTm, u.oneCell' = true := oneCell_enc l (fun x hx => by
    obtain ⟨a, c, e, -⟩ := ((RdTms_iff l).1 h.2.2 x hx).has.form
    exact ⟨_, _, _, e⟩)
  unfold maxLen at hc2
  obtain ⟨i0, hi, hz0, hz1, hz2⟩ := info_parts term_info
  have HH := Lib.hid h
  have HI := Lib.hid hi
  have HONE := Lib.hid hone
  have HSM := Lib.hid hsm
  have HT := Lib.hid ht
  clear h hi hone hsm ht
  go_enter Tryd.func3, Tryd.ntmps3
  go_wp2_with fail
  refine HSM.out.mono ?_
  rintro e w1 ⟨b, rfl, -, hk1⟩
  have HK1 := Lib.hid hk1
  clear hk1 HSM
  cases b with
  | false =>
    go_wp2_with fail
    refine (l_live (HT.out.top HK1.out)).mono ?_
    rintro e w2 ⟨rfl, hk2⟩
    go_wp2_with fail
    go_ret
    exact ⟨rfl, HK1.out.trans hk2 (by simp)⟩
  | true =>
    obtain ⟨o, hrd, -⟩ := (HH.out.keep0 HK1.out).1
    have HRD := Lib.hid (hrd.keep0 ((Keep.refl [] w1).alloc (.cells #[] 31)))
    clear hrd
    go_wp2_with (at_builtin; refine wpList_append_rd _ rfl _ _ 22 22 rfl 31 31 i0 _ 4 56 Tryd.underlying22 Tryd.underlying22 HI.out hz0 hz1 hz2 rfl w1.heap.size 0 0 0 [] rfl (Row.made0 w1 _ 4) _ rfl l.length (l.flatMap encTm) o HRD.out HONE.out ?c3 ?c4 ?_)
    case c3 => unfold maxLen; omega
    case c4 => omega
    intro g off cap w2 hr2 hk2 hg2
    try simp only [Nat.zero_add, List.nil_append] at hr2
    try simp only [Nat.zero_add]
    have hkk : Keep [] w w2 := HK1.out.trans (((Keep.refl [] w1).alloc _).trans hk2 (by simp)) (by simp)
    have hch := p_check (HasT.ofRow (B := w2.heap.size) hr2 ((HH.out.2.2.keep0 hkk).up (Nat.le_trans hB hkk.size)) HH.out.2.1 (fun b hb => hr2.lt b hb)) (Nat.le_refl _)
    have HCH := Lib.hid hch
    have HK2 := Lib.hid hkk
    clear hr2 hk2 hg2 hkk hch HRD HONE
    go_wp2_with fail
    refine HCH.out.mono ?_
    rintro e w3 ⟨rfl, hk3⟩
    have HK3 := Lib.hid (HK2.out.trans hk3 (by simp))
    clear hk3 HCH
    go_wp2_with fail
    refine (q_num _ _).mono ?_
    rintro e w4 ⟨rfl, rfl⟩
    have hrc := r_check (HH.out.keep0 HK3.out)
    generalize checkTm l = ck at *
    have HRC := Lib.hid hrc
    clear hrc
    go_wp2_with fail
    refine HRC.out.mono ?_
    rintro e w4 ⟨rfl, hk4⟩
    have HK4 := Lib.hid (HK3.out.trans hk4 (by simp))
    clear hk4 HRC
    have hq : (ck != ck) = false := by simp
    go_wp2_with fail
    go_loopw [3] (fun i wr => ∃ j : Nat, j ≤ l.length ∧ j ≤ 20 ∧ i = .int .i64 j ∧ Keep [] w wr) (fun i _ => l.length - (intOf i).toNat)
    case atStart => exact ⟨0, Nat.zero_le _, by omega, rfl, HK4.out⟩
    case round =>
      obtain ⟨j, hj, hj20, rfl, hK⟩ := hrel
      have HK := Lib.hid hK
      clear hK
      by_cases hlt : j < l.length
      · by_cases hlt2 : j < 20
        · obtain ⟨b, off', rfl, c0, c1, c2, c3, hrx⟩ := HH.out.at HK.out hlt
          have i0 : (0 : Int) ≤ (j : Int) := by omega
          have i1 : (j : Int) < (l.length : Int) := by omega
          have hps : ∀ wx, Keep [] wr wx → Calls Tryd.prog 13 #[aggTm l[j]] wx fun e w' => e = .returned (.int .i64 (min l[j].sz 4097 : Nat)) ∧ Keep [] wx w' := fun wx hx => p_size (hrx.keep0 hx) (Nat.le_trans hB (Nat.le_trans HK.out.size hx.size))
          have hrs : ∀ wx, Keep [] wr wx → Calls Tryd.prog 14 #[aggTm l[j]] wx fun e w' => e = .returned (.int .i64 (min l[j].sz 4097 : Nat)) ∧ Keep [] wx w' := fun wx hx => r_size (hrx.keep0 hx)
          unfold aggTm at hps hrs
          have HPS := Lib.hid hps
          have HRS := Lib.hid hrs
          clear hps hrs hrx
          obtain ⟨xk, hxk⟩ : ∃ z, z = l[j].kind := ⟨_, rfl⟩
          obtain ⟨xn, hxn⟩ : ∃ z, z = l[j].num := ⟨_, rfl⟩
          obtain ⟨xs, hxs⟩ : ∃ z, z = l[j].name := ⟨_, rfl⟩
          obtain ⟨xv, hxv⟩ : ∃ z, z = l[j].iv := ⟨_, rfl⟩
          rw [← hxk, ← hxn, ← hxs, ← hxv] at HPS HRS
          rw [← hxk] at c0
          rw [← hxn] at c1
          rw [← hxs] at c2
          rw [← hxv] at c3
          clear hxk hxn hxs hxv
          generalize min l[j].sz 4097 = sz at *
          have hss : ∀ wx, Keep [] wr wx → (wx.cell? ⟨b, off' + j * 4, none⟩ = some (.int .i64 xk) ∧ wx.cell? ⟨b, off' + j * 4 + 1, none⟩ = some (.int .i64 xn)) ∧ (wx.cell? ⟨b, off' + j * 4 + 2, none⟩ = some (.string xs) ∧ wx.cell? ⟨b, off' + j * 4 + 3, none⟩ = some xv) := fun wx hx => ⟨⟨hx.cellOf c0, hx.cellOf c1⟩, hx.cellOf c2, hx.cellOf c3⟩
          have HSS := Lib.hid hss
          clear hss
          have hkd : Keep [] wr wr.drew := (Keep.refl [] wr).drew
          have hz : ((sz : Int) != (sz : Int)) = false := by simp
          go_wp2_with fail
          go_region_held3 (fun w' => (w'.cell? ⟨b, off' + j * 4, none⟩ = some (.int .i64 xk) ∧ w'.cell? ⟨b, off' + j * 4 + 1, none⟩ = some (.int .i64 xn)) ∧ (w'.cell? ⟨b, off' + j * 4 + 2, none⟩ = some (.string xs) ∧ w'.cell? ⟨b, off' + j * 4 + 3, none⟩ = some xv)) (exact HSS.out _ (by assumption))
            (first
              | (go_at_call 13; refine (HPS.out _ (by assumption)).mono ?_; rintro e w5 ⟨rfl, hk5⟩; replace hk5 := Keep.trans (by assumption : Keep [] wr _) hk5 (by simp))
              | (go_at_call 14; refine (HRS.out _ (by assumption)).mono ?_; rintro e w6 ⟨rfl, hk6⟩; replace hk6 := Keep.trans (by assumption : Keep [] wr _) hk6 (by simp))
              | fail)
          all_goals
            go_wp2_with fail
            go_roundw
            case rel => exact ⟨j + 1, by omega, by omega, by go_num, Keep.trans (G := []) HK.out (by assumption) (by simp)⟩
            case measure => simp [intOf]; omega
        · obtain rfl : j = 20 := by omega
          go_wp2_with fail
          refine (l_live (HT.out.top HK.out)).mono ?_
          rintro e w2 ⟨rfl, hk2⟩
          go_wp2_with fail
          go_ret
          exact ⟨rfl, HK.out.trans hk2 (by simp)⟩
      · go_wp2_with fail
        refine (l_live (HT.out.top HK.out)).mono ?_
        rintro e w2 ⟨rfl, hk2⟩
        go_wp2_with fail
        go_ret
        exact ⟨rfl, HK.out.trans hk2 (by simp)⟩
end Go.Proofs.YtcegdomfmamonaaDoor
