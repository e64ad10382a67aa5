/- A part of the proof (St30), joined by squeeze2.py. -/
import Derived.Test.YtimpadpeibgmoaaGreatYd45
set_option maxHeartbeats 8000000
set_option maxRecDepth 100000
namespace Go.Proofs.YtimpadpeibgmoaaGreat
open Go.RowKit Go.Emb Go.Lib Go.Emb.Ext Go.Shelf
def ImB (w : World) (v : Value) (l : List ImV) : Prop := ImR w v l ∧ ∀ y ∈ l, ∃ o, Rd w 1 y.v y.b.length (Lib.byteCells y.b) o
theorem ImB.keep {w w' : World} {v : Value} {l : List ImV} (h : ImB w v l) (hk : Keep [] w w') : ImB w' v l :=
 ⟨h.1.keep hk, fun y hy => by obtain ⟨o, h1⟩ := h.2 y hy; exact ⟨o, h1.keep0 hk⟩⟩
theorem IRd.imb {S : Nat → Prop} {w : World} {v : Value} {l : List ImV} (h : IRd S w v l) : ImB w v l := by
 obtain ⟨⟨o, h1, -⟩, h2, -⟩ := h
 refine ⟨⟨⟨o, h1⟩, fun y hy => ⟨(h2 y hy).1, ?_⟩⟩, fun y hy => ?_⟩
 ·obtain ⟨a, c, e, -⟩ := (h2 y hy).2.form
  exact ⟨a, _, c, e⟩
 ·obtain ⟨⟨o, h3, -⟩, -⟩ := (h2 y hy).2
  exact ⟨o, h3⟩
theorem imL_at {a b : List ImV} {k : Nat} (ha : k < a.length) (hb : k < b.length) (h : imL a = imL b) : a[k].pid = b[k].pid ∧ a[k].b = b[k].b := by
 have := congrArg (fun l => l[k]?) h
 unfold imL at this
 simp only [List.getElem?_map, List.getElem?_eq_getElem ha, List.getElem?_eq_getElem hb, Option.map_some, Option.some.injEq, Prod.mk.injEq] at this
 exact this
theorem imL_take {a b : List ImV} {k : Nat} (ha : k < a.length) (hb : k < b.length) (h : imL (a.take k) = imL (b.take k)) (h1 : a[k].pid = b[k].pid) (h2 : a[k].b = b[k].b) : imL (a.take (k + 1)) = imL (b.take (k + 1)) := by
 unfold imL at h ⊢
 rw [List.take_succ_eq_append_getElem ha, List.take_succ_eq_append_getElem hb, List.map_append, List.map_append, h]
 simp [h1, h2]
theorem r_images {w : World} {va vb : Value} {a b : List ImV} (ha : ImB w va a) (hb : ImB w vb b) (hal : a.length ≤ 1000000) (hbl : b.length ≤ 1000000) :
  Calls Tryz.prog 26 #[va, vb] w fun e w' => e = .returned (.bool (decide (imL a = imL b))) ∧ Keep [] w w' := by
 obtain ⟨aa, ac, rfl⟩ := ha.1.form
 obtain ⟨ba, bc, rfl⟩ := hb.1.form
 obtain ⟨n, hn⟩ : ∃ z, z = a.length := ⟨_, rfl⟩
 obtain ⟨nb, hnb⟩ : ∃ z, z = b.length := ⟨_, rfl⟩
 have HA := hyd ha
 have HB := hyd hb
 have HN := hyd (And.intro hn hnb)
 rw [← hn] at hal ⊢
 rw [← hnb] at hbl ⊢
 obtain ⟨RB, hRB⟩ : ∃ z, z = decide (imL a = imL b) := ⟨_, rfl⟩
 rw [← hRB]
 have HRB := hyd hRB
 clear ha hb hn hnb hRB
 by_cases hlen : n = nb
 ·subst hlen
  go_enter Tryz.func26, Tryz.ntmps26
  go_wp2_with fail
  go_loopw [5] (fun i wr => ∃ k : Nat, k ≤ n ∧ i = .int .i64 (k : Int) ∧ Keep [] w wr ∧ imL (a.take k) = imL (b.take k)) (fun i _ => n - (intOf i).toNat)
  case atStart => exact ⟨0, Nat.zero_le _, rfl, Keep.refl _ _, rfl⟩
  case round =>
   obtain ⟨k, hk, rfl, hkw, hsame⟩ := hrel
   have HKW := hyd hkw
   have HSAME := hyd hsame
   clear hkw hsame
   by_cases hlt : k < n
   ·have hka : k < a.length := by have := HN.o.1; omega
    have hkb : k < b.length := by have := HN.o.2; omega
    have hra := HA.o.keep HKW.o
    have hrb := HB.o.keep HKW.o
    rw [← HN.o.1] at hra
    rw [← HN.o.2] at hrb
    obtain ⟨b1, f1, e1, -, -⟩ := hra.1.at hka
    obtain ⟨b2, f2, e2, -, -⟩ := hrb.1.at hkb
    subst e1 e2
    obtain ⟨-, xa, xn, xc, hxv⟩ := hra.1.2 _ (List.getElem_mem hka)
    obtain ⟨-, ya, yn, yc, hyv⟩ := hrb.1.2 _ (List.getElem_mem hkb)
    have hca : ∀ W, Keep [] wr W → W.cell? ⟨b1, f1 + k * 2, none⟩ = some (.int .i64 a[k].pid) ∧ W.cell? ⟨b1, f1 + k * 2 + 1, none⟩ = some (.slice xa xn xc) ∧ W.cell? ⟨b2, f2 + k * 2, none⟩ = some (.int .i64 b[k].pid) ∧ W.cell? ⟨b2, f2 + k * 2 + 1, none⟩ = some (.slice ya yn yc) := fun W hW => by
     obtain ⟨_, _, e1, h1, h2⟩ := (hra.keep hW).1.at hka
     obtain ⟨_, _, e2, h3, h4⟩ := (hrb.keep hW).1.at hkb
     cases e1
     cases e2
     rw [hxv] at h2
     rw [hyv] at h4
     exact ⟨h1, h2, h3, h4⟩
    have hta : ∀ W, Keep [] wr W → (convert 35 9 (.slice xa xn xc)).run Tryz.prog W = .ok (.string ⟨a[k].b.toArray⟩) W := fun W hW => by
     obtain ⟨o, h1⟩ := (hra.keep hW).2 _ (List.getElem_mem hka)
     rw [hxv] at h1
     exact rd_text (P := Tryz.prog) h1 Tryz.underlying35 Tryz.underlying5 Tryz.underlying9
    have htb : ∀ W, Keep [] wr W → (convert 35 9 (.slice ya yn yc)).run Tryz.prog W = .ok (.string ⟨b[k].b.toArray⟩) W := fun W hW => by
     obtain ⟨o, h1⟩ := (hrb.keep hW).2 _ (List.getElem_mem hkb)
     rw [hyv] at h1
     exact rd_text (P := Tryz.prog) h1 Tryz.underlying35 Tryz.underlying5 Tryz.underlying9
    have hno : imL a = imL b → a[k].pid = b[k].pid ∧ a[k].b = b[k].b := imL_at hka hkb
    have hyes := imL_take hka hkb HSAME.o
    obtain ⟨px, hpx⟩ : ∃ z, z = a[k].pid := ⟨_, rfl⟩
    obtain ⟨py, hpy⟩ : ∃ z, z = b[k].pid := ⟨_, rfl⟩
    obtain ⟨bx, hbx⟩ : ∃ z, z = a[k].b := ⟨_, rfl⟩
    obtain ⟨by', hby⟩ : ∃ z, z = b[k].b := ⟨_, rfl⟩
    rw [← hpx] at hca hno hyes
    rw [← hpy] at hca hno hyes
    rw [← hbx] at hta hno hyes
    rw [← hby] at htb hno hyes
    have HCF := hyd hca
    have HTA := hyd hta
    have HTB := hyd htb
    have HNO := hyd hno
    have HYES := hyd hyes
    have i0' : (0 : Int) ≤ (k : Int) := by omega
    have i1' : (k : Int) < (n : Int) := by omega
    clear hra hrb hxv hyv hca hta htb hno hyes hpx hpy hbx hby hka hkb
    by_cases hp : px = py
    ·subst hp
     by_cases hbb : bx = by'
     ·subst hbb
      have hnext := HYES.o rfl rfl
      have HNEXT := hyd hnext
      clear hnext HNO HYES
      go_wp2_with fail
      refine wp_region_held_drew (S := fun w' => Keep [] wr w') (by kernel_rfl) ((Keep.refl [] wr).drew) (fun hHeld => ?_)
      refine tkL 0 ?vC0 rfl ?runC0 hHeld ?_
      case runC0 => (intro w9 hS9; obtain ⟨⟨c0, c1, d0, d1⟩, t0, t1⟩ := And.intro (HCF.o w9 hS9) (And.intro (HTA.o w9 hS9) (HTB.o w9 hS9)); go_simp; try exact rfl)
      try simp only [Act.put, lA, lZ, lS]
      refine tkL 1 ?vC1 rfl ?runC1 hHeld ?_
      case runC1 => (intro w9 hS9; obtain ⟨⟨c0, c1, d0, d1⟩, t0, t1⟩ := And.intro (HCF.o w9 hS9) (And.intro (HTA.o w9 hS9) (HTB.o w9 hS9)); go_simp; try exact rfl)
      try simp only [Act.put, lA, lZ, lS]
      refine tkL 2 ?vC2 rfl ?runC2 hHeld ?_
      case runC2 => (intro w9 hS9; obtain ⟨⟨c0, c1, d0, d1⟩, t0, t1⟩ := And.intro (HCF.o w9 hS9) (And.intro (HTA.o w9 hS9) (HTB.o w9 hS9)); go_simp; try exact rfl)
      try simp only [Act.put, lA, lZ, lS]
      refine tkL 3 ?vC3 rfl ?runC3 hHeld ?_
      case runC3 => (intro w9 hS9; obtain ⟨⟨c0, c1, d0, d1⟩, t0, t1⟩ := And.intro (HCF.o w9 hS9) (And.intro (HTA.o w9 hS9) (HTB.o w9 hS9)); go_simp; try exact rfl)
      try simp only [Act.put, lA, lZ, lS]
      refine tkL 4 ?vC4 rfl ?runC4 hHeld ?_
      case runC4 => (intro w9 hS9; obtain ⟨⟨c0, c1, d0, d1⟩, t0, t1⟩ := And.intro (HCF.o w9 hS9) (And.intro (HTA.o w9 hS9) (HTB.o w9 hS9)); go_simp; try exact rfl)
      try simp only [Act.put, lA, lZ, lS]
      refine tkL 5 ?vC5 rfl ?runC5 hHeld ?_
      case runC5 => (intro w9 hS9; obtain ⟨⟨c0, c1, d0, d1⟩, t0, t1⟩ := And.intro (HCF.o w9 hS9) (And.intro (HTA.o w9 hS9) (HTB.o w9 hS9)); go_simp; try exact rfl)
      try simp only [Act.put, lA, lZ, lS]
      refine tkL 6 ?vC6 rfl ?runC6 hHeld ?_
      case runC6 => (intro w9 hS9; obtain ⟨⟨c0, c1, d0, d1⟩, t0, t1⟩ := And.intro (HCF.o w9 hS9) (And.intro (HTA.o w9 hS9) (HTB.o w9 hS9)); go_simp; try exact rfl)
      try simp only [Act.put, lA, lZ, lS]
      refine tkL 7 ?vC7 rfl ?runC7 hHeld ?_
      case runC7 => (intro w9 hS9; obtain ⟨⟨c0, c1, d0, d1⟩, t0, t1⟩ := And.intro (HCF.o w9 hS9) (And.intro (HTA.o w9 hS9) (HTB.o w9 hS9)); go_simp; try exact rfl)
      try simp only [Act.put, lA, lZ, lS]
      refine tkL 8 ?vC8 rfl ?runC8 hHeld ?_
      case runC8 => (intro w9 hS9; obtain ⟨⟨c0, c1, d0, d1⟩, t0, t1⟩ := And.intro (HCF.o w9 hS9) (And.intro (HTA.o w9 hS9) (HTB.o w9 hS9)); go_simp; try exact rfl)
      try simp only [Act.put, lA, lZ, lS]
      refine tkL 9 ?vC9 rfl ?runC9 hHeld ?_
      case runC9 => (intro w9 hS9; obtain ⟨⟨c0, c1, d0, d1⟩, t0, t1⟩ := And.intro (HCF.o w9 hS9) (And.intro (HTA.o w9 hS9) (HTB.o w9 hS9)); go_simp; try exact rfl)
      try simp only [Act.put, lA, lZ, lS]
      refine tkL 10 (.bool false) rfl ?runC10 hHeld ?_
      case runC10 => (intro w9 hS9; obtain ⟨⟨c0, c1, d0, d1⟩, t0, t1⟩ := And.intro (HCF.o w9 hS9) (And.intro (HTA.o w9 hS9) (HTB.o w9 hS9)); go_simp; first | done | exact rfl | omega | (simp [*]; done) | (simp; omega))
      try simp only [Act.put, lA, lZ, lS]
      refine tkL 11 ?vC11 rfl ?runC11 hHeld ?_
      case runC11 => (intro w9 hS9; obtain ⟨⟨c0, c1, d0, d1⟩, t0, t1⟩ := And.intro (HCF.o w9 hS9) (And.intro (HTA.o w9 hS9) (HTB.o w9 hS9)); go_simp; try exact rfl)
      try simp only [Act.put, lA, lZ, lS]
      refine tkL 12 ?vC12 rfl ?runC12 hHeld ?_
      case runC12 => (intro w9 hS9; obtain ⟨⟨c0, c1, d0, d1⟩, t0, t1⟩ := And.intro (HCF.o w9 hS9) (And.intro (HTA.o w9 hS9) (HTB.o w9 hS9)); go_simp; try exact rfl)
      try simp only [Act.put, lA, lZ, lS]
      refine tkL 13 ?vC13 rfl ?runC13 hHeld ?_
      case runC13 => (intro w9 hS9; obtain ⟨⟨c0, c1, d0, d1⟩, t0, t1⟩ := And.intro (HCF.o w9 hS9) (And.intro (HTA.o w9 hS9) (HTB.o w9 hS9)); go_simp; try exact rfl)
      try simp only [Act.put, lA, lZ, lS]
      refine tkL 14 ?vC14 rfl ?runC14 hHeld ?_
      case runC14 => (intro w9 hS9; obtain ⟨⟨c0, c1, d0, d1⟩, t0, t1⟩ := And.intro (HCF.o w9 hS9) (And.intro (HTA.o w9 hS9) (HTB.o w9 hS9)); go_simp; try exact rfl)
      try simp only [Act.put, lA, lZ, lS]
      refine tkL 15 ?vC15 rfl ?runC15 hHeld ?_
      case runC15 => (intro w9 hS9; obtain ⟨⟨c0, c1, d0, d1⟩, t0, t1⟩ := And.intro (HCF.o w9 hS9) (And.intro (HTA.o w9 hS9) (HTB.o w9 hS9)); go_simp; try exact rfl)
      try simp only [Act.put, lA, lZ, lS]
      refine tkL 16 ?vC16 rfl ?runC16 hHeld ?_
      case runC16 => (intro w9 hS9; obtain ⟨⟨c0, c1, d0, d1⟩, t0, t1⟩ := And.intro (HCF.o w9 hS9) (And.intro (HTA.o w9 hS9) (HTB.o w9 hS9)); go_simp; try exact rfl)
      try simp only [Act.put, lA, lZ, lS]
      refine tkL 17 ?vC17 rfl ?runC17 hHeld ?_
      case runC17 => (intro w9 hS9; obtain ⟨⟨c0, c1, d0, d1⟩, t0, t1⟩ := And.intro (HCF.o w9 hS9) (And.intro (HTA.o w9 hS9) (HTB.o w9 hS9)); go_simp; try exact rfl)
      try simp only [Act.put, lA, lZ, lS]
      refine tkL 18 ?vC18 rfl ?runC18 hHeld ?_
      case runC18 => (intro w9 hS9; obtain ⟨⟨c0, c1, d0, d1⟩, t0, t1⟩ := And.intro (HCF.o w9 hS9) (And.intro (HTA.o w9 hS9) (HTB.o w9 hS9)); go_simp; try exact rfl)
      try simp only [Act.put, lA, lZ, lS]
      refine tkL 19 ?vC19 rfl ?runC19 hHeld ?_
      case runC19 => (intro w9 hS9; obtain ⟨⟨c0, c1, d0, d1⟩, t0, t1⟩ := And.intro (HCF.o w9 hS9) (And.intro (HTA.o w9 hS9) (HTB.o w9 hS9)); go_simp; try exact rfl)
      try simp only [Act.put, lA, lZ, lS]
      refine tkL 20 ?vC20 rfl ?runC20 hHeld ?_
      case runC20 => (intro w9 hS9; obtain ⟨⟨c0, c1, d0, d1⟩, t0, t1⟩ := And.intro (HCF.o w9 hS9) (And.intro (HTA.o w9 hS9) (HTB.o w9 hS9)); go_simp; try exact rfl)
      try simp only [Act.put, lA, lZ, lS]
      refine tkL 21 ?vC21 rfl ?runC21 hHeld ?_
      case runC21 => (intro w9 hS9; obtain ⟨⟨c0, c1, d0, d1⟩, t0, t1⟩ := And.intro (HCF.o w9 hS9) (And.intro (HTA.o w9 hS9) (HTB.o w9 hS9)); go_simp; try exact rfl)
      try simp only [Act.put, lA, lZ, lS]
      refine tkL 22 ?vC22 rfl ?runC22 hHeld ?_
      case runC22 => (intro w9 hS9; obtain ⟨⟨c0, c1, d0, d1⟩, t0, t1⟩ := And.intro (HCF.o w9 hS9) (And.intro (HTA.o w9 hS9) (HTB.o w9 hS9)); go_simp; try exact rfl)
      try simp only [Act.put, lA, lZ, lS]
      refine tkL 23 ?vC23 rfl ?runC23 hHeld ?_
      case runC23 => (intro w9 hS9; obtain ⟨⟨c0, c1, d0, d1⟩, t0, t1⟩ := And.intro (HCF.o w9 hS9) (And.intro (HTA.o w9 hS9) (HTB.o w9 hS9)); go_simp; try exact rfl)
      try simp only [Act.put, lA, lZ, lS]
      refine tkL 24 (.bool false) rfl ?runC24 hHeld ?_
      case runC24 => (intro w9 hS9; obtain ⟨⟨c0, c1, d0, d1⟩, t0, t1⟩ := And.intro (HCF.o w9 hS9) (And.intro (HTA.o w9 hS9) (HTB.o w9 hS9)); go_simp; first | done | exact rfl | omega | (simp [*]; done) | (simp; omega))
      try simp only [Act.put, lA, lZ, lS]
      refine tkL 25 ?vC25 rfl ?runC25 hHeld ?_
      case runC25 => (intro w9 hS9; obtain ⟨⟨c0, c1, d0, d1⟩, t0, t1⟩ := And.intro (HCF.o w9 hS9) (And.intro (HTA.o w9 hS9) (HTB.o w9 hS9)); go_simp; try exact rfl)
      try simp only [Act.put, lA, lZ, lS]
      refine wpAnyH_done (by kernel_rfl) ?_ _
      go_wp2_with fail
      go_roundw
      case rel => exact ⟨k + 1, by omega, by go_num, HKW.o.trans ((Keep.refl [] wr).drew) (by simp), HNEXT.o⟩
      case measure => show n - (k + 1) < n - k; omega
     ·have hst : (⟨bx.toArray⟩ : ByteArray) ≠ ⟨by'.toArray⟩ := fun h => hbb (by simpa using congrArg (fun z : ByteArray => z.data.toList) h)
      have hF : RB = false := by rw [HRB.o]; exact decide_eq_false (fun h => hbb (HNO.o h).2)
      subst hF
      clear HNO HYES
      go_wp2_with fail
      refine wp_region_held_drew (S := fun w' => Keep [] wr w') (by kernel_rfl) ((Keep.refl [] wr).drew) (fun hHeld => ?_)
      refine tkL 0 ?vB0 rfl ?runB0 hHeld ?_
      case runB0 => (intro w9 hS9; obtain ⟨⟨c0, c1, d0, d1⟩, t0, t1⟩ := And.intro (HCF.o w9 hS9) (And.intro (HTA.o w9 hS9) (HTB.o w9 hS9)); go_simp; try exact rfl)
      try simp only [Act.put, lA, lZ, lS]
      refine tkL 1 ?vB1 rfl ?runB1 hHeld ?_
      case runB1 => (intro w9 hS9; obtain ⟨⟨c0, c1, d0, d1⟩, t0, t1⟩ := And.intro (HCF.o w9 hS9) (And.intro (HTA.o w9 hS9) (HTB.o w9 hS9)); go_simp; try exact rfl)
      try simp only [Act.put, lA, lZ, lS]
      refine tkL 2 ?vB2 rfl ?runB2 hHeld ?_
      case runB2 => (intro w9 hS9; obtain ⟨⟨c0, c1, d0, d1⟩, t0, t1⟩ := And.intro (HCF.o w9 hS9) (And.intro (HTA.o w9 hS9) (HTB.o w9 hS9)); go_simp; try exact rfl)
      try simp only [Act.put, lA, lZ, lS]
      refine tkL 3 ?vB3 rfl ?runB3 hHeld ?_
      case runB3 => (intro w9 hS9; obtain ⟨⟨c0, c1, d0, d1⟩, t0, t1⟩ := And.intro (HCF.o w9 hS9) (And.intro (HTA.o w9 hS9) (HTB.o w9 hS9)); go_simp; try exact rfl)
      try simp only [Act.put, lA, lZ, lS]
      refine tkL 4 ?vB4 rfl ?runB4 hHeld ?_
      case runB4 => (intro w9 hS9; obtain ⟨⟨c0, c1, d0, d1⟩, t0, t1⟩ := And.intro (HCF.o w9 hS9) (And.intro (HTA.o w9 hS9) (HTB.o w9 hS9)); go_simp; try exact rfl)
      try simp only [Act.put, lA, lZ, lS]
      refine tkL 5 ?vB5 rfl ?runB5 hHeld ?_
      case runB5 => (intro w9 hS9; obtain ⟨⟨c0, c1, d0, d1⟩, t0, t1⟩ := And.intro (HCF.o w9 hS9) (And.intro (HTA.o w9 hS9) (HTB.o w9 hS9)); go_simp; try exact rfl)
      try simp only [Act.put, lA, lZ, lS]
      refine tkL 6 ?vB6 rfl ?runB6 hHeld ?_
      case runB6 => (intro w9 hS9; obtain ⟨⟨c0, c1, d0, d1⟩, t0, t1⟩ := And.intro (HCF.o w9 hS9) (And.intro (HTA.o w9 hS9) (HTB.o w9 hS9)); go_simp; try exact rfl)
      try simp only [Act.put, lA, lZ, lS]
      refine tkL 7 ?vB7 rfl ?runB7 hHeld ?_
      case runB7 => (intro w9 hS9; obtain ⟨⟨c0, c1, d0, d1⟩, t0, t1⟩ := And.intro (HCF.o w9 hS9) (And.intro (HTA.o w9 hS9) (HTB.o w9 hS9)); go_simp; try exact rfl)
      try simp only [Act.put, lA, lZ, lS]
      refine tkL 8 ?vB8 rfl ?runB8 hHeld ?_
      case runB8 => (intro w9 hS9; obtain ⟨⟨c0, c1, d0, d1⟩, t0, t1⟩ := And.intro (HCF.o w9 hS9) (And.intro (HTA.o w9 hS9) (HTB.o w9 hS9)); go_simp; try exact rfl)
      try simp only [Act.put, lA, lZ, lS]
      refine tkL 9 ?vB9 rfl ?runB9 hHeld ?_
      case runB9 => (intro w9 hS9; obtain ⟨⟨c0, c1, d0, d1⟩, t0, t1⟩ := And.intro (HCF.o w9 hS9) (And.intro (HTA.o w9 hS9) (HTB.o w9 hS9)); go_simp; try exact rfl)
      try simp only [Act.put, lA, lZ, lS]
      refine tkL 10 (.bool false) rfl ?runB10 hHeld ?_
      case runB10 => (intro w9 hS9; obtain ⟨⟨c0, c1, d0, d1⟩, t0, t1⟩ := And.intro (HCF.o w9 hS9) (And.intro (HTA.o w9 hS9) (HTB.o w9 hS9)); go_simp; first | done | exact rfl | omega | (simp [*]; done) | (simp; omega))
      try simp only [Act.put, lA, lZ, lS]
      refine tkL 11 ?vB11 rfl ?runB11 hHeld ?_
      case runB11 => (intro w9 hS9; obtain ⟨⟨c0, c1, d0, d1⟩, t0, t1⟩ := And.intro (HCF.o w9 hS9) (And.intro (HTA.o w9 hS9) (HTB.o w9 hS9)); go_simp; try exact rfl)
      try simp only [Act.put, lA, lZ, lS]
      refine tkL 12 ?vB12 rfl ?runB12 hHeld ?_
      case runB12 => (intro w9 hS9; obtain ⟨⟨c0, c1, d0, d1⟩, t0, t1⟩ := And.intro (HCF.o w9 hS9) (And.intro (HTA.o w9 hS9) (HTB.o w9 hS9)); go_simp; try exact rfl)
      try simp only [Act.put, lA, lZ, lS]
      refine tkL 13 ?vB13 rfl ?runB13 hHeld ?_
      case runB13 => (intro w9 hS9; obtain ⟨⟨c0, c1, d0, d1⟩, t0, t1⟩ := And.intro (HCF.o w9 hS9) (And.intro (HTA.o w9 hS9) (HTB.o w9 hS9)); go_simp; try exact rfl)
      try simp only [Act.put, lA, lZ, lS]
      refine tkL 14 ?vB14 rfl ?runB14 hHeld ?_
      case runB14 => (intro w9 hS9; obtain ⟨⟨c0, c1, d0, d1⟩, t0, t1⟩ := And.intro (HCF.o w9 hS9) (And.intro (HTA.o w9 hS9) (HTB.o w9 hS9)); go_simp; try exact rfl)
      try simp only [Act.put, lA, lZ, lS]
      refine tkL 15 ?vB15 rfl ?runB15 hHeld ?_
      case runB15 => (intro w9 hS9; obtain ⟨⟨c0, c1, d0, d1⟩, t0, t1⟩ := And.intro (HCF.o w9 hS9) (And.intro (HTA.o w9 hS9) (HTB.o w9 hS9)); go_simp; try exact rfl)
      try simp only [Act.put, lA, lZ, lS]
      refine tkL 16 ?vB16 rfl ?runB16 hHeld ?_
      case runB16 => (intro w9 hS9; obtain ⟨⟨c0, c1, d0, d1⟩, t0, t1⟩ := And.intro (HCF.o w9 hS9) (And.intro (HTA.o w9 hS9) (HTB.o w9 hS9)); go_simp; try exact rfl)
      try simp only [Act.put, lA, lZ, lS]
      refine tkL 17 ?vB17 rfl ?runB17 hHeld ?_
      case runB17 => (intro w9 hS9; obtain ⟨⟨c0, c1, d0, d1⟩, t0, t1⟩ := And.intro (HCF.o w9 hS9) (And.intro (HTA.o w9 hS9) (HTB.o w9 hS9)); go_simp; try exact rfl)
      try simp only [Act.put, lA, lZ, lS]
      refine tkL 18 ?vB18 rfl ?runB18 hHeld ?_
      case runB18 => (intro w9 hS9; obtain ⟨⟨c0, c1, d0, d1⟩, t0, t1⟩ := And.intro (HCF.o w9 hS9) (And.intro (HTA.o w9 hS9) (HTB.o w9 hS9)); go_simp; try exact rfl)
      try simp only [Act.put, lA, lZ, lS]
      refine tkL 19 ?vB19 rfl ?runB19 hHeld ?_
      case runB19 => (intro w9 hS9; obtain ⟨⟨c0, c1, d0, d1⟩, t0, t1⟩ := And.intro (HCF.o w9 hS9) (And.intro (HTA.o w9 hS9) (HTB.o w9 hS9)); go_simp; try exact rfl)
      try simp only [Act.put, lA, lZ, lS]
      refine tkL 20 ?vB20 rfl ?runB20 hHeld ?_
      case runB20 => (intro w9 hS9; obtain ⟨⟨c0, c1, d0, d1⟩, t0, t1⟩ := And.intro (HCF.o w9 hS9) (And.intro (HTA.o w9 hS9) (HTB.o w9 hS9)); go_simp; try exact rfl)
      try simp only [Act.put, lA, lZ, lS]
      refine tkL 21 ?vB21 rfl ?runB21 hHeld ?_
      case runB21 => (intro w9 hS9; obtain ⟨⟨c0, c1, d0, d1⟩, t0, t1⟩ := And.intro (HCF.o w9 hS9) (And.intro (HTA.o w9 hS9) (HTB.o w9 hS9)); go_simp; try exact rfl)
      try simp only [Act.put, lA, lZ, lS]
      refine tkL 22 ?vB22 rfl ?runB22 hHeld ?_
      case runB22 => (intro w9 hS9; obtain ⟨⟨c0, c1, d0, d1⟩, t0, t1⟩ := And.intro (HCF.o w9 hS9) (And.intro (HTA.o w9 hS9) (HTB.o w9 hS9)); go_simp; try exact rfl)
      try simp only [Act.put, lA, lZ, lS]
      refine tkL 23 ?vB23 rfl ?runB23 hHeld ?_
      case runB23 => (intro w9 hS9; obtain ⟨⟨c0, c1, d0, d1⟩, t0, t1⟩ := And.intro (HCF.o w9 hS9) (And.intro (HTA.o w9 hS9) (HTB.o w9 hS9)); go_simp; try exact rfl)
      try simp only [Act.put, lA, lZ, lS]
      refine tkL 24 (.bool true) rfl ?runB24 hHeld ?_
      case runB24 => (intro w9 hS9; obtain ⟨⟨c0, c1, d0, d1⟩, t0, t1⟩ := And.intro (HCF.o w9 hS9) (And.intro (HTA.o w9 hS9) (HTB.o w9 hS9)); go_simp; first | done | exact rfl | omega | (simp [*]; done) | (simp; omega))
      try simp only [Act.put, lA, lZ, lS]
      refine tkL 25 ?vB25 rfl ?runB25 hHeld ?_
      case runB25 => (intro w9 hS9; obtain ⟨⟨c0, c1, d0, d1⟩, t0, t1⟩ := And.intro (HCF.o w9 hS9) (And.intro (HTA.o w9 hS9) (HTB.o w9 hS9)); go_simp; try exact rfl)
      try simp only [Act.put, lA, lZ, lS]
      refine wpAnyH_done (by kernel_rfl) ?_ _
      go_wp2_with fail
      go_ret
      exact ⟨rfl, HKW.o.trans ((Keep.refl [] wr).drew) (by simp)⟩
    ·have hF : RB = false := by rw [HRB.o]; exact decide_eq_false (fun h => hp (HNO.o h).1)
     subst hF
     clear HNO HYES
     go_wp2_with fail
     refine wp_region_held_drew (S := fun w' => Keep [] wr w') (by kernel_rfl) ((Keep.refl [] wr).drew) (fun hHeld => ?_)
     refine tkL 0 ?vA0 rfl ?runA0 hHeld ?_
     case runA0 => (intro w9 hS9; obtain ⟨⟨c0, c1, d0, d1⟩, t0, t1⟩ := And.intro (HCF.o w9 hS9) (And.intro (HTA.o w9 hS9) (HTB.o w9 hS9)); go_simp; try exact rfl)
     try simp only [Act.put, lA, lZ, lS]
     refine tkL 1 ?vA1 rfl ?runA1 hHeld ?_
     case runA1 => (intro w9 hS9; obtain ⟨⟨c0, c1, d0, d1⟩, t0, t1⟩ := And.intro (HCF.o w9 hS9) (And.intro (HTA.o w9 hS9) (HTB.o w9 hS9)); go_simp; try exact rfl)
     try simp only [Act.put, lA, lZ, lS]
     refine tkL 2 ?vA2 rfl ?runA2 hHeld ?_
     case runA2 => (intro w9 hS9; obtain ⟨⟨c0, c1, d0, d1⟩, t0, t1⟩ := And.intro (HCF.o w9 hS9) (And.intro (HTA.o w9 hS9) (HTB.o w9 hS9)); go_simp; try exact rfl)
     try simp only [Act.put, lA, lZ, lS]
     refine tkL 3 ?vA3 rfl ?runA3 hHeld ?_
     case runA3 => (intro w9 hS9; obtain ⟨⟨c0, c1, d0, d1⟩, t0, t1⟩ := And.intro (HCF.o w9 hS9) (And.intro (HTA.o w9 hS9) (HTB.o w9 hS9)); go_simp; try exact rfl)
     try simp only [Act.put, lA, lZ, lS]
     refine tkL 4 ?vA4 rfl ?runA4 hHeld ?_
     case runA4 => (intro w9 hS9; obtain ⟨⟨c0, c1, d0, d1⟩, t0, t1⟩ := And.intro (HCF.o w9 hS9) (And.intro (HTA.o w9 hS9) (HTB.o w9 hS9)); go_simp; try exact rfl)
     try simp only [Act.put, lA, lZ, lS]
     refine tkL 5 ?vA5 rfl ?runA5 hHeld ?_
     case runA5 => (intro w9 hS9; obtain ⟨⟨c0, c1, d0, d1⟩, t0, t1⟩ := And.intro (HCF.o w9 hS9) (And.intro (HTA.o w9 hS9) (HTB.o w9 hS9)); go_simp; try exact rfl)
     try simp only [Act.put, lA, lZ, lS]
     refine tkL 6 ?vA6 rfl ?runA6 hHeld ?_
     case runA6 => (intro w9 hS9; obtain ⟨⟨c0, c1, d0, d1⟩, t0, t1⟩ := And.intro (HCF.o w9 hS9) (And.intro (HTA.o w9 hS9) (HTB.o w9 hS9)); go_simp; try exact rfl)
     try simp only [Act.put, lA, lZ, lS]
     refine tkL 7 ?vA7 rfl ?runA7 hHeld ?_
     case runA7 => (intro w9 hS9; obtain ⟨⟨c0, c1, d0, d1⟩, t0, t1⟩ := And.intro (HCF.o w9 hS9) (And.intro (HTA.o w9 hS9) (HTB.o w9 hS9)); go_simp; try exact rfl)
     try simp only [Act.put, lA, lZ, lS]
     refine tkL 8 ?vA8 rfl ?runA8 hHeld ?_
     case runA8 => (intro w9 hS9; obtain ⟨⟨c0, c1, d0, d1⟩, t0, t1⟩ := And.intro (HCF.o w9 hS9) (And.intro (HTA.o w9 hS9) (HTB.o w9 hS9)); go_simp; try exact rfl)
     try simp only [Act.put, lA, lZ, lS]
     refine tkL 9 ?vA9 rfl ?runA9 hHeld ?_
     case runA9 => (intro w9 hS9; obtain ⟨⟨c0, c1, d0, d1⟩, t0, t1⟩ := And.intro (HCF.o w9 hS9) (And.intro (HTA.o w9 hS9) (HTB.o w9 hS9)); go_simp; try exact rfl)
     try simp only [Act.put, lA, lZ, lS]
     refine tkL 10 (.bool true) rfl ?runA10 hHeld ?_
     case runA10 => (intro w9 hS9; obtain ⟨⟨c0, c1, d0, d1⟩, t0, t1⟩ := And.intro (HCF.o w9 hS9) (And.intro (HTA.o w9 hS9) (HTB.o w9 hS9)); go_simp; first | done | exact rfl | omega | (simp [*]; done) | (simp; omega))
     try simp only [Act.put, lA, lZ, lS]
     refine tkL 11 ?vA11 rfl ?runA11 hHeld ?_
     case runA11 => (intro w9 hS9; obtain ⟨⟨c0, c1, d0, d1⟩, t0, t1⟩ := And.intro (HCF.o w9 hS9) (And.intro (HTA.o w9 hS9) (HTB.o w9 hS9)); go_simp; try exact rfl)
     try simp only [Act.put, lA, lZ, lS]
     refine skL 12 rfl hHeld ?_
     try simp only [Act.put, lA, lZ, lS]
     refine skL 13 rfl hHeld ?_
     try simp only [Act.put, lA, lZ, lS]
     refine skL 14 rfl hHeld ?_
     try simp only [Act.put, lA, lZ, lS]
     refine skL 15 rfl hHeld ?_
     try simp only [Act.put, lA, lZ, lS]
     refine skL 16 rfl hHeld ?_
     try simp only [Act.put, lA, lZ, lS]
     refine skL 17 rfl hHeld ?_
     try simp only [Act.put, lA, lZ, lS]
     refine skL 18 rfl hHeld ?_
     try simp only [Act.put, lA, lZ, lS]
     refine skL 19 rfl hHeld ?_
     try simp only [Act.put, lA, lZ, lS]
     refine skL 20 rfl hHeld ?_
     try simp only [Act.put, lA, lZ, lS]
     refine skL 21 rfl hHeld ?_
     try simp only [Act.put, lA, lZ, lS]
     refine skL 22 rfl hHeld ?_
     try simp only [Act.put, lA, lZ, lS]
     refine skL 23 rfl hHeld ?_
     try simp only [Act.put, lA, lZ, lS]
     refine skL 24 rfl hHeld ?_
     try simp only [Act.put, lA, lZ, lS]
     refine tkL 25 ?vA25 rfl ?runA25 hHeld ?_
     case runA25 => (intro w9 hS9; obtain ⟨⟨c0, c1, d0, d1⟩, t0, t1⟩ := And.intro (HCF.o w9 hS9) (And.intro (HTA.o w9 hS9) (HTB.o w9 hS9)); go_simp; try exact rfl)
     try simp only [Act.put, lA, lZ, lS]
     refine wpAnyH_done (by kernel_rfl) ?_ _
     go_wp2_with fail
     go_ret
     exact ⟨rfl, HKW.o.trans ((Keep.refl [] wr).drew) (by simp)⟩
   ·obtain rfl : k = n := by omega
    have i1' : ¬ ((k : Int) < (k : Int)) := by omega
    have hT : RB = true := by
     have h1 := HSAME.o
     rw [List.take_of_length_le (by have := HN.o.1; omega), List.take_of_length_le (by have := HN.o.2; omega)] at h1
     rw [HRB.o]
     exact decide_eq_true h1
    subst hT
    go_wp2_with fail
    go_ret
    exact ⟨rfl, HKW.o⟩
 ·have hF : RB = false := by
   rw [HRB.o]
   refine decide_eq_false (fun h => hlen ?_)
   have h1 := imL_len h
   have := HN.o
   omega
  subst hF
  have hne : ((n : Int) != (nb : Int)) = true := by simp; omega
  clear hlen
  go_enter Tryz.func26, Tryz.ntmps26
  go_wp2_with fail
  go_ret
  exact ⟨rfl, Keep.refl _ _⟩
end Go.Proofs.YtimpadpeibgmoaaGreat
