import Derived.Test.YtdmmhfbafinkpaaGreatDoorPa12
/- Parse: receive. Printed by gen-pa13.py. -/
namespace Go.Proofs.YtdmmhfbafinkpaaGreatDoor
open Go.RowKit Go.Emb

/-- a node that is written -/
def RecvP (lo : Nat) (w : World) (pb nb : Nat) (f : Nat → P Nd) (s : St) (e : Ending) (w' : World) : Prop :=
  ∃ cs n s', e = .returned (.tuple #[]) ∧ Ev f s n s' ∧ w'.heap[nb]? = some (.cells cs.toArray 29 (0, 0)) ∧ NdR (Frs w.heap.size w') w' false cs n ∧ PS lo w' pb s' ∧ s'.toks.length ≤ s.toks.length ∧ Keep [pb, nb] w w'
theorem set7a {w : World} {q i : Nat} {cs : Array Value} {t : TypeId} (h : w.heap[q]? = some (.cells cs t (0, 0))) (u : Value) : (w.setCell ⟨q, i, none⟩ u).heap[q]? = some (.cells (cs.setIfInBounds i u) t (0, 0)) ∧ Keep [q] w (w.setCell ⟨q, i, none⟩ u) :=
  ⟨heap_setCell_at h u, Keep.set1 w ⟨q, i, none⟩ u⟩
set_option maxRecDepth 100000 in
set_option maxHeartbeats 4000000 in
theorem w_recv {lo pb : Nat} {w : World} {s : St} {d nb : Nat} {k0 at_ : Int} (ih : AllC lo pb (32 * s.toks.length + 16)) (h : PS lo w pb s) (hlo : lo ≤ w.heap.size) (hd : d + s.toks.length ≤ 1000000) (hnb : lo ≤ nb)
    (hb : w.heap[nb]? = some (.cells #[.int .i64 k0, .int .i64 0, .string ⟨#[]⟩, .int .i64 at_, .slice none 0 0, .slice none 0 0, .slice none 0 0] 29 (0, 0))) :
    Calls Tryz.prog 147 #[.pointer (some ⟨pb, 0, none⟩), .pointer (some ⟨nb, 0, none⟩), .int .i64 d] w (RecvP lo w pb nb (fun n => recvP n d) s) := by
  have hplo := h.plo
  have hnw := (Array.getElem?_eq_some_iff.1 hb).1
  have hne : nb ≠ pb := by omega
  obtain ⟨d0, d1, d2, d3, d4, d5, d6⟩ := cells7 hb
  have f0 := frozenP hb
  obtain ⟨hb1, hk1⟩ := set7a (i := 0) hb (.int .i64 15)
  have hps1 := h.keep hk1 (by simp; exact hnb)
  have hs1 := fun (W : World) (s1 : St) (hW : PS lo W pb s1) (hl : lo ≤ W.heap.size) (hle : s1.toks.length ≤ s.toks.length) => ih.someL (d := d) hW hl (by omega) (by omega)
  have he1 := fun (W : World) (s1 : St) (hW : PS lo W pb s1) (hl : lo ≤ W.heap.size) (hle : s1.toks.length ≤ s.toks.length) => ih.expr (d := d) hW hl (by omega) (by omega)
  have ha1 := fun (W : World) (s1 : St) (hW : PS lo W pb s1) (hl : lo ≤ W.heap.size) (hle : s1.toks.length ≤ s.toks.length) => ih.arms (d := d) hW hl (by omega) (by omega)
  have HS := Lib.hid hs1
  have HE := Lib.hid he1
  have HA := Lib.hid ha1
  have HB1 := Lib.hid (show (w.setCell ⟨nb, 0, none⟩ (.int .i64 15)).heap[nb]? = some (.cells #[.int .i64 15, .int .i64 0, .string ⟨#[]⟩, .int .i64 at_, .slice none 0 0, .slice none 0 0, .slice none 0 0] 29 (0, 0)) by simpa using hb1)
  have HK1 := Lib.hid hk1
  have HPS1 := Lib.hid hps1
  have HN := Lib.hid (And.intro hplo (And.intro hlo (And.intro hnb (And.intro hnw hne))))
  clear ih h hlo hd hplo hb hb1 hk1 hps1 hs1 he1 ha1 hnb hnw hne
  go_enter Tryz.func147, Tryz.ntmps147
  go_upto_region 1 with fail
  rename_i K_out a_out K_in a_in
  have hcut : ∀ a' w', CutF 37 (fun f wx => f 0 = .pointer (some ⟨pb, 0, none⟩) ∧ f 1 = .pointer (some ⟨nb, 0, none⟩) ∧ f 2 = .int .i64 d ∧ ∃ (l : List Nd) (s1 : St) (p : Option Addr) (n c : Nat), ((nextS s ≠ sAfter ∧ Ev (fun n => clausesL n 0 d) s l s1) ∨ (nextS s = sAfter ∧ l = [] ∧ s1 = s)) ∧ wx.heap[nb]? = some (.cells #[.int .i64 15, .int .i64 0, .string ⟨#[]⟩, .int .i64 at_, .slice none 0 0, .slice p n c, .slice none 0 0] 29 (0, 0)) ∧ NsR (Frs w.heap.size wx) wx true (.slice p n c) l ∧ PS lo wx pb s1 ∧ Keep [pb, nb] w wx ∧ s1.toks.length ≤ s.toks.length) a' w' → K_out a' w' := by
    intro a' w' hc
    refine a_out _ _ ?_
    clear a_out a_in K_in HA HB1 HK1 HPS1 d0 d1 d2 d3 d4 d5 d6 f0
    obtain ⟨f, rfl, h0, h1, h2, l, s1, p, n, c, hev, hbx, hns, hps, hkw, hle⟩ := hc.lit
    rw [show ((List.range 37).map f).toArray = #[f 0, f 1, f 2, f 3, f 4, f 5, f 6, f 7, f 8, f 9, f 10, f 11, f 12, f 13, f 14, f 15, f 16, f 17, f 18, f 19, f 20, f 21, f 22, f 23, f 24, f 25, f 26, f 27, f 28, f 29, f 30, f 31, f 32, f 33, f 34, f 35, f 36] from rfl]
    rw [h0, h1, h2]
    obtain ⟨hplo, hlo, hnb, hnw, hne⟩ := HN.out
    have hl3 := Nat.le_trans hlo hkw.size
    have HH := Lib.hid (p_has hps hl3 sAfter)
    have HEV := Lib.hid hev
    have HBX := Lib.hid hbx
    have HNS := Lib.hid hns
    have HKW := Lib.hid hkw
    have HLE := Lib.hid hle
    clear hc h0 h1 h2 hev hbx hns hps hkw hle hl3 hplo hlo hnb hnw hne
    go_wp2_with fail
    refine HH.out.mono ?_
    rintro e w3 ⟨rfl, hps3, hk3⟩
    obtain ⟨hplo, hlo, hnb, hnw, hne⟩ := HN.out
    have hbx3 := blkK HBX.out hk3 (by simp; exact hne)
    have hns3 := HNS.out.up hk3 (by simp; omega) (Nat.le_refl _)
    have hkw3 := HKW.out.trans hk3 (by simp)
    have hl3 : lo ≤ w3.heap.size := Nat.le_trans hlo hkw3.size
    have hle3 := Nat.le_trans (has_len sAfter s1) HLE.out
    have HBX3 := Lib.hid hbx3
    have HNS3 := Lib.hid hns3
    have HKW3 := Lib.hid hkw3
    have HPS3 := Lib.hid hps3
    have HL3 := Lib.hid hl3
    have HLE3 := Lib.hid hle3
    clear hbx3 hns3 hkw3 hl3 hle3 hps3 hk3 HBX HNS HKW HLE HH hplo hlo hnb hnw hne
    rcases ho : (hasS sAfter s1).1 with _ | _
    · have HO := Lib.hid ho
      clear ho
      have HM := Lib.hid (p_must HPS3.out HL3.out sEnd)
      go_wp2_with fail
      refine HM.out.mono ?_
      rintro e w4 ⟨rfl, hps4, hk4⟩
      obtain ⟨hplo, hlo, hnb, hnw, hne⟩ := HN.out
      have hbx4 := blkK HBX3.out hk4 (by simp; exact hne)
      have hns4 := HNS3.out.up hk4 (by simp; omega) (Nat.le_refl _)
      have hkw4 := HKW3.out.trans hk4 (by simp)
      have hres : RecvP lo w pb nb (fun n => recvP n d) s (.returned (.tuple #[])) w4 := ⟨_, .mk 15 0 [] [] l [], _, rfl, by
        rcases HEV.out with ⟨h1, h2⟩ | ⟨h1, rfl, rfl⟩
        · exact Ev.of_recv_an h1 h2 HO.out
        · exact Ev.of_recv_nn h1 HO.out, hbx4, NdR.mk7 (kind := 15) (num := 0) (name := []) (at_ := at_) (NsR.nil _ _ false) hns4 (NsR.nil _ _ false), hps4, Nat.le_trans (must_len sEnd _) HLE3.out, hkw4⟩
      have HRES := Lib.hid hres
      clear hbx4 hns4 hkw4 hps4 hk4 hres hplo hlo hnb hnw hne
      go_wp2_with fail
      go_end0
      exact HRES.out
    · have HO := Lib.hid ho
      clear ho
      have HCALL := Lib.hid (HE.out w3 _ HPS3.out HL3.out HLE3.out)
      go_wp2_with fail
      refine HCALL.out.mono ?_
      rintro e w4 ⟨cs, a, s4, rfl, hev4, hnd4, hps4, hle4, hk4⟩
      obtain ⟨kindA, numA, atA, nameA, p1A, n1A, c1A, p2A, n2A, c2A, p3A, n3A, c3A, rfl, -⟩ := id hnd4.un7s
      obtain ⟨hplo, hlo, hnb, hnw, hne⟩ := HN.out
      have hbx4 := blkK HBX3.out hk4 (by simp; exact hne)
      have hns4 := HNS3.out.up hk4 (by simp; omega) (Nat.le_refl _)
      have hkw4 := HKW3.out.trans hk4 (by simp)
      have hk5 := (Keep.refl [] w4).alloc (.cells #[.int .i64 kindA, .int .i64 numA, .string ⟨nameA.toArray⟩, .int .i64 atA, .slice p1A n1A c1A, .slice p2A n2A c2A, .slice p3A n3A c3A] 29)
      have hlit := NsR.lit1 (lo := w.heap.size) (cs := #[.int .i64 kindA, .int .i64 numA, .string ⟨nameA.toArray⟩, .int .i64 atA, .slice p1A n1A c1A, .slice p2A n2A c2A, .slice p3A n3A c3A]) 29 hkw4.size rfl (hnd4.mono fun b h => ⟨Nat.le_trans HKW3.out.size h.1, h.2⟩)
      have hbx5 := blkK hbx4 hk5 (by simp)
      obtain ⟨hbx6, hk6⟩ := set7a (i := 4) hbx5 (.slice (some ⟨w4.heap.size, 0, none⟩) 1 1)
      have hbx6' : ((w4.alloc (.cells #[.int .i64 kindA, .int .i64 numA, .string ⟨nameA.toArray⟩, .int .i64 atA, .slice p1A n1A c1A, .slice p2A n2A c2A, .slice p3A n3A c3A] 29)).setCell ⟨nb, 4, none⟩ (.slice (some ⟨w4.heap.size, 0, none⟩) 1 1)).heap[nb]? = some (.cells #[.int .i64 15, .int .i64 0, .string ⟨#[]⟩, .int .i64 at_, .slice (some ⟨w4.heap.size, 0, none⟩) 1 1, .slice p n c, .slice none 0 0] 29 (0, 0)) := by simpa using hbx6
      have hns6 := (hns4.up hk5 (by simp) (Nat.le_refl _)).up hk6 (by simp; omega) (Nat.le_refl _)
      have hlit6 := hlit.up hk6 (by simp; omega) (Nat.le_refl _)
      have hps6 := (hps4.keep0 hk5).keep hk6 (by simp; omega)
      have hkw6 := (hkw4.trans hk5 (by simp)).trans hk6 (by simp)
      have hl6 := Nat.le_trans hlo hkw6.size
      have hle6 := Nat.le_trans hle4 HLE3.out
      obtain ⟨g0, g1, g2, g3, g4, g5, g6⟩ := cells7 hbx5
      have g7 := frozenP hbx5
      have hm := p_must hps6 hl6 sTo
      generalize hW6 : ((w4.alloc (.cells #[.int .i64 kindA, .int .i64 numA, .string ⟨nameA.toArray⟩, .int .i64 atA, .slice p1A n1A c1A, .slice p2A n2A c2A, .slice p3A n3A c3A] 29)).setCell ⟨nb, 4, none⟩ (.slice (some ⟨w4.heap.size, 0, none⟩) 1 1)) = w6 at hbx6' hns6 hlit6 hps6 hkw6 hl6 hm
      have HM := Lib.hid hm
      have HBX6 := Lib.hid hbx6'
      have HNS6 := Lib.hid hns6
      have HLIT6 := Lib.hid hlit6
      have HKW6 := Lib.hid hkw6
      have HEV4 := Lib.hid hev4
      have HLE6 := Lib.hid hle6
      have HW6 := Lib.hid hW6
      clear hW6 hev4 hnd4 hps4 hle4 hk4 hbx4 hns4 hkw4 hk5 hlit hbx5 hbx6 hk6 hbx6' hns6 hlit6 hps6 hkw6 hl6 hle6 hm HCALL hplo hlo hnb hnw hne HBX3 HNS3 HKW3 HPS3 HL3
      go_wp2_with fail
      rw [HW6.out]
      refine HM.out.mono ?_
      rintro e w7 ⟨rfl, hps7, hk7⟩
      obtain ⟨hplo, hlo, hnb, hnw, hne⟩ := HN.out
      have hbx7 := blkK HBX6.out hk7 (by simp; exact hne)
      have hns7 := HNS6.out.up hk7 (by simp; omega) (Nat.le_refl _)
      have hlit7 := HLIT6.out.up hk7 (by simp; omega) (Nat.le_refl _)
      have hkw7 := HKW6.out.trans hk7 (by simp)
      have hl7 := Nat.le_trans hlo hkw7.size
      have HCALL := Lib.hid (HS.out w7 _ hps7 hl7 (Nat.le_trans (must_len sTo _) HLE6.out))
      have HBX7 := Lib.hid hbx7
      have HNS7 := Lib.hid hns7
      have HLIT7 := Lib.hid hlit7
      have HKW7 := Lib.hid hkw7
      clear hbx7 hns7 hlit7 hkw7 hl7 hps7 hk7 hplo hlo hnb hnw hne HM HW6 HBX6 HNS6 HLIT6 HKW6 g0 g1 g2 g3 g4 g5 g6 g7
      go_wp2_with fail
      refine HCALL.out.mono ?_
      rintro e w8 ⟨bv, b, s8, rfl, hev8, hns8, hps8, hle8, hk8⟩
      obtain ⟨q1, q2, rfl⟩ := hns8.form
      obtain ⟨hplo, hlo, hnb, hnw, hne⟩ := HN.out
      have hbx8 := blkK HBX7.out hk8 (by simp; exact hne)
      have hcl8 := HNS7.out.up hk8 (by simp; omega) (Nat.le_refl _)
      have hlit8 := HLIT7.out.up hk8 (by simp; omega) (Nat.le_refl _)
      have hkw8 := HKW7.out.trans hk8 (by simp)
      have hns8' : NsR (Frs w.heap.size w8) w8 false (.slice q1 b.length q2) b := hns8.mono fun b h => ⟨Nat.le_trans HKW7.out.size h.1, h.2⟩
      obtain ⟨hbx9, hk9⟩ := set7a (i := 6) hbx8 (.slice q1 b.length q2)
      have hbx9' : (w8.setCell ⟨nb, 6, none⟩ (.slice q1 b.length q2)).heap[nb]? = some (.cells #[.int .i64 15, .int .i64 0, .string ⟨#[]⟩, .int .i64 at_, .slice (some ⟨w4.heap.size, 0, none⟩) 1 1, .slice p n c, .slice q1 b.length q2] 29 (0, 0)) := by simpa using hbx9
      have hcl9 := hcl8.up hk9 (by simp; omega) (Nat.le_refl _)
      have hlit9 := hlit8.up hk9 (by simp; omega) (Nat.le_refl _)
      have hns9 := hns8'.up hk9 (by simp; omega) (Nat.le_refl _)
      have hps9 := hps8.keep hk9 (by simp; omega)
      have hkw9 := hkw8.trans hk9 (by simp)
      have hl9 := Nat.le_trans hlo hkw9.size
      have hm := p_must hps9 hl9 sEnd
      obtain ⟨g0, g1, g2, g3, g4, g5, g6⟩ := cells7 hbx8
      have g7 := frozenP hbx8
      generalize hW9 : (w8.setCell ⟨nb, 6, none⟩ (.slice q1 b.length q2)) = w9 at hbx9' hcl9 hlit9 hns9 hps9 hkw9 hl9 hm
      have HM := Lib.hid hm
      have HBX9 := Lib.hid hbx9'
      have HCL9 := Lib.hid hcl9
      have HLIT9 := Lib.hid hlit9
      have HNS9 := Lib.hid hns9
      have HKW9 := Lib.hid hkw9
      have HEV8 := Lib.hid hev8
      have HLE8 := Lib.hid hle8
      have HW9 := Lib.hid hW9
      clear hW9 hev8 hns8 hps8 hle8 hk8 hbx8 hcl8 hlit8 hkw8 hns8' hbx9 hk9 hbx9' hcl9 hlit9 hns9 hps9 hkw9 hl9 hm hplo hlo hnb hnw hne HCALL HBX7 HNS7 HLIT7 HKW7
      go_wp2_with fail
      rw [HW9.out]
      refine HM.out.mono ?_
      rintro e w10 ⟨rfl, hps10, hk10⟩
      obtain ⟨hplo, hlo, hnb, hnw, hne⟩ := HN.out
      have hbx10 := blkK HBX9.out hk10 (by simp; exact hne)
      have hcl10 := HCL9.out.up hk10 (by simp; omega) (Nat.le_refl _)
      have hlit10 := HLIT9.out.up hk10 (by simp; omega) (Nat.le_refl _)
      have hns10 := HNS9.out.up hk10 (by simp; omega) (Nat.le_refl _)
      have hkw10 := HKW9.out.trans hk10 (by simp)
      have hres : RecvP lo w pb nb (fun n => recvP n d) s (.returned (.tuple #[])) w10 := ⟨_, .mk 15 0 [] [a] l b, _, rfl, by
        rcases HEV.out with ⟨h1, h2⟩ | ⟨h1, rfl, rfl⟩
        · exact Ev.of_recv_at h1 h2 HO.out HEV4.out HEV8.out
        · exact Ev.of_recv_nt h1 HO.out HEV4.out HEV8.out, hbx10, NdR.mk7 (kind := 15) (num := 0) (name := []) (at_ := at_) hlit10 hcl10 hns10, hps10, by have h1 := must_len sEnd s8; have h2 := HLE8.out; have h3 := must_len sTo s4; have h4 := HLE6.out; omega, hkw10⟩
      have HRES := Lib.hid hres
      clear hbx10 hcl10 hlit10 hns10 hkw10 hps10 hk10 hres hplo hlo hnb hnw hne g0 g1 g2 g3 g4 g5 g6 g7
      go_wp2_with fail
      go_end0
      exact HRES.out
  have HCUT := Lib.hid hcut
  clear hcut a_out
  have hl1 : lo ≤ (w.setCell ⟨nb, 0, none⟩ (.int .i64 15)).heap.size := Nat.le_trans HN.out.2.1 HK1.out.size
  have HNX := Lib.hid (p_next HPS1.out)
  by_cases hf : nextS s = sAfter
  · have HF := Lib.hid hf
    rw [hf] at HNX
    clear hf hl1
    go_wp2_with (go_at_call 99; refine HNX.out.mono ?_; rintro e w1' ⟨rfl, rfl⟩)
    exact HCUT.out _ _ (CutF.mk rfl ⟨rfl, rfl, rfl, [], s, none, 0, 0, .inr ⟨HF.out, rfl, rfl⟩, HB1.out, NsR.nil _ _ _, HPS1.out, HK1.out.mono (by simp), Nat.le_refl _⟩)
  · have HF := Lib.hid hf
    obtain ⟨nx, hnx⟩ : ∃ nx : ByteArray, nx = ⟨(nextS s).toArray⟩ := ⟨_, rfl⟩
    rw [← hnx] at HNX
    have hnx' : (nx.toList == [97, 102, 116, 101, 114]) = false := by rw [hnx, bl_list]; exact beq_eq_false_iff_ne.2 hf
    have HCALL := Lib.hid (HA.out _ s HPS1.out hl1 (Nat.le_refl _))
    clear hf hl1 hnx
    go_wp2_with (go_at_call 99; refine HNX.out.mono ?_; rintro e w1' ⟨rfl, rfl⟩)
    refine HCALL.out.mono ?_
    rintro e w2 ⟨v, l, s1, rfl, hev2, hns2, hps2, hle2, hk2⟩
    obtain ⟨q1, q2, rfl⟩ := hns2.form
    obtain ⟨hplo, hlo, hnb, hnw, hne⟩ := HN.out
    have hs1 := HK1.out.size
    have hbx2 := blkK HB1.out hk2 (by simp; exact hne)
    obtain ⟨hbx3, hk3⟩ := set7a (i := 5) hbx2 (.slice q1 l.length q2)
    have hbx3' : (w2.setCell ⟨nb, 5, none⟩ (.slice q1 l.length q2)).heap[nb]? = some (.cells #[.int .i64 15, .int .i64 0, .string ⟨#[]⟩, .int .i64 at_, .slice none 0 0, .slice q1 l.length q2, .slice none 0 0] 29 (0, 0)) := by simpa using hbx3
    have hns3 := (hns2.mono (S' := Frs w.heap.size w2) fun b h => ⟨Nat.le_trans hs1 h.1, h.2⟩).up hk3 (by simp; omega) (Nat.le_refl _)
    have hps3 := hps2.keep hk3 (by simp; omega)
    have hkw3 : Keep [pb, nb] w _ := ((HK1.out.mono (G := [pb, nb]) (by simp)).trans hk2 (by simp)).trans hk3 (by simp)
    obtain ⟨g0, g1, g2, g3, g4, g5, g6⟩ := cells7 hbx2
    have g7 := frozenP hbx2
    have HFIN := Lib.hid (And.intro hbx3' (And.intro hns3 (And.intro hps3 hkw3)))
    have HEV2 := Lib.hid hev2
    have HLE2 := Lib.hid hle2
    clear d0 d1 d2 d3 d4 d5 d6 f0 hev2 hns2 hps2 hle2 hk2 hplo hlo hnb hnw hne hs1 hbx2 hbx3 hk3 hbx3' hns3 hps3 hkw3 HCALL hnx'
    go_wp2_with fail
    exact HCUT.out _ _ (CutF.mk rfl ⟨rfl, rfl, rfl, l, s1, q1, l.length, q2, .inl ⟨HF.out, HEV2.out⟩, HFIN.out.1, HFIN.out.2.1, HFIN.out.2.2.1, HFIN.out.2.2.2, HLE2.out⟩)
end Go.Proofs.YtdmmhfbafinkpaaGreatDoor
