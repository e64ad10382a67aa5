import Derived.Test.YtdmmhfbafinkpaaDoorPa16
import Derived.Test.YtdmmhfbafinkpaaDoorSc9
import Derived.Test.YtdmmhfbafinkpaaDoorScB
/- Parse: a function; the beginning. -/
namespace Go.Proofs.YtdmmhfbafinkpaaDoor
open Go.RowKit Go.Emb Go.Shelf

theorem fun_size : (Tryd.prog.info? 38).map (·.size) = some 1 := by kernel_rfl
def FuncP (lo : Nat) (w : World) (pb : Nat) (s : St) (e : Ending) (w' : World) : Prop :=
  ∃ v l s', e = .returned (.agg #[v]) ∧ Ev funP s l s' ∧ NsR (Frs w.heap.size w') w' true v l ∧ PS lo w' pb s' ∧ s'.toks.length ≤ s.toks.length ∧ Keep [pb] w w'
theorem Ev.of_fun {s s1 : St} {l : List Nd} (h1 : Ev (fun n => clausesL n 2 0) s l s1) : Ev funP s l (mustS sDot s1) := by
  obtain ⟨N, h1⟩ := h1
  refine ⟨N, fun n hn => ?_⟩
  have h1 : clausesL n 2 0 s = (l, s1) := h1 n hn
  show funP n s = (l, mustS sDot s1)
  unfold funP
  simp [doS, bnd, ret, h1]
theorem cells1 {w : World} {q : Nat} {a : Value} {t : TypeId} (h : w.heap[q]? = some (.cells #[a] t (0, 0))) : w.cell? ⟨q, 0, none⟩ = some a := by simp [World.cell?, h]
set_option maxRecDepth 100000 in
set_option maxHeartbeats 4000000 in
theorem p_function {lo pb : Nat} {w : World} {s : St} (h : PS lo w pb s) (hlo : lo ≤ w.heap.size) (hd : s.toks.length ≤ 1000000) :
    Calls Tryd.prog 17 #[.pointer (some ⟨pb, 0, none⟩)] w (FuncP lo w pb s) := by
  have hplo := h.plo
  have hkA := (Keep.refl [] w).alloc (.cells #[.pointer (some ⟨pb, 0, none⟩)] 42)
  have hpA := heap_alloc_new w (.cells #[.pointer (some ⟨pb, 0, none⟩)] 42)
  have hk1 := hkA.alloc (.cells #[.slice none 0 0] 38)
  have hp1 := blkK hpA ((Keep.refl [] _).alloc (.cells #[.slice none 0 0] 38)) (by simp)
  have hr1 := heap_alloc_new (w.alloc (.cells #[.pointer (some ⟨pb, 0, none⟩)] 42)) (.cells #[.slice none 0 0] 38)
  rw [size_alloc] at hr1
  have hs1 : ((w.alloc (.cells #[.pointer (some ⟨pb, 0, none⟩)] 42)).alloc (.cells #[.slice none 0 0] 38)).heap.size = w.heap.size + 2 := by rw [size_alloc, size_alloc]
  have c1 := cells1 hp1
  have hps1 := h.keep0 hk1
  have eg : ∀ args w, (callFunc 24 args).run Tryd.prog w = .ok (.enter 24 args) w := enters_of Tryd.func24 (by kernel_rfl) rfl
  have hcl := p_clauses (k := 2) (d := 0) 24 #[.pointer (some ⟨w.heap.size, 0, none⟩)] eg (fun W2 si cb at_ hk2 hps2 hl2 hle2 hcb2 hb2 => by
    have hp2 := blkK hp1 hk2 (by simp; omega)
    exact w_fun2 (allC lo pb (32 * s.toks.length + 13)) (by omega) hps2 hl2 (by omega) (by omega) hb2 (cells1 hp2) ⟨hlo, by omega⟩) hps1 (Nat.le_trans hlo hk1.size) hd
  have HCL := Lib.hid hcl
  have HP1 := Lib.hid hp1
  have HR1 := Lib.hid hr1
  have HK1 := Lib.hid hk1
  have HS1 := Lib.hid hs1
  have HN := Lib.hid (And.intro hplo hlo)
  clear h hplo hlo hd hkA hpA hk1 hp1 hr1 hs1 hps1 eg hcl
  go_enter Tryd.func17, Tryd.ntmps17
  go_wp2_with fail
  refine HCL.out.mono ?_
  rintro e w2 ⟨v, l, s2, rfl, hev, hns, hps2, hle, hk2⟩
  obtain ⟨q1, q2, rfl⟩ := hns.form
  obtain ⟨hplo, hlo⟩ := HN.out
  have hs1 := HS1.out
  have hr2 := blkK HR1.out hk2 (by simp; omega)
  have hp2 := blkK HP1.out hk2 (by simp; omega)
  have hr3 : (w2.setCell ⟨w.heap.size + 1, 0, none⟩ (.slice q1 l.length q2)).heap[w.heap.size + 1]? = some (.cells #[.slice q1 l.length q2] 38 (0, 0)) := by simpa using heap_setCell_at (i := 0) hr2 (.slice q1 l.length q2)
  have hk3 := Keep.set1 w2 ⟨w.heap.size + 1, 0, none⟩ (.slice q1 l.length q2)
  have hp3 := blkK hp2 hk3 (by simp)
  have hps3 := hps2.keep hk3 (by simp; omega)
  rw [hs1] at hns
  have hns3 := hns.up hk3 (by simp) (Nat.le_refl _)
  have hkw3 : Keep [pb] w _ := keepB (lo := w.heap.size) (((HK1.out.mono (G := [pb, w.heap.size + 1]) (by simp)).trans hk2 (by simp)).trans hk3 (by simp)) (by simp) (Nat.le_refl _)
  have hl3 := Nat.le_trans hlo hkw3.size
  have HM := Lib.hid (p_must hps3 hl3 sDot)
  have g2 := cells1 hr2
  have f2 := frozenP hr2
  have p2 := cells1 hp2
  have g3 := cells1 hr3
  have p3 := cells1 hp3
  have HR3 := Lib.hid hr3
  have HNS3 := Lib.hid hns3
  have HKW3 := Lib.hid hkw3
  have HEV := Lib.hid hev
  have HLE := Lib.hid hle
  clear hplo hlo hs1 hr2 hp2 hr3 hk3 hp3 hps3 hns3 hkw3 hl3 hev hns hps2 hle hk2 c1
  go_wp2_with fail
  refine HM.out.mono ?_
  rintro e w4 ⟨rfl, hps4, hk4⟩
  obtain ⟨hplo, hlo⟩ := HN.out
  have hr4 := blkK HR3.out hk4 (by simp; omega)
  have hns4 := HNS3.out.up hk4 (by simp; omega) (Nat.le_refl _)
  have hkw4 := HKW3.out.trans hk4 (by simp)
  have g4 := cells1 hr4
  have f4 := frozenP hr4
  have HR4 := Lib.hid hr4
  have HNS4 := Lib.hid hns4
  have HKW4 := Lib.hid hkw4
  have HPS4 := Lib.hid hps4
  clear hplo hlo hr4 hns4 hkw4 hps4 hk4 g2 f2 p2 g3 p3
  go_wp2_with fail
  have hr5 : (w4.setCell ⟨w.heap.size + 1, 0, none⟩ (.slice q1 l.length q2)).heap[w.heap.size + 1]? = some (.cells #[.slice q1 l.length q2] 38 (0, 0)) := by simpa using heap_setCell_at (i := 0) HR4.out (.slice q1 l.length q2)
  have hk5 := Keep.set1 w4 ⟨w.heap.size + 1, 0, none⟩ (.slice q1 l.length q2)
  refine bodyPost_ret (results_cell_row (ty := 38) rfl _ _ (w.heap.size + 1) _ _ _ _ rfl hr5 Tryd.underlying38 rfl fun_size) rfl ?_
  obtain ⟨hplo, hlo⟩ := HN.out
  exact ⟨_, l, _, rfl, Ev.of_fun HEV.out, HNS4.out.up hk5 (by simp) (by omega), HPS4.out.keep hk5 (by simp; omega), Nat.le_trans (must_len sDot s2) HLE.out, keepB (lo := w.heap.size) ((HKW4.out.mono (G := [pb, w.heap.size + 1]) (by simp)).trans hk5 (by simp)) (by simp) (Nat.le_refl _)⟩
/-- where a parser begins -/
def beginS (l : List UInt8) : St := match scanL l 0 with
  | .ok ts => ⟨ts, l.length, 0, 0⟩
  | .error p => ⟨[], l.length, p.1, p.2⟩
def BeginP (w : World) (l : List UInt8) (e : Ending) (w' : World) : Prop :=
  ∃ q, e = .returned (.pointer (some ⟨q, 0, none⟩)) ∧ PS (q + 1) w' q (beginS l) ∧ w.heap.size ≤ q ∧ q + 1 = w'.heap.size ∧ Keep [] w w'
theorem LvT.lt {B C : Nat} {w : World} (h : LvT B w) (hBC : B ≤ C) : LvT C w := fun v hv => by
  obtain ⟨sv, o, h1, h2, h3, h4⟩ := h v hv
  exact ⟨sv, o, h1, h2, Nat.lt_of_lt_of_le h3 hBC, fun b hb => Nat.lt_of_lt_of_le (h4 b hb) hBC⟩
set_option maxRecDepth 100000 in
set_option maxHeartbeats 4000000 in
theorem p_begin (s : ByteArray) (w : World) (he : ErrOk w) (hs : s.size ≤ 16384) (hlv : LvT w.heap.size w) :
    Calls Tryd.prog 12 #[.string s] w (BeginP w s.data.toList) := by
  have hsc := p_scan s w he (by omega)
  rw [decide_eq_false (show ¬ 16384 < s.size by omega)] at hsc
  have HSC := Lib.hid hsc
  have HLV := Lib.hid hlv
  have hlen : s.data.toList.length = s.size := by simp
  have HLEN := Lib.hid hlen
  clear he hlv hsc hlen
  go_enter Tryd.func12, Tryd.ntmps12
  go_wp2_with fail
  refine HSC.out.mono ?_
  rintro e w2 ⟨hsc, hk2⟩
  rw [if_neg (by decide)] at hsc
  have hlv2 := (HLV.out.keep hk2 (by simp)).lt hk2.size
  rcases hR : scanL s.data.toList 0 with p | ts
  · rw [hR] at hsc
    simp only at hsc
    subst hsc
    have hps : PS (w2.heap.size + 1) (w2.alloc (.cells #[.slice none 0 0, .int .i64 s.size, .int .i64 p.1, .int .i64 (p.2 : Nat)] 46)) w2.heap.size (beginS s.data.toList) := by
      unfold beginS
      rw [hR]
      simp only
      rw [HLEN.out]
      exact ⟨⟨_, none, heap_alloc_new w2 _, ⟨rfl, none, 0, rfl, Nat.le_refl _, by simp [maxLen], .inl ⟨rfl, rfl⟩⟩, by simp⟩, by omega, hlv2.keep ((Keep.refl [] w2).alloc _) (by simp)⟩
    have HFIN := Lib.hid (show BeginP w s.data.toList (.returned (.pointer (some ⟨w2.heap.size, 0, none⟩))) (w2.alloc (.cells #[.slice none 0 0, .int .i64 s.size, .int .i64 p.1, .int .i64 (p.2 : Nat)] 46)) from ⟨_, rfl, hps, hk2.size, by rw [size_alloc], hk2.alloc _⟩)
    clear hps hlv2 hk2 hR
    go_wp2_with fail
    go_ret
    exact HFIN.out
  · rw [hR] at hsc
    simp only at hsc
    obtain ⟨v, o, rfl, hrow, ho⟩ := hsc
    obtain ⟨a, c, rfl⟩ := hrow.slice
    obtain ⟨o', hrd, ho'⟩ := Row.rd hrow
    have hlt := Row.lt hrow
    have hk3 := (Keep.refl [] w2).alloc (.cells #[.slice a ts.length c, .int .i64 s.size, .int .i64 0, .int .i64 0] 46)
    have hps : PS (w2.heap.size + 1) (w2.alloc (.cells #[.slice a ts.length c, .int .i64 s.size, .int .i64 0, .int .i64 0] 46)) w2.heap.size (beginS s.data.toList) := by
      unfold beginS
      rw [hR]
      simp only
      rw [HLEN.out]
      exact ⟨⟨_, o', heap_alloc_new w2 _, hrd.keep0 hk3, fun b hb => by
        rcases ho' with h | h
        · rw [h] at hb; cases hb
        · rw [h] at hb; have := hlt b hb; omega⟩, by omega, hlv2.keep hk3 (by simp)⟩
    have HFIN := Lib.hid (show BeginP w s.data.toList (.returned (.pointer (some ⟨w2.heap.size, 0, none⟩))) (w2.alloc (.cells #[.slice a ts.length c, .int .i64 s.size, .int .i64 0, .int .i64 0] 46)) from ⟨_, rfl, hps, hk2.size, by rw [size_alloc], hk2.alloc _⟩)
    clear hps hlv2 hk2 hR hk3 hlt ho' hrd ho hrow
    go_wp2_with fail
    go_ret
    exact HFIN.out
end Go.Proofs.YtdmmhfbafinkpaaDoor
