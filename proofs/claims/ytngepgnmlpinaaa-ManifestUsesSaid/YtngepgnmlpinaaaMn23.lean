/- The program's manifests: all extents; which are used. -/
import Derived.Test.YtngepgnmlpinaaaMn22
import Derived.Test.YtngepgnmlpinaaaMx6
namespace Go.Proofs.Ytngepgnmlpinaaa
open Go.RowKit Go.Emb Go.Emb.Ext

def allL (a : Int × Int) (ps : List PlV) : List (Int × Int) := a :: ps.flatMap (·.p.pieces)
theorem encXE (l : List (Int × Int)) : l.flatMap encX = l.flatMap encE := rfl
theorem encX_all (l : List (Int × Int)) : ∀ u ∈ l.flatMap encX, u.oneCell' = true := by
  intro u hu
  obtain ⟨x, -, h⟩ := List.mem_flatMap.1 hu
  exact encX_one x u h
set_option maxRecDepth 100000 in
set_option maxHeartbeats 1000000 in
theorem p_all {w : World} {m : MnV} (h : RdM w.heap.size w m) (hsz : (allL m.area m.places).length ≤ 1000000) :
    Calls Try.prog 50 #[aggM m] w fun e w' => ∃ v o, e = .returned v ∧ RowE w' v (allL m.area m.places) o ∧ (∀ b, o = some b → w.heap.size ≤ b) ∧ Keep [] w w' := by
  obtain ⟨i0, hi, hz0, hz1, hz2⟩ := info_parts exti_info
  obtain ⟨hs, harea, ⟨⟨ro, hrd, hro⟩, hrlen⟩, hpl⟩ := h
  obtain ⟨-, ra, rc, hrv, hrc1, hrc2, -⟩ := id hrd
  obtain ⟨⟨po, hpd, hpo⟩, hpok, hplen⟩ := id hpl
  obtain ⟨-, pa, pc, hpv, hpc1, hpc2, -⟩ := id hpd
  unfold aggM
  rw [hrv, hpv]
  have hk2 : Keep [] w ((w.alloc (.cells #[.string m.s, .int .i64 m.area.1, .int .i64 m.area.2, .slice ra m.rest.length rc, .slice pa m.places.length pc] 27)).alloc (.cells #[.int .i64 m.area.1, .int .i64 m.area.2] 23)) := ((Keep.refl [] w).alloc _).alloc _
  have hnew := heap_new (w.alloc (.cells #[.string m.s, .int .i64 m.area.1, .int .i64 m.area.2, .slice ra m.rest.length rc, .slice pa m.places.length pc] 27)) (.cells #[.int .i64 m.area.1, .int .i64 m.area.2] 23)
  rw [size_alloc] at hnew
  have hrow0 : RowE ((w.alloc (.cells #[.string m.s, .int .i64 m.area.1, .int .i64 m.area.2, .slice ra m.rest.length rc, .slice pa m.places.length pc] 27)).alloc (.cells #[.int .i64 m.area.1, .int .i64 m.area.2] 23)) (.slice (some ⟨w.heap.size + 1, 0, none⟩) 1 1) (allL m.area []) (some (w.heap.size + 1)) :=
    ⟨rfl, .inr ⟨w.heap.size + 1, 0, 1, _, rfl, rfl, hnew, Nat.le_refl _, by simp [maxLen], by simp, fun i hi => by
      match i, hi with
      | 0, _ => rfl
      | 1, _ => rfl⟩⟩
  have HI := Lib.hid hi
  have HR0 := Lib.hid hrow0
  have HK2 := Lib.hid hk2
  have HPL := Lib.hid hpl
  have HSZ := Lib.hid hsz
  unfold maxLen at hpc2 hrc2
  clear hi hrow0 hk2 hpl hpok hpd hrd hsz hnew
  go_enter Try.func50, Try.ntmps50
  go_wp2_with fail
  go_loopw [3, 12] (fun v i wr => ∃ (k : Nat) (o : Option Nat), k ≤ m.places.length ∧ i = .int .i64 (k : Int) ∧ RowE wr v (allL m.area (m.places.take k)) o ∧ (∃ b off c n, v = .slice (some ⟨b, off, none⟩) n c ∧ o = some b) ∧ (∀ b, o = some b → w.heap.size ≤ b) ∧ Keep [] w wr) (fun _ i _ => m.places.length - (intOf i).toNat)
  case atStart => exact ⟨0, some (w.heap.size + 1), Nat.zero_le _, rfl, HR0.out, ⟨_, _, _, _, rfl, rfl⟩, fun b hb => by cases hb; omega, HK2.out⟩
  case round =>
    obtain ⟨k, o, hk, rfl, hrow, ⟨b, off, c, n, rfl, rfl⟩, hob, hkw⟩ := hrel
    have hn : n = (allL m.area (m.places.take k)).length := by
      obtain ⟨-, ⟨h, -⟩ | ⟨_, _, _, _, _, h, -⟩⟩ := hrow
      · cases h
      · cases h; rfl
    subst hn
    have HR := Lib.hid hrow
    have HOB := Lib.hid hob
    have HK := Lib.hid hkw
    clear hrow hob hkw HR0 HK2
    by_cases hlt : k < m.places.length
    · have hpl2 := HPL.out.keep HK.out (by simp)
      rw [hpv] at hpl2
      obtain ⟨pb, poff, rfl, hpb, g0, g1, g2⟩ := hpl2.at hlt
      have hx3 := (hpl2.2.1 _ (List.getElem_mem hlt)).2.2
      clear hpl2
      obtain ⟨x, hx⟩ : ∃ x, x = m.places[k] := ⟨_, rfl⟩
      rw [← hx] at g0 g1 g2 hx3
      obtain ⟨xa, xc, hxv, hxc1, hxc2⟩ := hx3.slice
      rw [hxv] at g2 hx3
      obtain ⟨⟨xo, hxr, hxo⟩, hx4, hx5⟩ := hx3
      have hst : allL m.area (m.places.take (k + 1)) = allL m.area (m.places.take k) ++ x.p.pieces := by
        unfold allL
        rw [List.take_succ_eq_append_getElem hlt, List.flatMap_append, ← hx]; simp
      have hlen : (allL m.area (m.places.take k)).length + x.p.pieces.length ≤ 1000000 := by
        have h1 : (allL m.area (m.places.take (k + 1))).length ≤ (allL m.area m.places).length := by
          unfold allL
          have h2 : m.places.flatMap (fun y => y.p.pieces) = (m.places.take (k + 1)).flatMap (fun y => y.p.pieces) ++ (m.places.drop (k + 1)).flatMap (fun y => y.p.pieces) := by rw [← List.flatMap_append, List.take_append_drop]
          rw [h2]
          simp
        have := HSZ.out
        rw [hst, List.length_append] at h1
        omega
      have hne : ∀ y, xo = some y → y ≠ b := fun y hy e => by
        have h1 := hxo y hy
        have h2 := HOB.out b rfl
        omega
      have HST := Lib.hid hst
      have HXR := Lib.hid hxr
      have HNE := Lib.hid hne
      have i0' : (0 : Int) ≤ (k : Int) := by omega
      have i1' : (k : Int) < (m.places.length : Int) := by omega
      unfold maxLen at hxc2
      obtain ⟨lk, hlk⟩ : ∃ q, q = allL m.area (m.places.take k) := ⟨_, rfl⟩
      rw [← hlk] at hst hlen HR HST
      rw [← hlk]
      clear hst hxr hne hx4 hx5 hxo hx hlk
      go_wp2_with (at_builtin; refine wpList_append_rd _ rfl _ _ 41 41 rfl 23 23 i0 (.agg #[.int .i64 0, .int .i64 0]) 2 16 Try.underlying41 Try.underlying41 HI.out hz0 hz1 hz2 rfl b off _ c _ rfl (Row.keep HR.out (F := []) ((Keep.refl [] _).alloc _) (by simp)) _ rfl x.p.pieces.length _ xo (HXR.out.keep ((Keep.refl [] _).alloc _) (by simp)) (encX_all _) (by first | (unfold maxLen; omega) | (simp [maxLen] <;> omega)) (by omega) ?_)
      intro g off' cap' w' hr' hk' hg'
      have hrow2 : RowE w' (.slice (some ⟨g, off', none⟩) (lk.length + x.p.pieces.length) cap') (lk ++ x.p.pieces) (some g) := by
        unfold RowE
        rw [List.flatMap_append, List.length_append]; exact hr'
      rw [← HST.out] at hrow2
      have hob2 : ∀ y, some g = some y → w.heap.size ≤ y := fun y hy => by
        cases hy
        have h1 := HOB.out b rfl
        have h2 := HK.out.size
        rcases hg' with h | h
        · omega
        · first | omega | (simp at h; omega)
      have hk2 : Keep [] w w' := (HK.out.alloc (.cells #[.int .i64 x.p.pid, .int .i64 x.p.len, .slice xa x.p.pieces.length xc] 43)).trans hk' (fun y hy => .inr (by simp at hy; subst hy; exact HOB.out _ rfl))
      have HR2 := Lib.hid hrow2
      have HOB2 := Lib.hid hob2
      have HK2 := Lib.hid hk2
      clear hr' hk' hg' hrow2 hob2 hk2
      go_wp2_with fail
      go_roundw
      case rel => exact ⟨k + 1, some g, by omega, by go_num, HR2.out, ⟨_, _, _, _, rfl, rfl⟩, HOB2.out, HK2.out⟩
      case measure => simp [intOf]; omega
    · obtain rfl : k = m.places.length := by omega
      rw [List.take_length] at HR
      rw [List.take_length]
      go_wp2_with fail
      go_ret
      exact ⟨_, _, rfl, HR.out, HOB.out, HK.out⟩
theorem RdX.up {B B' : Nat} {w : World} {v : Value} {xs : List (Int × Int)} (h : RdX B w v xs) (hB : B ≤ B') : RdX B' w v xs := by
  obtain ⟨⟨o, h1, h2⟩, h3, h4⟩ := h
  exact ⟨⟨o, h1, fun b hb => Nat.lt_of_lt_of_le (h2 b hb) hB⟩, h3, h4⟩
theorem RdPs.up {B B' : Nat} {w : World} {v : Value} {xs : List PlV} (h : RdPs B w v xs) (hB : B ≤ B') : RdPs B' w v xs := by
  obtain ⟨⟨o, h1, h2⟩, h3, h4⟩ := h
  exact ⟨⟨o, h1, fun b hb => Nat.lt_of_lt_of_le (h2 b hb) hB⟩, fun x hx => ⟨(h3 x hx).1, (h3 x hx).2.1, (h3 x hx).2.2.up hB⟩, h4⟩
theorem RdM.up {B B' : Nat} {w : World} {m : MnV} (h : RdM B w m) (hB : B ≤ B') : RdM B' w m := by
  obtain ⟨h1, h2, ⟨⟨o, h3, h4⟩, h5⟩, h6⟩ := h
  exact ⟨h1, h2, ⟨⟨o, h3, fun b hb => Nat.lt_of_lt_of_le (h4 b hb) hB⟩, h5⟩, h6.up hB⟩
/-- a manifest that is read is read behind a call that keeps all -/
theorem RdM.next {w w' : World} {m : MnV} (h : RdM w.heap.size w m) (hk : Keep [] w w') : RdM w'.heap.size w' m := (h.keep hk (by simp)).up hk.size
def UsedP (w : World) (l : List (Int × Int)) (e : Ending) (w' : World) : Prop := ∃ v o out err, e = .returned v ∧ JoinRes l out err ∧ RowE w' v out o ∧ (∀ b, o = some b → b < w'.heap.size) ∧ Keep [] w w'
set_option maxRecDepth 100000 in
set_option maxHeartbeats 1000000 in
theorem p_used {w : World} {m : MnV} (h : RdM w.heap.size w m) (hsz : (allL m.area m.places).length ≤ 1000000) :
    Calls Try.prog 22 #[aggM m] w (UsedP w (allL m.area m.places)) := by
  have hrv : ∃ ra rc, m.rv = .slice ra m.rest.length rc := by obtain ⟨-, -, ⟨⟨o, ⟨-, a, c, h, -⟩, -⟩, -⟩, -⟩ := h; exact ⟨a, c, h⟩
  have hpv : ∃ pa pc, m.pv = .slice pa m.places.length pc := by obtain ⟨-, -, -, ⟨⟨o, ⟨-, a, c, h, -⟩, -⟩, -⟩⟩ := h; exact ⟨a, c, h⟩
  obtain ⟨ra, rc, hrv⟩ := hrv
  obtain ⟨pa, pc, hpv⟩ := hpv
  have hk1 : Keep [] w (w.alloc (.cells #[.string m.s, .int .i64 m.area.1, .int .i64 m.area.2, m.rv, m.pv] 27)) := (Keep.refl [] w).alloc _
  have hall := p_all (h.next hk1) hsz
  unfold aggM at hall ⊢
  rw [hrv, hpv] at hall hk1 ⊢
  have HA := Lib.hid hall
  have HK1 := Lib.hid hk1
  clear hall hk1 h
  go_enter Try.func22, Try.ntmps22
  go_wp2_with fail
  refine HA.out.mono ?_
  rintro e w2 ⟨v, o, rfl, hr, ho, hk2⟩
  obtain ⟨o', hrd, ho'⟩ := hr.rd
  have hj := join_any hrd hsz (fun b hb => hr.lt b (ho' b hb))
  have HJ := Lib.hid hj
  have HK2 := Lib.hid (HK1.out.trans hk2 (by simp))
  clear hr ho hk2 hrd hj ho' HA
  go_wp2_with fail
  refine HJ.out.mono ?_
  rintro e w3 ⟨v3, o3, out, err, rfl, hjr, hr3, ho3, hk3⟩
  have H := Lib.hid (And.intro hjr (And.intro hr3 (HK2.out.trans hk3 (by simp))))
  clear hjr hr3 ho3 hk3
  go_wp2_with fail
  go_ret
  exact ⟨_, o3, out, err, rfl, H.out.1, H.out.2.1, H.out.2.1.lt, H.out.2.2⟩
end Go.Proofs.Ytngepgnmlpinaaa
