/- ManifestUses: the plain laws: what a manifest that may be has in use, and that each of its pids is found. -/
import Derived.Test.YtngepgnmlpinaaaMnG
namespace Go.Proofs.Ytngepgnmlpinaaa
open Go.RowKit Go.Emb Go.Emb.Ext

theorem countE_all {l : List E} (h : ∀ x ∈ l, right x = true) : countE l = sumL l := by
  unfold countE
  rw [List.filter_eq_self.2 h]
theorem allL_snoc (a : E) (ps : List PlV) (x : PlV) : allL a (ps ++ [x]) = allL a ps ++ x.p.pieces := by
  unfold allL
  rw [List.flatMap_append]
  simp
theorem allL_sub {a : E} {ps : List PlV} {x : PlV} (h : x ∈ ps) : ∀ y ∈ x.p.pieces, y ∈ allL a ps := by
  intro y hy
  unfold allL
  exact List.mem_cons_of_mem _ (List.mem_flatMap.2 ⟨x, h, hy⟩)
theorem okPl_mem {rm : Int} : ∀ (ps : List Plc) (last : Int), okPl rm last ps → ∀ p ∈ ps, last < p.pid ∧ 1 ≤ p.len ∧ countE p.pieces = needE p.len rm
  | [], _, _, p, hp => by cases hp
  | q :: ps, last, h, p, hp => by
    obtain ⟨h1, h2⟩ := h
    rcases List.mem_cons.1 hp with rfl | hp
    · exact h1
    · have := okPl_mem ps q.pid h2 p hp
      exact ⟨by omega, this.2⟩
theorem okPl_rise {rm : Int} : ∀ (ps : List Plc) (last : Int), okPl rm last ps → ps.Pairwise fun a b => a.pid < b.pid
  | [], _, _ => List.Pairwise.nil
  | q :: ps, _, h => List.pairwise_cons.2 ⟨fun p hp => (okPl_mem ps q.pid h.2 p hp).1, okPl_rise ps q.pid h.2⟩
theorem ok_find {b s : Int} {m : MnV} (h : OkM b s m.area m.places) {k : Nat} (hk : k < m.places.length) : findL m m.places[k].p.pid = some m.places[k] := by
  refine findL_at hk (fun y hy => ?_) rfl
  have hr := okPl_rise _ _ h.2.2.2.2.2.2
  rw [List.pairwise_map] at hr
  obtain ⟨i, hi, rfl⟩ := List.getElem_of_mem hy
  rw [List.length_take] at hi
  rw [List.getElem_take]
  have := List.pairwise_iff_getElem.1 hr i k (by omega) hk (by omega)
  omega
theorem ok_room {b s : Int} {a : E} {ps : List PlV} (h : OkM b s a ps) : 64 ≤ s ∧ s ≤ 4096 ∧ roomI s = s - 15 := by
  have h1 := h.1
  unfold roomI at h1 ⊢
  split at h1
  · exact absurd rfl h1
  · rename_i hn
    rw [if_neg hn]
    omega
/-- what is used behind k places -/
def useK (a : E) (ps : List PlV) (k : Nat) : Int := sumL (allL a (ps.take k))
theorem useK_zero (a : E) (ps : List PlV) : useK a ps 0 = a.2 := by simp [useK, allL, sumL]
theorem useK_succ {b s : Int} {a : E} {ps : List PlV} (h : OkM b s a ps) {k : Nat} (hk : k < ps.length) : useK a ps (k + 1) = useK a ps k + (ps[k].p.len - 1) / (s - 15) + 1 := by
  unfold useK
  rw [List.take_succ_eq_append_getElem hk, allL_snoc, sumL_append]
  have hm : ps[k] ∈ ps := List.getElem_mem hk
  have h1 := okPl_mem _ _ h.2.2.2.2.2.2 ps[k].p (List.mem_map_of_mem hm)
  rw [countE_all (fun x hx => h.2.2.2.2.1 x (allL_sub hm x hx))] at h1
  obtain ⟨r1, r2, r3⟩ := ok_room h
  rw [h1.2.2, r3]
  unfold needE
  rw [if_neg (by omega)]
  omega
theorem useK_bd {b s : Int} {a : E} {ps : List PlV} (h : OkM b s a ps) (hsz : (allL a ps).length ≤ 1000000) (k : Nat) : 0 ≤ useK a ps k ∧ useK a ps k ≤ 16384000000 := by
  have hsub : ∀ x ∈ allL a (ps.take k), right x = true := by
    intro x hx
    refine h.2.2.2.2.1 x ?_
    unfold allL at hx ⊢
    rcases List.mem_cons.1 hx with rfl | hx
    · simp
    · obtain ⟨p, hp, hy⟩ := List.mem_flatMap.1 hx
      exact List.mem_cons_of_mem _ (List.mem_flatMap.2 ⟨p, List.mem_of_mem_take hp, hy⟩)
  have h1 := countE_bd (allL a (ps.take k))
  rw [countE_all hsub] at h1
  have hlen : (allL a (ps.take k)).length ≤ (allL a ps).length := by
    conv => rhs; rw [← List.take_append_drop k ps]
    unfold allL
    rw [List.flatMap_append]
    simp
  unfold useK
  omega
theorem useK_all (a : E) (ps : List PlV) : useK a ps ps.length = sumL (allL a ps) := by
  unfold useK
  rw [List.take_length]
theorem ok_used {b s : Int} {a : E} {ps : List PlV} {out : List E} {err : Int} (h : OkM b s a ps) (hj : JoinRes (allL a ps) out err) :
    Plain out ∧ sumL out = sumL (allL a ps) ∧ ∀ x ∈ out, 2 ≤ x.1 ∧ x.1 + x.2 ≤ b ∧ 1 ≤ x.2 := by
  rcases hj with ⟨-, -, x, hx, hn⟩ | ⟨-, -, -, hn⟩ | ⟨-, -, hok, -⟩
  · rw [h.2.2.2.2.1 x hx] at hn; cases hn
  · exact absurd h.2.2.2.2.2.1 hn
  · refine ⟨hok.plain, hok.sum, fun x hx => ?_⟩
    have hp := hok.plain.pos x hx
    have hb : ∀ i : Int, x.1 ≤ i → i < x.1 + x.2 → 2 ≤ i ∧ i + 1 ≤ b := by
      intro i h1 h2
      obtain ⟨y, hy, hc⟩ := (hok.same i).1 ⟨x, hx, h1, h2⟩
      have hbad := h.2.2.2.1 y hy
      unfold covers at hc
      unfold badX at hbad
      simp at hbad
      omega
    have h1 := hb x.1 (Int.le_refl _) (by omega)
    have h2 := hb (x.1 + x.2 - 1) (by omega) (by omega)
    omega
theorem sum_take_succ {l : List E} {k : Nat} (hk : k < l.length) : sumL (l.take (k + 1)) = sumL (l.take k) + l[k].2 := by
  rw [List.take_succ_eq_append_getElem hk, sumL_append]
  simp [sumL]
theorem sum_take_bd {l : List E} (h : ∀ x ∈ l, 1 ≤ x.2) (k : Nat) : 0 ≤ sumL (l.take k) ∧ sumL (l.take k) ≤ sumL l := by
  have h1 := sumL_pos (l := l.take k) (fun x hx => h x (List.mem_of_mem_take hx))
  have h2 := sumL_pos (l := l.drop k) (fun x hx => h x (List.mem_of_mem_drop hx))
  have h3 : sumL l = sumL (l.take k) + sumL (l.drop k) := by rw [← sumL_append, List.take_append_drop]
  omega
theorem gap_at {l : List E} (h : Plain l) {k : Nat} (hk : k + 1 < l.length) : l[k].1 + l[k].2 < l[k + 1].1 :=
  List.pairwise_iff_getElem.1 h.gap k (k + 1) (by omega) hk (by omega)
end Go.Proofs.Ytngepgnmlpinaaa
