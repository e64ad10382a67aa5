/- Extents: live. -/
import Derived.Test.YtlfhnbdeadiedaaExt11
namespace Go.Emb.Ext
theorem JoinRes.sorted {l a out : List E} {e : Int} (hs : l.Pairwise (fun x y => x.1 ≤ y.1)) (hr : ∀ x ∈ l, right x = true) (hj : joinS l = some out) (h : JoinRes l a e) : e = 0 ∧ a = out := by
  have hok := joinS_some hs (List.Perm.refl _) (fun x hx => ((right_iff x).1 (hr x hx)).2.2.1) hj
  rcases h with ⟨_, _, x, hx, hn⟩ | ⟨_, _, _, hd⟩ | ⟨h0, _, hok2, _⟩
  · rw [hr x hx] at hn; cases hn
  · exact absurd hok.disj hd
  · exact ⟨h0, hok2.uniq hok (fun _ => Iff.rfl)⟩
theorem free_live {out : List E} {err : Int} (h : FreeRes 10 [(2, 3), (5, 1)] out err) : out = [(0, 2), (6, 4)] ∧ err = 0 := by
  rcases h with ⟨h, _⟩ | ⟨_, a, e1, hj, h⟩
  · omega
  obtain ⟨rfl, rfl⟩ := JoinRes.sorted (out := [(2, 4)]) (by simp) (by decide) (by decide) hj
  rcases h with ⟨h, _⟩ | ⟨_, ⟨x, hx, h⟩, _⟩ | ⟨_, _, h1, h2⟩
  · exact absurd rfl h
  · simp at hx; subst hx; simp at h
  · exact ⟨by rw [h2]; decide, h1⟩
theorem take_live {got left : List E} {err : Int} (h : TakeRes 3 2 [(0, 2), (6, 4)] got left err) : got = [(6, 3)] ∧ left = [(0, 2), (9, 1)] ∧ err = 0 := by
  rcases h with ⟨h, _⟩ | ⟨_, a, e1, hj, h⟩
  · omega
  obtain ⟨rfl, rfl⟩ := JoinRes.sorted (out := [(0, 2), (6, 4)]) (by simp) (by decide) (by decide) hj
  have ht : takeL (2 : Int).toNat 3 [(0, 2), (6, 4)] [] = some ([(6, 3)], [(0, 2), (9, 1)]) := by decide
  rw [ht] at h
  rcases h with ⟨h, _⟩ | ⟨_, h, _⟩ | ⟨_, _, g, h1, _, h2⟩
  · exact absurd rfl h
  · rcases h with h | ⟨_, h⟩
    · simp [sumL] at h
    · cases h
  · cases h1
    obtain ⟨rfl, rfl⟩ := JoinRes.sorted (out := [(6, 3)]) (by simp) (by decide) (by decide) h2
    exact ⟨rfl, rfl, rfl⟩
end Go.Emb.Ext
namespace Go.Proofs.Ytlfhnbdeadiedaa
open Go.RowKit Go.Emb Go.Lib Go.Emb.Ext Go.Shelf Go.Sort

theorem rd_lit1 (w : World) (a b : Int) (t : TypeId) : RdE (w.alloc (.cells #[.int .i64 a, .int .i64 b] t)) (.slice (some ⟨w.heap.size, 0, none⟩) 1 1) [(a, b)] (some w.heap.size) :=
  ⟨rfl, _, 1, rfl, Nat.le_refl _, by unfold maxLen; simp, .inr ⟨w.heap.size, 0, rfl, rfl, fun i hi => by
    match i with
    | 0 => simp [encE]
    | 1 => simp [encE]
    | i + 2 => simp at hi; omega⟩⟩
theorem rd_lit2 (w : World) (a b c d : Int) (t : TypeId) : RdE (w.alloc (.cells #[.int .i64 a, .int .i64 b, .int .i64 c, .int .i64 d] t)) (.slice (some ⟨w.heap.size, 0, none⟩) 2 2) [(a, b), (c, d)] (some w.heap.size) :=
  ⟨rfl, _, 2, rfl, Nat.le_refl _, by unfold maxLen; simp, .inr ⟨w.heap.size, 0, rfl, rfl, fun i hi => by
    match i with
    | 0 => simp [encE]
    | 1 => simp [encE]
    | 2 => simp [encE]
    | 3 => simp [encE]
    | i + 4 => simp at hi; omega⟩⟩

/-- a list of extents somewhere, read -/
def HasE (w : World) (v : Value) (l : List E) : Prop := ∃ o, RdE w v l o ∧ ∀ b, o = some b → b < w.heap.size
theorem HasE.keep {w w' : World} {v : Value} {l : List E} (h : HasE w v l) (k : Keep [] w w') : HasE w' v l := by
  obtain ⟨o, h1, h2⟩ := h
  exact ⟨o, h1.keep k (by simp), fun b hb => Nat.lt_of_lt_of_le (h2 b hb) k.size⟩
theorem HasE.slice {w : World} {v : Value} {l : List E} (h : HasE w v l) : ∃ a c, v = .slice a l.length c := by
  obtain ⟨o, ⟨_, a, c, h, _⟩, _⟩ := h; exact ⟨a, c, h⟩
theorem RowE.has {w : World} {v : Value} {l : List E} {o : Option Nat} (h : RowE w v l o) : HasE w v l := by
  obtain ⟨o', h1, h2⟩ := RowE.rd h
  exact ⟨o', h1, fun b hb => Row.lt h b (h2 b hb)⟩
theorem has_lit1 (w : World) (a b : Int) (t : TypeId) : HasE (w.alloc (.cells #[.int .i64 a, .int .i64 b] t)) (.slice (some ⟨w.heap.size, 0, none⟩) 1 1) [(a, b)] := ⟨_, rd_lit1 w a b t, by rintro b ⟨⟩; simp⟩
theorem has_lit2 (w : World) (a b c d : Int) (t : TypeId) : HasE (w.alloc (.cells #[.int .i64 a, .int .i64 b, .int .i64 c, .int .i64 d] t)) (.slice (some ⟨w.heap.size, 0, none⟩) 2 2) [(a, b), (c, d)] := ⟨_, rd_lit2 w a b c d t, by rintro b ⟨⟩; simp⟩

/-! the contracts once more, in these words -/
def JoinH (w : World) (l : List E) (e : Ending) (w' : World) : Prop := ∃ v out err, e = .returned (.tuple #[v, .int .i64 err]) ∧ JoinRes l out err ∧ HasE w' v out ∧ Keep [] w w'
def FreeH (w : World) (blocks : Int) (l : List E) (e : Ending) (w' : World) : Prop := ∃ v out err, e = .returned (.tuple #[v, .int .i64 err]) ∧ FreeRes blocks l out err ∧ HasE w' v out ∧ Keep [] w w'
def TakeH (w : World) (n most : Int) (l : List E) (e : Ending) (w' : World) : Prop := ∃ vg vl got left err, e = .returned (.tuple #[vg, vl, .int .i64 err]) ∧ TakeRes n most l got left err ∧ HasE w' vg got ∧ HasE w' vl left ∧ Keep [] w w'
theorem join_h {w : World} {v : Value} {l : List E} (h : HasE w v l) (hsz : l.length ≤ 1000000) : Calls Try.prog 15 #[v] w (JoinH w l) := by
  obtain ⟨o, h1, h2⟩ := h
  exact (join_any h1 hsz h2).mono fun e w' ⟨v, o, out, err, he, hr, hrow, _, hk⟩ => ⟨v, out, err, he, hr, RowE.has hrow, hk⟩
theorem free_h {w : World} {v : Value} {l : List E} (blocks : Int) (h : HasE w v l) (hsz : l.length ≤ 1000000) : Calls Try.prog 14 #[.int .i64 blocks, v] w (FreeH w blocks l) := by
  obtain ⟨o, h1, h2⟩ := h
  exact (free_any blocks h1 hsz h2).mono fun e w' ⟨v, o, out, err, he, hr, hrow, _, hk⟩ => ⟨v, out, err, he, hr, RowE.has hrow, hk⟩
theorem take_h {w : World} {v : Value} {l : List E} (n most : Int) (h : HasE w v l) (hsz : l.length ≤ 1000000) (hm : most ≤ 9223372036854775807) : Calls Try.prog 10 #[.int .i64 n, .int .i64 most, v] w (TakeH w n most l) := by
  obtain ⟨o, h1, h2⟩ := h
  exact (take_any n most h1 hsz h2 hm).mono fun e w' ⟨vg, vl, og, ol, got, left, err, he, hr, hg, hl, _, _, hk⟩ => ⟨vg, vl, got, left, err, he, hr, RowE.has hg, RowE.has hl, hk⟩
theorem count_h {w : World} {v : Value} {l : List E} (h : HasE w v l) (hsz : l.length ≤ 1000000) : Calls Try.prog 16 #[v] w fun e w' => e = .returned (.int .i64 (countE l)) ∧ Keep [] w w' := by
  obtain ⟨o, h1, h2⟩ := h
  exact count_any h1 (by omega) h2
theorem has_h {w : World} {v : Value} {l : List E} (h : HasE w v l) (hsz : l.length ≤ 1000000) (n : Int) (hn : -9223372036854775808 ≤ n) (hn2 : n ≤ 9223372036854775807) : Calls Try.prog 20 #[.int .i64 n, v] w fun e w' => e = .returned (.bool (l.any (hasE n))) ∧ Keep [] w w' := by
  obtain ⟨o, h1, h2⟩ := h
  exact has_any h1 (by omega) h2 n hn hn2
theorem extents_h {w : World} {u v : Value} {xs ys : List E} (hx : HasE w u xs) (hy : HasE w v ys) (hsx : xs.length ≤ 1000000) (hsy : ys.length ≤ 1000000) :
    Calls Try.prog 12 #[u, v] w fun e w' => e = .returned (.bool (decide (xs = ys))) ∧ Keep [] w w' := by
  obtain ⟨o, h1, h2⟩ := hx
  obtain ⟨o', h1', h2'⟩ := hy
  exact (extents_any h1 h1' (by omega) (by omega)).mono fun e w' ⟨he, n, hw⟩ => ⟨he, by rw [hw]; exact (Keep.refl _ _).drewN n⟩
theorem extents_t {w : World} {u v : Value} {xs ys : List E} (hx : HasE w u xs) (hy : HasE w v ys) (hsx : xs.length ≤ 1000000) (h : xs = ys) :
    Calls Try.prog 12 #[u, v] w fun e w' => e = .returned (.bool true) ∧ Keep [] w w' := by
  subst h
  have := extents_h hx hy hsx hsx
  simpa using this

set_option maxHeartbeats 1000000 in
theorem live_any (w : World) : Calls Try.prog 9 #[] w fun e w' => e = .returned (.bool true) ∧ Keep [] w w' := by
  go_enter Try.func9, Try.ntmps9
  go_wp2_with fail
  refine (free_h 10 (has_lit2 w 2 3 5 1 _) (by simp)).mono ?_
  rintro e w1 ⟨vf, f, e1, rfl, hres, hf, hk1⟩
  obtain ⟨rfl, rfl⟩ := free_live hres
  have k1 : Keep [] w w1 := ((Keep.refl [] w).alloc _).trans hk1 (by simp)
  have HF := Lib.hid hf
  have K1 := Lib.hid k1
  clear hres hf hk1 k1
  go_wp2_with fail
  refine (take_h 3 2 HF.out (by simp) (by omega)).mono ?_
  rintro e w2 ⟨vg, vl, got, left, e2, rfl, hres, hg, hl, hk2⟩
  obtain ⟨rfl, rfl, rfl⟩ := take_live hres
  have HF2 := Lib.hid (HF.out.keep hk2)
  have HG := Lib.hid hg
  have HL := Lib.hid hl
  have K2 := Lib.hid (K1.out.trans hk2 (by simp))
  clear hres hg hl hk2 HF K1
  go_wp2_with (go_at_call 13; refine (num_any _ _).mono ?_; rintro e w' ⟨rfl, rfl⟩)
  refine (extents_t (HF2.out.keep ((Keep.refl [] w2).alloc _)) (has_lit2 _ _ _ _ _ _) (by simp) rfl).mono ?_
  rintro e w3 ⟨rfl, hk3⟩
  have k3 : Keep [] w2 w3 := ((Keep.refl [] w2).alloc _).trans hk3 (by simp)
  have HG3 := Lib.hid (HG.out.keep k3)
  have HL3 := Lib.hid (HL.out.keep k3)
  have K3 := Lib.hid (K2.out.trans k3 (by simp))
  clear hk3 k3 HG HL K2
  go_wp2_with fail
  refine (extents_t (HG3.out.keep ((Keep.refl [] w3).alloc _)) (has_lit1 _ _ _ _) (by simp) rfl).mono ?_
  rintro e w4 ⟨rfl, hk4⟩
  have k4 : Keep [] w3 w4 := ((Keep.refl [] w3).alloc _).trans hk4 (by simp)
  have HL4 := Lib.hid (HL3.out.keep k4)
  have K4 := Lib.hid (K3.out.trans k4 (by simp))
  clear hk4 k4 HL3 K3 HG3
  go_wp2_with fail
  refine (extents_t (HL4.out.keep ((Keep.refl [] w4).alloc _)) (has_lit2 _ _ _ _ _ _) (by simp) rfl).mono ?_
  rintro e w5 ⟨rfl, hk5⟩
  have k5 : Keep [] w4 w5 := ((Keep.refl [] w4).alloc _).trans hk5 (by simp)
  have K5 := Lib.hid (K4.out.trans k5 (by simp))
  clear hk5 k5 HL4 K4
  have hneed : needE 99 50 = 2 := by decide
  have hn := need_any 99 50 w5 (by omega) (by omega)
  rw [hneed] at hn
  clear hneed
  go_wp2_with fail
  refine hn.mono ?_
  rintro e w6 ⟨rfl, rfl⟩
  go_wp2_with fail
  go_ret
  exact ⟨rfl, K5.out⟩
end Go.Proofs.Ytlfhnbdeadiedaa
