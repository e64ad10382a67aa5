/- Scanning: the statements' live. -/
import Derived.Test.YtiiklakfelbjfaaDoorSc9
namespace Go.Emb
theorem live1 : scanL [102, 40, 88, 41, 32, 45, 62, 32, 39, 97, 32, 98, 39, 46] 0 = .ok [(⟨2, 0, [102], 1⟩, 0), (⟨5, 0, [40], 1⟩, 1), (⟨3, 0, [88], 1⟩, 2), (⟨5, 0, [41], 1⟩, 3), (⟨5, 0, [45, 62], 2⟩, 5), (⟨2, 0, [97, 32, 98], 5⟩, 8), (⟨5, 0, [46], 1⟩, 13)] := by
  have q : tokL [39, 97, 32, 98, 39, 46] = .ok ⟨2, 0, [97, 32, 98], 5⟩ := by
    unfold tokL
    simp only
    rw [if_neg (by decide), if_neg (by decide), if_pos (by decide)]
    rw [quoL_cons, if_neg (by decide), if_neg (by decide), if_neg (by decide), quoL_cons, if_neg (by decide), if_neg (by decide), if_neg (by decide), quoL_cons, if_neg (by decide), if_neg (by decide), if_neg (by decide), quoL_cons, if_pos (by decide), if_neg (by decide)]
    rfl
  have t1 : tokL [102, 40, 88, 41, 32, 45, 62, 32, 39, 97, 32, 98, 39, 46] = .ok ⟨2, 0, [102], 1⟩ := rfl
  have t2 : tokL [40, 88, 41, 32, 45, 62, 32, 39, 97, 32, 98, 39, 46] = .ok ⟨5, 0, [40], 1⟩ := rfl
  have t3 : tokL [88, 41, 32, 45, 62, 32, 39, 97, 32, 98, 39, 46] = .ok ⟨3, 0, [88], 1⟩ := rfl
  have t4 : tokL [41, 32, 45, 62, 32, 39, 97, 32, 98, 39, 46] = .ok ⟨5, 0, [41], 1⟩ := rfl
  have t5 : tokL [45, 62, 32, 39, 97, 32, 98, 39, 46] = .ok ⟨5, 0, [45, 62], 2⟩ := rfl
  have t6 : tokL [46] = .ok ⟨5, 0, [46], 1⟩ := rfl
  rw [scanL_tok _ _ (by decide) (by decide), t1]
  simp only [List.drop_succ_cons, List.drop_zero]
  rw [scanL_tok _ _ (by decide) (by decide), t2]
  simp only [List.drop_succ_cons, List.drop_zero]
  rw [scanL_tok _ _ (by decide) (by decide), t3]
  simp only [List.drop_succ_cons, List.drop_zero]
  rw [scanL_tok _ _ (by decide) (by decide), t4]
  simp only [List.drop_succ_cons, List.drop_zero]
  rw [scanL_blank _ _ (by decide), scanL_tok _ _ (by decide) (by decide), t5]
  simp only [List.drop_succ_cons, List.drop_zero]
  rw [scanL_blank _ _ (by decide), scanL_tok _ _ (by decide) (by decide), q]
  simp only [List.drop_succ_cons, List.drop_zero]
  rw [scanL_tok _ _ (by decide) (by decide), t6]
  simp only [List.drop_succ_cons, List.drop_zero]
  rw [scanL_nil]
theorem live2 : scanL [97, 32, 36] 0 = .error (100, 2) := by
  have t1 : tokL [97, 32, 36] = .ok ⟨2, 0, [97], 1⟩ := rfl
  have t2 : tokL [36] = .error (100, 0) := rfl
  rw [scanL_tok _ _ (by decide) (by decide), t1]
  simp only [List.drop_succ_cons, List.drop_zero]
  rw [scanL_blank _ _ (by decide), scanL_tok _ _ (by decide) (by decide), t2]
  rfl
end Go.Emb
namespace Go.Proofs.YtiiklakfelbjfaaDoor
open Go.RowKit Go.Emb

theorem flat_at {α : Type} {e : α → List Value} {m : Nat} (he : ∀ x, (e x).length = m) : ∀ (l : List α) (k : Nat) (h : k < l.length) (j : Nat), j < m → (l.flatMap e)[k * m + j]? = (e l[k])[j]?
  | [], k, h, _, _ => by simp at h
  | x :: l, 0, h, j, hj => by
    rw [List.flatMap_cons, List.getElem?_append_left (by rw [he]; omega)]
    simp
  | x :: l, k + 1, h, j, hj => by
    rw [List.flatMap_cons, List.getElem?_append_right (by rw [he, Nat.succ_mul]; omega), he, show (k + 1) * m + j - m = k * m + j from by rw [Nat.succ_mul]; omega, flat_at he l k (by simpa using h) j hj]
    simp
theorem rd_at {α : Type} {e : α → List Value} {m : Nat} (he : ∀ x, (e x).length = m) {w : World} {a : Option Addr} {c n : Nat} {l : List α} {o : Option Nat} (h : Rd w m (.slice a n c) l.length (l.flatMap e) o) {k : Nat} (hk : k < l.length) (hm : 0 < m) :
    ∃ b off, a = some ⟨b, off, none⟩ ∧ o = some b ∧ ∀ j, j < m → w.cell? ⟨b, off + (k * m + j), none⟩ = (e l[k])[j]? := by
  obtain ⟨hl, a', c', hv, _, _, h3⟩ := h
  cases hv
  rcases h3 with ⟨h3, _⟩ | ⟨b, off, rfl, rfl, h3⟩
  · omega
  · refine ⟨b, off, rfl, rfl, fun j hj => ?_⟩
    have : k * m + m ≤ l.length * m := by rw [← Nat.succ_mul]; exact Nat.mul_le_mul_right _ hk
    rw [h3 (k * m + j) (by omega), flat_at he l k hk j hj]
theorem encT_len (x : Tk × Nat) : (encT x).length = 5 := rfl
/-- tokens that are read -/
def HasK (w : World) (v : Value) (ts : List (Tk × Nat)) : Prop := ∃ o, Rd w 5 v ts.length (ts.flatMap encT) o ∧ ∀ b, o = some b → b < w.heap.size
theorem HasK.keep {w w' : World} {v : Value} {ts : List (Tk × Nat)} (h : HasK w v ts) (k : Keep [] w w') : HasK w' v ts := by
  obtain ⟨o, h1, h2⟩ := h
  exact ⟨o, h1.keep k (by simp), fun b hb => Nat.lt_of_lt_of_le (h2 b hb) k.size⟩
theorem RowT.has {w : World} {v : Value} {ts : List (Tk × Nat)} {o : Option Nat} (h : RowT w v ts o) : HasK w v ts := by
  obtain ⟨o', h1, h2⟩ := Row.rd h
  refine ⟨o', h1, fun b hb => ?_⟩
  rcases h2 with h2 | h2
  · rw [h2] at hb; cases hb
  · exact Row.lt h b (by rw [← h2]; exact hb)
theorem HasK.slice {w : World} {v : Value} {ts : List (Tk × Nat)} (h : HasK w v ts) : ∃ a c, v = .slice a ts.length c := by
  obtain ⟨o, ⟨-, a, c, h1, -⟩, -⟩ := h
  exact ⟨a, c, h1⟩
theorem HasK.at {w : World} {a : Option Addr} {c n : Nat} {ts : List (Tk × Nat)} (h : HasK w (.slice a n c) ts) {k : Nat} (hk : k < ts.length) :
    ∃ b off, a = some ⟨b, off, none⟩ ∧ w.cell? ⟨b, off + k * 5, none⟩ = some (.int .i64 ts[k].1.kind) ∧ w.cell? ⟨b, off + k * 5 + 1, none⟩ = some (.int .i64 ts[k].1.num) ∧ w.cell? ⟨b, off + k * 5 + 2, none⟩ = some (.string ⟨ts[k].1.text.toArray⟩) ∧
      w.cell? ⟨b, off + k * 5 + 3, none⟩ = some (.int .i64 (ts[k].2 : Nat)) ∧ w.cell? ⟨b, off + k * 5 + 4, none⟩ = some (.int .i64 (ts[k].2 + ts[k].1.en : Nat)) := by
  obtain ⟨o, h1, -⟩ := h
  obtain ⟨b, off, rfl, rfl, h3⟩ := rd_at (m := 5) encT_len h1 hk (by omega)
  exact ⟨b, off, rfl, by simpa [encT] using h3 0 (by omega), by simpa [encT, Nat.add_assoc] using h3 1 (by omega), by simpa [encT, Nat.add_assoc] using h3 2 (by omega), by simpa [encT, Nat.add_assoc] using h3 3 (by omega), by simpa [encT, Nat.add_assoc] using h3 4 (by omega)⟩
theorem p_scanS {s : ByteArray} {w : World} (he : ErrOk w) (hs : s.size ≤ 16384) : Calls Tryd.prog 7 #[.string s] w (ScanP w false (scanL s.data.toList 0)) := by
  have h := p_scan s w he (by omega)
  rwa [decide_eq_false (by omega)] at h
theorem q_num (n : Int) (w : World) : Calls Tryd.prog 8 #[.int .i64 n] w fun e w' => e = .returned (.int .i64 n) ∧ w = w' := by
  go_enter Tryd.func8, Tryd.ntmps8
  go_wp2_with fail
  go_ret
  exact ⟨rfl, rfl⟩
set_option maxRecDepth 100000 in
set_option maxHeartbeats 2000000 in
theorem q_live {w : World} (he : ErrOk w) : Calls Tryd.prog 6 #[] w fun e w' => e = .returned (.bool true) ∧ Keep [] w w' := by
  have h1 := p_scanS (s := ⟨#[102, 40, 88, 41, 32, 45, 62, 32, 39, 97, 32, 98, 39, 46]⟩) he (by decide)
  have h2 := fun (W : World) (hW : Keep [] w W) => p_scanS (s := ⟨#[97, 32, 36]⟩) (he.keep hW) (by decide)
  simp only at h1 h2
  rw [live1] at h1
  simp only [live2] at h2
  have h3 := fun (W : World) => p_word ⟨#[101, 110, 100]⟩ W
  have hw : wordsS.contains [101, 110, 100] = true := by decide
  simp only [hw] at h3
  have H1 := Lib.hid h1
  have H2 := Lib.hid h2
  have H3 := Lib.hid h3
  clear h1 h2 h3 he hw
  go_enter Tryd.func6, Tryd.ntmps6
  go_wp2_with fail
  refine H1.out.mono ?_
  rintro e w2 ⟨⟨v, o, rfl, hr, -⟩, hk2⟩
  have hh := hr.has
  obtain ⟨va, vc, rfl⟩ := hh.slice
  have HH := Lib.hid hh
  have HK2 := Lib.hid hk2
  clear hr hh hk2
  go_wp2_with fail
  refine (H2.out w2 HK2.out).mono ?_
  rintro e w3 ⟨rfl, hk3⟩
  have HK3 := Lib.hid (HK2.out.trans hk3 (by simp))
  have hh3 := HH.out.keep hk3
  obtain ⟨b, off, rfl, a0, -, -, -, -⟩ := hh3.at (k := 2) (by decide)
  obtain ⟨b', off', hb4, -, -, a1, -, -⟩ := hh3.at (k := 4) (by decide)
  cases hb4
  obtain ⟨b', off', hb4, -, -, a2, -, -⟩ := hh3.at (k := 5) (by decide)
  cases hb4
  simp only [List.length_cons, List.length_nil] at *
  simp at a0 a1 a2
  clear hh3 hk3 HH
  go_wp2_with fail
  refine (q_num _ w3).mono ?_
  rintro e w4 ⟨rfl, rfl⟩
  go_wp2_with fail
  refine (q_num _ w3).mono ?_
  rintro e w4 ⟨rfl, rfl⟩
  go_wp2_with fail
  refine (H3.out w3).mono ?_
  rintro e w4 ⟨rfl, rfl⟩
  go_wp2_with fail
  go_ret
  exact ⟨rfl, HK3.out⟩
end Go.Proofs.YtiiklakfelbjfaaDoor
