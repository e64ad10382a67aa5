/- Terms: the document's constructors, List. Printed by gen-tm23.py. -/
import Derived.Test.YtcegdomfmamonaaDoorTm17
import Derived.Test.YtcegdomfmamonaaDoorTm13
import Derived.Test.YtcegdomfmamonaaDoorBaseReg
namespace Go.Proofs.YtcegdomfmamonaaDoor
open Go.RowKit Go.Emb

theorem r_int (n : Int) (w : World) : Calls Tryd.prog 25 #[.int .i64 n] w fun e w' => e = .returned (.agg #[.int .i64 1, .int .i64 n, .string ⟨#[]⟩, .slice none 0 0]) ∧ Keep [] w w' := by
  go_enter Tryd.func25, Tryd.ntmps25
  go_wp2_with fail
  try simp only [Exit.inBlock, Exit.then]
  refine bodyPost_ret (term_ret rfl rfl (heap_alloc_new w _)) rfl ?_
  exact ⟨rfl, (Keep.refl [] w).alloc _⟩
theorem r_atom (s : ByteArray) (w : World) : Calls Tryd.prog 27 #[.string s] w fun e w' => e = .returned (.agg #[.int .i64 2, .int .i64 0, .string s, .slice none 0 0]) ∧ Keep [] w w' := by
  go_enter Tryd.func27, Tryd.ntmps27
  go_wp2_with fail
  try simp only [Exit.inBlock, Exit.then]
  refine bodyPost_ret (term_ret rfl rfl (heap_alloc_new w _)) rfl ?_
  exact ⟨rfl, (Keep.refl [] w).alloc _⟩
theorem r_pid (n : Int) (w : World) : Calls Tryd.prog 29 #[.int .i64 n] w fun e w' => e = .returned (.agg #[.int .i64 5, .int .i64 n, .string ⟨#[]⟩, .slice none 0 0]) ∧ Keep [] w w' := by
  go_enter Tryd.func29, Tryd.ntmps29
  go_wp2_with fail
  try simp only [Exit.inBlock, Exit.then]
  refine bodyPost_ret (term_ret rfl rfl (heap_alloc_new w _)) rfl ?_
  exact ⟨rfl, (Keep.refl [] w).alloc _⟩
theorem r_ref (n : Int) (w : World) : Calls Tryd.prog 31 #[.int .i64 n] w fun e w' => e = .returned (.agg #[.int .i64 3, .int .i64 n, .string ⟨#[]⟩, .slice none 0 0]) ∧ Keep [] w w' := by
  go_enter Tryd.func31, Tryd.ntmps31
  go_wp2_with fail
  try simp only [Exit.inBlock, Exit.then]
  refine bodyPost_ret (term_ret rfl rfl (heap_alloc_new w _)) rfl ?_
  exact ⟨rfl, (Keep.refl [] w).alloc _⟩
theorem r_nil (w : World) : Calls Tryd.prog 33 #[] w fun e w' => e = .returned (.agg #[.int .i64 7, .int .i64 0, .string ⟨#[]⟩, .slice none 0 0]) ∧ Keep [] w w' := by
  go_enter Tryd.func33, Tryd.ntmps33
  go_wp2_with fail
  try simp only [Exit.inBlock, Exit.then]
  refine bodyPost_ret (term_ret rfl rfl (heap_alloc_new w _)) rfl ?_
  exact ⟨rfl, (Keep.refl [] w).alloc _⟩
theorem r_consX (h t : Tm) (w : World) : Calls Tryd.prog 35 #[aggTm h, aggTm t] w fun e w' => ∃ b, e = .returned (.agg #[.int .i64 8, .int .i64 0, .string ⟨#[]⟩, .slice (some ⟨b, 0, none⟩) 2 2]) ∧ w'.heap[b]? = some (.cells ([h, t].flatMap encTm).toArray 31) ∧ w.heap.size ≤ b ∧ Keep [] w w' := by
  unfold aggTm
  go_enter Tryd.func35, Tryd.ntmps35
  go_wp2_with fail
  try simp only [Exit.inBlock, Exit.then]
  refine bodyPost_ret (term_ret rfl rfl (heap_at4 w _ _ _ _).1) rfl ?_
  exact ⟨w.heap.size + 1 + 1 + 1, rfl, (heap_at4 w _ _ _ _).2, by omega, ((((Keep.refl [] w).alloc _).alloc _).alloc _).alloc _⟩
theorem r_cons {B : Nat} {w : World} {h t : Tm} (hh : RdTm B w h) (ht : RdTm B w t) (hB : B ≤ w.heap.size) : Calls Tryd.prog 35 #[aggTm h, aggTm t] w fun e w' => ∃ a c, e = .returned (.agg #[.int .i64 8, .int .i64 0, .string ⟨#[]⟩, .slice a 2 c]) ∧ RdTm w'.heap.size w' (.mk 8 0 ⟨#[]⟩ (.slice a 2 c) [h, t]) ∧ Keep [] w w' := by
  refine (r_consX h t w).mono ?_
  rintro e w' ⟨b, rfl, hb, hbw, hk⟩
  refine ⟨_, _, rfl, ?_, hk⟩
  have hlt := (Array.getElem?_eq_some_iff.1 hb).1
  refine HasT.tm ?_ (by omega) (by omega) (by simp [ByteArray.size])
  refine HasT.ofBlock (l := [h, t]) (E := 31) hb ?_ (by simp) (by omega)
  rw [RdTms_iff]
  intro x hx
  simp only [List.mem_cons, List.not_mem_nil, or_false] at hx
  rcases hx with rfl | rfl
  · exact (hh.keep0 hk).up (Nat.le_trans hB hk.size)
  · exact (ht.keep0 hk).up (Nat.le_trans hB hk.size)
theorem r_tuple {B : Nat} {w : World} {v : Value} {l : List Tm} (h : HasT B w v l) (hB : B ≤ w.heap.size) : Calls Tryd.prog 37 #[v] w fun e w' => ∃ a c, e = .returned (.agg #[.int .i64 6, .int .i64 0, .string ⟨#[]⟩, .slice a l.length c]) ∧ RdTm w'.heap.size w' (.mk 6 0 ⟨#[]⟩ (.slice a l.length c) l) ∧ Keep [] w w' := by
  obtain ⟨a, c, rfl, -, -⟩ := h.form
  have H0 := Lib.hid h
  clear h
  go_enter Tryd.func37, Tryd.ntmps37
  go_wp2_with fail
  try simp only [Exit.inBlock, Exit.then]
  refine bodyPost_ret (term_ret rfl rfl (heap_alloc_new w _)) rfl ?_
  have hk := (Keep.refl [] w).alloc (.cells #[.int .i64 6, .int .i64 0, .string ⟨#[]⟩, .slice a l.length c] 31)
  exact ⟨a, c, rfl, HasT.tm ((H0.out.keep0 hk).up (Nat.le_trans hB hk.size)) (by omega) (by omega) (by simp [ByteArray.size]), hk⟩
/-- between two rounds of the document's List -/
def LoopL (wA : World) (Q q : Nat) (l : List Tm) (m : Nat) (W : World) : Prop :=
  ∃ u, W.heap[Q]? = some (.cells #[.int .i64 u.kind, .int .i64 u.num, .string u.name, u.iv] 31) ∧ IsL (l.drop m) u ∧ RdP (fun b => b ≠ Q ∧ b ≠ q) W u ∧ (∃ a c, u.iv = .slice a u.items.length c) ∧ Keep [Q] wA W
theorem LoopL.start {wA : World} {Q q : Nat} {l : List Tm} (hb : wA.heap[Q]? = some (.cells #[.int .i64 7, .int .i64 0, .string ⟨#[]⟩, .slice none 0 0] 31)) : LoopL wA Q q l l.length wA := by
  refine ⟨.mk 7 0 ⟨#[]⟩ (.slice none 0 0) [], hb, by rw [List.drop_length]; exact ⟨_, rfl⟩, ?_, ⟨none, 0, rfl⟩, Keep.refl _ _⟩
  rw [RdP_iff]
  exact ⟨⟨by simp [Tm.num], by simp [Tm.name, ByteArray.size], by simp [Tm.items], none, ⟨by simp [Tm.items], none, 0, rfl, by simp [Tm.items], by simp [maxLen], .inl ⟨rfl, rfl⟩⟩, fun _ h => by cases h⟩, by simp [Tm.items]⟩
theorem LoopL.next {wA W w3 : World} {Q q k : Nat} {l : List Tm} {x u : Tm} {b : Nat} {x0 x1 x2 x3 : Value} (hk : k < l.length) (hx : l[k] = x) (hb : w3.heap[b]? = some (.cells ([x, u].flatMap encTm).toArray 31)) (hbW : W.heap.size ≤ b) (hk3 : Keep [] W w3)
    (hb3 : w3.heap[Q]? = some (.cells #[x0, x1, x2, x3] 31)) (hQ : Q < W.heap.size) (hq : q < W.heap.size) (hxr : RdP (fun b => b ≠ Q ∧ b ≠ q) W x) (hrp : RdP (fun b => b ≠ Q ∧ b ≠ q) W u) (hIL : IsL (l.drop (k + 1)) u) (hKQ : Keep [Q] wA W) :
    LoopL wA Q q l k ((((w3.setCell ⟨Q, 0, none⟩ (.int .i64 8)).setCell ⟨Q, 1, none⟩ (.int .i64 0)).setCell ⟨Q, 2, none⟩ (.string ⟨#[]⟩)).setCell ⟨Q, 3, none⟩ (.slice (some ⟨b, 0, none⟩) 2 2)) ∧
    Keep [Q] W ((((w3.setCell ⟨Q, 0, none⟩ (.int .i64 8)).setCell ⟨Q, 1, none⟩ (.int .i64 0)).setCell ⟨Q, 2, none⟩ (.string ⟨#[]⟩)).setCell ⟨Q, 3, none⟩ (.slice (some ⟨b, 0, none⟩) 2 2)) := by
  obtain ⟨s1, s2⟩ := set4 hb3 (.int .i64 8) (.int .i64 0) (.string ⟨#[]⟩) (.slice (some ⟨b, 0, none⟩) 2 2)
  have hks := (hk3.mono (G := [Q]) (fun _ h => nomatch h)).trans s2 (fun x hx => .inl hx)
  refine ⟨⟨.mk 8 0 ⟨#[]⟩ (.slice (some ⟨b, 0, none⟩) 2 2) [x, u], s1, ?_, ?_, ⟨_, _, rfl⟩, hKQ.trans hks (fun x hx => .inl hx)⟩, hks⟩
  · rw [List.drop_eq_getElem_cons hk, hx]
    exact ⟨_, u, rfl, hIL⟩
  · rw [RdP_iff]
    refine ⟨⟨by simp [Tm.num], by simp [Tm.name, ByteArray.size], by simp [Tm.items], some b, ?_, fun b' hb' => by cases hb'; omega⟩, fun y hy => ?_⟩
    · exact (Rd.ofBlock (n := 2) (k := 4) hb (by simp [encTm]) (by simp [maxLen])).keep s2 (fun b' hb' hm => by cases hb'; simp at hm; omega)
    · simp only [Tm.items, List.mem_cons, List.not_mem_nil, or_false] at hy
      rcases hy with rfl | rfl
      · exact hxr.keep hks (by simp)
      · exact hrp.keep hks (by simp)
set_option maxRecDepth 100000 in
set_option maxHeartbeats 4000000 in
theorem r_list {w : World} {v : Value} {l : List Tm} (h : HasT w.heap.size w v l) (hsz : l.length ≤ 1000000000) : Calls Tryd.prog 39 #[v] w (ListP w l) := by
  obtain ⟨a, c, rfl, hc1, hc2⟩ := h.form
  unfold maxLen at hc2
  have HH := Lib.hid h
  clear h
  have q2 : IntKind.i64.wrap ((l.length : Int) - 1) = (l.length : Int) - 1 := IntWalk.i64_in _ (by omega)
  go_enter Tryd.func39, Tryd.ntmps39
  go_wp2_with fail
  refine (r_nil _).mono ?_
  rintro e w1 ⟨rfl, hk1⟩
  have HB0 := Lib.hid ((hk1.block w.heap.size (by simp) (by simp)).trans (heap_alloc_new w _))
  have HK1 := Lib.hid (((Keep.refl [] w).alloc _).trans hk1 (by simp))
  have hz0 : w.heap.size < w1.heap.size := (Array.getElem?_eq_some_iff.1 HB0.out).1
  have HST := Lib.hid (LoopL.start (q := w.heap.size) (l := l) (heap_alloc_new w1 (.cells #[.int .i64 7, .int .i64 0, .string ⟨#[]⟩, .slice none 0 0] 31)))
  have HWA := Lib.hid ((Keep.refl [] w1).alloc (.cells #[.int .i64 7, .int .i64 0, .string ⟨#[]⟩, .slice none 0 0] 31))
  clear hk1
  go_wp2_with fail
  generalize w1.alloc (.cells #[.int .i64 7, .int .i64 0, .string ⟨#[]⟩, .slice none 0 0] 31) = wA at *
  go_loopw [4] (fun i wr => ∃ (m : Nat) (j : Int), m ≤ l.length ∧ .int .i64 j = i ∧ j = (m : Int) - 1 ∧ LoopL wA w1.heap.size w.heap.size l m wr) (fun i _ => (intOf i + 1).toNat)
  case atStart => exact ⟨l.length, _, Nat.le_refl _, rfl, rfl, HST.out⟩
  case round =>
    clear HST
    obtain ⟨m, j, hm, rfl, hj, u, hub, hIL, hRP, ⟨ua, uc, huv⟩, hKQ⟩ := hrel
    have HIL := Lib.hid hIL
    have HRP := Lib.hid hRP
    have HKQ := Lib.hid hKQ
    have HUV := Lib.hid huv
    rw [huv] at hub
    have HUB := Lib.hid hub
    clear hIL hRP hKQ huv hub
    have hKwr : Keep [] w wr := (HK1.out.trans HWA.out (by simp)).trans HKQ.out (fun x hx => by simp at hx; subst hx; right; exact HK1.out.size)
    by_cases hm0 : m = 0
    · subst hm0
      obtain rfl : j = -1 := by omega
      simp only [List.drop_zero] at HIL
      obtain ⟨u0, u1, u2, u3, -⟩ := cells4 HUB.out
      have hq : wr.heap[w.heap.size]? = some (.cells #[.int .i64 0, .int .i64 0, .string ⟨#[]⟩, .slice none 0 0] 31) := ((HWA.out.mono (G := [w1.heap.size]) (fun _ h => nomatch h)).trans HKQ.out (fun x hx => .inl hx)).block _ hz0 (by simp; omega) |>.trans HB0.out
      obtain ⟨n0, n1, n2, n3, nf⟩ := cells4 hq
      have nf0 := nf 0
      have nf1 := nf 1
      have nf2 := nf 2
      have nf3 := nf 3
      have HQ := Lib.hid hq
      have HKWR := Lib.hid hKwr
      clear hKwr hq nf hj
      go_wp2_with fail
      try simp only [Exit.inBlock, Exit.then]
      refine bodyPost_ret (term_ret rfl rfl (set4 HQ.out _ _ _ _).1) rfl ?_
      have hset := (set4 HQ.out (.int .i64 u.kind) (.int .i64 u.num) (.string u.name) (.slice ua u.items.length uc)).2
      have hset2 := HKWR.out.trans hset (fun x hx => by simp at hx; subst hx; right; exact Nat.le_refl _)
      exact ⟨u, by unfold aggTm; rw [HUV.out], HIL.out, (HRP.out.keep hset (by simp)).tm, hset2⟩
    · obtain ⟨k, rfl⟩ : ∃ k : Nat, m = k + 1 := ⟨m - 1, by omega⟩
      obtain rfl : j = (k : Int) := by omega
      have hlt : k < l.length := by omega
      have hQ : w1.heap.size < wr.heap.size := (Array.getElem?_eq_some_iff.1 HUB.out).1
      obtain ⟨b, off, hab, c0, c1, c2, c3, hrx⟩ := HH.out.at hKwr hlt
      subst hab
      have hbB : b < w.heap.size := by
        obtain ⟨⟨o, hrd, ho⟩, -⟩ := HH.out
        obtain ⟨_, _, hq, ho2, -⟩ := hrd.at4 hlt
        cases hq
        exact ho b ho2
      have hbQ : b ∉ [w1.heap.size] := by simp; omega
      obtain ⟨xa2, xc2, hxv, -, -⟩ := hrx.has.form
      rw [hxv] at c3
      obtain ⟨x, hx⟩ : ∃ x, l[k] = x := ⟨_, rfl⟩
      rw [hx] at c0 c1 c2 c3 hrx hxv
      have HX := Lib.hid hx
      have hxr : RdP (fun b => b ≠ w1.heap.size ∧ b ≠ w.heap.size) wr x := hrx.toP (fun b hb => by omega)
      have HXR := Lib.hid hxr
      have HS2 : Hid (∀ w', Keep [w1.heap.size] wr w' → w'.cell? ⟨b, off + k * 4, none⟩ = some (.int .i64 x.kind) ∧ w'.cell? ⟨b, off + k * 4 + 1, none⟩ = some (.int .i64 x.num) ∧ w'.cell? ⟨b, off + k * 4 + 2, none⟩ = some (.string x.name) ∧ w'.cell? ⟨b, off + k * 4 + 3, none⟩ = some (.slice xa2 x.items.length xc2)) := fun w' hk' => ⟨hk'.cellOf c0 hbQ, hk'.cellOf c1 hbQ, hk'.cellOf c2 hbQ, hk'.cellOf c3 hbQ⟩
      have hcall := fun W => r_consX x u W
      unfold aggTm at hcall
      rw [hxv, HUV.out] at hcall
      have HCALL := Lib.hid hcall
      have HKD := Lib.hid ((Keep.refl [] wr).drew)
      have HKDQ := Lib.hid ((Keep.refl [w1.heap.size] wr).drew)
      have i0' : (0 : Int) ≤ (k : Int) := by omega
      have i1' : (k : Int) < (l.length : Int) := by omega
      have hwm : IntKind.i64.wrap ((k : Int) - 1) = (k : Int) - 1 := IntWalk.i64_in _ (by omega)
      clear c0 c1 c2 c3 hrx hxv hx hxr hcall hbQ hbB hj hm hKwr q2
      go_wp2_with fail
      refine wp_region_held_drew (S := fun w' => Keep [w1.heap.size] wr w') (by kernel_rfl) ((Keep.refl [w1.heap.size] wr).drew) (fun hHeld => ?_)
      generalize wr.drew = wD at *
      refine wpAnyH_takeL (i := 0) (v := ?vL0) rfl (by kernel_rfl) (by kernel_rfl) (by kernel_rfl) (fun _ _ _ h => h) (Or.inl ⟨by kernel_rfl, ?runL0⟩) hHeld ?_
      case runL0 => (intro w9 hS9; obtain ⟨c0, c1, c2, c3⟩ := HS2.out w9 hS9; go_simp; try exact rfl)
      try simp only [Act.put, List.setIfInBounds_toArray, List.set_cons_zero, List.set_cons_succ]
      refine wpAnyH_takeL (i := 1) (v := ?vL1) rfl (by kernel_rfl) (by kernel_rfl) (by kernel_rfl) (fun _ _ _ h => h) (Or.inl ⟨by kernel_rfl, ?runL1⟩) hHeld ?_
      case runL1 => (intro w9 hS9; obtain ⟨c0, c1, c2, c3⟩ := HS2.out w9 hS9; go_simp; try exact rfl)
      try simp only [Act.put, List.setIfInBounds_toArray, List.set_cons_zero, List.set_cons_succ]
      refine wpAnyH_takeL (i := 2) (v := ?vL2) rfl (by kernel_rfl) (by kernel_rfl) (by kernel_rfl) (fun _ _ _ h => h) (Or.inl ⟨by kernel_rfl, ?runL2⟩) hHeld ?_
      case runL2 => (intro w9 hS9; obtain ⟨c0, c1, c2, c3⟩ := HS2.out w9 hS9; go_simp; try exact rfl)
      try simp only [Act.put, List.setIfInBounds_toArray, List.set_cons_zero, List.set_cons_succ]
      refine wpAnyH_takeL (i := 3) (v := ?vL3) rfl (by kernel_rfl) (by kernel_rfl) (by kernel_rfl) (fun _ _ _ h => h) (Or.inl ⟨by kernel_rfl, ?runL3⟩) hHeld ?_
      case runL3 => (intro w9 hS9; obtain ⟨c0, c1, c2, c3⟩ := HS2.out w9 hS9; go_simp; try exact rfl)
      try simp only [Act.put, List.setIfInBounds_toArray, List.set_cons_zero, List.set_cons_succ]
      have hub2 := box_later HUB.out HKD.out (by simp)
      obtain ⟨u0, u1, u2, u3, -⟩ := cells4 hub2
      refine wpAnyH_ready (rs := [4]) (by kernel_rfl) (by simp) ?_
      refine AllReadyH.consL rfl (fun K hK => ?_) AllReadyH.nil
      go_simp
      refine hK.out _ _ HKDQ.out (fun hHeld => ?_)
      clear hK K
      try simp only [Act.put, List.setIfInBounds_toArray, List.set_cons_zero, List.set_cons_succ]
      refine wpAnyH_ready (rs := [5]) (by kernel_rfl) (by simp) ?_
      refine AllReadyH.consL rfl (fun K hK => ?_) AllReadyH.nil
      go_simp
      refine (HCALL.out _).mono ?_
      rintro r w3 ⟨b3, rfl, hb, hbW, hk3⟩
      have hb3 := box_later hub2 hk3 (by simp)
      clear u0 u1 u2 u3
      have hgo := LoopL.next hlt HX.out hb hbW hk3 hb3 (Nat.lt_of_lt_of_le hQ HKD.out.size) (Nat.lt_of_lt_of_le (Nat.lt_trans hz0 hQ) HKD.out.size) (HXR.out.keep HKD.out (by simp)) (HRP.out.keep HKD.out (by simp)) HIL.out (HKQ.out.trans HKD.out (by simp))
      have HGO := Lib.hid hgo
      obtain ⟨n0, n1, n2, n3, nf⟩ := cells4 hb3
      have nf0 := nf 0
      have nf1 := nf 1
      have nf2 := nf 2
      have nf3 := nf 3
      have hS3 : Keep [w1.heap.size] wr w3 := HKDQ.out.trans hk3 (by simp)
      clear nf hb hbW hk3 hb3 hgo HCALL
      go_wp2_with fail
      refine hK.out _ _ hS3 (fun hHeld => ?_)
      clear hK K
      try simp only [Act.put, List.setIfInBounds_toArray, List.set_cons_zero, List.set_cons_succ]
      refine wpAnyH_ready (rs := [6]) (by kernel_rfl) (by simp) ?_
      refine AllReadyH.consL rfl (fun K hK => ?_) AllReadyH.nil
      go_simp
      refine hK.out _ _ (HKDQ.out.trans HGO.out.2 (fun x hx => .inl hx)) (fun hHeld => ?_)
      clear hK K
      try simp only [Act.put, List.setIfInBounds_toArray, List.set_cons_zero, List.set_cons_succ]
      refine wpAnyH_done (by kernel_rfl) ?_ _
      clear n0 n1 n2 n3 nf0 nf1 nf2 nf3
      go_wp2_with fail
      go_roundw
      case rel => exact ⟨k, _, by omega, rfl, rfl, HGO.out.1⟩
      case measure => simp [intOf] <;> omega
end Go.Proofs.YtcegdomfmamonaaDoor
