/- The program's closures: a piece. Printed by gen-mn19.py. -/
import Derived.Test.YtngepgnmlpinaaaMn18
import Derived.Test.YtngepgnmlpinaaaBaseTake
namespace Go.Proofs.Ytngepgnmlpinaaa
open Go.RowKit Go.Emb

structure GI (w0 : World) (av : List Nat) (w : World) (q rb eb tb : Nat) (bs : List UInt8) (v : Value) (bo : Option Nat) (st : Option (List UInt8)) : Prop where
  tape : TSt 90 w q bs v bo st
  hrb : w.heap[rb]? = some (.cells #[.pointer (some ⟨q, 0, none⟩)] 53)
  heb : w.heap[eb]? = some (.cells #[.func (.func 29) #[] #[.pointer (some ⟨rb, 0, none⟩)]] 61)
  htb : w.heap[tb]? = some (.cells #[.func (.func 26) #[] #[.pointer (some ⟨rb, 0, none⟩)]] 59)
  hav : av = [q, rb, eb, tb] ++ bo.toList
  nq : rb ≠ q ∧ eb ≠ q ∧ tb ≠ q ∧ bo ≠ some q
  qB : w0.heap.size ≤ q
  lt : ∀ b ∈ av, b < w.heap.size
  keep : Keep [] w0 w
theorem GI.turn {w0 w w' : World} {av : List Nat} {q rb eb tb : Nat} {bs : List UInt8} {v : Value} {bo : Option Nat} {st st' : Option (List UInt8)} (h : GI w0 av w q rb eb tb bs v bo st) (hk : Keep [q] w w') (ht : TSt 90 w' q bs v bo st') : GI w0 av w' q rb eb tb bs v bo st' :=
  ⟨ht, blk_keep h.hrb hk (by simpa using h.nq.1), blk_keep h.heb hk (by simpa using h.nq.2.1), blk_keep h.htb hk (by simpa using h.nq.2.2.1), h.hav, h.nq, h.qB, fun b hb => Nat.lt_of_lt_of_le (h.lt b hb) hk.size, h.keep.trans hk (fun b hb => by simp at hb; subst hb; exact .inr h.qB)⟩
theorem GI.next {w0 w w' : World} {av : List Nat} {q rb eb tb : Nat} {bs : List UInt8} {v : Value} {bo : Option Nat} {st : Option (List UInt8)} {F : List Nat} (h : GI w0 av w q rb eb tb bs v bo st) (hk : Keep F w w') (hF : ∀ b ∈ F, b ∉ av ∧ w0.heap.size ≤ b) : GI w0 av w' q rb eb tb bs v bo st :=
  ⟨h.tape.keep hk (fun hm => (hF _ hm).1 (by rw [h.hav]; simp)) (fun b hb hm => (hF _ hm).1 (by rw [h.hav, hb]; simp)), blk_keep h.hrb hk (fun hm => (hF _ hm).1 (by rw [h.hav]; simp)), blk_keep h.heb hk (fun hm => (hF _ hm).1 (by rw [h.hav]; simp)), blk_keep h.htb hk (fun hm => (hF _ hm).1 (by rw [h.hav]; simp)), h.hav, h.nq, h.qB, fun b hb => Nat.lt_of_lt_of_le (h.lt b hb) hk.size, h.keep.trans hk (fun b hb => .inr (hF b hb).2)⟩
theorem GI.bolt {w0 w : World} {av : List Nat} {q rb eb tb : Nat} {bs : List UInt8} {v : Value} {bo : Option Nat} {st : Option (List UInt8)} (h : GI w0 av w q rb eb tb bs v bo st) : ∀ b, bo = some b → b < w.heap.size := fun b hb => h.lt b (by rw [h.hav, hb]; simp)
theorem GI.qav {w0 w : World} {av : List Nat} {q rb eb tb : Nat} {bs : List UInt8} {v : Value} {bo : Option Nat} {st : Option (List UInt8)} (h : GI w0 av w q rb eb tb bs v bo st) : q ∈ av := by rw [h.hav]; simp
theorem exti_info : (Try.prog.info? 23).map (fun i => (i.zero, i.size, i.bytes)) = some (some (.agg #[.int .i64 0, .int .i64 0]), 2, 16) := by kernel_rfl
theorem plc_info : (Try.prog.info? 43).map (fun i => (i.zero, i.size, i.bytes)) = some (some (.agg #[.int .i64 0, .int .i64 0, .slice none 0 0]), 3, 40) := by kernel_rfl
theorem encX_one (x : Int × Int) : ∀ u ∈ encX x, u.oneCell' = true := by intro u hu; simp [encX] at hu; rcases hu with rfl | rfl <;> rfl
/-- a place's piece is laid behind the others: what holds behind the append and the store -/
theorem piece_laid {w0 w w3 w4 w5 w6 : World} {av : List Nat} {q rb eb tb pb mb : Nat} {bs : List UInt8} {v : Value} {bo : Option Nat} {st st' : Option (List UInt8)} {xo ro po : Option Nat} {p : Plc} {xv xv' : Value} {x : MnV} {y : Int × Int} {g : Nat}
    (hG : GI w0 av w q rb eb tb bs v bo st) (hP : PSep av w0.heap.size w pb xo p xv) (hM : MSep (pb :: (xo.toList ++ av)) w0.heap.size w mb ro po x)
    (ht : TSt 90 w3 q bs v bo st') (h3 : Keep [q] w w3) (h4 : Keep [] w3 w4) (h5 : Keep xo.toList w4 w5) (hg : xo = some g ∨ w4.heap.size ≤ g) (hrow : Row w5 23 2 xv' (p.pieces ++ [y]).length ((p.pieces ++ [y]).flatMap encX) (some g))
    (h6 : Keep [pb] w5 w6) (hb : w6.heap[pb]? = some (.cells #[.int .i64 p.pid, .int .i64 p.len, xv'] 43)) :
    GI w0 av w6 q rb eb tb bs v bo st' ∧ ∃ xo' xv', PSep av w0.heap.size w6 pb xo' { p with pieces := p.pieces ++ [y] } xv' ∧ MSep (pb :: (xo'.toList ++ av)) w0.heap.size w6 mb ro po x := by
  have hG3 := hG.turn h3 ht
  have hqx : ∀ b, xo = some b → b ∉ av ∧ w0.heap.size ≤ b := fun b hb => ⟨(hP.xon b hb).2.1, (hP.xon b hb).1⟩
  have hP4 : PSep av w0.heap.size w4 pb xo p xv := (hP.keep h3 (fun b hb => .inl (by simp at hb; rw [hb]; exact hG.qav))).keep h4 (fun b hb => by cases hb)
  have hM4 : MSep (pb :: (xo.toList ++ av)) w0.heap.size w4 mb ro po x := (hM.keep h3 (fun b hb => .inl (by simp at hb; rw [hb]; simp [hG.qav]))).keep h4 (fun b hb => by cases hb)
  have hG4 := hG3.next h4 (fun b hb => by cases hb)
  have hM4' := hM4.turn (bv := g :: pb :: (xo.toList ++ av)) (fun b hb => by
    rcases List.mem_cons.1 hb with rfl | hb
    · rcases hg with h | h
      · exact .inl (by simp [h])
      · exact .inr h
    · exact .inl hb)
  have hM6 := (hM4'.keep h5 (fun b hb => .inl (by simp at hb; simp [hb]))).keep h6 (fun b hb => .inl (by simp at hb; simp [hb]))
  refine ⟨(hG4.next h5 (fun b hb => by simp at hb; exact hqx b hb)).next h6 (fun b hb => by simp at hb; subst hb; exact ⟨hP.pbn, hP.pbB⟩), some g, xv', ?_, hM6.turn (fun b hb => .inl ?_)⟩
  · exact hP4.more hG4.keep.size hrow (hg.imp (fun h => h.symm) (fun h b hb => by cases hb; exact h)) hG4.lt h6 hb
  · simp at hb ⊢
    rcases hb with h | h | h
    · simp [h]
    · simp [h]
    · simp [h]
set_option maxRecDepth 100000 in
set_option maxHeartbeats 1000000 in
theorem p_piece {w0 w : World} {av : List Nat} {q rb eb tb pb mb : Nat} {bs : List UInt8} {v : Value} {bo : Option Nat} {l : List UInt8} {xo ro po : Option Nat} {p : Plc} {xv : Value} {x : MnV}
    (hG : GI w0 av w q rb eb tb bs v bo (some l)) (hP : PSep av w0.heap.size w pb xo p xv) (hM : MSep (pb :: (xo.toList ++ av)) w0.heap.size w mb ro po x) (hsz : p.pieces.length ≤ 1000000000) :
    Calls Try.prog 33 #[.pointer (some ⟨pb, 0, none⟩), .pointer (some ⟨eb, 0, none⟩)] w fun e w' => e = .returned (.tuple #[]) ∧ GI w0 av w' q rb eb tb bs v bo (gExt l).2 ∧ ∃ xo' xv', PSep av w0.heap.size w' pb xo' { p with pieces := p.pieces ++ [(gExt l).1] } xv' ∧ MSep (pb :: (xo'.toList ++ av)) w0.heap.size w' mb ro po x := by
  obtain ⟨i0, hi, hz0, hz1, hz2⟩ := info_parts exti_info
  have eg : ∀ args w, (callFunc 29 args).run Try.prog w = .ok (.enter 29 args) w := enters_of Try.func29 (by kernel_rfl) rfl
  have hex := p_extents (hG.tape.keep0 ((Keep.refl [] w).drew)) hG.hrb hG.nq.1 hG.bolt
  have hpe : pb ≠ q ∧ eb ≠ q ∧ pb ≠ eb := ⟨fun h => hP.pbn (h ▸ hG.qav), hG.nq.2.1, fun h => hP.pbn (by rw [hG.hav, h]; simp)⟩
  have HEX := Lib.hid hex
  have HI := Lib.hid hi
  have HG := Lib.hid hG
  have HP := Lib.hid hP
  have HM := Lib.hid hM
  have HN := Lib.hid hpe
  obtain ⟨R, hR⟩ : ∃ R, R = gExt l := ⟨_, rfl⟩
  have hR2 : oExt (some l) = R := hR.symm
  rw [← hR]
  rw [hR2] at HEX
  have HSX : Hid (w.drew.heap[pb]? = some (.cells #[.int .i64 p.pid, .int .i64 p.len, xv] 43) ∧ w.drew.heap[eb]? = some (.cells #[.func (.func 29) #[] #[.pointer (some ⟨rb, 0, none⟩)]] 61)) := Lib.hid ⟨hP.box, hG.heb⟩
  clear hex hi hG hP hM hpe hR hR2
  obtain ⟨⟨y1, y2⟩, st'⟩ := R
  simp only at HEX
  go_enter Try.func33, Try.ntmps33
  refine wp_regionB [1, 2, 3, 4] (fun w' => w'.heap[pb]? = some (.cells #[.int .i64 p.pid, .int .i64 p.len, xv] 43) ∧ w'.heap[eb]? = some (.cells #[.func (.func 29) #[] #[.pointer (some ⟨rb, 0, none⟩)]] 61)) (by kernel_rfl) ?_
  refine wpAnyB_takeY (i := 0) (v := ?vA0) rfl (by kernel_rfl) (by kernel_rfl) (by kernel_rfl) (by kernel_rfl) (fun _ _ _ h => h) (Or.inl ⟨by kernel_rfl, ?runA0⟩) ?_
  case runA0 => (intro w9 _; go_simp; try exact rfl)
  try simp only [Act.put, List.setIfInBounds_toArray, List.set_cons_zero, List.set_cons_succ]
  refine wpAnyB_take [2, 3, 4] (i := 1) (v := ?vA1) rfl (by kernel_rfl) (by kernel_rfl) (by kernel_rfl) (by kernel_rfl) (by kernel_rfl) (fun _ _ _ h => h) (Or.inl ⟨by kernel_rfl, ?runA1⟩) (HSX.out) ?_
  case runA1 => (intro w9 hS9; obtain ⟨c0, c1, c2, -⟩ := cells3 hS9.1; go_simp; try exact rfl)
  try simp only [Act.put, List.setIfInBounds_toArray, List.set_cons_zero, List.set_cons_succ]
  refine wpAnyB_take [] (i := 2) (v := ?vA2) rfl (by kernel_rfl) (by kernel_rfl) (by kernel_rfl) (by kernel_rfl) (by kernel_rfl) (fun _ _ _ h => h) (Or.inl ⟨by kernel_rfl, ?runA2⟩) (HSX.out) ?_
  case runA2 => (intro w9 hS9; obtain c0 := (show w9.cell? ⟨eb, 0, none⟩ = some (.func (.func 29) #[] #[.pointer (some ⟨rb, 0, none⟩)]) from by simp [World.cell?, hS9.2]); go_simp; try exact rfl)
  try simp only [Act.put, List.setIfInBounds_toArray, List.set_cons_zero, List.set_cons_succ]
  refine wpAnyB_ready (rs := [3]) (by kernel_rfl) (by simp) ?_
  refine AllReadyB.cons rfl (fun K hK => ?_) AllReadyB.nil
  go_simp
  refine HEX.out.mono ?_
  rintro e w3 ⟨rfl, ht3, hk3⟩
  have HT3 := Lib.hid ht3
  have HK3 := Lib.hid hk3
  have HS3 := Lib.hid (And.intro (blk_keep HSX.out.1 hk3 (by simpa using HN.out.1)) (blk_keep HSX.out.2 hk3 (by simpa using HN.out.2.1)))
  clear ht3 hk3
  go_wp2_with fail
  refine hK.out _ _ (fun h => HS3.out) ?_
  clear hK K
  try simp only [Act.put, List.setIfInBounds_toArray, List.set_cons_zero, List.set_cons_succ]
  refine wpAnyB_ready (rs := [4]) (by kernel_rfl) (by simp) ?_
  refine AllReadyB.cons rfl (fun K hK => ?_) AllReadyB.nil
  go_simp
  have HS4 := Lib.hid (And.intro (lit_alloc HS3.out.1 (.cells #[.int .i64 y1, .int .i64 y2] 23)) (lit_alloc HS3.out.2 (.cells #[.int .i64 y1, .int .i64 y2] 23)))
  have HK4 := Lib.hid ((Keep.refl [] w3).alloc (.cells #[.int .i64 y1, .int .i64 y2] 23))
  have HB4 := Lib.hid (heap_new w3 (.cells #[.int .i64 y1, .int .i64 y2] 23))
  generalize w3.alloc (.cells #[.int .i64 y1, .int .i64 y2] 23) = w4 at *
  refine hK.out _ _ (fun h => HS4.out) ?_
  clear hK K
  try simp only [Act.put, List.setIfInBounds_toArray, List.set_cons_zero, List.set_cons_succ]
  have HR4 : Hid (Row w4 23 2 xv p.pieces.length (p.pieces.flatMap encX) xo) := Lib.hid ((HP.out.row.keep ((Keep.refl [] w).drew) (by simp)).keep HK3.out (fun b hb hm => (HP.out.xon b hb).2.1 (by simp at hm; rw [hm]; exact HG.out.qav)) |>.keep HK4.out (by simp))
  refine wpAnyB_ready (rs := [5]) (by kernel_rfl) (by simp) ?_
  refine AllReadyB.cons rfl (fun K hK => ?_) AllReadyB.nil
  refine step_append_row _ (by kernel_rfl) _ _ 41 41 rfl 23 i0 (.agg #[.int .i64 0, .int .i64 0]) 2 16 Try.underlying41 HI.out hz0 hz1 hz2 rfl xv p.pieces.length _ xo rfl HR4.out _ rfl 1 [.int .i64 y1, .int .i64 y2] (src_blk (k := 2) Try.underlying41 HB4.out rfl (encX_one (y1, y2))) (by omega) (by unfold maxLen; omega) (by omega) ?_
  intro g off cap w5 hr5 hk5 hg5
  have hr6 : Row w5 23 2 (.slice (some ⟨g, off, none⟩) (p.pieces.length + 1) cap) (p.pieces ++ [((y1, y2) : Int × Int)]).length ((p.pieces ++ [((y1, y2) : Int × Int)]).flatMap encX) (some g) := by rw [List.flatMap_append, List.length_append]; exact hr5
  have hpx : ∀ b, xo = some b → b ≠ pb := fun b hb => (HP.out.xon b hb).2.2
  have HB5 := Lib.hid (blk_keep HS4.out.1 hk5 (fun hm => by simp at hm; exact hpx _ hm rfl))
  have HR5 := Lib.hid hr6
  have HK5 := Lib.hid hk5
  have HG5 := Lib.hid hg5
  clear hr5 hr6 hk5 hg5 hpx
  refine hK.out _ _ (fun h => (nomatch h)) ?_
  clear hK K
  try simp only [Act.put, List.setIfInBounds_toArray, List.set_cons_zero, List.set_cons_succ]
  refine wpAnyB_takeY (i := 6) (v := ?vA6) rfl (by kernel_rfl) (by kernel_rfl) (by kernel_rfl) (by kernel_rfl) (fun _ _ _ h => h) (Or.inl ⟨by kernel_rfl, ?runA6⟩) ?_
  case runA6 => (intro w9 _; go_simp; try exact rfl)
  try simp only [Act.put, List.setIfInBounds_toArray, List.set_cons_zero, List.set_cons_succ]
  refine wpAnyB_ready (rs := [7]) (by kernel_rfl) (by simp) ?_
  refine AllReadyB.cons rfl (fun K hK => ?_) AllReadyB.nil
  obtain ⟨c0, c1, c2, f0⟩ := cells3 HB5.out
  have f2 : w5.frozen? ⟨pb, 2, none⟩ = false := by simp [World.frozen?, HB5.out]
  go_simp
  refine hK.out _ _ (fun h => (nomatch h)) ?_
  clear hK K
  try simp only [Act.put, List.setIfInBounds_toArray, List.set_cons_zero, List.set_cons_succ]
  refine wpAnyB_done (by kernel_rfl) ?_ _
  have hk6 : Keep [pb] w5 (w5.setCell ⟨pb, 2, none⟩ (.slice (some ⟨g, off, none⟩) (p.pieces.length + 1) cap)) := (Keep.refl _ w5).setCell (.inl (by simp)) _
  have hb6 := heap_setCell_at (i := 2) HB5.out (.slice (some ⟨g, off, none⟩) (p.pieces.length + 1) cap)
  try simp only [Exit.inBlock, Exit.then]
  refine bodyPost_end (results_none rfl _ _ _) rfl ?_
  exact ⟨rfl, piece_laid HG.out HP.out HM.out HT3.out (((Keep.refl [q] w).drew).trans HK3.out (fun _ h => .inl h)) HK4.out HK5.out HG5.out HR5.out hk6 (by simpa using hb6)⟩
end Go.Proofs.Ytngepgnmlpinaaa
