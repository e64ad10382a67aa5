/- QueuePlays: the walk. -/
import Derived.Test.YtphfmbkfcjiciaaPlaysS
import Derived.Test.YtphfmbkfcjiciaaOnceP
import Derived.Test.YtphfmbkfcjiciaaBaseCut
import Derived.Deep.RegionHeld3
import Derived.Deep.DrawnRows
import Derived.Deep.Light
import Derived.Deep.CutBlock
import Derived.Deep.DeepCutAuto
namespace Go.Proofs.Ytphfmbkfcjiciaa.plays
open Go.RowKit Go.Emb Go.Shelf Go.Lib Go.Sort

/-- a box -/
def TB (b : Nat) (ob : Obj) : Thing := ⟨fun w => w.heap[b]? = some ob, [b], fun {w w' F} h hk hn => (hk.block b (Array.getElem?_eq_some_iff.1 h).1 (hn b (by simp))).trans h⟩

/-- both queues after k acts -/
def PlaysR (w : World) (q r : Nat) (acts : List ActV) (k : Nat) (L : List Thing) (wr : World) : Prop :=
  ∃ l T F G, Sep w (TQ q l T F :: TR r l (sortT T) G :: L) wr ∧ l.length ≤ sumL (acts.take k) + 150 * k ∧ T.length ≤ k

theorem isR_new (w : World) : IsR (w.alloc (.cells #[.slice none 0 0, .slice none 0 0] 47)) w.heap.size [] (sortT []) [w.heap.size] :=
  ⟨.slice none 0 0, .slice none 0 0, none, none, ⟨heap_alloc_new w _, ⟨rfl, none, 0, rfl, Nat.le_refl _, Nat.zero_le _, .inl ⟨rfl, rfl⟩⟩, ⟨by simp [sortT], none, 0, by simp [sortT], by simp [sortT], Nat.zero_le _, .inl ⟨by simp [sortT], rfl⟩⟩, by simp, by simp⟩, rfl⟩

/-- an act that came in, still there -/
theorem act_cells {w0 w : World} {v : Value} {acts : List ActV} (h : RdActs w0 v acts) (k : Keep [] w0 w) {a : Option Addr} {c : Nat} (hv : v = .slice a acts.length c) {i : Nat} (hi : i < acts.length) :
    ∃ b off, a = some ⟨b, off, none⟩ ∧ w.cell? ⟨b, off + i * 4, none⟩ = some (.int .i64 acts[i].kind) ∧ w.cell? ⟨b, off + i * 4 + 1, none⟩ = some acts[i].lv ∧ w.cell? ⟨b, off + i * 4 + 2, none⟩ = some (.int .i64 acts[i].p) ∧ w.cell? ⟨b, off + i * 4 + 3, none⟩ = some (.int .i64 acts[i].t) ∧
      ∃ o, Rd w 1 acts[i].lv acts[i].l.length (acts[i].l.map (Value.int .i64)) o ∧ ∀ b, o = some b → b < w0.heap.size := by
  have hk := h.keep k
  obtain ⟨a', c', hv', _, _, h3, h4⟩ := hk
  rw [hv] at hv'
  cases hv'
  obtain ⟨a', c', hv', _, _, h5, _⟩ := h
  obtain ⟨⟨o, r1, r2⟩, _⟩ := h5 acts[i] (List.getElem_mem hi)
  rcases h4 with h4 | ⟨b, off, rfl, hb, h4⟩
  · omega
  · obtain ⟨c0, c1, c2, c3⟩ := h4 i hi
    exact ⟨b, off, rfl, c0, c1, c2, c3, o, r1.keep0 k, r2⟩


theorem tb_cells {w0 w : World} {L : List Thing} (h : Sep w0 L w) {b : Nat} {x0 x1 x2 x3 : Value} {t : TypeId} (hm : TB b (.cells #[x0, x1, x2, x3] t) ∈ L) :
    w.cell? ⟨b, 0, none⟩ = some x0 ∧ w.cell? ⟨b, 1, none⟩ = some x1 ∧ w.cell? ⟨b, 2, none⟩ = some x2 ∧ w.cell? ⟨b, 3, none⟩ = some x3 := by
  have hb : w.heap[b]? = some (.cells #[x0, x1, x2, x3] t) := h.get hm
  refine ⟨?_, ?_, ?_, ?_⟩ <;> simp [World.cell?, hb]
theorem tb3 {w0 w : World} {A B : Thing} {b : Nat} {x0 x1 x2 x3 : Value} {t : TypeId} (h : Sep w0 [A, B, TB b (.cells #[x0, x1, x2, x3] t)] w) :
    w.cell? ⟨b, 0, none⟩ = some x0 ∧ w.cell? ⟨b, 1, none⟩ = some x1 ∧ w.cell? ⟨b, 2, none⟩ = some x2 ∧ w.cell? ⟨b, 3, none⟩ = some x3 := tb_cells (t := t) h (by simp)
theorem tb4 {w0 w : World} {A B C : Thing} {b : Nat} {x0 x1 x2 x3 : Value} {t : TypeId} (h : Sep w0 [A, B, C, TB b (.cells #[x0, x1, x2, x3] t)] w) :
    w.cell? ⟨b, 0, none⟩ = some x0 ∧ w.cell? ⟨b, 1, none⟩ = some x1 ∧ w.cell? ⟨b, 2, none⟩ = some x2 ∧ w.cell? ⟨b, 3, none⟩ = some x3 := tb_cells (t := t) h (by simp)
theorem tb5 {w0 w : World} {A B C D : Thing} {b : Nat} {x0 x1 x2 x3 : Value} {t : TypeId} (h : Sep w0 [A, B, C, D, TB b (.cells #[x0, x1, x2, x3] t)] w) :
    w.cell? ⟨b, 0, none⟩ = some x0 ∧ w.cell? ⟨b, 1, none⟩ = some x1 ∧ w.cell? ⟨b, 2, none⟩ = some x2 ∧ w.cell? ⟨b, 3, none⟩ = some x3 := tb_cells (t := t) h (by simp)
theorem _root_.Go.Emb.Sep.rot3 {w0 w : World} {a b c : Thing} {L : List Thing} (h : Sep w0 (a :: b :: c :: L) w) : Sep w0 (c :: a :: b :: L) w :=
  h.perm (((List.Perm.swap c b L).cons a).trans (List.Perm.swap c a _))
theorem _root_.Go.Emb.Sep.five1 {w0 w : World} {a b c d e : Thing} (h : Sep w0 [a, b, c, d, e] w) : Sep w0 [c, a, e] w :=
  (Sep.sub h (L' := [a, c, e]) (by exact ((((List.Sublist.refl _).cons _).cons_cons c).cons b).cons_cons a)).swap
theorem _root_.Go.Emb.Sep.five2 {w0 w : World} {a b c d e : Thing} (h : Sep w0 [a, b, c, d, e] w) : Sep w0 [a, c, e] w :=
  Sep.sub h (by exact ((((List.Sublist.refl _).cons _).cons_cons c).cons b).cons_cons a)
theorem mdel_le (T : List (Int × Int)) (p : Int) : (mdel T p).length ≤ T.length := List.length_filter_le _ _
theorem _root_.Go.Emb.Keep.cellOf {w w' : World} (h : Keep [] w w') {p : Addr} {v : Value} (hc : w.cell? p = some v) : w'.cell? p = some v := by
  rw [h.cell (World.block_lt_of_cell? _ _ hc) (by simp)]; exact hc
def WaitK (w : World) (k : Nat) (n : Nat) (xs : List Value) (e : Ending) (w' : World) : Prop := ∃ v o, e = .returned v ∧ Rd w' k v n xs o ∧ Keep [] w w'
theorem waiting_k {w0 w : World} {q : Nat} {l : List Int} {T : List (Int × Int)} {F : List Nat} {L : List Thing} (h : Sep w0 (TQ q l T F :: L) w) (hsz : l.length ≤ 1000000000) :
    Calls Try.prog 10 #[.pointer (some ⟨q, 0, none⟩)] w (WaitK w 1 l.length (l.map (Value.int .i64))) := by
  refine (waiting_any (h.get (t := TQ q l T F) (by simp)) hsz).mono ?_
  rintro e w' ⟨v, o, rfl, hrow, ho, hk⟩
  obtain ⟨o', hr, -⟩ := hrow.rd
  rw [List.length_map] at hr
  exact ⟨v, o', rfl, hr, hk⟩
theorem timers_k {w0 w : World} {q : Nat} {l : List Int} {T : List (Int × Int)} {F : List Nat} {L : List Thing} (h : Sep w0 (TQ q l T F :: L) w) (hsz : T.length ≤ 1000000000) :
    Calls Try.prog 16 #[.pointer (some ⟨q, 0, none⟩)] w (WaitK w 2 (sortT T).length ((sortT T).flatMap encT)) := by
  refine (timers_any (h.get (t := TQ q l T F) (by simp)) hsz).mono ?_
  rintro e w' ⟨v, o, rfl, hrow, ho, hk⟩
  obtain ⟨o', hr, -⟩ := hrow.rd
  rw [← sortT_length T] at hr
  exact ⟨v, o', rfl, hr, hk⟩
theorem numbers_same {w : World} {u v : Value} {xs : List Int} {ox oy : Option Nat} (hx : Rd w 1 u xs.length (xs.map (Value.int .i64)) ox) (hy : Rd w 1 v xs.length (xs.map (Value.int .i64)) oy) (hsx : xs.length ≤ 1000000000) :
    Calls Try.prog 15 #[u, v] w fun e w' => e = .returned (.bool true) ∧ Keep [] w w' := by
  refine (numbers_any hx hy hsx hsx).mono ?_
  rintro e w' ⟨rfl, n, rfl⟩
  exact ⟨by simp, (Keep.refl _ _).drewN n⟩
theorem timers_same {w : World} {u v : Value} {xs : List (Int × Int)} {ox oy : Option Nat} (hx : Rd w 2 u xs.length (xs.flatMap encT) ox) (hy : Rd w 2 v xs.length (xs.flatMap encT) oy) (hsx : xs.length ≤ 1000000000) :
    Calls Try.prog 27 #[u, v] w fun e w' => e = .returned (.bool true) ∧ Keep [] w w' := by
  refine (r_timers hx hy hsx hsx).mono ?_
  rintro e w' ⟨rfl, n, rfl⟩
  exact ⟨by simp, (Keep.refl _ _).drewN n⟩

def TW (v : Value) (xs : List Int) (b : Nat) : Thing := TRow 2 1 v xs.length (xs.map (Value.int .i64)) (some b)
theorem st_build {w0 W : World} {L : List Thing} (h : Sep w0 L W) : Sep w0 (TW (.slice (some ⟨W.heap.size, 0, none⟩) 0 0) [] W.heap.size :: L) (W.alloc (.cells #[] 2)) :=
  Sep.add h ((Keep.refl [] W).alloc _) (Row.made0 W _ _) (fun b hb => by simp [TW, TRow] at hb; subst hb; simp)
theorem st_append {w0 w w' : World} {L : List Thing} {v v' : Value} {xs : List Int} {b g : Nat} {n : Nat} {ys : List Value} (h : Sep w0 (TW v [] b :: L) w) (hr : Row w' 2 1 v' n ys (some g)) (hn : n = xs.length) (hy : ys = xs.map (Value.int .i64)) (hk : Keep [b] w w') (hg : b = g ∨ w.heap.size ≤ g) : Sep w0 (TW v' xs g :: L) w' := by
  subst hn hy
  refine h.step (t' := TW v' xs g) hk hr (fun c hc => ?_)
  simp [TW, TRow] at hc
  subst hc
  refine ⟨?_, hr.lt _ rfl⟩
  rcases hg with rfl | hg
  · left; simp [TW, TRow]
  · right; exact hg
def QW (w0 : World) (q : Nat) (l : List Int) (T : List (Int × Int)) (t : Thing) (L : List Thing) (r : Value) (e : Ending) (w' : World) : Prop := e = .returned r ∧ ∃ F, Sep w0 (t :: TQ q l T F :: L) w'
theorem numbers5 {w0 w : World} {A B C : Thing} {v2 v3 : Value} {xs : List Int} {o2 o3 : Option Nat} (h : Sep w0 [A, TI v3 xs o3, B, TI v2 xs o2, C] w) (hsz : xs.length ≤ 1000000000) :
    Calls Try.prog 15 #[v2, v3] w fun e w' => e = .returned (.bool true) ∧ Sep w0 [A, TI v3 xs o3, B, TI v2 xs o2, C] w' := by
  refine (s_numbers h (h.get (t := TI v2 xs o2) (by simp)) (h.get (t := TI v3 xs o3) (by simp)) hsz hsz).mono ?_
  rintro e w' ⟨rfl, hs⟩
  exact ⟨by simp, hs⟩
theorem numbers5' {w0 w : World} {A B C : Thing} {v2 v3 : Value} {xs : List Int} {o2 o3 : Option Nat} (h : Sep w0 [A, TI v3 xs o3, B, TI v2 xs o2, C] w) (hsz : xs.length ≤ 1000000000) :
    Calls Try.prog 15 #[v3, v2] w fun e w' => e = .returned (.bool true) ∧ Sep w0 [A, TI v3 xs o3, B, TI v2 xs o2, C] w' := by
  refine (s_numbers h (h.get (t := TI v3 xs o3) (by simp)) (h.get (t := TI v2 xs o2) (by simp)) hsz hsz).mono ?_
  rintro e w' ⟨rfl, hs⟩
  exact ⟨by simp, hs⟩
theorem ktr {a b c : World} (h : Keep [] a b) (k : Keep [] b c) : Keep [] a c := h.trans k (by simp)
theorem readyQ {w0 w : World} {q : Nat} {l : List Int} {T : List (Int × Int)} {F : List Nat} {L : List Thing} {v : Value} {xs : List Int} {b : Nat} (h : Sep w0 (TW v xs b :: TQ q l T F :: L) w) (hsz : l.length + xs.length ≤ 1000000000) :
    Calls Try.prog 9 #[.pointer (some ⟨q, 0, none⟩), v] w (QW w0 q (addAll l xs) T (TW v xs b) L (.int .i64 (((addAll l xs).length : Int) - l.length))) := by
  have hrow : Row w 2 1 v xs.length (xs.map (Value.int .i64)) (some b) := h.get (t := TW v xs b) (by simp)
  obtain ⟨o', hr, ho⟩ := hrow.rd
  refine (s_ready h.swap hr (fun c hc hn => ?_) hsz).mono ?_
  · rcases ho with rfl | rfl
    · cases hc
    · cases hc
      exact h.other (s := TQ q l T F) (by simp) hn (by simp [TW, TRow])
  · rintro e w' ⟨rfl, F', hs⟩
    exact ⟨rfl, F', hs.swap⟩
def RW (w0 : World) (r : Nat) (l : List Int) (D : List (Int × Int)) (t : Thing) (L : List Thing) (x : Value) (e : Ending) (w' : World) : Prop := e = .returned x ∧ ∃ G, Sep w0 (t :: TR r l D G :: L) w'
theorem readyR {w0 w : World} {r : Nat} {l : List Int} {D : List (Int × Int)} {G : List Nat} {t : Thing} {L : List Thing} (h : Sep w0 (t :: TR r l D G :: L) w) {v : Value} {xs : List Int} {o : Option Nat} (ha : Rd w0 1 v xs.length (xs.map (Value.int .i64)) o) (ho : ∀ b, o = some b → b < w0.heap.size)
    (hsz : l.length + xs.length ≤ 1000000000) : Calls Try.prog 19 #[.pointer (some ⟨r, 0, none⟩), v] w (RW w0 r (addAll l xs) D t L (.int .i64 (((addAll l xs).length : Int) - l.length))) := by
  refine (rs_ready h.swap (ha.keep0 h.keep) (fun b hb => h.swap.old (ho b hb)) hsz).mono ?_
  rintro e w' ⟨rfl, G', hs⟩
  exact ⟨rfl, G', hs.swap⟩
theorem i64_one' (l : List Int) : ∀ u ∈ l.map (Value.int .i64), u.oneCell' = true := by
  intro u hu
  obtain ⟨x, -, rfl⟩ := List.mem_map.1 hu
  rfl
attribute [local go_sem ↓] Go.wp_at_zero Go.wp_at_succ

set_option maxRecDepth 100000 in
set_option maxHeartbeats 4000000 in
theorem walk {w : World} {v : Value} {acts : List ActV} (h : RdActs w v acts) : Calls Try.prog 5 #[v] w fun e w' => e = .returned (.bool true) ∧ Keep [] w w' := by
  have HA := Lib.hid h
  obtain ⟨a, c, rfl, hc1, hc2, -, -⟩ := h
  unfold maxLen at hc2
  go_enter Try.func5, Try.ntmps5
  go_wp2_with fail
  refine (huge_any HA.out).mono ?_
  rintro e w' ⟨hb, rfl, hfew, rfl⟩
  have HFEW := Lib.hid hfew
  clear hfew
  cases hb with
  | true =>
    go_wp2_with fail
    refine (live_any _).mono ?_
    rintro e w' ⟨rfl, hk⟩
    go_wp2_with fail
    go_ret
    exact ⟨rfl, hk⟩
  | false =>
    obtain ⟨hf1, hf2⟩ := HFEW.out rfl
    clear HFEW
    go_wp2_with fail
    refine (s_new (Sep.nil w)).mono ?_
    rintro e w1 ⟨q, rfl, F, hs⟩
    have hs2 := (Sep.add (t := TR w1.heap.size [] (sortT []) [w1.heap.size]) hs ((Keep.refl [] _).alloc _) (isR_new w1) (fun b hb => by simp [TR] at hb; subst hb; simp)).swap
    have HS1 := Lib.hid hs2
    clear hs hs2
    go_wp2_with fail
    go_loopw [5] (fun i wr => ∃ k : Nat, k ≤ acts.length ∧ i = .int .i64 k ∧ PlaysR w q w1.heap.size acts k [] wr) (fun i _ => acts.length - (intOf i).toNat)
    case atStart => exact ⟨0, Nat.zero_le _, rfl, [], [], F, _, HS1.out, by simp, by simp⟩
    case round =>
      clear HS1 F
      generalize w1.heap.size = r at *
      obtain ⟨k, hk, rfl, l, T, F, G, hs, hl, ht⟩ := hrel
      have HS := Lib.hid hs
      clear hs
      by_cases hlt : k < acts.length
      · obtain ⟨b, off, rfl, c0, c1, c2, c3, o, r1, r2⟩ := act_cells HA.out HS.out.keep rfl hlt
        have i0 : (0 : Int) ≤ (k : Int) := by omega
        have i1 : (k : Int) < (acts.length : Int) := by omega
        obtain ⟨la, lc, hlv⟩ := rd_slice r1
        obtain ⟨_, _, -, -, -, -, -, o0, r0, r02⟩ := act_cells HA.out (Keep.refl [] w) rfl hlt
        rw [hlv] at c1 r1 r0
        have HR0 := Lib.hid r0
        have HR02 := Lib.hid r02
        clear r0 r02
        have HR1 := Lib.hid r1
        have HR2 := Lib.hid r2
        clear r1 r2 hlv
        generalize acts[k].kind = kd at *
        generalize acts[k].p = p at *
        generalize acts[k].t = t at *
        obtain ⟨W1, hW1⟩ : ∃ W1, W1 = wr.alloc (.cells #[.int .i64 kd, .slice la acts[k].l.length lc, .int .i64 p, .int .i64 t] 34) := ⟨_, rfl⟩
        have hst0 : Sep w [TB wr.heap.size (.cells #[.int .i64 kd, .slice la acts[k].l.length lc, .int .i64 p, .int .i64 t] 34), TQ q l T F, TR r l (sortT T) G] W1 := by
          rw [hW1]
          exact Sep.add (t := TB wr.heap.size (.cells #[.int .i64 kd, .slice la acts[k].l.length lc, .int .i64 p, .int .i64 t] 34)) HS.out ((Keep.refl [] wr).alloc _) (heap_alloc_new wr _) (fun b hb => by simp [TB] at hb; subst hb; simp)
        have hst : ∀ n, Sep w [TQ q l T F, TR r l (sortT T) G, TB wr.heap.size (.cells #[.int .i64 kd, .slice la acts[k].l.length lc, .int .i64 p, .int .i64 t] 34)] (W1.drewN n) := fun n =>
          (hst0.perm (List.perm_append_comm (l₁ := [TB wr.heap.size (.cells #[.int .i64 kd, .slice la acts[k].l.length lc, .int .i64 p, .int .i64 t] 34)]) (l₂ := [TQ q l T F, TR r l (sortT T) G]))).kept ((Keep.refl [] _).drewN n)
        have HST := Lib.hid hst
        have HW1 := Lib.hid hW1
        clear hst hst0 hW1
        go_upto_block 2 with fail
        rw [← HW1.out]
        clear HW1
        generalize wr.heap.size = box at *
        have hnd := IsQ.tnd (HST.out 0 |>.get (t := TQ q l T F) (by simp))
        have hln := IsQ.lnd (HST.out 0 |>.get (t := TQ q l T F) (by simp))
        have HND := Lib.hid hnd
        have HLN := Lib.hid hln
        clear hnd hln c0 c1 c2 c3
        have hsk := sumL_take acts k
        have hsn : sumL (acts.take (k + 1)) = sumL (acts.take k) + acts[k].l.length := by rw [List.take_succ_eq_append_getElem hlt, sumL_snoc]
        have HSN := Lib.hid hsn
        clear hsn
        have hsl : l.length ≤ 500000 := by omega
        have hTs : T.length ≤ 500000 := by omega
        have HSD : Hid (Sep w [TQ q l T F, TR r l (sortT T) G, TB box (.cells #[.int .i64 kd, .slice la acts[k].l.length lc, .int .i64 p, .int .i64 t] 34)] W1.drew) := HST.out 1
        have hTm : T.length ≤ 1000000 := by omega
        have hlm : l.length ≤ 1000000 := by omega
        have hlg : l.length ≤ 1000000000 := by omega
        have hlT : l.length + T.length ≤ 1000000 := by omega
        have hlTg : l.length + T.length ≤ 1000000000 := by omega
        refine wp_cut (CutF 164 (fun f wx => f 7 = .bool true ∧ f 163 = undef ∧ f 1 = undef ∧ f 16 = .slice (some ⟨b, off, none⟩) acts.length c ∧ f 17 = .bool false ∧ f 18 = undef ∧ f 19 = .pointer (some ⟨q, 0, none⟩) ∧ f 20 = .agg #[.slice none 0 0, .slice none 0 0] ∧ f 21 = .pointer (some ⟨r, 0, none⟩) ∧ f 22 = .pointer (some ⟨q, 0, none⟩) ∧ f 23 = .bool false ∧ f 0 = .slice (some ⟨b, off, none⟩) acts.length c ∧ f 3 = .pointer (some ⟨q, 0, none⟩) ∧ f 4 = .pointer (some ⟨r, 0, none⟩) ∧ f 5 = .int .i64 k ∧ f 6 = .pointer (some ⟨box, 0, none⟩) ∧ PlaysR w q r acts (k + 1) [TB box (.cells #[.int .i64 kd, .slice la acts[k].l.length lc, .int .i64 p, .int .i64 t] 34)] wx)) ?rest ?first
        case first =>
          intro J K' hJ hK'
          have HJ := Lib.hid hJ
          clear hJ
          obtain ⟨b0, b1, b2, b3⟩ := tb3 (HST.out 0)
          by_cases k3 : kd = 3
          · subst k3
            go_wp2_with fail
            go_region_held3 (fun w' => w'.cell? ⟨box, 2, none⟩ = some (.int .i64 p)) (assumption)
              (first
                | ((with_reducible refine (s_clear HSD.out p).mono ?_); rintro e w2 ⟨rfl, F2, hs2⟩; have HS2 := Lib.hid hs2.swap; have hb2 := (tb3 hs2).2.2.1; clear hs2)
                | ((with_reducible refine (d_clear HND.out HSD.out.swap p hTm).mono ?_); rintro e w2 ⟨rfl, G2, hs2⟩; have HS2 := Lib.hid hs2.swap; have hb2 := (tb3 hs2).2.2.1; clear hs2)
                | ((with_reducible refine (s_clear HS2.out p).mono ?_); rintro e w3 ⟨rfl, F2, hs3⟩; have HS3 := Lib.hid hs3; have hb3 := (tb3 hs3).2.2.1; clear hs3)
                | ((with_reducible refine (d_clear HND.out HS2.out p hTm).mono ?_); rintro e w3 ⟨rfl, G2, hs3⟩; have HS3 := Lib.hid hs3.swap; have hb3 := (tb3 hs3).2.2.1; clear hs3)
                | fail)
            all_goals
              go_wp2_with fail
              refine Met.intro (HJ.out _ _ (CutF.mk rfl ⟨?_, rfl, rfl, rfl, rfl, rfl, rfl, rfl, rfl, rfl, rfl, rfl, rfl, rfl, rfl, rfl, _, _, _, _, HS3.out, ?_, ?_⟩))
              · refine congrArg Value.bool ?_
                simp
              · rw [HSN.out]; omega
              · have := mdel_le T p; omega
          by_cases k2 : kd = 2
          · subst k2
            go_wp2_with fail
            go_region_held3 (fun w' => w'.cell? ⟨box, 2, none⟩ = some (.int .i64 p) ∧ w'.cell? ⟨box, 3, none⟩ = some (.int .i64 t)) (first | exact ⟨b2, b3⟩ | exact hb3 | exact hb2)
              (first
                | ((with_reducible refine (s_set HSD.out p t).mono ?_); rintro e w2 ⟨rfl, F2, hs2⟩; have HS2 := Lib.hid hs2.swap; have hb2 := (tb3 hs2).2.2; clear hs2)
                | ((with_reducible refine (d_set HND.out HSD.out.swap p t hTm).mono ?_); rintro e w2 ⟨rfl, G2, hs2⟩; have HS2 := Lib.hid hs2.swap; have hb2 := (tb3 hs2).2.2; clear hs2)
                | ((with_reducible refine (s_set HS2.out p t).mono ?_); rintro e w3 ⟨rfl, F2, hs3⟩; have HS3 := Lib.hid hs3; have hb3 := (tb3 hs3).2.2; clear hs3)
                | ((with_reducible refine (d_set HND.out HS2.out p t hTm).mono ?_); rintro e w3 ⟨rfl, G2, hs3⟩; have HS3 := Lib.hid hs3.swap; have hb3 := (tb3 hs3).2.2; clear hs3)
                | fail)
            all_goals
              go_wp2_with fail
              refine Met.intro (HJ.out _ _ (CutF.mk rfl ⟨?_, rfl, rfl, rfl, rfl, rfl, rfl, rfl, rfl, rfl, rfl, rfl, rfl, rfl, rfl, rfl, _, _, _, _, HS3.out, ?_, ?_⟩))
              · refine congrArg Value.bool ?_
                simp
              · rw [HSN.out]; omega
              · have := mput_len T p t; omega
          by_cases k5 : kd = 5
          · subst k5
            go_wp2_with fail
            go_region_held3 (fun w' => w'.cell? ⟨box, 2, none⟩ = some (.int .i64 p)) (assumption)
              (first
                | ((with_reducible refine (s_drop HSD.out p hlg).mono ?_); rintro e w2 ⟨rfl, F2, hs2⟩; have HS2 := Lib.hid hs2.swap; have hb2 := (tb3 hs2).2.2.1; clear hs2)
                | ((with_reducible refine (d_drop HND.out HLN.out HSD.out.swap p hTm hlm).mono ?_); rintro e w2 ⟨rfl, G2, hs2⟩; have HS2 := Lib.hid hs2.swap; have hb2 := (tb3 hs2).2.2.1; clear hs2)
                | ((with_reducible refine (s_drop HS2.out p hlg).mono ?_); rintro e w3 ⟨rfl, F2, hs3⟩; have HS3 := Lib.hid hs3; have hb3 := (tb3 hs3).2.2.1; clear hs3)
                | ((with_reducible refine (d_drop HND.out HLN.out HS2.out p hTm hlm).mono ?_); rintro e w3 ⟨rfl, G2, hs3⟩; have HS3 := Lib.hid hs3.swap; have hb3 := (tb3 hs3).2.2.1; clear hs3)
                | fail)
            all_goals
              go_wp2_with fail
              refine Met.intro (HJ.out _ _ (CutF.mk rfl ⟨?_, rfl, rfl, rfl, rfl, rfl, rfl, rfl, rfl, rfl, rfl, rfl, rfl, rfl, rfl, rfl, _, _, _, _, HS3.out, ?_, ?_⟩))
              · refine congrArg Value.bool ?_
                simp
              · have := List.length_filter_le (fun x => decide (x ≠ p)) l; rw [HSN.out]; omega
              · have := mdel_le T p; omega
          by_cases k4 : kd = 4
          · subst k4
            have hdl : (due T t).length ≤ T.length := by unfold due; rw [List.length_map]; exact Nat.le_trans (List.length_filter_le _ _) (by rw [sortT_length]; exact Nat.le_refl _)
            have hall := addAll_le (due T t) l
            have hdg : (due T t).length ≤ 1000000000 := by omega
            go_wp2_with fail
            go_region_held3 (fun w' => w'.cell? ⟨box, 3, none⟩ = some (.int .i64 t)) (assumption)
              (first
                | ((with_reducible refine (s_tick HSD.out t hlTg).mono ?_); rintro e w2 ⟨v2, o2, F2, rfl, hs2⟩; have HS2 := Lib.hid hs2.rot3; have hb2 := (tb4 hs2).2.2.2; clear hs2)
                | ((with_reducible refine (d_tick HSD.out.swap t hlT).mono ?_); rintro e w2 ⟨v2, o2, G2, rfl, hs2⟩; have HS2 := Lib.hid hs2.rot3; have hb2 := (tb4 hs2).2.2.2; clear hs2)
                | ((with_reducible refine (s_tick HS2.out t hlTg).mono ?_); rintro e w3 ⟨v3, o3, F2, rfl, hs3⟩; have HS3 := Lib.hid hs3; have hb3 := (tb5 hs3).2.2.2; clear hs3)
                | ((with_reducible refine (d_tick HS2.out t hlT).mono ?_); rintro e w3 ⟨v3, o3, G2, rfl, hs3⟩; have HS3 := Lib.hid hs3; have hb3 := (tb5 hs3).2.2.2; clear hs3)
                | ((with_reducible refine (numbers5 HS3.out hdg).mono ?_); rintro e w4 ⟨rfl, hs4⟩; have HS4 := Lib.hid hs4; have hb4 := (tb5 hs4).2.2.2; clear hs4)
                | ((with_reducible refine (numbers5' HS3.out hdg).mono ?_); rintro e w4 ⟨rfl, hs4⟩; have HS4 := Lib.hid hs4; have hb4 := (tb5 hs4).2.2.2; clear hs4)
                | fail)
            all_goals
              go_wp2_with fail
              refine Met.intro (HJ.out _ _ (CutF.mk rfl ⟨?_, rfl, rfl, rfl, rfl, rfl, rfl, rfl, rfl, rfl, rfl, rfl, rfl, rfl, rfl, rfl, addAll l (due T t), T, _, _, HS4.out.five1, ?_, ?_⟩))
              · first | rfl | (refine congrArg Value.bool ?_; simp)
              · rw [HSN.out]; omega
              · omega
          by_cases k1 : kd = 1
          · subst k1
            cases l with
            | nil =>
              go_wp2_with fail
              refine (next_none ((HST.out 0).get (t := TQ q [] T F) (by simp))).mono ?_
              rintro e w2 ⟨rfl, rfl⟩
              go_wp2_with fail
              refine (r_next_none ((HST.out 0).get (t := TR r [] (sortT T) G) (by simp))).mono ?_
              rintro e w2 ⟨rfl, rfl⟩
              go_wp2_with fail
              refine Met.intro (HJ.out _ _ (CutF.mk rfl ⟨rfl, rfl, rfl, rfl, rfl, rfl, rfl, rfl, rfl, rfl, rfl, rfl, rfl, rfl, rfl, rfl, _, _, _, _, HST.out 0, ?_, ?_⟩))
              · simp
              · omega
            | cons x l' =>
              have hl2 : l'.length + 1 ≤ sumL (acts.take k) + 150 * k := by simpa using hl
              go_wp2_with fail
              refine (s_next (HST.out 0)).mono ?_
              rintro e w2 ⟨rfl, F2, hs2⟩
              have HS2 := Lib.hid hs2.swap
              clear hs2
              go_wp2_with fail
              refine (rs_next HS2.out (by omega)).mono ?_
              rintro e w3 ⟨rfl, G2, hs3⟩
              have HS3 := Lib.hid hs3.swap
              clear hs3
              go_wp2_with fail
              refine Met.intro (HJ.out _ _ (CutF.mk rfl ⟨?_, rfl, rfl, rfl, rfl, rfl, rfl, rfl, rfl, rfl, rfl, rfl, rfl, rfl, rfl, rfl, _, _, _, _, HS3.out, ?_, ?_⟩))
              · first | rfl | simp
              · rw [HSN.out]; omega
              · omega
          by_cases k0 : kd = 0
          · subst k0
            obtain ⟨i0', hi', hz0, hz1, hz2⟩ := info_parts i64_info
            have HI := Lib.hid hi'
            clear hi'
            have hall := addAll_le acts[k].l l
            have hlk : acts[k].l.length ≤ 1500 := by have := HSN.out; have := sumL_take acts (k + 1); omega
            have hla : l.length + acts[k].l.length ≤ 1000000000 := by omega
            go_wp2_with fail
            go_region_held3 (fun w' => w'.cell? ⟨box, 1, none⟩ = some (.slice la acts[k].l.length lc)) (first | assumption | exact ((Keep.refl [] _).alloc _).cellOf (by assumption))
              (first
                | ((with_reducible refine (readyQ HS.out hla).mono ?_); rintro e w4 ⟨rfl, F4, hs4⟩; have HS := Lib.hid hs4; have hb4 := (tb4 hs4).2.1; clear hs4)
                | ((with_reducible refine (readyR HS.out.swap.rot3.swap HR0.out HR02.out hla).mono ?_); rintro e w5 ⟨rfl, G5, hs5⟩; have HS := Lib.hid hs5; have hb5 := (tb4 hs5).2.1; clear hs5)
                | (refine step_append_rd _ (by rfl) _ _ 22 22 (by rfl) 2 2 i0' _ 1 8 Try.underlying22 Try.underlying22 HI.out hz0 hz1 hz2 rfl W1.heap.size 0 0 0 [] (by rfl) ((st_build HSD.out).get (t := TW _ [] _) (by simp)) (.slice la acts[k].l.length lc) (by rfl) acts[k].l.length _ o0 (HR0.out.keep0 ((st_build HSD.out).keep)) (i64_one' _) (by unfold maxLen; omega) (by omega) ?_; intro g2 off2 cap2 w3 hrow2 hk2 hg2; simp only [Nat.zero_add, List.nil_append] at hrow2; have HS := Lib.hid (st_append (xs := acts[k].l) (st_build HSD.out) (by simpa using hrow2) rfl rfl hk2 hg2); have hb3 := (tb4 HS.out).2.1; clear hrow2 hk2 hg2))
            go_wp2_with fail
            refine Met.intro (HJ.out _ _ (CutF.mk rfl ⟨?_, rfl, rfl, rfl, rfl, rfl, rfl, rfl, rfl, rfl, rfl, rfl, rfl, rfl, rfl, rfl, addAll l acts[k].l, T, _, _, Sep.sub HS.out (((List.Sublist.refl _).cons _).cons_cons _ |>.cons_cons _), ?_, ?_⟩))
            · refine congrArg Value.bool ?_
              simp
            · rw [HSN.out]; omega
            · omega
          have q0 : (kd == 0) = false := by simpa using k0
          have q1 : (kd == 1) = false := by simpa using k1
          have q2 : (kd == 2) = false := by simpa using k2
          have q3 : (kd == 3) = false := by simpa using k3
          have q4 : (kd == 4) = false := by simpa using k4
          have q5 : (kd == 5) = false := by simpa using k5
          go_wp2_with fail
          refine Met.intro (HJ.out _ _ (CutF.mk rfl ⟨rfl, rfl, rfl, rfl, rfl, rfl, rfl, rfl, rfl, rfl, rfl, rfl, rfl, rfl, rfl, rfl, _, _, _, _, HST.out 0, ?_, ?_⟩))
          · rw [HSN.out]; omega
          · omega
        case rest =>
          intro a' wc hc
          obtain ⟨f, rfl, h7, g163, g1, g16, g17, g18, g19, g20, g21, g22, g23, h0, h3, h4, h5, h6, l', T', F', G', hs, hl', ht'⟩ := hc.lit
          rw [show ((List.range 164).map f).toArray = #[f 0, f 1, f 2, f 3, f 4, f 5, f 6, f 7, f 8, f 9, f 10, f 11, f 12, f 13, f 14, f 15, f 16, f 17, f 18, f 19, f 20, f 21, f 22, f 23, f 24, f 25, f 26, f 27, f 28, f 29, f 30, f 31, f 32, f 33, f 34, f 35, f 36, f 37, f 38, f 39, f 40, f 41, f 42, f 43, f 44, f 45, f 46, f 47, f 48, f 49, f 50, f 51, f 52, f 53, f 54, f 55, f 56, f 57, f 58, f 59, f 60, f 61, f 62, f 63, f 64, f 65, f 66, f 67, f 68, f 69, f 70, f 71, f 72, f 73, f 74, f 75, f 76, f 77, f 78, f 79, f 80, f 81, f 82, f 83, f 84, f 85, f 86, f 87, f 88, f 89, f 90, f 91, f 92, f 93, f 94, f 95, f 96, f 97, f 98, f 99, f 100, f 101, f 102, f 103, f 104, f 105, f 106, f 107, f 108, f 109, f 110, f 111, f 112, f 113, f 114, f 115, f 116, f 117, f 118, f 119, f 120, f 121, f 122, f 123, f 124, f 125, f 126, f 127, f 128, f 129, f 130, f 131, f 132, f 133, f 134, f 135, f 136, f 137, f 138, f 139, f 140, f 141, f 142, f 143, f 144, f 145, f 146, f 147, f 148, f 149, f 150, f 151, f 152, f 153, f 154, f 155, f 156, f 157, f 158, f 159, f 160, f 161, f 162, f 163] from rfl]
          rw [h7, h0, h3, h4, h5, h6, g163, g1, g16, g17, g18, g19, g20, g21, g22, g23]
          clear g163 g1 g16 g17 g18 g19 g20 g21 g22 g23 h7 h0 h3 h4 h5 h6 hc HSD HST HND HLN hsl hTs hl ht HS
          have hsk2 := sumL_take acts (k + 1)
          have hsl : l'.length ≤ 500000 := by omega
          have hTs : T'.length ≤ 500000 := by omega
          have hlg : l'.length ≤ 1000000000 := by omega
          have hTg : T'.length ≤ 1000000000 := by omega
          have hTg2 : (sortT T').length ≤ 1000000000 := by rw [sortT_length]; omega
          obtain ⟨b0, b1, b2, b3⟩ := tb3 hs
          have hnd := IsQ.tnd (hs.get (t := TQ q l' T' F') (by simp))
          have hat1 := s_at hs p
          have hat2 := d_at hnd hs.swap p (by omega)
          obtain ⟨lv, tv, ol, ot, hR, -⟩ : IsR wc r l' (sortT T') G' := hs.get (t := TR r l' (sortT T') G') (by simp)
          obtain ⟨e0, e1, -, -⟩ := cells2 hR.here
          have HRL := Lib.hid hR.rl
          have HRT := Lib.hid hR.rt
          have HS := Lib.hid hs
          have HL' := Lib.hid hl'
          have HT' := Lib.hid ht'
          generalize (mfind T' p).getD 0 = xx at *
          generalize (mfind T' p).isSome = bb at *
          have HA1 := Lib.hid hat1
          have HA2 := Lib.hid hat2
          clear hat1 hat2 hR hs hnd hl' ht' b0 b1 b3
          go_wp2_with fail
          refine HA1.out.mono ?_
          rintro e w2 ⟨rfl, rfl⟩
          go_wp2_with fail
          refine HA2.out.mono ?_
          rintro e w2 ⟨rfl, rfl⟩
          clear HA1 HA2 b2
          go_wp2_with fail
          go_region_held3 (fun w' => w'.cell? ⟨r, 0, none⟩ = some lv ∧ w'.cell? ⟨r, 1, none⟩ = some tv) (first | exact ⟨hf0, hf1⟩ | exact ⟨he0, he1⟩ | exact ⟨hd0, hd1⟩ | exact ⟨hc0, hc1⟩ | exact ⟨e0, e1⟩)
            (first
              | ((with_reducible refine (waiting_k (HS.out.kept ((Keep.refl [] wc).drew)) hlg).mono ?_); rintro e w2 ⟨v2, o2, rfl, hr2, hk2⟩; have HR2 := Lib.hid hr2; have HK2 := Lib.hid (ktr ((Keep.refl [] wc).drew) hk2); have hc0 := HK2.out.cellOf e0; have hc1 := HK2.out.cellOf e1; clear hr2 hk2)
              | ((with_reducible refine (numbers_same HR2.out (HRL.out.keep0 HK2.out) hlg).mono ?_); rintro e w3 ⟨rfl, hk3⟩; have HK3 := Lib.hid (ktr HK2.out hk3); have hd0 := HK3.out.cellOf e0; have hd1 := HK3.out.cellOf e1; clear hk3)
              | ((with_reducible refine (timers_k (HS.out.kept HK3.out) hTg).mono ?_); rintro e w4 ⟨v4, o4, rfl, hr4, hk4⟩; have HR4 := Lib.hid hr4; have HK4 := Lib.hid (ktr HK3.out hk4); have he0 := HK4.out.cellOf e0; have he1 := HK4.out.cellOf e1; clear hr4 hk4)
              | ((with_reducible refine (timers_same HR4.out (HRT.out.keep0 HK4.out) hTg2).mono ?_); rintro e w5 ⟨rfl, hk5⟩; have HK5 := Lib.hid (ktr HK4.out hk5); have hf0 := HK5.out.cellOf e0; have hf1 := HK5.out.cellOf e1; clear hk5)
              | fail)
          all_goals
            go_wp2_with fail
            go_roundw
            case rel => exact ⟨k + 1, by omega, by go_num, l', T', F', G', Sep.sub (HS.out.kept HK5.out) (((List.nil_sublist _).cons_cons _).cons_cons _), HL'.out, HT'.out⟩
            case measure => simp [intOf]; omega
      · go_wp2_with fail
        refine (s_live HS.out).mono ?_
        rintro e w' ⟨rfl, hs⟩
        have HS2 := Lib.hid hs
        clear hs
        go_wp2_with fail
        go_ret
        exact ⟨rfl, HS2.out.keep⟩
end Go.Proofs.Ytphfmbkfcjiciaa.plays
