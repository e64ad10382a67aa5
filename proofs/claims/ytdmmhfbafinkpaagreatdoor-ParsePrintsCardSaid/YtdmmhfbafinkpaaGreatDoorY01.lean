/- ParsePrints: a part of the proof (PaC, Pa5, Pa6, Pa7, BaseApp, BaseCut, BaseReg, Pa8, BaseInv, BaseTake, Pa9, PaF), squeezed by squeeze.py. -/
import Derived.Test.YtdmmhfbafinkpaaGreatDoorY00
import Derived.Laws.Rows
import Derived.Shelf.Abstract
import Derived.Deep.Cut
import Derived.Deep.RegionHeld3
import Derived.RegionTactic
set_option maxRecDepth 100000
set_option maxHeartbeats 8000000
namespace Go.Proofs.YtdmmhfbafinkpaaGreatDoor
open Go.RowKit Go.Emb
def NodeP (lo : Nat) (w : World) (pb : Nat) (f : Nat → P Nd) (s : St) (e : Ending) (w' : World) : Prop :=
 ∃ cs n s', e = .returned (.agg cs.toArray) ∧ Ev f s n s' ∧ NdR (Frs w.heap.size w') w' false cs n ∧ PS lo w' pb s' ∧ s'.toks.length ≤ s.toks.length ∧ Keep [pb] w w'
def ListP (lo : Nat) (w : World) (pb : Nat) (k : Bool) (f : Nat → P (List Nd)) (s : St) (e : Ending) (w' : World) : Prop :=
 ∃ v l s', e = .returned v ∧ Ev f s l s' ∧ NsR (Frs w.heap.size w') w' k v l ∧ PS lo w' pb s' ∧ s'.toks.length ≤ s.toks.length ∧ Keep [pb] w w'
def OneP (lo : Nat) (w : World) (pb cb : Nat) (f : Nat → P Nd) (s : St) (e : Ending) (w' : World) : Prop :=
 ∃ cs n s', e = .returned (.tuple #[]) ∧ Ev f s n s' ∧ w'.heap[cb]? = some (.cells cs.toArray 52 (0, 0)) ∧ NdR (Frs w.heap.size w') w' true cs n ∧ PS lo w' pb s' ∧ s'.toks.length ≤ s.toks.length ∧ Keep [pb, cb] w w'
def BodyP (lo : Nat) (w : World) (pb cb : Nat) (pv : Value) (nm : List UInt8) (at_ : Int) (f : Nat → P (List Nd × List Nd)) (s : St) (e : Ending) (w' : World) : Prop :=
 ∃ gv bv g s', e = .returned (.tuple #[]) ∧ Ev f s g s' ∧ w'.heap[cb]? = some (.cells #[pv, gv, bv, .string ⟨nm.toArray⟩, .int .i64 at_] 52 (0, 0)) ∧ NsR (Frs w.heap.size w') w' false gv g.1 ∧ NsR (Frs w.heap.size w') w' false bv g.2 ∧ PS lo w' pb s' ∧ s'.toks.length ≤ s.toks.length ∧ Keep [pb, cb] w w'
structure AllC (lo pb : Nat) (m : Nat) : Prop where
 expr : ∀ {w : World} {s : St} {d : Nat}, PS lo w pb s → lo ≤ w.heap.size → d + s.toks.length ≤ 1000000 → 32 * s.toks.length + 9 < m →
  Calls Tryz.prog 43 #[.pointer (some ⟨pb, 0, none⟩), .int .i64 d] w (NodeP lo w pb (fun n => expr n d) s)
 binary : ∀ {w : World} {s : St} {v d : Nat}, PS lo w pb s → lo ≤ w.heap.size → d + s.toks.length ≤ 1000000 → v ≤ 5 → 32 * s.toks.length + 3 + (5 - v) < m →
  Calls Tryz.prog 66 #[.pointer (some ⟨pb, 0, none⟩), .int .i64 v, .int .i64 d] w (NodeP lo w pb (fun n => binary n v d) s)
 unary : ∀ {w : World} {s : St} {d : Nat}, PS lo w pb s → lo ≤ w.heap.size → d + s.toks.length ≤ 1000000 → 32 * s.toks.length + 2 < m →
  Calls Tryz.prog 98 #[.pointer (some ⟨pb, 0, none⟩), .int .i64 d] w (NodeP lo w pb (fun n => unary n d) s)
 call : ∀ {w : World} {s : St} {d : Nat}, PS lo w pb s → lo ≤ w.heap.size → d + s.toks.length ≤ 1000000 → 32 * s.toks.length + 1 < m →
  Calls Tryz.prog 117 #[.pointer (some ⟨pb, 0, none⟩), .int .i64 d] w (NodeP lo w pb (fun n => call n d) s)
 prim : ∀ {w : World} {s : St} {d : Nat}, PS lo w pb s → lo ≤ w.heap.size → d + s.toks.length ≤ 1000000 → 32 * s.toks.length < m →
  Calls Tryz.prog 131 #[.pointer (some ⟨pb, 0, none⟩), .int .i64 d] w (NodeP lo w pb (fun n => prim n d) s)
 someL : ∀ {w : World} {s : St} {d : Nat}, PS lo w pb s → lo ≤ w.heap.size → d + s.toks.length ≤ 1000000 → 32 * s.toks.length + 10 < m →
  Calls Tryz.prog 116 #[.pointer (some ⟨pb, 0, none⟩), .int .i64 d] w (ListP lo w pb false (fun n => someL n d) s)
 untilL : ∀ {w : World} {s : St} {d : Nat} {x : List UInt8}, PS lo w pb s → lo ≤ w.heap.size → d + s.toks.length ≤ 1000000 → 32 * s.toks.length + 11 < m →
  Calls Tryz.prog 95 #[.pointer (some ⟨pb, 0, none⟩), .string ⟨x.toArray⟩, .int .i64 d] w (ListP lo w pb false (fun n => untilL n x d) s)
 bodyP : ∀ {w : World} {s : St} {d cb : Nat} {pv : Value} {nm : List UInt8} {at_ : Int}, PS lo w pb s → lo ≤ w.heap.size → d + s.toks.length ≤ 1000000 → 32 * s.toks.length + 11 < m → lo ≤ cb →
  w.heap[cb]? = some (.cells #[pv, .slice none 0 0, .slice none 0 0, .string ⟨nm.toArray⟩, .int .i64 at_] 52 (0, 0)) →
  Calls Tryz.prog 96 #[.pointer (some ⟨pb, 0, none⟩), .pointer (some ⟨cb, 0, none⟩), .int .i64 d] w (BodyP lo w pb cb pv nm at_ (fun n => bodyP n d) s)
 headP : ∀ {w : World} {s : St} {d cb : Nat} {nm : List UInt8} {at_ : Int}, PS lo w pb s → lo ≤ w.heap.size → d + s.toks.length ≤ 1000000 → 32 * s.toks.length + 12 < m → lo ≤ cb →
  w.heap[cb]? = some (.cells #[.slice none 0 0, .slice none 0 0, .slice none 0 0, .string ⟨nm.toArray⟩, .int .i64 at_] 52 (0, 0)) →
  Calls Tryz.prog 62 #[.pointer (some ⟨pb, 0, none⟩), .pointer (some ⟨cb, 0, none⟩), .int .i64 d] w (OneP lo w pb cb (fun n => headP n nm d) s)
 arms : ∀ {w : World} {s : St} {d : Nat}, PS lo w pb s → lo ≤ w.heap.size → d + s.toks.length ≤ 1000000 → 32 * s.toks.length + 15 < m →
  Calls Tryz.prog 146 #[.pointer (some ⟨pb, 0, none⟩), .int .i64 d] w (ListP lo w pb true (fun n => clausesL n 0 d) s)
 listP : ∀ {w : World} {s : St} {d : Nat} {at_ : Int}, PS lo w pb s → lo ≤ w.heap.size → d + s.toks.length ≤ 1000000 → 32 * s.toks.length + 12 < m →
  Calls Tryz.prog 144 #[.pointer (some ⟨pb, 0, none⟩), .int .i64 at_, .int .i64 d] w (NodeP lo w pb (fun n => listP n d) s)
theorem enter_len (d : Nat) (s : St) : (enterS d s).toks.length ≤ s.toks.length := (GoodS.enter d s).1
theorem take_len (l : List (List UInt8)) (s : St) : (takeS l s).2.toks.length ≤ s.toks.length := (Good.take l s).1
theorem has_len (x : List UInt8) (s : St) : (hasS x s).2.toks.length ≤ s.toks.length := (Good.has x s).1
theorem must_len (x : List UInt8) (s : St) : (mustS x s).toks.length ≤ s.toks.length := (GoodS.must x s).1
theorem take_lt {l : List (List UInt8)} {s : St} {t : List UInt8} (h : (takeS l s).1 = some t) : (takeS l s).2.toks.length + 1 ≤ s.toks.length ∧ t ∈ l := by
 unfold takeS at h ⊢
 split at h
 ·rename_i hc; obtain ⟨x, r, hx⟩ := next_cons hc.2; rw [if_pos hc]; injection h with h; exact ⟨by simp [hx], by rw [← h]; exact hc.1⟩
 ·cases h
theorem has_lt {x : List UInt8} {s : St} (h : (hasS x s).1 = true) : (hasS x s).2.toks.length + 1 ≤ s.toks.length := by
 unfold hasS at h ⊢; obtain ⟨t, ht⟩ := Option.isSome_iff_exists.1 h; exact (take_lt ht).1
theorem keepB {w w' : World} {lo : Nat} {F : List Nat} {pb : Nat} (h : Keep F w w') (hF : ∀ b ∈ F, b = pb ∨ lo ≤ b) (hlo : w.heap.size ≤ lo) : Keep [pb] w w' := h.mono (fun b hb hl => by
  rcases hF b hb with h1 | h1
  · simp [h1]
  · omega)
abbrev zN : Obj := .cells #[.int .i64 0, .int .i64 0, .string ⟨#[]⟩, .int .i64 0, .slice none 0 0, .slice none 0 0, .slice none 0 0] 29
theorem take_lit {lo : Nat} {w : World} {pb : Nat} {s : St} (h : PS lo w pb s) (l : List (List UInt8)) (n : Nat) (cs : Array Value) (hn : n = l.length) (hm : n ≤ maxLen) (hcs : cs = (l.map strV).toArray) :
  Calls Tryz.prog 68 #[.pointer (some ⟨pb, 0, none⟩), .slice (some ⟨w.heap.size, 0, none⟩) n n] (w.alloc (.cells cs 9)) fun e w' => e = .returned (.tuple #[.string ⟨((takeS l s).1.getD []).toArray⟩, .bool (takeS l s).1.isSome]) ∧ PS lo w' pb (takeS l s).2 ∧ Keep [pb] w w' := by
 have hk := (Keep.refl [] w).alloc (.cells cs 9); refine (p_take (h.keep0 hk) (rdT_lit w l n hn hm 9 cs hcs)).mono ?_; rintro e w' ⟨h1, h2, h3⟩; exact ⟨h1, h2, (hk.mono (by simp)).trans h3 (by simp)⟩
theorem take_litb {lo : Nat} {w : World} {pb b : Nat} {s : St} (h : PS lo w pb s) (hb : b = w.heap.size) (l : List (List UInt8)) (n : Nat) (cs : Array Value) (hn : n = l.length) (hm : n ≤ maxLen) (hcs : cs = (l.map strV).toArray) :
  Calls Tryz.prog 68 #[.pointer (some ⟨pb, 0, none⟩), .slice (some ⟨b, 0, none⟩) n n] (w.alloc (.cells cs 9)) fun e w' => e = .returned (.tuple #[.string ⟨((takeS l s).1.getD []).toArray⟩, .bool (takeS l s).1.isSome]) ∧ PS lo w' pb (takeS l s).2 ∧ Keep [pb] w w' := by
 subst hb; exact take_lit h l n cs hn hm hcs
def sliceN : Option Value → Nat
 | some (.slice _ n _) => n
 | _ => 0
def plen (w : World) (pb : Nat) : Nat := sliceN (w.cell? ⟨pb, 0, none⟩)
theorem PS.len {lo : Nat} {w : World} {pb : Nat} {s : St} (h : PS lo w pb s) : plen w pb = s.toks.length := by
 obtain ⟨v, o, h1, ⟨-, a, c, rfl, -⟩, -⟩ := h.blk; unfold plen; rw [(cells4p h1).1]
 rfl
theorem node_info : (Tryz.prog.info? 29).map (fun i => (i.zero, i.size, i.bytes)) = some (some (.agg #[.int .i64 0, .int .i64 0, .string ⟨#[]⟩, .int .i64 0, .slice none 0 0, .slice none 0 0, .slice none 0 0]), 7, 112) := by kernel_rfl
theorem clause_info : (Tryz.prog.info? 52).map (fun i => (i.zero, i.size, i.bytes)) = some (some (.agg #[.slice none 0 0, .slice none 0 0, .slice none 0 0, .string ⟨#[]⟩, .int .i64 0]), 5, 96) := by kernel_rfl
theorem info3 {P : Program} {E : TypeId} {z : Option Value} {k b : Nat} (h : (P.info? E).map (fun i => (i.zero, i.size, i.bytes)) = some (z, k, b)) : ∃ i, P.info? E = some i ∧ i.zero = z ∧ i.size = k ∧ i.bytes = b := by
 obtain ⟨i, h1, h2⟩ := Option.map_eq_some_iff.1 h; simp only [Prod.mk.injEq] at h2; exact ⟨i, h1, h2.1, h2.2.1, h2.2.2⟩
theorem RowN.app {lo lo' : Nat} {w : World} {k : Bool} {v : Value} {l : List Nd} {o : Option Nat} {cs : List Value} {n : Nd} (h : RowN lo w k v l o) (hx : NdR (Frs lo' w) w k cs n) (hlo : lo ≤ lo') (hlo2 : lo' ≤ w.heap.size) (hol : ∀ b, o = some b → b < lo') (ar : Array Value) (t : TypeId) :
  ∃ es : List (List Value), Row (w.alloc (.cells ar t)) (if k then 52 else 29) (wid k) v l.length es.flatten o ∧ ∀ g v' w4, Row w4 (if k then 52 else 29) (wid k) v' (l.length + 1) (es.flatten ++ cs) (some g) → Keep o.toList (w.alloc (.cells ar t)) w4 → (o = some g ∨ (w.alloc (.cells ar t)).heap.size ≤ g) → RowN lo w4 k v' (l ++ [n]) (some g) := by
 have hk := (Keep.refl [] w).alloc (.cells ar t); obtain ⟨es, h1, h2, h3, h4⟩ := h.keep hk (by simp); refine ⟨es, h1, fun g v' w4 hr hk4 hg => ?_⟩; exact RowN.push h2 h3 h4 (hx.up hk (by simp) (Nat.le_refl _)) hlo (Nat.le_trans hlo2 hk.size) hol hk4 hg hr
theorem src_lit1 {P : Program} (w : World) (cs : List Value) (k : Nat) (hk : cs.length = k) (h1 : ∀ u ∈ cs, u.oneCell' = true) (T e t : TypeId) (hu : P.underlying T = some (.slice e)) : Src P k T (.slice (some ⟨w.heap.size, 0, none⟩) 1 1) 1 cs (w.alloc (.cells cs.toArray t)) := by
 refine Src.ofSlice _ hu ⟨w.heap.size, 0, none⟩ _ _ cs (by omega) (fun j u hj => ?_) h1; have h := heap_alloc_new w (.cells cs.toArray t); rw [show (⟨w.heap.size, 0, none⟩ : Addr).add j = ⟨w.heap.size, 0 + j, none⟩ by unfold Addr.add; split <;> simp_all, World.cell?, h]
 simpa using hj
theorem set5a {w : World} {q i : Nat} {cs : Array Value} {t : TypeId} (h : w.heap[q]? = some (.cells cs t (0, 0))) (u : Value) : (w.setCell ⟨q, i, none⟩ u).heap[q]? = some (.cells (cs.setIfInBounds i u) t (0, 0)) ∧ Keep [q] w (w.setCell ⟨q, i, none⟩ u) :=
 ⟨heap_setCell_at h u, Keep.set1 w ⟨q, i, none⟩ u⟩
theorem w_body {lo pb : Nat} {w : World} {s : St} {d cb : Nat} {pv : Value} {nm : List UInt8} {at_ : Int} (ih : AllC lo pb (32 * s.toks.length + 11)) (h : PS lo w pb s) (hlo : lo ≤ w.heap.size) (hd : d + s.toks.length ≤ 1000000) (hcb : lo ≤ cb)
  (hb : w.heap[cb]? = some (.cells #[pv, .slice none 0 0, .slice none 0 0, .string ⟨nm.toArray⟩, .int .i64 at_] 52 (0, 0))) :
  Calls Tryz.prog 96 #[.pointer (some ⟨pb, 0, none⟩), .pointer (some ⟨cb, 0, none⟩), .int .i64 d] w (BodyP lo w pb cb pv nm at_ (fun n => bodyP n d) s) := by
 have hplo := h.plo; have hne : cb ≠ pb := by omega
 have hcw := (Array.getElem?_eq_some_iff.1 hb).1; have HH := hyd (p_has h hlo sWhen); have HHL := hyd (has_len sWhen s); have hsome := fun (W : World) (s1 : St) (hW : PS lo W pb s1) (hl : lo ≤ W.heap.size) (hle : s1.toks.length ≤ s.toks.length) => ih.someL (d := d) hW hl (by omega) (by omega)
 have HS := hyd hsome; have HLO := hyd hlo; have HB := hyd hb; have HPL := hyd hplo; have HCB := hyd hcb; have HNE := hyd hne; have HCW := hyd hcw; clear ih h hlo hd hcb hb hplo hne hcw hsome
 -- what comes behind the guards
 have hrest : ∀ (W : World) (s1 : St) (gv : Value) (g : List Nd), PS lo W pb s1 → s1.toks.length ≤ s.toks.length → Keep [pb, cb] w W → W.heap[cb]? = some (.cells #[pv, gv, .slice none 0 0, .string ⟨nm.toArray⟩, .int .i64 at_] 52 (0, 0)) → NsR (Frs w.heap.size W) W false gv g →
   (∀ c s2, Ev (fun n => someL n d) (mustS sTo s1) c s2 → Ev (fun n => bodyP n d) s (g, c) s2) →
   ∀ (W2 W3 : World) (bv : Value) (c : List Nd) (s2 : St), PS lo W2 pb (mustS sTo s1) → Keep [pb] W W2 → Ev (fun n => someL n d) (mustS sTo s1) c s2 → NsR (Frs W2.heap.size W3) W3 false bv c → PS lo W3 pb s2 → s2.toks.length ≤ (mustS sTo s1).toks.length → Keep [pb] W2 W3 →
   BodyP lo w pb cb pv nm at_ (fun n => bodyP n d) s (.returned (.tuple #[])) (W3.setCell ⟨cb, 2, none⟩ bv) := by
  intro W s1 gv g hps hle hk hb hg hev W2 W3 bv c s2 hps2 hk2 hev2 hns hps3 hle3 hk3; have hb3 := blkK (blkK hb hk2 (by simp; exact HNE.o)) hk3 (by simp; exact HNE.o); obtain ⟨h4, hk4⟩ := set5a (i := 2) hb3 bv; have hs2 := hk.size; have hs3 := hk2.size; have hcw := HCW.o; have hpl := HPL.o; have hlo := HLO.o; have hcb := HCB.o; refine ⟨gv, bv, (g, c), s2, rfl, hev c s2 hev2, by simpa using h4, ?_, ?_, hps3.keep hk4 (by simp; omega), Nat.le_trans hle3 (Nat.le_trans (must_len sTo s1) hle), ?_⟩
  ·exact ((hg.up hk2 (by simp; omega) (Nat.le_refl _)).up hk3 (by simp; omega) (Nat.le_refl _)).up hk4 (by simp; exact hcw) (Nat.le_refl _)
  ·exact hns.up hk4 (by simp; omega) (by omega)
  ·exact ((hk.trans hk2 (by simp)).trans hk3 (by simp)).trans hk4 (by simp)
 have HREST := hyd hrest; clear hrest; rcases ho : (hasS sWhen s).1 with _ | _
 ·rw [ho] at HH; have HO := hyd ho; clear ho; go_enter Tryz.func96, Tryz.ntmps96; go_wp2_with fail; refine HH.o.mono ?_; rintro e w2 ⟨rfl, hps2, hk2⟩; have hb2 := blkK HB.o hk2 (by simp; exact HNE.o); have hl2 := Nat.le_trans HLO.o hk2.size; have HM := hyd (p_must hps2 hl2 sTo); have hR := HREST.o w2 _ (.slice none 0 0) [] hps2 HHL.o (hk2.mono (by simp)) hb2 (NsR.nil _ _ _) (fun c s2 h => Ev.of_body_bare HO.o h); have HR := hyd hR; have HB2 := hyd hb2; have HL2 := hyd hl2; clear hps2 hk2 hb2 hl2 hR HREST
  go_wp2_with (go_at_call 63; refine HM.o.mono ?_; rintro e w3 ⟨rfl, hps3, hk3⟩; have HPS3 := hyd hps3; have HK3 := hyd hk3; have hl3 := Nat.le_trans HL2.o hk3.size; have HL3 := hyd hl3; have HB3 := hyd (blkK HB2.o hk3 (by simp; exact HNE.o)); clear hps3 hk3 hl3)
  refine (HS.o w3 _ HPS3.o HL3.o (Nat.le_trans (must_len _ _) HHL.o)).mono ?_; rintro e w4 ⟨bv, c, s2, rfl, hev4, hns4, hps4, hle4, hk4⟩; have hb4 := blkK HB3.o hk4 (by simp; exact HNE.o); obtain ⟨c0, c1, c2, c3, c4⟩ := cells5 hb4; have f4 := frozenP hb4; obtain ⟨q1, q2, rfl⟩ := hns4.form; have HE := hyd (HR.o w3 w4 _ c s2 HPS3.o HK3.o hev4 hns4 hps4 hle4 hk4); clear hev4 hns4 hps4 hle4 hk4 hb4 HR HS HM; go_wp2_with fail
  go_end0
  exact HE.o
 ·rw [ho] at HH; have HO := hyd ho; clear ho; go_enter Tryz.func96, Tryz.ntmps96
  go_wp2_with (go_at_call 94; refine HH.o.mono ?_; rintro e w2 ⟨rfl, hps2, hk2⟩; have HPS2 := hyd hps2; have HK2 := hyd hk2; have hl2 := Nat.le_trans HLO.o hk2.size; have HL2 := hyd hl2; have HB2 := hyd (blkK HB.o hk2 (by simp; exact HNE.o)); clear hps2 hk2 hl2)
  refine (HS.o w2 _ HPS2.o HL2.o HHL.o).mono ?_; rintro e w3 ⟨gv, g, s1, rfl, hev3, hns3, hps3, hle3, hk3⟩; have hb3 := blkK HB2.o hk3 (by simp; exact HNE.o); obtain ⟨c0, c1, c2, c3, c4⟩ := cells5 hb3; have f4 := frozenP hb3; obtain ⟨q1, q2, rfl⟩ := hns3.form; obtain ⟨hb4, hk4⟩ := set5a (i := 1) hb3 (.slice q1 g.length q2); have hcw := HCW.o; have hpl := HPL.o; have hlo := HLO.o; have hcb := HCB.o; have hs2 := HK2.o.size; have hps4 := hps3.keep hk4 (by simp; omega); have hk5 : Keep [pb, cb] w (w3.setCell ⟨cb, 1, none⟩ (.slice q1 g.length q2)) := ((HK2.o.trans hk3 (by simp)).mono (by simp)).trans hk4 (by simp); have hl4 : lo ≤ (w3.setCell ⟨cb, 1, none⟩ (.slice q1 g.length q2)).heap.size := Nat.le_trans hlo hk5.size; have hR := HREST.o _ s1 (.slice q1 g.length q2) g hps4 (Nat.le_trans hle3 HHL.o) hk5 (by simpa using hb4) (hns3.up hk4 (by simp; omega) (by omega)) (fun c s2 h => Ev.of_body_when HO.o hev3 h); have HM := hyd (p_must hps4 hl4 sTo); have HR := hyd hR; have HL4 := hyd hl4; have HB4 := hyd (show (w3.setCell ⟨cb, 1, none⟩ (.slice q1 g.length q2)).heap[cb]? = some (.cells #[pv, .slice q1 g.length q2, .slice none 0 0, .string ⟨nm.toArray⟩, .int .i64 at_] 52 (0, 0)) by simpa using hb4); have HLE := hyd hle3; clear hev3 hns3 hps3 hle3 hk3 hb3 hb4 hk4 hps4 hk5 hl4 hR HREST hcw hpl hlo hcb hs2
  go_wp2_with (go_at_call 63; refine HM.o.mono ?_; rintro e w5 ⟨rfl, hps5, hk5⟩; have HPS5 := hyd hps5; have HK5 := hyd hk5; have hl5 := Nat.le_trans HL4.o hk5.size; have HL5 := hyd hl5; have HB5 := hyd (blkK HB4.o hk5 (by simp; exact HNE.o)); clear hps5 hk5 hl5)
  refine (HS.o w5 _ HPS5.o HL5.o (Nat.le_trans (must_len _ _) (Nat.le_trans HLE.o HHL.o))).mono ?_; rintro e w6 ⟨bv, c, s2, rfl, hev6, hns6, hps6, hle6, hk6⟩; have hb6 := blkK HB5.o hk6 (by simp; exact HNE.o); clear c0 c1 c2 c3 c4 f4; obtain ⟨c0, c1, c2, c3, c4⟩ := cells5 hb6; have f4 := frozenP hb6; obtain ⟨q3, q4, rfl⟩ := hns6.form; have HE := hyd (HR.o w5 w6 _ c s2 HPS5.o HK5.o hev6 hns6 hps6 hle6 hk6); clear hev6 hns6 hps6 hle6 hk6 hb6 HR HS HM; go_wp2_with fail
  go_end0
  exact HE.o
theorem w_head {lo pb : Nat} {w : World} {s : St} {d cb : Nat} {nm : List UInt8} {at_ : Int} (ih : AllC lo pb (32 * s.toks.length + 12)) (h : PS lo w pb s) (hlo : lo ≤ w.heap.size) (hd : d + s.toks.length ≤ 1000000) (hcb : lo ≤ cb)
  (hb : w.heap[cb]? = some (.cells #[.slice none 0 0, .slice none 0 0, .slice none 0 0, .string ⟨nm.toArray⟩, .int .i64 at_] 52 (0, 0))) :
  Calls Tryz.prog 62 #[.pointer (some ⟨pb, 0, none⟩), .pointer (some ⟨cb, 0, none⟩), .int .i64 d] w (OneP lo w pb cb (fun n => headP n nm d) s) := by
 have hplo := h.plo; have hne : cb ≠ pb := by omega
 have hcw := (Array.getElem?_eq_some_iff.1 hb).1; have hml := must_len sOpen s; have HM := hyd (p_must h hlo sOpen); have huntil := fun (W : World) (hW : PS lo W pb (mustS sOpen s)) (hl : lo ≤ W.heap.size) => ih.untilL (d := d) (x := sShut) hW hl (by omega) (by omega)
 have hbody := fun (W : World) (s1 : St) (pv : Value) (hW : PS lo W pb s1) (hl : lo ≤ W.heap.size) (hle : s1.toks.length ≤ s.toks.length) (hb : W.heap[cb]? = some (.cells #[pv, .slice none 0 0, .slice none 0 0, .string ⟨nm.toArray⟩, .int .i64 at_] 52 (0, 0))) => ih.bodyP (d := d) hW hl (by omega) (by omega) hcb hb
 have HU := hyd huntil; have HBD := hyd hbody; have HLO := hyd hlo; have HB := hyd hb; have HPL := hyd hplo; have HCB := hyd hcb; have HNE := hyd hne; have HCW := hyd hcw; have HML := hyd hml; clear ih h hlo hd hcb hb hplo hne hcw hml huntil hbody; go_enter Tryz.func62, Tryz.ntmps62
 go_wp2_with (go_at_call 63; refine HM.o.mono ?_; rintro e w2 ⟨rfl, hps2, hk2⟩; have HPS2 := hyd hps2; have HK2 := hyd hk2; have hl2 := Nat.le_trans HLO.o hk2.size; have HL2 := hyd hl2; have HB2 := hyd (blkK HB.o hk2 (by simp; exact HNE.o)); clear hps2 hk2 hl2)
 refine (HU.o w2 HPS2.o HL2.o).mono ?_; rintro e w3 ⟨gv, g, s1, rfl, hev3, hns3, hps3, hle3, hk3⟩; have hb3 := blkK HB2.o hk3 (by simp; exact HNE.o); obtain ⟨c0, c1, c2, c3, c4⟩ := cells5 hb3; have f4 := frozenP hb3; obtain ⟨q1, q2, rfl⟩ := hns3.form; obtain ⟨hb4, hk4⟩ := set5a (i := 0) hb3 (.slice q1 g.length q2); have hcw := HCW.o; have hpl := HPL.o; have hlo := HLO.o; have hcb := HCB.o; have hs2 := HK2.o.size; have hle1 := Nat.le_trans hle3 HML.o; have hps4 := hps3.keep hk4 (by simp; omega); have hk5 : Keep [pb, cb] w (w3.setCell ⟨cb, 0, none⟩ (.slice q1 g.length q2)) := ((HK2.o.trans hk3 (by simp)).mono (by simp)).trans hk4 (by simp); have hl4 : lo ≤ (w3.setCell ⟨cb, 0, none⟩ (.slice q1 g.length q2)).heap.size := Nat.le_trans hlo hk5.size; have hns4 := hns3.up hk4 (lo' := w.heap.size) (by simp; omega) (by omega); have hcall := HBD.o _ s1 (.slice q1 g.length q2) hps4 hl4 hle1 (by simpa using hb4); have HCALL := hyd hcall; have HNS4 := hyd hns4; have HK5 := hyd hk5; have HEV3 := hyd hev3; have HLE1 := hyd hle1; clear hev3 hns3 hps3 hle3 hk3 hb3 hb4 hk4 hps4 hk5 hl4 hcw hpl hlo hcb hs2 hcall hns4 hle1; go_wp2_with fail; refine HCALL.o.mono ?_; rintro e w6 ⟨gv6, bv6, gc, s6, rfl, hev6, hb6, hg6, hc6, hps6, hle6, hk6⟩; have hcw := HCW.o; have hpl := HPL.o; have hlo := HLO.o; have hs5 := HK5.o.size
 have hres : OneP lo w pb cb (fun n => headP n nm d) s (.returned (.tuple #[])) w6 := by
  refine ⟨[.slice q1 g.length q2, gv6, bv6, .string ⟨nm.toArray⟩, .int .i64 at_], .mk 0 0 nm g gc.1 gc.2, s6, rfl, Ev.of_head HEV3.o (g := gc.1) (c := gc.2) hev6, hb6, NdR.mk5 ?_ (hg6.mono fun b h => ⟨Nat.le_trans hs5 h.1, h.2⟩) (hc6.mono fun b h => ⟨Nat.le_trans hs5 h.1, h.2⟩), hps6, Nat.le_trans hle6 HLE1.o, HK5.o.trans hk6 (by simp)⟩; exact HNS4.o.up hk6 (by simp; omega) (Nat.le_refl _)
 have HRES := hyd hres; clear hev6 hb6 hg6 hc6 hps6 hle6 hk6 hcw hpl hlo hs5 hres; go_wp2_with fail
 go_end0
 exact HRES.o
abbrev zC : Obj := .cells #[.slice none 0 0, .slice none 0 0, .slice none 0 0, .string ⟨#[]⟩, .int .i64 0] 52
theorem set5all {w : World} {q : Nat} {a b c d e : Value} {t : TypeId} (h : w.heap[q]? = some (.cells #[a, b, c, d, e] t (0, 0))) (a' b' c' d' e' : Value) :
  (((((w.setCell ⟨q, 0, none⟩ a').setCell ⟨q, 1, none⟩ b').setCell ⟨q, 2, none⟩ c').setCell ⟨q, 3, none⟩ d').setCell ⟨q, 4, none⟩ e').heap[q]? = some (.cells #[a', b', c', d', e'] t (0, 0))
  ∧ Keep [q] w (((((w.setCell ⟨q, 0, none⟩ a').setCell ⟨q, 1, none⟩ b').setCell ⟨q, 2, none⟩ c').setCell ⟨q, 3, none⟩ d').setCell ⟨q, 4, none⟩ e') :=
 ⟨by simpa using heap_setCell_at (i := 4) (heap_setCell_at (i := 3) (heap_setCell_at (i := 2) (heap_setCell_at (i := 1) (heap_setCell_at (i := 0) h a') b') c') d') e',
  ((((Keep.set1 w ⟨q, 0, none⟩ a').setCell (.inl (by simp)) _).setCell (.inl (by simp)) _).setCell (.inl (by simp)) _).setCell (.inl (by simp)) _⟩
theorem p_clauses {lo pb : Nat} {w : World} {s : St} {d k : Nat} (F : Nat) (caps : Array Value) (eg : ∀ args w, (callFunc F args).run Tryz.prog w = .ok (.enter F args) w)
  (hone : ∀ (W : World) (si : St) (cb : Nat) (at_ : Int), Keep [pb] w W → PS lo W pb si → lo ≤ W.heap.size → si.toks.length ≤ s.toks.length → w.heap.size ≤ cb →
    W.heap[cb]? = some (.cells #[.slice none 0 0, .slice none 0 0, .slice none 0 0, .string ⟨#[]⟩, .int .i64 at_] 52 (0, 0)) → Calls Tryz.prog F (#[.pointer (some ⟨cb, 0, none⟩)] ++ caps) W (OneP lo W pb cb (fun n => oneC n k d) si))
  (h : PS lo w pb s) (hlo : lo ≤ w.heap.size) (hd : s.toks.length ≤ 1000000) :
  Calls Tryz.prog 60 #[.pointer (some ⟨pb, 0, none⟩), .func (.func F) #[] caps] w (ListP lo w pb true (fun n => clausesL n k d) s) := by
 have hplo := h.plo; obtain ⟨i0, hi0, hz0, hz1, hz2⟩ := info3 clause_info; have HI := hyd hi0; have HONE := hyd hone; have HLO := hyd hlo; have HPL := hyd hplo; have HH := hyd h; have HD := hyd hd; clear hi0 hone hlo hplo h hd; go_enter Tryz.func60, Tryz.ntmps60; go_wp2_with fail
 go_loopw [4] (fun v wr => ∃ (l : List Nd) (si : St) (o : Option Nat), RowN w.heap.size wr true v l o ∧ PS lo wr pb si ∧ Keep [pb] w wr ∧ l.length + si.toks.length ≤ s.toks.length ∧ ∀ l' s', Ev (fun n => clausesL n k d) si l' s' → Ev (fun n => clausesL n k d) s (l ++ l') s') (fun _ wr => plen wr pb)
 case atStart => exact ⟨[], s, none, RowN.nil _ _ _, HH.o, Keep.refl _ _, by simp, fun l' s' h => h⟩
 case round =>
  obtain ⟨l, si, o, hrow, hps, hkw, hlen, hev⟩ := hrel; obtain ⟨pa, pc, rfl⟩ := hrow.form; have hlr : lo ≤ wr.heap.size := Nat.le_trans HLO.o hkw.size; have HPLC := hyd (p_place hps); have hk1 := (Keep.refl [] wr).alloc zC; have hb1 := heap_alloc_new wr zC; obtain ⟨c0, c1, c2, c3, c4⟩ := cells5 hb1; have f1 := frozenP hb1; have HB1 := hyd hb1; have HROW := hyd hrow; have HPS := hyd hps; have HKW := hyd hkw; have HLEN := hyd hlen; have HEV := hyd hev; have HLR := hyd hlr; have HPN := hyd hps.len; have HK1 := hyd hk1; clear hrow hps hkw hlen hev hlr hk1 hb1
  go_wp2_with (go_at_call 67; refine HPLC.o.mono ?_; rintro e w2 ⟨rfl, rfl⟩)
  clear c0 c1 c2 c3 c4 f1 HB1 HK1; have hk1 := (Keep.refl [] wr).alloc (.cells #[.slice none 0 0, .slice none 0 0, .slice none 0 0, .string ⟨#[]⟩, .int .i64 (plc si)] 52); have hcall := HONE.o (wr.alloc (.cells #[.slice none 0 0, .slice none 0 0, .slice none 0 0, .string ⟨#[]⟩, .int .i64 (plc si)] 52)) si wr.heap.size (plc si) (HKW.o.trans hk1 (by simp)) (HPS.o.keep0 hk1) (Nat.le_trans HLR.o hk1.size) (by have := HLEN.o; omega) HKW.o.size (heap_alloc_new wr _); refine hcall.mono ?_; rintro e w2 ⟨cs, n, s2, rfl, hev2, hb2, hnd, hps2, hle2, hk2⟩; obtain ⟨at2, name, p1, n1, c1, p2, n2, c2, p3, n3, c3, rfl⟩ := id hnd.un5s; have hpw := Nat.lt_of_lt_of_le HPL.o HLO.o; have hww := HKW.o.size; have hk2' : Keep [pb] wr w2 := keepB (lo := wr.heap.size) ((hk1.mono (G := [pb, wr.heap.size]) (by simp)).trans hk2 (by simp)) (by simp) (Nat.le_refl _); have hol : ∀ b, o = some b → b < wr.heap.size := HROW.o.lt; have hsz2 := hk2.size; rw [size_alloc] at hsz2; have hnd' : NdR (Frs wr.heap.size w2) w2 true [.slice p1 n1 c1, .slice p2 n2 c2, .slice p3 n3 c3, .string ⟨name⟩, .int .i64 at2] n := hnd.mono (fun b h => ⟨by have := h.1; rw [size_alloc] at this; omega, h.2⟩); obtain ⟨es, hrow3, hpush⟩ := (HROW.o.keep hk2' (by simp; exact hpw)).app hnd' HKW.o.size hk2'.size hol #[.slice p1 n1 c1, .slice p2 n2 c2, .slice p3 n3 c3, .string ⟨name⟩, .int .i64 at2] 52; have hk3 := (Keep.refl [] w2).alloc (.cells #[.slice p1 n1 c1, .slice p2 n2 c2, .slice p3 n3 c3, .string ⟨name⟩, .int .i64 at2] 52); have hsrc := src_lit1 (P := Tryz.prog) w2 [.slice p1 n1 c1, .slice p2 n2 c2, .slice p3 n3 c3, .string ⟨name⟩, .int .i64 at2] 5 rfl hnd.one 27 52 52 Tryz.underlying27; obtain ⟨d0, d1, d2, d3, d4⟩ := cells5 hb2; have HROW3 := hyd hrow3; have HPUSH := hyd hpush; have HSRC := hyd hsrc; have HPS3 := hyd (hps2.keep0 hk3); have HK3 := hyd (hk2'.trans hk3 (by simp)); have hoge : ∀ b, o = some b → w.heap.size ≤ b := by obtain ⟨_, -, -, -, h⟩ := HROW.o; exact h
  have HOGE := hyd hoge; have HEV2 := hyd hev2; have HLE2 := hyd hle2; have hlm : l.length ≤ 1000000 := by have := HLEN.o; have := HD.o; omega
  clear hrow3 hpush hsrc hps2 hk2 hk3 hoge hev2 hle2 hnd hnd' hpw hol hk2' hsz2 hb2 hcall hk1 hww
  go_wp2_with (at_builtin; go_loud (refine wpList_append_row _ rfl _ _ 27 27 rfl 52 i0 _ 5 96 Tryz.underlying27 HI.o hz0 hz1 hz2 rfl _ _ _ o rfl HROW3.o _ rfl 1 _ HSRC.o (by omega) (by unfold maxLen; omega) (by omega) ?_); intro g off cap w4 hr4 hk4 hg4; have hr5 := HPUSH.o g _ w4 hr4 hk4 hg4; have hps4 := HPS3.o.keep hk4 (fun b hb => Nat.le_trans HLO.o (HOGE.o b (by simpa using hb))); have hk5 : Keep [pb] w w4 := keepB (lo := w.heap.size) ((HKW.o.trans HK3.o (by simp)).mono (G := pb :: o.toList) (by simp) |>.trans hk4 (fun x hx => .inl (List.mem_cons_of_mem _ hx))) (fun b hb => by simp at hb; rcases hb with rfl | hb; exact .inl rfl; exact .inr (HOGE.o b hb)) (Nat.le_refl _); have hl4 := Nat.le_trans HLO.o hk5.size; have HR5 := hyd hr5; have HPS4 := hyd hps4; have HK5 := hyd hk5; have HHAS := hyd (p_has hps4 hl4 sSemi); clear hr4 hk4 hg4 hr5 hps4 hk5 hl4 d0 d1 d2 d3 d4)
  refine HHAS.o.mono ?_; rintro e w5 ⟨rfl, hps5, hk5⟩; have hpw := Nat.lt_of_lt_of_le HPL.o HLO.o; have hr6 := HR5.o.keep hk5 (by simp; exact hpw); have hk6 : Keep [pb] w w5 := HK5.o.trans hk5 (by simp); have HPS5 := hyd hps5; have HR6 := hyd hr6; have HK6 := hyd hk6; have HL5 := hyd (has_len sSemi s2); clear hps5 hk5 hr6 hk6 HHAS HPUSH HSRC HROW3 HPS3 HK3 HROW; rcases ho : (hasS sSemi s2).1 with _ | _
  ·have HO := hyd ho; clear ho; go_wp2_with fail; go_ret; refine ⟨_, l ++ [n], _, rfl, HEV.o [n] _ (Ev.of_clauses_one HEV2.o HO.o), HR6.o.ns, HPS5.o, ?_, HK6.o⟩; have h1 := HL5.o; have h2 := HLE2.o; have h3 := HLEN.o
   omega
  ·have HO := hyd ho; have HLT := hyd (has_lt ho); clear ho; go_wp2_with fail; go_roundw
   case rel =>
    refine ⟨l ++ [n], _, some g, HR6.o, HPS5.o, HK6.o, ?_, fun l' s' h => ?_⟩
    ·have h1 := HLT.o; have h2 := HLE2.o; have h3 := HLEN.o; simp only [List.length_append, List.length_singleton]
     omega
    ·have := HEV.o (n :: l') s' (Ev.of_clauses_more HEV2.o HO.o h)
     simpa using this
   case measure =>
    rw [HPS5.o.len, HPN.o]; have h1 := HLT.o; have h2 := HLE2.o
    omega
open Go.RowKit Go.Emb Go.Shelf
theorem w_arm {lo pb M : Nat} {w : World} {s : St} {d cb b2 b3 : Nat} {at_ : Int} (ih : AllC lo pb M) (hM : 32 * s.toks.length + 12 ≤ M) (h : PS lo w pb s) (hlo : lo ≤ w.heap.size) (hd : d + s.toks.length ≤ 1000000) (hcb : lo ≤ cb)
  (hb : w.heap[cb]? = some (.cells #[.slice none 0 0, .slice none 0 0, .slice none 0 0, .string ⟨#[]⟩, .int .i64 at_] 52 (0, 0)))
  (h2 : w.cell? ⟨b2, 0, none⟩ = some (.pointer (some ⟨pb, 0, none⟩))) (h3 : w.cell? ⟨b3, 0, none⟩ = some (.int .i64 d)) (n2 : lo ≤ b2 ∧ b2 ≠ cb) (n3 : lo ≤ b3 ∧ b3 ≠ cb) :
  Calls Tryz.prog 155 #[.pointer (some ⟨cb, 0, none⟩), .pointer (some ⟨b2, 0, none⟩), .pointer (some ⟨b3, 0, none⟩)] w (OneP lo w pb cb (fun n => oneC n 0 d) s) := by
 have hplo := h.plo; have hne : cb ≠ pb := by omega
 have hcw := (Array.getElem?_eq_some_iff.1 hb).1; have hb2 := World.block_lt_of_cell? _ _ h2; have hb3 := World.block_lt_of_cell? _ _ h3; have HE := hyd (ih.expr (d := d) h hlo hd (by omega)); have hbody := fun (W : World) (s1 : St) (pv : Value) (hW : PS lo W pb s1) (hl : lo ≤ W.heap.size) (hle : s1.toks.length ≤ s.toks.length) (hb : W.heap[cb]? = some (.cells #[pv, .slice none 0 0, .slice none 0 0, .string ⟨#[]⟩, .int .i64 at_] 52 (0, 0))) => ih.bodyP (nm := []) (d := d) hW hl (by omega) (by omega) hcb hb
 have HBD := hyd hbody; have HLO := hyd hlo; have HB := hyd hb; have HPL := hyd hplo; have HCB := hyd hcb; have HNE := hyd hne; have HCW := hyd hcw; have HN2 := hyd n2; have HN3 := hyd n3; have HL2 := hyd hb2; have HL3 := hyd hb3; clear ih hM h hlo hd hcb hb hplo hne hcw hbody n2 n3 hb2 hb3; go_enter Tryz.func155, Tryz.ntmps155; go_wp2_with fail; refine HE.o.mono ?_; rintro e w3 ⟨cs, n, s1, rfl, hev3, hnd, hps3, hle3, hk3⟩; obtain ⟨kind, num, at2, name, p1, n1, c1, p2, n2, c2, p3, n3, c3, rfl, -⟩ := id hnd.un7s; have hb3 := blkK HB.o hk3 (by simp; exact HNE.o); have hk4 := (Keep.refl [] w3).alloc (.cells #[.int .i64 kind, .int .i64 num, .string ⟨name.toArray⟩, .int .i64 at2, .slice p1 n1 c1, .slice p2 n2 c2, .slice p3 n3 c3] 29); have hb4 := blkK hb3 hk4 (by simp); obtain ⟨d0, d1, d2, d3, d4⟩ := cells5 hb4; have f4 := frozenP hb4; obtain ⟨hb5, hk5⟩ := set5a (i := 0) hb4 (.slice (some ⟨w3.heap.size, 0, none⟩) 1 1); have hlit := NsR.lit1 (lo := w.heap.size) (cs := #[.int .i64 kind, .int .i64 num, .string ⟨name.toArray⟩, .int .i64 at2, .slice p1 n1 c1, .slice p2 n2 c2, .slice p3 n3 c3]) 29 hk3.size rfl hnd; have hcw := HCW.o; have hpl := HPL.o; have hlo := HLO.o; have hcb := HCB.o; have hlit2 := hlit.up hk5 (lo' := w.heap.size) (by simp; omega) (Nat.le_refl _); have hk6 : Keep [pb, cb] w ((w3.alloc (.cells #[.int .i64 kind, .int .i64 num, .string ⟨name.toArray⟩, .int .i64 at2, .slice p1 n1 c1, .slice p2 n2 c2, .slice p3 n3 c3] 29)).setCell ⟨cb, 0, none⟩ (.slice (some ⟨w3.heap.size, 0, none⟩) 1 1)) := ((hk3.trans hk4 (by simp)).mono (by simp)).trans hk5 (by simp); have hps5 := (hps3.keep0 hk4).keep hk5 (by simp; exact hcb)
 have e2 : (((w3.alloc (.cells #[.int .i64 kind, .int .i64 num, .string ⟨name.toArray⟩, .int .i64 at2, .slice p1 n1 c1, .slice p2 n2 c2, .slice p3 n3 c3] 29)).setCell ⟨cb, 0, none⟩ (.slice (some ⟨w3.heap.size, 0, none⟩) 1 1))).cell? ⟨b2, 0, none⟩ = some (.pointer (some ⟨pb, 0, none⟩)) := by
  rw [hk6.cell (p := ⟨b2, 0, none⟩) HL2.o (by have := HN2.o; simp; omega)]; exact h2
 have e3 : (((w3.alloc (.cells #[.int .i64 kind, .int .i64 num, .string ⟨name.toArray⟩, .int .i64 at2, .slice p1 n1 c1, .slice p2 n2 c2, .slice p3 n3 c3] 29)).setCell ⟨cb, 0, none⟩ (.slice (some ⟨w3.heap.size, 0, none⟩) 1 1))).cell? ⟨b3, 0, none⟩ = some (.int .i64 d) := by
  rw [hk6.cell (p := ⟨b3, 0, none⟩) HL3.o (by have := HN3.o; simp; omega)]; exact h3
 have hcall := HBD.o _ s1 _ hps5 (Nat.le_trans hlo hk6.size) hle3 (by simpa using hb5); have HCALL := hyd hcall; have HLIT := hyd hlit2; have HK6 := hyd hk6; have HEV := hyd hev3; have HLE := hyd hle3; clear hev3 hnd hps3 hle3 hk3 hb3 hk4 hb4 hb5 hk5 hlit hcw hpl hlo hcb hlit2 hk6 hps5 hcall; go_wp2_with fail; refine HCALL.o.mono ?_; rintro e w6 ⟨gv6, bv6, gc, s6, rfl, hev6, hb6, hg6, hc6, hps6, hle6, hk6⟩; have hcw := HCW.o; have hpl := HPL.o; have hlo := HLO.o; have hs5 := HK6.o.size
 have hres : OneP lo w pb cb (fun n => oneC n 0 d) s (.returned (.tuple #[])) w6 := by
  refine ⟨[.slice (some ⟨w3.heap.size, 0, none⟩) 1 1, gv6, bv6, .string ⟨#[]⟩, .int .i64 at_], .mk 0 0 [] [n] gc.1 gc.2, s6, rfl, Ev.of_one_0 HEV.o (g := gc.1) (c := gc.2) hev6, hb6, NdR.mk5 (name := []) ?_ (hg6.mono fun b h => ⟨Nat.le_trans hs5 h.1, h.2⟩) (hc6.mono fun b h => ⟨Nat.le_trans hs5 h.1, h.2⟩), hps6, Nat.le_trans hle6 HLE.o, HK6.o.trans hk6 (by simp)⟩; exact HLIT.o.up hk6 (by simp; omega) (Nat.le_refl _)
 have HRES := hyd hres; clear hev6 hb6 hg6 hc6 hps6 hle6 hk6 hcw hpl hlo hs5 hres; go_wp2_with fail
 go_end0
 exact HRES.o
theorem two_boxes (w : World) (x y : Value) (t1 t2 : TypeId) : (((w.alloc (.cells #[x] t1)).alloc (.cells #[y] t2))).cell? ⟨w.heap.size, 0, none⟩ = some x ∧ (((w.alloc (.cells #[x] t1)).alloc (.cells #[y] t2))).cell? ⟨w.heap.size + 1, 0, none⟩ = some y := by
 have h1 := blkK (heap_alloc_new w (.cells #[x] t1)) ((Keep.refl [] _).alloc (.cells #[y] t2)) (by simp); have h2 := heap_alloc_new (w.alloc (.cells #[x] t1)) (.cells #[y] t2); rw [size_alloc] at h2; exact ⟨by rw [World.cell?, h1]; simp, by rw [World.cell?, h2]; simp⟩
theorem w_arms {lo pb : Nat} {w : World} {s : St} {d : Nat} (ih : AllC lo pb (32 * s.toks.length + 15)) (h : PS lo w pb s) (hlo : lo ≤ w.heap.size) (hd : d + s.toks.length ≤ 1000000) :
  Calls Tryz.prog 146 #[.pointer (some ⟨pb, 0, none⟩), .int .i64 d] w (ListP lo w pb true (fun n => clausesL n 0 d) s) := by
 have hplo := h.plo; have hkk : Keep [] w ((w.alloc (.cells #[.pointer (some ⟨pb, 0, none⟩)] 76)).alloc (.cells #[.int .i64 d] 3)) := ((Keep.refl [] w).alloc _).alloc _; obtain ⟨e2, e3⟩ := two_boxes w (.pointer (some ⟨pb, 0, none⟩)) (.int .i64 d) 76 3; have hsz : ((w.alloc (.cells #[.pointer (some ⟨pb, 0, none⟩)] 76)).alloc (.cells #[.int .i64 d] 3)).heap.size = w.heap.size + 2 := by rw [size_alloc, size_alloc]
 generalize hW : ((w.alloc (.cells #[.pointer (some ⟨pb, 0, none⟩)] 76)).alloc (.cells #[.int .i64 d] 3)) = W at *; have eg : ∀ args w, (callFunc 155 args).run Tryz.prog w = .ok (.enter 155 args) w := enters_of Tryz.func155 (by kernel_rfl) rfl
 have hcl := p_clauses (k := 0) (d := d) 155 #[.pointer (some ⟨w.heap.size, 0, none⟩), .pointer (some ⟨w.heap.size + 1, 0, none⟩)] eg (fun W2 si cb at_ hk2 hps2 hl2 hle2 hcb2 hb2 => by
   have g2 : W2.cell? ⟨w.heap.size, 0, none⟩ = some (.pointer (some ⟨pb, 0, none⟩)) := by rw [hk2.cell (p := ⟨w.heap.size, 0, none⟩) (by show w.heap.size < W.heap.size; omega) (by simp; omega)]; exact e2
   have g3 : W2.cell? ⟨w.heap.size + 1, 0, none⟩ = some (.int .i64 d) := by rw [hk2.cell (p := ⟨w.heap.size + 1, 0, none⟩) (by show w.heap.size + 1 < W.heap.size; omega) (by simp; omega)]; exact e3
   exact w_arm ih (by omega) hps2 hl2 (by omega) (by omega) hb2 g2 g3 ⟨hlo, by omega⟩ ⟨by omega, by omega⟩) (h.keep0 hkk) (Nat.le_trans hlo hkk.size) (by omega)
 have HCL := hyd hcl; have HKK := hyd hkk; have HPL := hyd hplo; clear hcl hkk hplo ih h hlo hd eg hsz; go_enter Tryz.func146, Tryz.ntmps146; go_wp2_with fail; refine HCL.o.mono ?_; rintro e w3 ⟨v, l, s', rfl, hev, hns, hps, hle, hk⟩; obtain ⟨q1, q2, rfl⟩ := hns.form; have hs := HKK.o.size; have hres : ListP lo w pb true (fun n => clausesL n 0 d) s (.returned (.slice q1 l.length q2)) w3 := ⟨_, l, s', rfl, hev, hns.mono (fun b h => ⟨Nat.le_trans hs h.1, h.2⟩), hps, hle, (HKK.o.mono (by simp)).trans hk (by simp)⟩; have HRES := hyd hres; clear hev hns hps hle hk hs hres; go_wp2_with fail; go_ret; exact HRES.o
end Go.Proofs.YtdmmhfbafinkpaaGreatDoor

namespace Go.Emb
open Go.RowKit
theorem run_append_rd {P : Program} {w : World} {T tx ty E e' : TypeId} {i : TypeInfo} {z : Value} {k bytes : Nat} (ht : P.underlying T = some (.slice E)) (htx : P.underlying tx = some (.slice e')) (hi : P.info? E = some i) (hz : i.zero = some z) (hik : i.size = k) (hib : i.bytes = bytes)
  (hzs : z.cells.size = k) {b off n cap : Nat} {xs : List Value} (h : Row w E k (.slice (some ⟨b, off, none⟩) n cap) n xs (some b)) {x : Value} {m : Nat} {news : List Value} {ox : Option Nat} (hx : Rd w k x m news ox) (h1 : ∀ u ∈ news, u.oneCell' = true)
  (h63 : n + m ≤ maxLen) (hbytes : (n + m) * bytes ≤ 140737488355328) :
  ∃ g off' cap' w', (Builtin.append_ #[T, tx] ty #[.slice (some ⟨b, off, none⟩) n cap, x]).run P w = .ok (.slice (some ⟨g, off', none⟩) (n + m) cap') w' ∧ Row w' E k (.slice (some ⟨g, off', none⟩) (n + m) cap') (n + m) (xs ++ news) (some g) ∧ Keep [b] w w' ∧ (b = g ∨ w.heap.size ≤ g) := by
 by_cases hm : m = 0
 ·subst hm; have hn : news = [] := List.eq_nil_of_length_eq_zero (by simpa using hx.1); subst hn; refine ⟨b, off, cap, w, ?_, by simpa using h, Keep.refl _ _, .inl rfl⟩; obtain ⟨_, a, c, rfl, _⟩ := hx; obtain ⟨_, h⟩ := h; rcases h with ⟨h, _⟩ | ⟨b', off', cap', cs, e1, e2, hb, hc1, hc2, _⟩
  ·cases h
  cases e1; cases e2
  cases a with
  | none => simp [Builtin.append_, run_underlying ht, run_underlying htx, sizeOf, typeInfo, hi, Builtin.lenOf, Builtin.firstCells, hc1, storeCells]
  | some a => simp [Builtin.append_, run_underlying ht, run_underlying htx, sizeOf, typeInfo, hi, Builtin.lenOf, Builtin.firstCells, loadCells, loadCellsFrom, hc1, storeCells]
 ·obtain ⟨g, off', cap', w', r1, r2, r3, r4⟩ := run_append_row (P := P) (w := w) (ty := ty) ht hi hz hik hib hzs h (hx.src htx (by omega) h1) (by omega) h63 hbytes; exact ⟨g, off', cap', w', r1, r2, r3, r4.imp (fun h => by cases h; rfl) id⟩
section
variable {P : Program} (w : World)
theorem wpList_append_rd {ops : Array Oper} {rest : List Oper} {o : Oper} {a : Act} {Q : Exit → Act → World → Prop} (hgd : o.guard = none) (s x : Operand) (T tx : TypeId) (ho : o.op = .call { callee := .builtin .append, args := #[s, x], argTypes := #[T, tx] })
  (E e' : TypeId) (i : TypeInfo) (z : Value) (k bytes : Nat) (ht : P.underlying T = some (.slice E)) (htx : P.underlying tx = some (.slice e')) (hi : P.info? E = some i) (hz : i.zero = some z) (hik : i.size = k) (hib : i.bytes = bytes) (hzs : z.cells.size = k)
  (b off n cap : Nat) (xs : List Value) (hs : a.eval s = .slice (some ⟨b, off, none⟩) n cap) (hown : Row w E k (.slice (some ⟨b, off, none⟩) n cap) n xs (some b)) (xv : Value) (hx : a.eval x = xv) (m : Nat) (news : List Value) (ox : Option Nat) (hrd : Rd w k xv m news ox) (h1 : ∀ u ∈ news, u.oneCell' = true) (h63 : n + m ≤ maxLen) (hbytes : (n + m) * bytes ≤ 140737488355328)
  (h : ∀ g off' cap' w', Row w' E k (.slice (some ⟨g, off', none⟩) (n + m) cap') (n + m) (xs ++ news) (some g) → Keep [b] w w' → (b = g ∨ w.heap.size ≤ g) → wpList P ops Q rest (a.put o.dst (.slice (some ⟨g, off', none⟩) (n + m) cap')) w') : wpList P ops Q (o :: rest) a w := by
 refine wpList_plain hgd fun K' hK' => ?_
 obtain ⟨g, off', cap', w', hr, h2, h3, h4⟩ := run_append_rd (P := P) (w := w) (ty := o.type) ht htx hi hz hik hib hzs hown hrd h1 h63 hbytes; unfold Oper.wp execOp; simp only [ho, resolve, invoke, builtin, Sem.run_bind, Sem.run_pure, Result.andThen_ok, List.map_toArray, List.map_cons, List.map_nil, hs, hx, hr]; exact hK' _ _ (h g off' cap' w' h2 h3 h4)
end
open Go.RowKit
def CutF (n : Nat) (R : (Nat → Value) → World → Prop) (a : Act) (w : World) : Prop := a.tmps.size = n ∧ a.defers = [] ∧ R (fun i => a.tmps.getD i undef) w
theorem CutF.lit {n : Nat} {R : (Nat → Value) → World → Prop} {a : Act} {w : World} (h : CutF n R a w) : ∃ f : Nat → Value, a = ⟨((List.range n).map f).toArray, []⟩ ∧ R f w := by
 obtain ⟨h1, h2, h3⟩ := h; refine ⟨_, ?_, h3⟩; obtain ⟨t, d⟩ := a; simp only at h1 h2; subst h2
 congr 1
 apply Array.ext
 ·simp [h1]
 ·intro i hi1 hi2; simp only [Array.getD, hi1, dif_pos, List.getElem_toArray, List.getElem_map, List.getElem_range]
  rfl
theorem CutF.mk {n : Nat} {R : (Nat → Value) → World → Prop} {t : Array Value} {w : World} (h1 : t.size = n) (h3 : R (fun i => t.getD i undef) w) : CutF n R ⟨t, []⟩ w := ⟨h1, rfl, h3⟩
theorem wpAnyH_takeL {P : Program} {l : List Oper} {Q : Exit → Act → World → Prop} {md : Region.Mode} {S : World → Prop} {i : Nat} {oi : Oper} {v : Value} {fuel : Nat} {listed : Array Bool} {a : Act} {w : World} (hi : l[i]? = some oi)
  (hs : Region.noSelect l.toArray = true) (hf : Region.free md l.toArray listed i = true) (hr : (Region.ready md l.toArray listed).contains i = true)
  (hQ : ∀ c a w, Q (.panic c) (a.put oi.dst v) w → Q (.panic c) a w) (hy : YieldsIf P l.toArray S oi v a) (hS : S w)
  (h : wpAnyH P md l.toArray Q S fuel (listed.setIfInBounds i true) (a.put oi.dst v) w) : wpAnyH P md l.toArray Q S (fuel + 1) listed a w :=
 wpAnyH_take (by simpa using hi) hs hf hr hQ hy hS h
theorem AllReadyH.consL {P : Program} {l : List Oper} {Q : Exit → Act → World → Prop} {md : Region.Mode} {S : World → Prop} {fuel : Nat} {listed : Array Bool} {a : Act} {w : World} {i : Nat} {o : Oper} {rs : List Nat} (ho : l[i]? = some o)
  (h : ∀ K' : Act → World → Prop, Shut (∀ a w, S w → (S w → wpAnyH P md l.toArray Q S fuel (listed.setIfInBounds i true) a w) → K' a w) → if Region.wanted o (yielded l.toArray a.tmps) = true then Oper.wp P o a w K' Q else K' (a.put o.dst undef) w)
  (hs : AllReadyH P md l.toArray Q S fuel listed a w rs) : AllReadyH P md l.toArray Q S fuel listed a w (i :: rs) :=
 AllReadyH.cons (by simpa using ho) h hs
theorem step_append_w {P : Program} (w : World) {ops : Array Oper} {o : Oper} {a : Act} {K : Act → World → Prop} {Q : Exit → Act → World → Prop} {X : Prop} (hw : Region.wanted o (yielded ops a.tmps) = true) (s x : Operand) (T tx : TypeId) (ho : o.op = .call { callee := .builtin .append, args := #[s, x], argTypes := #[T, tx] })
  (E e' : TypeId) (i : TypeInfo) (z : Value) (k bytes : Nat) (ht : P.underlying T = some (.slice E)) (htx : P.underlying tx = some (.slice e')) (hi : P.info? E = some i) (hz : i.zero = some z) (hik : i.size = k) (hib : i.bytes = bytes) (hzs : z.cells.size = k)
  (b off n cap : Nat) (xs : List Value) (hs : a.eval s = .slice (some ⟨b, off, none⟩) n cap) (hown : Row w E k (.slice (some ⟨b, off, none⟩) n cap) n xs (some b)) (xv : Value) (hx : a.eval x = xv) (m : Nat) (news : List Value) (ox : Option Nat) (hrd : Rd w k xv m news ox) (h1 : ∀ u ∈ news, u.oneCell' = true) (h63 : n + m ≤ maxLen) (hbytes : (n + m) * bytes ≤ 140737488355328)
  (h : ∀ g off' cap' w', Row w' E k (.slice (some ⟨g, off', none⟩) (n + m) cap') (n + m) (xs ++ news) (some g) → Keep [b] w w' → (b = g ∨ w.heap.size ≤ g) → K (a.put o.dst (.slice (some ⟨g, off', none⟩) (n + m) cap')) w') :
  if Region.wanted o (yielded ops a.tmps) = true then Oper.wp P o a w K Q else X := by
 rw [if_pos hw]; obtain ⟨g, off', cap', w', hr, h2, h3, h4⟩ := run_append_rd (P := P) (w := w) (ty := o.type) ht htx hi hz hik hib hzs hown hrd h1 h63 hbytes; unfold Oper.wp execOp; simp only [ho, resolve, invoke, builtin, Sem.run_bind, Sem.run_pure, Result.andThen_ok, List.map_toArray, List.map_cons, List.map_nil, hs, hx, hr]; exact h g off' cap' w' h2 h3 h4
section
variable {P : Program} {l : List Oper} {Q : Exit → Act → World → Prop} {md : Region.Mode} {S : World → Prop} {oi : Oper} {fuel : Nat} {listed : Array Bool} {a : Act} {w : World}
theorem tkL (i : Nat) (v : Value) (hi : l[i]? = some oi) (hy : ∀ w, S w → (execOp a.eval oi).run P w = .ok (.value v) w) (hS : S w)
  (h : wpAnyH P md l.toArray Q S fuel (listed.setIfInBounds i true) (a.put oi.dst v) w) (hs : Region.noSelect l.toArray = true := by kernel_rfl) (hf : Region.free md l.toArray listed i = true := by kernel_rfl) (hr : (Region.ready md l.toArray listed).contains i = true := by kernel_rfl)
  (hw : Region.wanted oi (yielded l.toArray a.tmps) = true := by kernel_rfl) (hQ : ∀ c a w, Q (.panic c) (a.put oi.dst v) w → Q (.panic c) a w := by exact fun _ _ _ h => h) : wpAnyH P md l.toArray Q S (fuel + 1) listed a w :=
 wpAnyH_takeL hi hs hf hr hQ (.inl ⟨hw, hy⟩) hS h
theorem skL (i : Nat) (hi : l[i]? = some oi) (hS : S w)
  (h : wpAnyH P md l.toArray Q S fuel (listed.setIfInBounds i true) (a.put oi.dst undef) w) (hs : Region.noSelect l.toArray = true := by kernel_rfl) (hf : Region.free md l.toArray listed i = true := by kernel_rfl) (hr : (Region.ready md l.toArray listed).contains i = true := by kernel_rfl)
  (hw : Region.wanted oi (yielded l.toArray a.tmps) = false := by kernel_rfl) (hQ : ∀ c a w, Q (.panic c) (a.put oi.dst undef) w → Q (.panic c) a w := by exact fun _ _ _ h => h) : wpAnyH P md l.toArray Q S (fuel + 1) listed a w :=
 wpAnyH_takeL hi hs hf hr hQ (.inr ⟨hw, rfl⟩) hS h
theorem rdH (i : Nat) {o : Oper} (ho : l[i]? = some o)
  (h : ∀ K' : Act → World → Prop, Shut (∀ a w, S w → (S w → wpAnyH P md l.toArray Q S fuel (listed.setIfInBounds i true) a w) → K' a w) → if Region.wanted o (yielded l.toArray a.tmps) = true then Oper.wp P o a w K' Q else K' (a.put o.dst undef) w)
  (hr : Region.ready md l.toArray listed = [i] := by kernel_rfl) : wpAnyH P md l.toArray Q S (fuel + 1) listed a w :=
 wpAnyH_ready hr (by simp) (AllReadyH.consL ho h AllReadyH.nil)
end
end Go.Emb

namespace Go.Proofs.YtdmmhfbafinkpaaGreatDoor
open Go.RowKit Go.Emb
theorem w_expr {lo pb : Nat} {w : World} {s : St} {d : Nat} (ih : AllC lo pb (32 * s.toks.length + 9)) (h : PS lo w pb s) (hlo : lo ≤ w.heap.size) (hd : d + s.toks.length ≤ 1000000) :
  Calls Tryz.prog 43 #[.pointer (some ⟨pb, 0, none⟩), .int .i64 d] w (NodeP lo w pb (fun n => expr n d) s) := by
 have IH := hyd ih; have HLO := hyd hlo; have HD := hyd hd; have hplo := h.plo; have HPLO := hyd hplo; have hk1 := (Keep.refl [] w).alloc zN; have HK1 := hyd hk1; have hb1 := heap_alloc_new w zN; have HE := hyd (p_enter (h.keep0 hk1) d); have HB1 := hyd hb1; obtain ⟨B, hB⟩ : ∃ B, B = w.heap.size := ⟨_, rfl⟩; rw [← hB] at HB1; have HBB := hyd hB; clear ih h hlo hd hplo hk1 hb1; go_enter Tryz.func43, Tryz.ntmps43
 go_wp2_with (go_at_call 65; refine HE.o.mono ?_; rintro e w2 ⟨rfl, h2, hk2⟩; have H2 := hyd h2; have HK2 := hyd hk2; clear h2 hk2)
 rw [← hB]; clear hB; have hBp : B ≠ pb := by have := HPLO.o; have := HLO.o; have := HBB.o; omega
 have hl2 : B + 1 ≤ w2.heap.size := by have h1 := HK2.o.size; rw [size_alloc] at h1; have := HBB.o; omega
 have hlo2 : lo ≤ w2.heap.size := by have := HLO.o; have := HBB.o; omega
 refine (IH.o.binary (v := 0) (d := d) H2.o hlo2 (by have := HD.o; have := enter_len d s; omega) (by omega) (by have := enter_len d s; omega)).mono ?_; rintro e w3 ⟨cs, a, s2, rfl, hev2, hnd2, hps2, hle2, hk3⟩; obtain ⟨kindA, numA, atA, nameA, p1A, n1A, c1A, p2A, n2A, c2A, p3A, n3A, c3A, rfl, -⟩ := id hnd2.un7s; have hb2 := blkK HB1.o HK2.o (by simp; exact hBp); have hb3 := blkK hb2 hk3 (by simp; exact hBp); have hk4 := (Keep.refl [] w3).alloc (.cells #[.int .i64 kindA, .int .i64 numA, .string ⟨nameA.toArray⟩, .int .i64 atA, .slice p1A n1A c1A, .slice p2A n2A c2A, .slice p3A n3A c3A] 29); have hA4 := heap_alloc_new w3 (.cells #[.int .i64 kindA, .int .i64 numA, .string ⟨nameA.toArray⟩, .int .i64 atA, .slice p1A n1A c1A, .slice p2A n2A c2A, .slice p3A n3A c3A] 29); have hb4 := blkK hb3 hk4 (by simp); have hl3 := hk3.size; have HEV2 := hyd hev2; have HND2 := hyd hnd2; have HLE2 := hyd hle2; have HKW2 := hyd ((HK1.o.mono (G := [pb]) (by simp)).trans HK2.o (by simp)); have HKW3 := hyd (((HK1.o.mono (G := [pb]) (by simp)).trans HK2.o (by simp)).trans hk3 (by simp)); obtain ⟨A, hA⟩ : ∃ A, A = w3.heap.size := ⟨_, rfl⟩; rw [← hA] at hA4; have HAA := hyd hA; have HK4 := hyd hk4; have HBA := hyd (And.intro hA4 hb4); have HPS4 := hyd (hps2.keep0 hk4); have HL := hyd (And.intro hl2 (And.intro hlo2 hl3)); have HBP := hyd hBp; clear hev2 hnd2 hps2 hle2 hk3 hb2 hb3 hk4 hA4 hb4 hl2 hlo2 hl3 hBp HE HB1 HK1 H2 HK2
 go_wp2_with (go_at_call 67; refine (p_place HPS4.o).mono ?_; rintro e w4' ⟨rfl, rfl⟩)
 refine (take_litb HPS4.o (by rw [size_alloc]) [sEq, sSend] 2 _ rfl (by simp [maxLen]) rfl).mono ?_; rintro e w5 ⟨rfl, h5, hk5⟩; rw [← hA]; clear hA; have hAp : A ≠ pb := by have := HL.o; have := HPLO.o; have := HAA.o; omega
 have hAB : A ≠ B := by have := HL.o; have := HAA.o; omega
 have hA5 := blkK HBA.o.1 hk5 (by simp; exact hAp); have hB5 := blkK HBA.o.2 hk5 (by simp; exact HBP.o); have hk5w := (HKW3.o.trans HK4.o (by simp)).trans hk5 (by simp); have hsz5 := (HK4.o.mono (G := [pb]) (by simp)).trans hk5 (by simp) |>.size
 have hle5 := Nat.le_trans (take_len [sEq, sSend] s2) (Nat.le_trans HLE2.o (enter_len d s)); have hnd5 := (HND2.o.fix.keepI HK4.o (by simp)).keepI hk5 (by simp; have := HL.o; have := HPLO.o; omega); have H5 := hyd h5; have HK5W := hyd hk5w; have HAB := hyd hAB; have HAP := hyd hAp; have HSZ5 := hyd hsz5; have HLE5 := hyd hle5; have HND5 := hyd hnd5; rcases ho : (takeS [sEq, sSend] s2).1 with _ | t
 ·simp only [Option.isSome_none, Option.getD_none]; obtain ⟨c0, c1, c2, c3, c4, c5, c6⟩ := cells7 hA5; obtain ⟨d0, d1, d2, d3, d4, d5, d6⟩ := cells7 hB5; have f5 := frozenP hB5; have HO := hyd ho; have HB5 := hyd hB5; clear h5 hk5 hA5 hB5 hk5w hsz5 hle5 hnd5 hAp hAB ho; go_wp2_with fail; obtain ⟨hb6, hk6⟩ := set7 HB5.o (.int .i64 kindA) (.int .i64 numA) (.string ⟨nameA.toArray⟩) (.int .i64 atA) (.slice p1A n1A c1A) (.slice p2A n2A c2A) (.slice p3A n3A c3A); refine bodyPost_ret (results_cell_row (ty := 29) rfl _ _ B _ _ _ _ rfl hb6 Tryz.underlying29 rfl node_size) rfl ?_; have hB := HBB.o; have hP := HPLO.o; have hLo := HLO.o; have hL := HL.o; exact ⟨_, a, _, rfl, Ev.of_expr_one HEV2.o HO.o, ((HND5.o.keepI hk6 (by simp; omega)).fin (by omega) (by have := hk6.size; have := HSZ5.o; omega)), H5.o.keep hk6 (by simp; omega), HLE5.o, keepB (lo := w.heap.size) ((HK5W.o.mono (G := [pb, B]) (by simp)).trans hk6 (by simp)) (by simp; omega) (Nat.le_refl _)⟩
 ·simp only [Option.isSome_some, Option.getD_some]; obtain ⟨hlt, hmem⟩ := take_lt ho; have hle1 := enter_len d s; have hl2' := HLE2.o; have HOT := hyd ho; have hdd : IntKind.i64.wrap ((d : Int) + 1) = (d : Int) + 1 := IntWalk.i64_in _ (by have := HD.o; omega); have hle2 : (takeS [sEq, sSend] s2).2.toks.length + 1 ≤ s.toks.length := by omega
  have HLT := hyd hle2; have HA5 := hyd hA5; have HB5 := hyd hB5; clear h5 hk5 hA5 hB5 hk5w hsz5 hle5 hnd5 hAp hAB ho hlt hle1 hl2' hle2 HBA HPS4; have ht : t = sEq ∨ t = sSend := by simpa using hmem
  clear hmem; obtain ⟨NB, hNB⟩ : ∃ NB, NB = w5.heap.size := ⟨_, rfl⟩; rcases ht with rfl | rfl
  ·go_wp2_with fail; have hN6 : (w5.alloc (.cells #[.int .i64 11, .int .i64 0, .string ⟨#[]⟩, .int .i64 (plc s2), .slice none 0 0, .slice none 0 0, .slice none 0 0] 29)).heap[w5.heap.size]? = some (.cells #[.int .i64 11, .int .i64 0, .string ⟨#[]⟩, .int .i64 (plc s2), .slice none 0 0, .slice none 0 0, .slice none 0 0] 29 (0, 0)) := heap_alloc_new w5 _; have hk6 : Keep [] w5 (w5.alloc (.cells #[.int .i64 11, .int .i64 0, .string ⟨#[]⟩, .int .i64 (plc s2), .slice none 0 0, .slice none 0 0, .slice none 0 0] 29)) := (Keep.refl [] w5).alloc _; generalize (w5.alloc (.cells #[.int .i64 11, .int .i64 0, .string ⟨#[]⟩, .int .i64 (plc s2), .slice none 0 0, .slice none 0 0, .slice none 0 0] 29)) = w6 at *; rw [← hNB] at hN6 ⊢; have HNB := hyd hNB; clear hNB; have hA6 := blkK HA5.o hk6 (by simp); have hB6 := blkK HB5.o hk6 (by simp); have hk6w := HK5W.o.trans hk6 (by simp); have hNA : A ≠ NB := by have := (Array.getElem?_eq_some_iff.1 HA5.o).1; have := HNB.o; omega
   have hNp : NB ≠ pb := by have := HPLO.o; have := HL.o; have := HSZ5.o; have := HNB.o; omega
   have hNBB : B ≠ NB := by have := (Array.getElem?_eq_some_iff.1 HB5.o).1; have := HNB.o; omega
   have hs6 := hk6.size; have hcall := IH.o.expr (w := w6.drew) (s := (takeS [sEq, sSend] s2).2) (d := d + 1) ((H5.o.keep0 hk6).keep0 (Keep.refl [] w6).drew) (by have := (Keep.refl [] w6).drew.size; have := HL.o; have := HSZ5.o; omega) (by have := HLT.o; have := HD.o; omega) (by have := HLT.o; omega); rw [show ((d + 1 : Nat) : Int) = (d : Int) + 1 from by omega] at hcall; have HCALL := hyd hcall; have HA6 := hyd hA6; have HB6 := hyd hB6; have HN6 := hyd hN6; have HNA := hyd hNA; have HNP := hyd hNp; have HNBB := hyd hNBB; have HK6 := hyd hk6; have HK6W := hyd hk6w; clear hcall hA6 hB6 hN6 hNA hNp hk6 hk6w hNBB hs6; refine wp_region_held_drew (S := fun w' => Keep [pb, NB] w6 w') (by kernel_rfl) ((Keep.refl [pb, NB] w6).drew) (fun hHeld => ?_); refine tkL 0 ?vE0 rfl ?runE0 hHeld ?_
   case runE0 => (intro w9 hS9; obtain ⟨c0, c1, c2, c3, c4, c5, c6⟩ := cells7 (blkK HA6.o hS9 (by simp; exact ⟨HAP.o, HNA.o⟩)); go_simp; try exact rfl)
   try simp only [Act.put, lA, lZ, lS]
   refine tkL 1 ?vE1 rfl ?runE1 hHeld ?_
   case runE1 => (intro w9 hS9; obtain ⟨c0, c1, c2, c3, c4, c5, c6⟩ := cells7 (blkK HA6.o hS9 (by simp; exact ⟨HAP.o, HNA.o⟩)); go_simp; try exact rfl)
   try simp only [Act.put, lA, lZ, lS]
   refine tkL 2 ?vE2 rfl ?runE2 hHeld ?_
   case runE2 => (intro w9 hS9; obtain ⟨c0, c1, c2, c3, c4, c5, c6⟩ := cells7 (blkK HA6.o hS9 (by simp; exact ⟨HAP.o, HNA.o⟩)); go_simp; try exact rfl)
   try simp only [Act.put, lA, lZ, lS]
   refine tkL 3 ?vE3 rfl ?runE3 hHeld ?_
   case runE3 => (intro w9 hS9; obtain ⟨c0, c1, c2, c3, c4, c5, c6⟩ := cells7 (blkK HA6.o hS9 (by simp; exact ⟨HAP.o, HNA.o⟩)); go_simp; try exact rfl)
   try simp only [Act.put, lA, lZ, lS]
   refine rdH 4 rfl (fun K hK => ?_); go_simp; refine HCALL.o.mono ?_; rintro e w7 ⟨cs, b, s3, rfl, hevb, hndb, hpsb, hleb, hk7⟩; obtain ⟨kindB, numB, atB, nameB, p1B, n1B, c1B, p2B, n2B, c2B, p3B, n3B, c3B, rfl, -⟩ := id hndb.un7s; have hk7' : Keep [pb, NB] w6 w7 := (((Keep.refl [] w6).drew.mono (G := [pb]) (by simp)).trans hk7 (by simp)).mono (by simp); have HC := hyd hk7'; have HEVB := hyd hevb; have HNDB := hyd hndb; have HPSB := hyd hpsb; have HLEB := hyd hleb; have HK7 := hyd hk7; clear hevb hndb hpsb hleb hk7 hk7'; go_wp2_with fail; refine hK.out _ _ HC.o (fun hHeld2 => ?_); clear hK K hHeld; have hHeld := hHeld2; clear hHeld2
   try simp only [Act.put, lA, lZ, lS]
   have hk8 := (Keep.refl [] w7).alloc (.cells #[.int .i64 kindA, .int .i64 numA, .string ⟨nameA.toArray⟩, .int .i64 atA, .slice p1A n1A c1A, .slice p2A n2A c2A, .slice p3A n3A c3A, .int .i64 kindB, .int .i64 numB, .string ⟨nameB.toArray⟩, .int .i64 atB, .slice p1B n1B c1B, .slice p2B n2B c2B, .slice p3B n3B c3B] 29); have hN7 := blkK (blkK HN6.o ((Keep.refl [] w6).drew) (by simp)) HK7.o (by simp; exact HNP.o); have hN8 := blkK hN7 hk8 (by simp); have HK8 := hyd hk8; have HN8 := hyd hN8; clear hk8 hN7 hN8; refine rdH 5 rfl (fun K hK => ?_); go_simp; refine hK.out _ _ (HC.o.trans HK8.o (by simp)) (fun hHeld2 => ?_); clear hK K hHeld; have hHeld := hHeld2; clear hHeld2
   try simp only [Act.put, lA, lZ, lS]
   refine tkL 6 ?vE6 rfl ?runE6 hHeld ?_
   case runE6 => (intro w9 hS9; obtain ⟨c0, c1, c2, c3, c4, c5, c6⟩ := cells7 (blkK HA6.o hS9 (by simp; exact ⟨HAP.o, HNA.o⟩)); go_simp; try exact rfl)
   try simp only [Act.put, lA, lZ, lS]
   refine rdH 7 rfl (fun K hK => ?_); obtain ⟨e0, e1, e2, e3, e4, e5, e6⟩ := cells7 HN8.o; have f8 := frozenP HN8.o; go_simp; have hN9 : ((w7.alloc (.cells #[.int .i64 kindA, .int .i64 numA, .string ⟨nameA.toArray⟩, .int .i64 atA, .slice p1A n1A c1A, .slice p2A n2A c2A, .slice p3A n3A c3A, .int .i64 kindB, .int .i64 numB, .string ⟨nameB.toArray⟩, .int .i64 atB, .slice p1B n1B c1B, .slice p2B n2B c2B, .slice p3B n3B c3B] 29)).setCell ⟨NB, 4, none⟩ (.slice (some ⟨w7.heap.size, 0, none⟩) 2 2)).heap[NB]? = some (.cells #[.int .i64 11, .int .i64 0, .string ⟨#[]⟩, .int .i64 (plc s2), .slice (some ⟨w7.heap.size, 0, none⟩) 2 2, .slice none 0 0, .slice none 0 0] 29 (0, 0)) := by simpa using heap_setCell_at (i := 4) HN8.o (.slice (some ⟨w7.heap.size, 0, none⟩) 2 2)
   have hk9 : Keep [NB] (w7.alloc (.cells #[.int .i64 kindA, .int .i64 numA, .string ⟨nameA.toArray⟩, .int .i64 atA, .slice p1A n1A c1A, .slice p2A n2A c2A, .slice p3A n3A c3A, .int .i64 kindB, .int .i64 numB, .string ⟨nameB.toArray⟩, .int .i64 atB, .slice p1B n1B c1B, .slice p2B n2B c2B, .slice p3B n3B c3B] 29)) ((w7.alloc (.cells #[.int .i64 kindA, .int .i64 numA, .string ⟨nameA.toArray⟩, .int .i64 atA, .slice p1A n1A c1A, .slice p2A n2A c2A, .slice p3A n3A c3A, .int .i64 kindB, .int .i64 numB, .string ⟨nameB.toArray⟩, .int .i64 atB, .slice p1B n1B c1B, .slice p2B n2B c2B, .slice p3B n3B c3B] 29)).setCell ⟨NB, 4, none⟩ (.slice (some ⟨w7.heap.size, 0, none⟩) 2 2)) := Keep.set1 _ ⟨NB, 4, none⟩ _; have hs7 := HK7.o.size; rw [show w6.drew.heap.size = w6.heap.size from rfl] at hs7; have hs6 := HK6.o.size; have hn6 := (Array.getElem?_eq_some_iff.1 HN6.o).1; have hnb := HNB.o; have hl := HL.o; have hpl := HPLO.o; have hlow := HLO.o; have hs5 := HSZ5.o; have hbb := HBB.o; have hndA := ((HND5.o.keepI HK6.o (by simp)).keepI ((Keep.refl [] w6).drew) (by simp)).keepI HK7.o (by simp; omega); have hndB := HNDB.o.fix; rw [show w6.drew.heap.size = w6.heap.size from rfl] at hndB; have hlit := NsR.lit2I (cs := #[.int .i64 kindA, .int .i64 numA, .string ⟨nameA.toArray⟩, .int .i64 atA, .slice p1A n1A c1A, .slice p2A n2A c2A, .slice p3A n3A c3A, .int .i64 kindB, .int .i64 numB, .string ⟨nameB.toArray⟩, .int .i64 atB, .slice p1B n1B c1B, .slice p2B n2B c2B, .slice p3B n3B c3B]) 29 rfl hndA hndB; have hs8 := hk9.size; rw [size_alloc] at hs8; have hlit9 := hlit.finII hk9 (lo := w2.heap.size) (by simp; omega) (by omega) (by omega) (by omega) (by omega) (by omega) (by omega); have hB7 := blkK (blkK HB6.o ((Keep.refl [] w6).drew) (by simp)) HK7.o (by simp; exact HBP.o); have hB9 := blkK (blkK hB7 HK8.o (by simp)) hk9 (by simp; exact HNBB.o); have hkw9 := ((HK6W.o.trans ((Keep.refl [] w6).drew) (by simp)).trans HK7.o (by simp)).trans HK8.o (by simp); have hps9 := (HPSB.o.keep0 HK8.o).keep hk9 (by simp; omega); generalize ((w7.alloc (.cells #[.int .i64 kindA, .int .i64 numA, .string ⟨nameA.toArray⟩, .int .i64 atA, .slice p1A n1A c1A, .slice p2A n2A c2A, .slice p3A n3A c3A, .int .i64 kindB, .int .i64 numB, .string ⟨nameB.toArray⟩, .int .i64 atB, .slice p1B n1B c1B, .slice p2B n2B c2B, .slice p3B n3B c3B] 29)).setCell ⟨NB, 4, none⟩ (.slice (some ⟨w7.heap.size, 0, none⟩) 2 2)) = w9 at *; have HN9 := hyd hN9; have HB9 := hyd hB9; have HLIT9 := hyd hlit9; have HPS9 := hyd hps9; have HKW9 := hyd (((hkw9.mono (G := [pb, NB]) (by simp)).trans hk9 (by simp))); have HC9 := hyd ((HC.o.trans HK8.o (by simp)).trans hk9 (by simp)); have HSS := hyd hs8; clear hN9 hk9 hs7 hs6 hn6 hnb hl hpl hlow hs5 hbb hndA hndB hlit hs8 hlit9 hB7 hB9 hkw9 hps9 e0 e1 e2 e3 e4 e5 e6 f8 HN8 HK8 HK7 HC HNDB HPSB; refine hK.out _ _ HC9.o (fun hHeld2 => ?_); clear hK K hHeld hHeld2
   try simp only [Act.put, lA, lZ, lS]
   refine wpAnyH_done (by kernel_rfl) ?_ _; obtain ⟨c0, c1, c2, c3, c4, c5, c6⟩ := cells7 HN9.o; obtain ⟨d0, d1, d2, d3, d4, d5, d6⟩ := cells7 HB9.o; have f9 := frozenP HB9.o; go_wp2_with fail; obtain ⟨hb10, hk10⟩ := set7 HB9.o (.int .i64 11) (.int .i64 0) (.string ⟨#[]⟩) (.int .i64 (plc s2)) (.slice (some ⟨w7.heap.size, 0, none⟩) 2 2) (.slice none 0 0) (.slice none 0 0); refine bodyPost_ret (results_cell_row (ty := 29) rfl _ _ B _ _ _ _ rfl hb10 Tryz.underlying29 rfl node_size) rfl ?_; have hB := HBB.o; have hP := HPLO.o; have hLo := HLO.o; have hL := HL.o; have hNB := HNB.o; have hS5 := HSZ5.o; have hev := Ev.of_expr_two HEV2.o HOT.o HEVB.o; rw [if_neg (by decide)] at hev; refine ⟨[.int .i64 11, .int .i64 0, .string ⟨#[]⟩, .int .i64 (plc s2), .slice (some ⟨w7.heap.size, 0, none⟩) 2 2, .slice none 0 0, .slice none 0 0], _, s3, rfl, hev, NdR.mk7 (name := []) ?_ (NsR.nil _ _ _) (NsR.nil _ _ _), HPS9.o.keep hk10 (by simp; omega), Nat.le_trans HLEB.o (by have := HLT.o; omega), keepB (lo := w.heap.size) ((HKW9.o.mono (G := [pb, NB, B]) (by simp)).trans hk10 (by simp)) (by simp; omega) (Nat.le_refl _)⟩; exact NsR.up HLIT9.o hk10 (by simp; omega) (by omega)
  ·have hN5 := heap_alloc_new w5 (.cells #[.int .i64 11, .int .i64 0, .string ⟨#[]⟩, .int .i64 (plc s2), .slice none 0 0, .slice none 0 0, .slice none 0 0] 29); obtain ⟨c0, c1, c2, c3, c4, c5, c6⟩ := cells7 hN5; have f5 := frozenP hN5; go_wp2_with fail; clear hN5 c0 c1 c2 c3 c4 c5 c6 f5; have hN6 : (w5.alloc (.cells #[.int .i64 12, .int .i64 0, .string ⟨#[]⟩, .int .i64 (plc s2), .slice none 0 0, .slice none 0 0, .slice none 0 0] 29)).heap[w5.heap.size]? = some (.cells #[.int .i64 12, .int .i64 0, .string ⟨#[]⟩, .int .i64 (plc s2), .slice none 0 0, .slice none 0 0, .slice none 0 0] 29 (0, 0)) := heap_alloc_new w5 _; have hk6 : Keep [] w5 (w5.alloc (.cells #[.int .i64 12, .int .i64 0, .string ⟨#[]⟩, .int .i64 (plc s2), .slice none 0 0, .slice none 0 0, .slice none 0 0] 29)) := (Keep.refl [] w5).alloc _; generalize (w5.alloc (.cells #[.int .i64 12, .int .i64 0, .string ⟨#[]⟩, .int .i64 (plc s2), .slice none 0 0, .slice none 0 0, .slice none 0 0] 29)) = w6 at *; rw [← hNB] at hN6 ⊢; have HNB := hyd hNB; clear hNB; have hA6 := blkK HA5.o hk6 (by simp); have hB6 := blkK HB5.o hk6 (by simp); have hk6w := HK5W.o.trans hk6 (by simp); have hNA : A ≠ NB := by have := (Array.getElem?_eq_some_iff.1 HA5.o).1; have := HNB.o; omega
   have hNp : NB ≠ pb := by have := HPLO.o; have := HL.o; have := HSZ5.o; have := HNB.o; omega
   have hNBB : B ≠ NB := by have := (Array.getElem?_eq_some_iff.1 HB5.o).1; have := HNB.o; omega
   have hs6 := hk6.size; have hcall := IH.o.expr (w := w6.drew) (s := (takeS [sEq, sSend] s2).2) (d := d + 1) ((H5.o.keep0 hk6).keep0 (Keep.refl [] w6).drew) (by have := (Keep.refl [] w6).drew.size; have := HL.o; have := HSZ5.o; omega) (by have := HLT.o; have := HD.o; omega) (by have := HLT.o; omega); rw [show ((d + 1 : Nat) : Int) = (d : Int) + 1 from by omega] at hcall; have HCALL := hyd hcall; have HA6 := hyd hA6; have HB6 := hyd hB6; have HN6 := hyd hN6; have HNA := hyd hNA; have HNP := hyd hNp; have HNBB := hyd hNBB; have HK6 := hyd hk6; have HK6W := hyd hk6w; clear hcall hA6 hB6 hN6 hNA hNp hk6 hk6w hNBB hs6; refine wp_region_held_drew (S := fun w' => Keep [pb, NB] w6 w') (by kernel_rfl) ((Keep.refl [pb, NB] w6).drew) (fun hHeld => ?_); refine tkL 0 ?vE0 rfl ?runE0 hHeld ?_
   case runE0 => (intro w9 hS9; obtain ⟨c0, c1, c2, c3, c4, c5, c6⟩ := cells7 (blkK HA6.o hS9 (by simp; exact ⟨HAP.o, HNA.o⟩)); go_simp; try exact rfl)
   try simp only [Act.put, lA, lZ, lS]
   refine tkL 1 ?vE1 rfl ?runE1 hHeld ?_
   case runE1 => (intro w9 hS9; obtain ⟨c0, c1, c2, c3, c4, c5, c6⟩ := cells7 (blkK HA6.o hS9 (by simp; exact ⟨HAP.o, HNA.o⟩)); go_simp; try exact rfl)
   try simp only [Act.put, lA, lZ, lS]
   refine tkL 2 ?vE2 rfl ?runE2 hHeld ?_
   case runE2 => (intro w9 hS9; obtain ⟨c0, c1, c2, c3, c4, c5, c6⟩ := cells7 (blkK HA6.o hS9 (by simp; exact ⟨HAP.o, HNA.o⟩)); go_simp; try exact rfl)
   try simp only [Act.put, lA, lZ, lS]
   refine tkL 3 ?vE3 rfl ?runE3 hHeld ?_
   case runE3 => (intro w9 hS9; obtain ⟨c0, c1, c2, c3, c4, c5, c6⟩ := cells7 (blkK HA6.o hS9 (by simp; exact ⟨HAP.o, HNA.o⟩)); go_simp; try exact rfl)
   try simp only [Act.put, lA, lZ, lS]
   refine rdH 4 rfl (fun K hK => ?_); go_simp; refine HCALL.o.mono ?_; rintro e w7 ⟨cs, b, s3, rfl, hevb, hndb, hpsb, hleb, hk7⟩; obtain ⟨kindB, numB, atB, nameB, p1B, n1B, c1B, p2B, n2B, c2B, p3B, n3B, c3B, rfl, -⟩ := id hndb.un7s; have hk7' : Keep [pb, NB] w6 w7 := (((Keep.refl [] w6).drew.mono (G := [pb]) (by simp)).trans hk7 (by simp)).mono (by simp); have HC := hyd hk7'; have HEVB := hyd hevb; have HNDB := hyd hndb; have HPSB := hyd hpsb; have HLEB := hyd hleb; have HK7 := hyd hk7; clear hevb hndb hpsb hleb hk7 hk7'; go_wp2_with fail; refine hK.out _ _ HC.o (fun hHeld2 => ?_); clear hK K hHeld; have hHeld := hHeld2; clear hHeld2
   try simp only [Act.put, lA, lZ, lS]
   have hk8 := (Keep.refl [] w7).alloc (.cells #[.int .i64 kindA, .int .i64 numA, .string ⟨nameA.toArray⟩, .int .i64 atA, .slice p1A n1A c1A, .slice p2A n2A c2A, .slice p3A n3A c3A, .int .i64 kindB, .int .i64 numB, .string ⟨nameB.toArray⟩, .int .i64 atB, .slice p1B n1B c1B, .slice p2B n2B c2B, .slice p3B n3B c3B] 29); have hN7 := blkK (blkK HN6.o ((Keep.refl [] w6).drew) (by simp)) HK7.o (by simp; exact HNP.o); have hN8 := blkK hN7 hk8 (by simp); have HK8 := hyd hk8; have HN8 := hyd hN8; clear hk8 hN7 hN8; refine rdH 5 rfl (fun K hK => ?_); go_simp; refine hK.out _ _ (HC.o.trans HK8.o (by simp)) (fun hHeld2 => ?_); clear hK K hHeld; have hHeld := hHeld2; clear hHeld2
   try simp only [Act.put, lA, lZ, lS]
   refine tkL 6 ?vE6 rfl ?runE6 hHeld ?_
   case runE6 => (intro w9 hS9; obtain ⟨c0, c1, c2, c3, c4, c5, c6⟩ := cells7 (blkK HA6.o hS9 (by simp; exact ⟨HAP.o, HNA.o⟩)); go_simp; try exact rfl)
   try simp only [Act.put, lA, lZ, lS]
   refine rdH 7 rfl (fun K hK => ?_); obtain ⟨e0, e1, e2, e3, e4, e5, e6⟩ := cells7 HN8.o; have f8 := frozenP HN8.o; go_simp; have hN9 : ((w7.alloc (.cells #[.int .i64 kindA, .int .i64 numA, .string ⟨nameA.toArray⟩, .int .i64 atA, .slice p1A n1A c1A, .slice p2A n2A c2A, .slice p3A n3A c3A, .int .i64 kindB, .int .i64 numB, .string ⟨nameB.toArray⟩, .int .i64 atB, .slice p1B n1B c1B, .slice p2B n2B c2B, .slice p3B n3B c3B] 29)).setCell ⟨NB, 4, none⟩ (.slice (some ⟨w7.heap.size, 0, none⟩) 2 2)).heap[NB]? = some (.cells #[.int .i64 12, .int .i64 0, .string ⟨#[]⟩, .int .i64 (plc s2), .slice (some ⟨w7.heap.size, 0, none⟩) 2 2, .slice none 0 0, .slice none 0 0] 29 (0, 0)) := by simpa using heap_setCell_at (i := 4) HN8.o (.slice (some ⟨w7.heap.size, 0, none⟩) 2 2)
   have hk9 : Keep [NB] (w7.alloc (.cells #[.int .i64 kindA, .int .i64 numA, .string ⟨nameA.toArray⟩, .int .i64 atA, .slice p1A n1A c1A, .slice p2A n2A c2A, .slice p3A n3A c3A, .int .i64 kindB, .int .i64 numB, .string ⟨nameB.toArray⟩, .int .i64 atB, .slice p1B n1B c1B, .slice p2B n2B c2B, .slice p3B n3B c3B] 29)) ((w7.alloc (.cells #[.int .i64 kindA, .int .i64 numA, .string ⟨nameA.toArray⟩, .int .i64 atA, .slice p1A n1A c1A, .slice p2A n2A c2A, .slice p3A n3A c3A, .int .i64 kindB, .int .i64 numB, .string ⟨nameB.toArray⟩, .int .i64 atB, .slice p1B n1B c1B, .slice p2B n2B c2B, .slice p3B n3B c3B] 29)).setCell ⟨NB, 4, none⟩ (.slice (some ⟨w7.heap.size, 0, none⟩) 2 2)) := Keep.set1 _ ⟨NB, 4, none⟩ _; have hs7 := HK7.o.size; rw [show w6.drew.heap.size = w6.heap.size from rfl] at hs7; have hs6 := HK6.o.size; have hn6 := (Array.getElem?_eq_some_iff.1 HN6.o).1; have hnb := HNB.o; have hl := HL.o; have hpl := HPLO.o; have hlow := HLO.o; have hs5 := HSZ5.o; have hbb := HBB.o; have hndA := ((HND5.o.keepI HK6.o (by simp)).keepI ((Keep.refl [] w6).drew) (by simp)).keepI HK7.o (by simp; omega); have hndB := HNDB.o.fix; rw [show w6.drew.heap.size = w6.heap.size from rfl] at hndB; have hlit := NsR.lit2I (cs := #[.int .i64 kindA, .int .i64 numA, .string ⟨nameA.toArray⟩, .int .i64 atA, .slice p1A n1A c1A, .slice p2A n2A c2A, .slice p3A n3A c3A, .int .i64 kindB, .int .i64 numB, .string ⟨nameB.toArray⟩, .int .i64 atB, .slice p1B n1B c1B, .slice p2B n2B c2B, .slice p3B n3B c3B]) 29 rfl hndA hndB; have hs8 := hk9.size; rw [size_alloc] at hs8; have hlit9 := hlit.finII hk9 (lo := w2.heap.size) (by simp; omega) (by omega) (by omega) (by omega) (by omega) (by omega) (by omega); have hB7 := blkK (blkK HB6.o ((Keep.refl [] w6).drew) (by simp)) HK7.o (by simp; exact HBP.o); have hB9 := blkK (blkK hB7 HK8.o (by simp)) hk9 (by simp; exact HNBB.o); have hkw9 := ((HK6W.o.trans ((Keep.refl [] w6).drew) (by simp)).trans HK7.o (by simp)).trans HK8.o (by simp); have hps9 := (HPSB.o.keep0 HK8.o).keep hk9 (by simp; omega); generalize ((w7.alloc (.cells #[.int .i64 kindA, .int .i64 numA, .string ⟨nameA.toArray⟩, .int .i64 atA, .slice p1A n1A c1A, .slice p2A n2A c2A, .slice p3A n3A c3A, .int .i64 kindB, .int .i64 numB, .string ⟨nameB.toArray⟩, .int .i64 atB, .slice p1B n1B c1B, .slice p2B n2B c2B, .slice p3B n3B c3B] 29)).setCell ⟨NB, 4, none⟩ (.slice (some ⟨w7.heap.size, 0, none⟩) 2 2)) = w9 at *; have HN9 := hyd hN9; have HB9 := hyd hB9; have HLIT9 := hyd hlit9; have HPS9 := hyd hps9; have HKW9 := hyd (((hkw9.mono (G := [pb, NB]) (by simp)).trans hk9 (by simp))); have HC9 := hyd ((HC.o.trans HK8.o (by simp)).trans hk9 (by simp)); have HSS := hyd hs8; clear hN9 hk9 hs7 hs6 hn6 hnb hl hpl hlow hs5 hbb hndA hndB hlit hs8 hlit9 hB7 hB9 hkw9 hps9 e0 e1 e2 e3 e4 e5 e6 f8 HN8 HK8 HK7 HC HNDB HPSB; refine hK.out _ _ HC9.o (fun hHeld2 => ?_); clear hK K hHeld hHeld2
   try simp only [Act.put, lA, lZ, lS]
   refine wpAnyH_done (by kernel_rfl) ?_ _; obtain ⟨c0, c1, c2, c3, c4, c5, c6⟩ := cells7 HN9.o; obtain ⟨d0, d1, d2, d3, d4, d5, d6⟩ := cells7 HB9.o; have f9 := frozenP HB9.o; go_wp2_with fail; obtain ⟨hb10, hk10⟩ := set7 HB9.o (.int .i64 12) (.int .i64 0) (.string ⟨#[]⟩) (.int .i64 (plc s2)) (.slice (some ⟨w7.heap.size, 0, none⟩) 2 2) (.slice none 0 0) (.slice none 0 0); refine bodyPost_ret (results_cell_row (ty := 29) rfl _ _ B _ _ _ _ rfl hb10 Tryz.underlying29 rfl node_size) rfl ?_; have hB := HBB.o; have hP := HPLO.o; have hLo := HLO.o; have hL := HL.o; have hNB := HNB.o; have hS5 := HSZ5.o; have hev := Ev.of_expr_two HEV2.o HOT.o HEVB.o; rw [if_pos (by decide)] at hev; refine ⟨[.int .i64 12, .int .i64 0, .string ⟨#[]⟩, .int .i64 (plc s2), .slice (some ⟨w7.heap.size, 0, none⟩) 2 2, .slice none 0 0, .slice none 0 0], _, s3, rfl, hev, NdR.mk7 (name := []) ?_ (NsR.nil _ _ _) (NsR.nil _ _ _), HPS9.o.keep hk10 (by simp; omega), Nat.le_trans HLEB.o (by have := HLT.o; omega), keepB (lo := w.heap.size) ((HKW9.o.mono (G := [pb, NB, B]) (by simp)).trans hk10 (by simp)) (by simp; omega) (Nat.le_refl _)⟩; exact NsR.up HLIT9.o hk10 (by simp; omega) (by omega)
end Go.Proofs.YtdmmhfbafinkpaaGreatDoor

namespace Go.Emb
open Go.RowKit
theorem getD_lt {L : Array Bool} {i : Nat} (h : i < L.size) (b : Bool) : L.getD i b = L[i] := by
 unfold Array.getD; rw [dif_pos h]
 rfl
theorem getD_ge {L : Array Bool} {i : Nat} (h : L.size ≤ i) (b : Bool) : L.getD i b = b := by
 unfold Array.getD; rw [dif_neg (by omega)]
def depsOf (md : Region.Mode) (o : Oper) : List Nat := (o.after.toList.filter fun e => Region.binds md e).map (·.on)
section
variable {P : Program} {ops : Array Oper} {Q : Exit → Act → World → Prop} {md : Region.Mode} {S : World → Prop} {Bs : List Nat}
def wpAnyB (P : Program) (md : Region.Mode) (ops : Array Oper) (Q : Exit → Act → World → Prop) (Bs : List Nat) (S : World → Prop) : Nat → Array Bool → Act → World → Prop
 | 0, listed, a, w => Region.ready md ops listed = [] ∧ Q .normal a w
 | fuel + 1, listed, a, w =>
  (Region.ready md ops listed = [] → Q .normal a w) ∧
  ∀ i ∈ Region.ready md ops listed, wpOp P ops Q i (fun a' w' => (Bs.contains i = true → S w') ∧ wpAnyB P md ops Q Bs S fuel (listed.setIfInBounds i true) a' w') a w
theorem wpAny_of_B : ∀ (fuel : Nat) (listed : Array Bool) (a : Act) (w : World), wpAnyB P md ops Q Bs S fuel listed a w → wpAny P md ops Q fuel listed a w
 | 0, _, _, _, h => h
 | fuel + 1, _, _, _, h => ⟨h.1, fun i hi => wpOp_mono (fun a' w' h' => wpAny_of_B fuel _ a' w' h'.2) (h.2 i hi)⟩
theorem wpAnyB_first {i : Nat} {oi : Oper} {v : Value} {T : World → Prop} {As : List Nat} (hi : ops[i]? = some oi) (hsel : ∀ (j : Nat) (o : Oper) cs b, ops[j]? = some o → o.op ≠ .select cs b)
  (hQ : ∀ c a w, Q (.panic c) (a.put oi.dst v) w → Q (.panic c) a w) (hT : ∀ j ∈ As, ∀ w, (Bs.contains j = true → S w) → T w) (hST : ∀ w, T w → Bs.contains i = true → S w) :
  ∀ (fuel : Nat) (listed : Array Bool) (a : Act) (w : World),
   (∀ j oj, ops[j]? = some oj → j ≠ i → listed.getD j true = false → (∀ e ∈ oj.after, Region.binds md e = true → e.on ≠ i) → oi.apart ops oj = true) →
   (∀ j oj, ops[j]? = some oj → j ≠ i → listed.getD j true = false → j ∉ As → ∃ e ∈ oj.after, Region.binds md e = true ∧ (e.on = i ∨ (listed.getD e.on true = false ∧ e.on ∉ As))) →
   i ∈ Region.ready md ops listed → YieldsIf P ops T oi v a → T w →
   wpAnyB P md ops Q Bs S fuel (listed.setIfInBounds i true) (a.put oi.dst v) w → wpAnyB P md ops Q Bs S (fuel + 1) listed a w := by
 intro fuel
 induction fuel with
 | zero =>
  intro listed a w _ hb hr hy hS H; refine ⟨fun h => (by rw [h] at hr; cases hr), fun j hj => ?_⟩
  by_cases hji : j = i
  ·subst hji; exact hy.wpOp hi hS ⟨hST w hS, H⟩
  ·have := ready_mono hj hji; rw [H.1] at this
   cases this
 | succ fuel ih =>
  intro listed a w hfree hb hr hy hS H; refine ⟨fun h => (by rw [h] at hr; cases hr), fun j hj => ?_⟩
  by_cases hji : j = i
  ·subst hji; exact hy.wpOp hi hS ⟨hST w hS, H⟩
  ·have h1 := H.2 j (ready_mono hj hji); obtain ⟨hjun, oj, hoj, hall⟩ := mem_ready.1 hj
   have hnot : ∀ e ∈ oj.after, Region.binds md e = true → e.on ≠ i := fun e he hbn heq => by
    have h1 := hall e he hbn; have h0 := (mem_ready.1 hr).1; rw [heq] at h1; rcases Nat.lt_or_ge i listed.size with h' | h'
    ·rw [getD_lt h'] at h0 h1; rw [h0] at h1; cases h1
    ·rw [getD_ge h'] at h1; cases h1
   have hjA : j ∈ As := by
    refine Classical.byContradiction fun hn => ?_
    obtain ⟨e, he, hbn, h3⟩ := hb j oj hoj hji hjun hn; rcases h3 with h3 | ⟨h3, -⟩
    ·exact hnot e he hbn h3
    ·have h4 := hall e he hbn; rcases Nat.lt_or_ge e.on listed.size with h' | h'
     ·rw [getD_lt h'] at h3 h4; rw [h3] at h4; cases h4
     ·rw [getD_ge h'] at h4; cases h4
   have h2 := wpOp_putIf hoj (hfree j oj hoj hji hjun hnot) (fun cs b => hsel i oi cs b hi) (fun cs b => hsel j oj cs b hoj) hQ hy h1
   have hfree' : ∀ k ok, ops[k]? = some ok → k ≠ i → (listed.setIfInBounds j true).getD k true = false →
     (∀ e ∈ ok.after, Region.binds md e = true → e.on ≠ i) → oi.apart ops ok = true := fun k ok hk hki hun hno => by
    refine hfree k ok hk hki ?_ hno
    by_cases hjk : j = k
    ·subst hjk; exact hjun
    ·rw [getD_set_ne true hjk] at hun; exact hun
   have hb' : ∀ k ok, ops[k]? = some ok → k ≠ i → (listed.setIfInBounds j true).getD k true = false → k ∉ As → ∃ e ∈ ok.after, Region.binds md e = true ∧ (e.on = i ∨ ((listed.setIfInBounds j true).getD e.on true = false ∧ e.on ∉ As)) := fun k ok hk hki hun hn => by
    have hun0 : listed.getD k true = false := by
     by_cases hjk : j = k
     ·subst hjk; exact hjun
     ·rw [getD_set_ne true hjk] at hun; exact hun
    obtain ⟨e, he, hbn, h3⟩ := hb k ok hk hki hun0 hn; refine ⟨e, he, hbn, h3.imp id (fun h4 => ⟨?_, h4.2⟩)⟩; have hje : j ≠ e.on := fun h5 => h4.2 (h5 ▸ hjA)
    rw [getD_set_ne true hje]; exact h4.1
   refine wpOp_mono (fun a' w' h3 => ⟨h3.2.1, ih (listed.setIfInBounds j true) a' w' hfree' hb' (ready_mono hr (Ne.symm hji)) h3.1 (hT j hjA w' h3.2.1) ?_⟩) h2; rw [Array.setIfInBounds_comm _ _ hji]; exact h3.2.2
def blocked (md : Region.Mode) (l : List Oper) (L : Array Bool) (As : List Nat) (i : Nat) : Bool :=
 (List.range l.length).all fun j => j == i || L.getD j true || As.contains j || (match l[j]? with
   | some o => (depsOf md o).any fun k => k == i || (!L.getD k true && !As.contains k)
   | none => true)
theorem blocked_spec {l : List Oper} {L : Array Bool} {As : List Nat} {i : Nat} (h : blocked md l L As i = true) (j : Nat) (oj : Oper) (hj : l.toArray[j]? = some oj) (hne : j ≠ i) (hun : L.getD j true = false) (hA : j ∉ As) :
  ∃ e ∈ oj.after, Region.binds md e = true ∧ (e.on = i ∨ (L.getD e.on true = false ∧ e.on ∉ As)) := by
 have hj' : l[j]? = some oj := by simpa using hj
 have hlt : j < l.length := by
  rcases Nat.lt_or_ge j l.length with h | h
  ·exact h
  ·rw [List.getElem?_eq_none h] at hj'; cases hj'
 have h1 := List.all_eq_true.1 h j (List.mem_range.2 hlt); rw [hj'] at h1; have hc : As.contains j = false := by rw [Bool.eq_false_iff]; intro hc; exact hA (by simpa using hc)
 simp only [Bool.or_eq_true, beq_iff_eq, hne, hun, hc, Bool.false_eq_true, false_or] at h1; obtain ⟨k, hk, h2⟩ := List.any_eq_true.1 h1; obtain ⟨e, he, rfl⟩ := List.mem_map.1 hk; obtain ⟨he1, he2⟩ := List.mem_filter.1 he; refine ⟨e, by simpa using he1, he2, ?_⟩; simp only [Bool.or_eq_true, beq_iff_eq, Bool.and_eq_true, Bool.not_eq_true'] at h2; exact h2.imp id (fun h3 => ⟨h3.1, fun hm => by have := h3.2; simp at this; exact this hm⟩)
theorem wpAnyB_take {l : List Oper} (As : List Nat) {i : Nat} {oi : Oper} {v : Value} {fuel : Nat} {listed : Array Bool} {a : Act} {w : World} (hi : l[i]? = some oi)
  (hs : Region.noSelect l.toArray = true) (hf : Region.free md l.toArray listed i = true) (hr : (Region.ready md l.toArray listed).contains i = true) (hA : (As.all fun j => Bs.contains j) = true) (hb : blocked md l listed As i = true)
  (hQ : ∀ c a w, Q (.panic c) (a.put oi.dst v) w → Q (.panic c) a w) (hy : YieldsIf P l.toArray S oi v a) (hS : S w)
  (h : wpAnyB P md l.toArray Q Bs S fuel (listed.setIfInBounds i true) (a.put oi.dst v) w) : wpAnyB P md l.toArray Q Bs S (fuel + 1) listed a w := by
 have hi' : l.toArray[i]? = some oi := by simpa using hi
 exact wpAnyB_first (T := S) (As := As) hi' (Region.noSelect_spec hs) hQ (fun j hj w hw => hw (List.all_eq_true.1 hA j hj)) (fun w hw _ => hw) fuel listed a w (Region.free_spec hi' hf) (blocked_spec hb) (by simpa using hr) hy hS h
theorem wpAnyB_takeY {l : List Oper} {i : Nat} {oi : Oper} {v : Value} {fuel : Nat} {listed : Array Bool} {a : Act} {w : World} (hi : l[i]? = some oi)
  (hs : Region.noSelect l.toArray = true) (hf : Region.free md l.toArray listed i = true) (hr : (Region.ready md l.toArray listed).contains i = true) (hB : Bs.contains i = false)
  (hQ : ∀ c a w, Q (.panic c) (a.put oi.dst v) w → Q (.panic c) a w) (hy : YieldsIf P l.toArray (fun _ => True) oi v a)
  (h : wpAnyB P md l.toArray Q Bs S fuel (listed.setIfInBounds i true) (a.put oi.dst v) w) : wpAnyB P md l.toArray Q Bs S (fuel + 1) listed a w := by
 have hi' : l.toArray[i]? = some oi := by simpa using hi
 refine wpAnyB_first (T := fun _ => True) (As := List.range l.length) hi' (Region.noSelect_spec hs) hQ (fun j hj w hw => trivial) (fun w hw h => by rw [hB] at h; cases h) fuel listed a w (Region.free_spec hi' hf) (fun j oj hj hne hun hA => ?_) (by simpa using hr) hy trivial h
 exfalso
 have hj' : l[j]? = some oj := by simpa using hj
 rcases Nat.lt_or_ge j l.length with h | h
 ·exact hA (List.mem_range.2 h)
 ·rw [List.getElem?_eq_none h] at hj'; cases hj'
def AllReadyB (P : Program) (md : Region.Mode) (ops : Array Oper) (Q : Exit → Act → World → Prop) (Bs : List Nat) (S : World → Prop) (fuel : Nat) (listed : Array Bool) (a : Act) (w : World) (rs : List Nat) : Prop :=
 ∀ i ∈ rs, wpOp P ops Q i (fun a' w' => (Bs.contains i = true → S w') ∧ wpAnyB P md ops Q Bs S fuel (listed.setIfInBounds i true) a' w') a w
theorem AllReadyB.nil {fuel : Nat} {listed : Array Bool} {a : Act} {w : World} : AllReadyB P md ops Q Bs S fuel listed a w [] := fun _ h => by cases h
theorem AllReadyB.cons {l : List Oper} {fuel : Nat} {listed : Array Bool} {a : Act} {w : World} {i : Nat} {o : Oper} {rs : List Nat} (ho : l[i]? = some o)
  (h : ∀ K' : Act → World → Prop, Shut (∀ a w, (Bs.contains i = true → S w) → wpAnyB P md l.toArray Q Bs S fuel (listed.setIfInBounds i true) a w → K' a w) → if Region.wanted o (yielded l.toArray a.tmps) = true then Oper.wp P o a w K' Q else K' (a.put o.dst undef) w)
  (hs : AllReadyB P md l.toArray Q Bs S fuel listed a w rs) : AllReadyB P md l.toArray Q Bs S fuel listed a w (i :: rs) := fun j hj => by
 rcases List.mem_cons.1 hj with rfl | hj
 ·exact wpOp_step (by simpa using ho) (fun K' hK => h K' (fun a w hS hW => hK a w ⟨hS, hW⟩))
 ·exact hs j hj
theorem wpAnyB_ready {rs : List Nat} {fuel : Nat} {listed : Array Bool} {a : Act} {w : World} (hr : Region.ready md ops listed = rs) (hne : rs ≠ [])
  (h : AllReadyB P md ops Q Bs S fuel listed a w rs) : wpAnyB P md ops Q Bs S (fuel + 1) listed a w := ⟨fun h0 => absurd (hr ▸ h0) hne, hr ▸ h⟩
theorem wpAnyB_done {listed : Array Bool} {a : Act} {w : World} (hr : Region.ready md ops listed = []) (h : Q .normal a w) : ∀ fuel, wpAnyB P md ops Q Bs S fuel listed a w
 | 0 => ⟨hr, h⟩
 | _ + 1 => ⟨fun _ => h, by rw [hr]; simp⟩
theorem wp_regionB (Bs : List Nat) (S : World → Prop) {id : Nat} {a : Act} {w : World} (hm : P.follows .mixedOrders = true)
  (h : wpAnyB P .any ops Q Bs S ops.size (Array.replicate ops.size false) a w.drew) : (Code.region id ops true).wp P Q a w := wp_region_any hm (wpAny_of_B _ _ _ _ h)
end
open Go.RowKit
section
variable {P : Program} {l : List Oper} {Q : Exit → Act → World → Prop} {md : Region.Mode} {Bs : List Nat} {S : World → Prop} {oi : Oper} {fuel : Nat} {listed : Array Bool} {a : Act} {w : World}
theorem tkY (i : Nat) (v : Value) (hi : l[i]? = some oi) (hy : ∀ w, True → (execOp a.eval oi).run P w = .ok (.value v) w)
  (h : wpAnyB P md l.toArray Q Bs S fuel (listed.setIfInBounds i true) (a.put oi.dst v) w) (hs : Region.noSelect l.toArray = true := by kernel_rfl) (hf : Region.free md l.toArray listed i = true := by kernel_rfl) (hr : (Region.ready md l.toArray listed).contains i = true := by kernel_rfl)
  (hB : Bs.contains i = false := by kernel_rfl) (hw : Region.wanted oi (yielded l.toArray a.tmps) = true := by kernel_rfl) (hQ : ∀ c a w, Q (.panic c) (a.put oi.dst v) w → Q (.panic c) a w := by exact fun _ _ _ h => h) : wpAnyB P md l.toArray Q Bs S (fuel + 1) listed a w :=
 wpAnyB_takeY hi hs hf hr hB hQ (.inl ⟨hw, hy⟩) h
theorem tkB (As : List Nat) (i : Nat) (v : Value) (hi : l[i]? = some oi) (hy : ∀ w, S w → (execOp a.eval oi).run P w = .ok (.value v) w) (hS : S w)
  (h : wpAnyB P md l.toArray Q Bs S fuel (listed.setIfInBounds i true) (a.put oi.dst v) w) (hs : Region.noSelect l.toArray = true := by kernel_rfl) (hf : Region.free md l.toArray listed i = true := by kernel_rfl) (hr : (Region.ready md l.toArray listed).contains i = true := by kernel_rfl)
  (hA : (As.all fun j => Bs.contains j) = true := by kernel_rfl) (hb : blocked md l listed As i = true := by kernel_rfl) (hw : Region.wanted oi (yielded l.toArray a.tmps) = true := by kernel_rfl) (hQ : ∀ c a w, Q (.panic c) (a.put oi.dst v) w → Q (.panic c) a w := by exact fun _ _ _ h => h) : wpAnyB P md l.toArray Q Bs S (fuel + 1) listed a w :=
 wpAnyB_take As hi hs hf hr hA hb hQ (.inl ⟨hw, hy⟩) hS h
theorem rdB (i : Nat) {o : Oper} (ho : l[i]? = some o)
  (h : ∀ K' : Act → World → Prop, Shut (∀ a w, (Bs.contains i = true → S w) → wpAnyB P md l.toArray Q Bs S fuel (listed.setIfInBounds i true) a w → K' a w) → if Region.wanted o (yielded l.toArray a.tmps) = true then Oper.wp P o a w K' Q else K' (a.put o.dst undef) w)
  (hr : Region.ready md l.toArray listed = [i] := by kernel_rfl) : wpAnyB P md l.toArray Q Bs S (fuel + 1) listed a w :=
 wpAnyB_ready hr (by simp) (AllReadyB.cons ho h AllReadyB.nil)
end
end Go.Emb

namespace Go.Proofs.YtdmmhfbafinkpaaGreatDoor
open Go.RowKit Go.Emb
theorem w_binary5 {lo pb : Nat} {w : World} {s : St} {d : Nat} (ih : AllC lo pb (32 * s.toks.length + 3)) (h : PS lo w pb s) (hlo : lo ≤ w.heap.size) (hd : d + s.toks.length ≤ 1000000) :
  Calls Tryz.prog 66 #[.pointer (some ⟨pb, 0, none⟩), .int .i64 5, .int .i64 d] w (NodeP lo w pb (fun n => binary n 5 d) s) := by
 have hplo := h.plo; have hk1 := (Keep.refl [] w).alloc zN; have hb1 := heap_alloc_new w zN; have hcall := ih.unary (d := d) (h.keep0 hk1) (Nat.le_trans hlo hk1.size) hd (by omega); have HCALL := hyd hcall; have HB1 := hyd hb1; have HK1 := hyd hk1; have HLO := hyd hlo; have HPLO := hyd hplo; clear ih h hlo hd hplo hcall hk1 hb1; go_enter Tryz.func66, Tryz.ntmps66; go_wp2_with fail; refine HCALL.o.mono ?_; rintro e w4 ⟨cs, n, s', rfl, hev, hnd, hps, hle, hk4⟩; obtain ⟨kindA, numA, atA, nameA, p1A, n1A, c1A, p2A, n2A, c2A, p3A, n3A, c3A, rfl, -⟩ := id hnd.un7s; have hne : w.heap.size ≠ pb := by have := HPLO.o; have := HLO.o; omega
 have hb4 := blkK HB1.o hk4 (by simp; exact hne); obtain ⟨d0, d1, d2, d3, d4, d5, d6⟩ := cells7 hb4; have f4 := frozenP hb4; have HEV := hyd hev; have HND := hyd hnd; have HPS := hyd hps; have HLE := hyd hle; have HK4 := hyd hk4; have HB4 := hyd hb4; clear hev hnd hps hle hk4 hb4 hne; go_wp2_with fail; obtain ⟨hb5, hk5⟩ := set7 HB4.o (.int .i64 kindA) (.int .i64 numA) (.string ⟨nameA.toArray⟩) (.int .i64 atA) (.slice p1A n1A c1A) (.slice p2A n2A c2A) (.slice p3A n3A c3A); refine bodyPost_ret (results_cell_row (ty := 29) rfl _ _ w.heap.size _ _ _ _ rfl hb5 Tryz.underlying29 rfl node_size) rfl ?_; have hP := HPLO.o; have hL := HLO.o; have hs := HK1.o.size; refine ⟨_, n, s', rfl, Ev.of_binary_5 HEV.o, HND.o.up hk5 (by simp) hs, HPS.o.keep hk5 (by simp; omega), HLE.o, ?_⟩; exact keepB (lo := w.heap.size) (((HK1.o.mono (G := [pb]) (by simp)).trans HK4.o (by simp)).mono (G := [pb, w.heap.size]) (by simp) |>.trans hk5 (by simp)) (by simp) (Nat.le_refl _)
theorem w_binary {lo pb : Nat} {w : World} {s : St} {v d : Nat} (ih : AllC lo pb (32 * s.toks.length + 3 + (5 - v))) (h : PS lo w pb s) (hlo : lo ≤ w.heap.size) (hd : d + s.toks.length ≤ 1000000) (hv : v < 5) :
  Calls Tryz.prog 66 #[.pointer (some ⟨pb, 0, none⟩), .int .i64 v, .int .i64 d] w (NodeP lo w pb (fun n => binary n v d) s) := by
 have hplo := h.plo; have hk1 := (Keep.refl [] w).alloc zN; have hb1 := heap_alloc_new w zN; have hcall := ih.binary (v := v + 1) (d := d) (h.keep0 hk1) (Nat.le_trans hlo hk1.size) hd (by omega) (by omega); rw [show ((v + 1 : Nat) : Int) = (v : Int) + 1 from by omega] at hcall; have HCALL := hyd hcall; have hnext := fun (W : World) (s1 : St) (hW : PS lo W pb s1) (hl : lo ≤ W.heap.size) (hle : s1.toks.length + 1 ≤ s.toks.length) => ih.binary (v := v + 1) (d := d) hW hl (by omega) (by omega) (by omega)
 have HNEXT := hyd hnext; have HB1 := hyd hb1; have HK1 := hyd hk1; have HLO := hyd hlo; have HPLO := hyd hplo; have hvv : IntKind.i64.wrap ((v : Int) + 1) = (v : Int) + 1 := IntWalk.i64_in _ (by omega); have hv5 : ((v : Int) == 5) = false := beq_eq_false_iff_ne.2 (by omega); have hv5' : (v : Int) < 5 := by omega
 have hv0 : ¬ (v : Int) < 0 := by omega
 obtain ⟨B, hB⟩ : ∃ B, B = w.heap.size := ⟨_, rfl⟩; have HV := hyd hv; clear ih h hlo hd hplo hcall hk1 hb1 hnext hv; go_enter Tryz.func66, Tryz.ntmps66; go_wp2_with fail; refine HCALL.o.mono ?_; rintro e w4 ⟨cs, a, s2, rfl, hev, hnd, hps, hle, hk4⟩; rw [← hB]; rw [← hB] at HB1; obtain ⟨kindA, numA, atA, nameA, p1A, n1A, c1A, p2A, n2A, c2A, p3A, n3A, c3A, rfl, -⟩ := id hnd.un7s; have hBp : B ≠ pb := by have := HPLO.o; have := HLO.o; omega
 have hb4 := blkK HB1.o hk4 (by simp; exact hBp); have hk5 := (Keep.refl [] w4).alloc (.cells #[.int .i64 kindA, .int .i64 numA, .string ⟨nameA.toArray⟩, .int .i64 atA, .slice p1A n1A c1A, .slice p2A n2A c2A, .slice p3A n3A c3A] 29); have hA5 := heap_alloc_new w4 (.cells #[.int .i64 kindA, .int .i64 numA, .string ⟨nameA.toArray⟩, .int .i64 atA, .slice p1A n1A c1A, .slice p2A n2A c2A, .slice p3A n3A c3A] 29); have hb5 := blkK hb4 hk5 (by simp); have hs4 := hk4.size; rw [size_alloc, ← hB] at hs4; have hnd5 : NdR (FrsX (B + 1) (w4.alloc (.cells #[.int .i64 kindA, .int .i64 numA, .string ⟨nameA.toArray⟩, .int .i64 atA, .slice p1A n1A c1A, .slice p2A n2A c2A, .slice p3A n3A c3A] 29)) (some w4.heap.size)) (w4.alloc (.cells #[.int .i64 kindA, .int .i64 numA, .string ⟨nameA.toArray⟩, .int .i64 atA, .slice p1A n1A c1A, .slice p2A n2A c2A, .slice p3A n3A c3A] 29)) false _ a := (hnd.fix.keepI hk5 (by simp)).mono (fun b h => ⟨by have := h.1; rw [size_alloc, ← hB] at this; exact this, by have := h.2; rw [size_alloc]; omega, fun e => by cases e; have := h.2; omega⟩); have hkw5 : Keep [pb] w (w4.alloc (.cells #[.int .i64 kindA, .int .i64 numA, .string ⟨nameA.toArray⟩, .int .i64 atA, .slice p1A n1A c1A, .slice p2A n2A c2A, .slice p3A n3A c3A] 29)) := ((HK1.o.mono (G := [pb]) (by simp)).trans hk4 (by simp)).trans hk5 (by simp); have hps5 := hps.keep0 hk5
 have HINIT := hyd (show ∃ (a : Nd) (si : St) (cs : List Value), (w4.alloc (.cells #[.int .i64 kindA, .int .i64 numA, .string ⟨nameA.toArray⟩, .int .i64 atA, .slice p1A n1A c1A, .slice p2A n2A c2A, .slice p3A n3A c3A] 29)).heap[w4.heap.size]? = some (.cells cs.toArray 29 (0, 0)) ∧ (w4.alloc (.cells #[.int .i64 kindA, .int .i64 numA, .string ⟨nameA.toArray⟩, .int .i64 atA, .slice p1A n1A c1A, .slice p2A n2A c2A, .slice p3A n3A c3A] 29)).heap[B]? = some zN ∧ NdR (FrsX (B + 1) (w4.alloc (.cells #[.int .i64 kindA, .int .i64 numA, .string ⟨nameA.toArray⟩, .int .i64 atA, .slice p1A n1A c1A, .slice p2A n2A c2A, .slice p3A n3A c3A] 29)) (some w4.heap.size)) (w4.alloc (.cells #[.int .i64 kindA, .int .i64 numA, .string ⟨nameA.toArray⟩, .int .i64 atA, .slice p1A n1A c1A, .slice p2A n2A c2A, .slice p3A n3A c3A] 29)) false cs a ∧ PS lo (w4.alloc (.cells #[.int .i64 kindA, .int .i64 numA, .string ⟨nameA.toArray⟩, .int .i64 atA, .slice p1A n1A c1A, .slice p2A n2A c2A, .slice p3A n3A c3A] 29)) pb si ∧ Keep [pb] w (w4.alloc (.cells #[.int .i64 kindA, .int .i64 numA, .string ⟨nameA.toArray⟩, .int .i64 atA, .slice p1A n1A c1A, .slice p2A n2A c2A, .slice p3A n3A c3A] 29)) ∧ si.toks.length ≤ s.toks.length ∧ ∀ r s', Ev (fun n => binLoop n v d a) si r s' → Ev (fun n => binary n v d) s r s' from
   ⟨a, s2, _, hA5, hb5, hnd5, hps5, hkw5, hle, fun r s' h => Ev.of_binary_lt (by have := HV.o; omega) hev h⟩)
 obtain ⟨A, hA⟩ : ∃ A, A = w4.heap.size := ⟨_, rfl⟩; have hAB : B + 1 ≤ A := by omega
 rw [← hA] at HINIT; have HAB := hyd hAB; have HBB := hyd hB; clear hev hnd hps hle hk4 hb4 hk5 hA5 hb5 hs4 hnd5 hkw5 hps5 hAB hB hBp HCALL HB1 HK1; go_wp2_with fail; rw [← hA]; clear hA; generalize w4.alloc (.cells #[.int .i64 kindA, .int .i64 numA, .string ⟨nameA.toArray⟩, .int .i64 atA, .slice p1A n1A c1A, .slice p2A n2A c2A, .slice p3A n3A c3A] 29) = w5 at *
 go_loopw [8] (fun _ wr => ∃ (a : Nd) (si : St) (cs : List Value), wr.heap[A]? = some (.cells cs.toArray 29 (0, 0)) ∧ wr.heap[B]? = some zN ∧ NdR (FrsX (B + 1) wr (some A)) wr false cs a ∧ PS lo wr pb si ∧ Keep [pb] w wr ∧ si.toks.length ≤ s.toks.length ∧ ∀ r s', Ev (fun n => binLoop n v d a) si r s' → Ev (fun n => binary n v d) s r s') (fun _ wr => plen wr pb)
 case atStart => exact HINIT.o
 case round =>
  obtain ⟨a, si, cs, hA, hB, hnd, hps, hkw, hle, hev⟩ := hrel; obtain ⟨kindA, numA, atA, nameA, p1A, n1A, c1A, p2A, n2A, c2A, p3A, n3A, c3A, rfl, -⟩ := id hnd.un7s; clear HINIT; obtain ⟨sv, so, hcg, hrd, -, -⟩ := hps.lv v HV.o; have hrt : RdT wr sv (levelsL v) := ⟨so, hrd⟩; obtain ⟨la, lc, rfl⟩ := hrt.form; have HTAKE := hyd (p_take hps hrt); have HPLC := hyd (p_place hps); have HEV := hyd hev; have HND := hyd hnd; have HKW := hyd hkw; have HLE := hyd hle; have HPN := hyd hps.len; have HA := hyd hA; have HB := hyd hB; have hAp : A ≠ pb := by have := HAB.o; have := HBB.o; have := HPLO.o; have := HLO.o; omega
  have hBp : B ≠ pb := by have := HBB.o; have := HPLO.o; have := HLO.o; omega
  have HAP := hyd hAp; have HBP := hyd hBp; clear hA hB hnd hps hkw hle hev hrd hrt hAp hBp
  go_wp2_with (go_at_call 67; refine HPLC.o.mono ?_; rintro e w2' ⟨rfl, rfl⟩)
  refine HTAKE.o.mono ?_; rintro e w6 ⟨rfl, hps6, hk6⟩; have hA6 := blkK HA.o hk6 (by simp; exact HAP.o); have hB6 := blkK HB.o hk6 (by simp; exact HBP.o); have hlw := HLO.o; have hpl := HPLO.o; have hbb := HBB.o; have hnd6 : NdR (FrsX (B + 1) w6 (some A)) w6 false _ a := (HND.o.keep hk6 (fun b hb hc => by simp at hb; have := hc.1; omega)).mono (fun b h => ⟨h.1, Nat.lt_of_lt_of_le h.2.1 hk6.size, h.2.2⟩); have hkw6 := HKW.o.trans hk6 (by simp); have hl6 := Nat.le_trans hlw hkw6.size; have HPS6 := hyd hps6; have HND6 := hyd hnd6; have HKW6 := hyd hkw6; have HL6 := hyd hl6; have HLE6 := hyd (take_len (levelsL v) si); have HA6 := hyd hA6; have HB6 := hyd hB6; clear hps6 hk6 hA6 hB6 hlw hpl hbb hnd6 hkw6 hl6 hcg HTAKE HPLC HND HKW HA HB; rcases ho : (takeS (levelsL v) si).1 with _ | t
  ·simp only [Option.isSome_none, Option.getD_none]; obtain ⟨c0, c1, c2, c3, c4, c5, c6⟩ := cells7 HA6.o; obtain ⟨d0, d1, d2, d3, d4, d5, d6⟩ := cells7 HB6.o; have f6 := frozenP HB6.o; have HO := hyd ho; clear ho; go_wp2_with fail; obtain ⟨hb7, hk7⟩ := set7 HB6.o (.int .i64 kindA) (.int .i64 numA) (.string ⟨nameA.toArray⟩) (.int .i64 atA) (.slice p1A n1A c1A) (.slice p2A n2A c2A) (.slice p3A n3A c3A); refine bodyPost_ret (results_cell_row (ty := 29) rfl _ _ B _ _ _ _ rfl hb7 Tryz.underlying29 rfl node_size) rfl ?_; have hbb := HBB.o; have hlw := HLO.o; have hpl := HPLO.o; refine ⟨_, a, _, rfl, HEV.o _ _ (Ev.of_binLoop_none HO.o), (HND6.o.keep hk7 (fun b hb hc => by simp at hb; have := hc.1; omega)).mono (fun b h => ⟨by have := h.1; omega, Nat.lt_of_lt_of_le h.2.1 hk7.size⟩), HPS6.o.keep hk7 (by simp; omega), Nat.le_trans HLE6.o HLE.o, keepB (lo := w.heap.size) ((HKW6.o.mono (G := [pb, B]) (by simp)).trans hk7 (by simp)) (by simp; omega) (Nat.le_refl _)⟩
  ·simp only [Option.isSome_some, Option.getD_some]; obtain ⟨hlt, -⟩ := take_lt ho; have hcall := HNEXT.o w6.drew _ (HPS6.o.keep0 (Keep.refl [] w6).drew) (Nat.le_trans HL6.o (Keep.refl [] w6).drew.size) (by have := HLE.o; omega); rw [show ((v + 1 : Nat) : Int) = (v : Int) + 1 from by omega] at hcall; have HCALL := hyd hcall; have HO := hyd ho; have HLT := hyd hlt; clear hcall ho hlt; go_wp2_with fail; refine wp_regionB [7] (fun w' => w'.heap[A]? = some (.cells #[.int .i64 kindA, .int .i64 numA, .string ⟨nameA.toArray⟩, .int .i64 atA, .slice p1A n1A c1A, .slice p2A n2A c2A, .slice p3A n3A c3A] 29 (0, 0))) (by kernel_rfl) ?_; have HA6D : Hid (w6.drew.heap[A]? = some (.cells #[.int .i64 kindA, .int .i64 numA, .string ⟨nameA.toArray⟩, .int .i64 atA, .slice p1A n1A c1A, .slice p2A n2A c2A, .slice p3A n3A c3A] 29 (0, 0))) := hyd (blkK HA6.o ((Keep.refl [] w6).drew) (by simp)); refine tkY 0 ?vA0 rfl ?runA0 ?_
   case runA0 => (intro w9 _; go_simp; try exact rfl)
   try simp only [Act.put, lA, lZ, lS]
   refine tkY 1 ?vA1 rfl ?runA1 ?_
   case runA1 => (intro w9 _; go_simp; try exact rfl)
   try simp only [Act.put, lA, lZ, lS]
   refine tkY 3 ?vA3 rfl ?runA3 ?_
   case runA3 => (intro w9 _; go_simp; try exact rfl)
   try simp only [Act.put, lA, lZ, lS]
   refine tkY 4 ?vA4 rfl ?runA4 ?_
   case runA4 => (intro w9 _; go_simp; try exact rfl)
   try simp only [Act.put, lA, lZ, lS]
   refine tkY 5 ?vA5 rfl ?runA5 ?_
   case runA5 => (intro w9 _; go_simp; try exact rfl)
   try simp only [Act.put, lA, lZ, lS]
   refine tkY 6 ?vA6 rfl ?runA6 ?_
   case runA6 => (intro w9 _; go_simp; try exact rfl)
   try simp only [Act.put, lA, lZ, lS]
   refine tkB [7] 2 ?vA2 rfl ?runA2 (HA6D.o) ?_
   case runA2 => (intro w9 hS9; obtain ⟨c0, c1, c2, c3, c4, c5, c6⟩ := cells7 hS9; go_simp; try exact rfl)
   try simp only [Act.put, lA, lZ, lS]
   refine rdB 7 rfl (fun K hK => ?_); go_simp; refine HCALL.o.mono ?_; rintro e w7 ⟨cs, b, s3, rfl, hevb, hndb, hpsb, hleb, hk7⟩; obtain ⟨kindB, numB, atB, nameB, p1B, n1B, c1B, p2B, n2B, c2B, p3B, n3B, c3B, rfl, -⟩ := id hndb.un7s; have hk7' : Keep [pb] w6 w7 := ((Keep.refl [] w6).drew.mono (G := [pb]) (by simp)).trans hk7 (by simp); have hA7 : w7.heap[A]? = some (.cells #[.int .i64 kindA, .int .i64 numA, .string ⟨nameA.toArray⟩, .int .i64 atA, .slice p1A n1A c1A, .slice p2A n2A c2A, .slice p3A n3A c3A] 29 (0, 0)) := blkK HA6.o hk7' (by simp; exact HAP.o); have HA7 := hyd hA7; have HEVB := hyd hevb; have HNDB := hyd hndb; have HPSB := hyd hpsb; have HLEB := hyd hleb; have HK7 := hyd hk7'; clear hevb hndb hpsb hleb hk7 hk7' hA7; go_wp2_with fail; refine hK.out _ _ (fun h => HA7.o) ?_; clear hK K
   try simp only [Act.put, lA, lZ, lS]
   refine rdB 8 rfl (fun K hK => ?_); go_simp; refine hK.out _ _ (fun h => (nomatch h)) ?_; clear hK K
   try simp only [Act.put, lA, lZ, lS]
   refine tkY 9 ?vA9 rfl ?runA9 ?_
   case runA9 => (intro w9 _; go_simp; try exact rfl)
   try simp only [Act.put, lA, lZ, lS]
   refine rdB 10 rfl (fun K hK => ?_); have hk8 := (Keep.refl [] w7).alloc (.cells #[.int .i64 kindA, .int .i64 numA, .string ⟨nameA.toArray⟩, .int .i64 atA, .slice p1A n1A c1A, .slice p2A n2A c2A, .slice p3A n3A c3A, .int .i64 kindB, .int .i64 numB, .string ⟨nameB.toArray⟩, .int .i64 atB, .slice p1B n1B c1B, .slice p2B n2B c2B, .slice p3B n3B c3B] 29); have hA8 := blkK HA7.o hk8 (by simp); obtain ⟨e0, e1, e2, e3, e4, e5, e6⟩ := cells7 hA8; have f8 := frozenP hA8; have HA8 := hyd hA8; have HK8 := hyd hk8; clear hA8 hk8; go_simp; refine hK.out _ _ (fun h => (nomatch h)) ?_; clear hK K
   try simp only [Act.put, lA, lZ, lS]
   refine wpAnyB_done (by kernel_rfl) ?_ _; clear e0 e1 e2 e3 e4 e5 e6 f8; obtain ⟨hA9, hk9⟩ := set7 HA8.o (.int .i64 9) (.int .i64 0) (.string ⟨t.toArray⟩) (.int .i64 (plc si)) (.slice (some ⟨w7.heap.size, 0, none⟩) 2 2) (.slice none 0 0) (.slice none 0 0); have hs7 := HK7.o.size; have hab := HAB.o; have ha7 := (Array.getElem?_eq_some_iff.1 HA7.o).1; have ha6 := (Array.getElem?_eq_some_iff.1 HA6.o).1; have hbb := HBB.o; have hlw := HLO.o; have hpl := HPLO.o; have hndA := HND6.o.keepX HK7.o (by simp; omega); have hndB := HNDB.o; rw [show w6.drew.heap.size = w6.heap.size from rfl] at hndB; have hndB' : NdR (FrsX (B + 1) w7 (some A)) w7 false _ b := hndB.toX (by omega) (fun b hb => by cases hb; exact ha6); have hlit := NsR.lit2X (cs := #[.int .i64 kindA, .int .i64 numA, .string ⟨nameA.toArray⟩, .int .i64 atA, .slice p1A n1A c1A, .slice p2A n2A c2A, .slice p3A n3A c3A, .int .i64 kindB, .int .i64 numB, .string ⟨nameB.toArray⟩, .int .i64 atB, .slice p1B n1B c1B, .slice p2B n2B c2B, .slice p3B n3B c3B]) 29 rfl (by omega) (fun b hb => by cases hb; exact ha7) hndA hndB'; have hlit9 := hlit.keepX hk9 (by simp); have hB7 := blkK HB6.o HK7.o (by simp; exact HBP.o); have hB9 := blkK (blkK hB7 HK8.o (by simp)) hk9 (by simp; omega); have hkw8 := (HKW6.o.trans HK7.o (by simp)).trans HK8.o (by simp); have hkw9 := keepB (pb := pb) (lo := w.heap.size) ((hkw8.mono (G := [pb, A]) (by simp)).trans hk9 (by simp)) (by simp; omega) (Nat.le_refl _); have hps9 := (HPSB.o.keep0 HK8.o).keep hk9 (by simp; omega); have hnd9 := NdR.mk7 (kind := 9) (num := 0) (name := t) (at_ := plc si) hlit9 (NsR.nil _ _ true) (NsR.nil _ _ false); generalize ((((((((w7.alloc (.cells #[.int .i64 kindA, .int .i64 numA, .string ⟨nameA.toArray⟩, .int .i64 atA, .slice p1A n1A c1A, .slice p2A n2A c2A, .slice p3A n3A c3A, .int .i64 kindB, .int .i64 numB, .string ⟨nameB.toArray⟩, .int .i64 atB, .slice p1B n1B c1B, .slice p2B n2B c2B, .slice p3B n3B c3B] 29)).setCell ⟨A, 0, none⟩ (.int .i64 9)).setCell ⟨A, 1, none⟩ (.int .i64 0)).setCell ⟨A, 2, none⟩ (.string ⟨t.toArray⟩)).setCell ⟨A, 3, none⟩ (.int .i64 (plc si))).setCell ⟨A, 4, none⟩ (.slice (some ⟨w7.heap.size, 0, none⟩) 2 2)).setCell ⟨A, 5, none⟩ (.slice none 0 0)).setCell ⟨A, 6, none⟩ (.slice none 0 0)) = w9 at *; have HA9 := hyd hA9; have HB9 := hyd hB9; have HND9 := hyd hnd9; have HPS9 := hyd hps9; have HKW9 := hyd hkw9; have hle9 : s3.toks.length + 1 ≤ si.toks.length := by have := HLEB.o; have := HLT.o; omega
   have HLE9 := hyd hle9; clear hA9 hk9 hs7 hab ha7 ha6 hbb hlw hpl hndA hndB hndB' hlit hlit9 hB7 hB9 hkw8 hkw9 hps9 hnd9 hle9 HA6D HA7 HA8 HK8 HK7 HNDB HPSB
   by_cases hv2 : v = 2
   ·have q2 : ((v : Int) == 2) = true := by simp [hv2]
    subst hv2; obtain ⟨c0, c1, c2, c3, c4, c5, c6⟩ := cells7 HA9.o; obtain ⟨d0, d1, d2, d3, d4, d5, d6⟩ := cells7 HB9.o; have f9 := frozenP HB9.o; go_wp2_with fail; obtain ⟨hb10, hk10⟩ := set7 HB9.o (.int .i64 9) (.int .i64 0) (.string ⟨t.toArray⟩) (.int .i64 (plc si)) (.slice (some ⟨w7.heap.size, 0, none⟩) 2 2) (.slice none 0 0) (.slice none 0 0); refine bodyPost_ret (results_cell_row (ty := 29) rfl _ _ B _ _ _ _ rfl hb10 Tryz.underlying29 rfl node_size) rfl ?_; have hbb := HBB.o; have hlw := HLO.o; have hpl := HPLO.o; refine ⟨_, _, s3, rfl, HEV.o _ _ (Ev.of_binLoop_two HO.o HEVB.o), (HND9.o.keep hk10 (fun b hb hc => by simp at hb; have := hc.1; omega)).mono (fun b h => ⟨by have := h.1; omega, Nat.lt_of_lt_of_le h.2.1 hk10.size⟩), HPS9.o.keep hk10 (by simp; omega), by have := HLE9.o; have := HLE.o; omega, keepB (lo := w.heap.size) ((HKW9.o.mono (G := [pb, B]) (by simp)).trans hk10 (by simp)) (by simp; omega) (Nat.le_refl _)⟩
   ·have q2 : ((v : Int) == 2) = false := beq_eq_false_iff_ne.2 (by omega); have HV2 := hyd hv2; clear hv2; go_wp2_with fail; go_roundw
    case rel => exact ⟨_, s3, _, HA9.o, HB9.o, HND9.o, HPS9.o, HKW9.o, by have := HLE9.o; have := HLE.o; omega, fun r s' h => HEV.o _ _ (Ev.of_binLoop_go HV2.o HO.o HEVB.o h)⟩
    case measure => rw [HPS9.o.len, HPN.o]; have := HLE9.o; omega
open Go.Emb
theorem failS_len (e : Int) (s : St) : (failS e s).toks.length ≤ s.toks.length := (GoodS.fail e s).1
theorem hasS_len2 (x : List UInt8) (s : St) (h : (hasS x s).1 = true) : (hasS x s).2.toks.length + 1 ≤ s.toks.length := by
 unfold hasS takeS at h ⊢
 split at h
 ·rename_i hc; rw [if_pos hc]
  match hs : s.toks with
  | [] => exact absurd (nextS_nil hs) hc.2
  | x :: r => simp
 ·cases h
theorem someL_len : ∀ n d s, (someL n d s).1.length + (someL n d s).2.toks.length ≤ s.toks.length + 1
 | 0, d, s => by
  rw [someL]; have := failS_len 999 s; simp
  omega
 | n + 1, d, s => by
  rw [someL]; show (bnd (hasS sComma) (fun o => if o then bnd (someL n d) fun l => ret ((expr n d s).1 :: l) else ret [(expr n d s).1]) (expr n d s).2).1.length + (bnd (hasS sComma) (fun o => if o then bnd (someL n d) fun l => ret ((expr n d s).1 :: l) else ret [(expr n d s).1]) (expr n d s).2).2.toks.length ≤ _; have h1 := ((allG n).expr d s).1; obtain ⟨s1, hs1⟩ : ∃ s1, s1 = (expr n d s).2 := ⟨_, rfl⟩; rw [← hs1] at h1 ⊢; unfold bnd; rcases ho : (hasS sComma s1).1 with _ | _
  ·have h2 := (Good.has sComma s1).1; simp [ret]
   omega
  ·have h2 := hasS_len2 sComma s1 ho; have h3 := someL_len n d (hasS sComma s1).2; simp [ret]
   omega
theorem Ev.some_len {d : Nat} {s s' : St} {l : List Nd} (h : Ev (fun n => someL n d) s l s') : l.length + s'.toks.length ≤ s.toks.length + 1 := by
 obtain ⟨N, h⟩ := h; have h1 := someL_len N d s; have h2 : someL N d s = (l, s') := h N (Nat.le_refl _)
 rwa [h2] at h1
theorem untilL_len (n : Nat) (e : List UInt8) (d : Nat) (s : St) : (untilL n e d s).1.length ≤ s.toks.length + 1 := by
 cases n with
 | zero => rw [untilL]; simp
 | succ n =>
  rw [untilL]; unfold bnd; rcases ho : (hasS e s).1 with _ | _
  ·have h2 := (Good.has e s).1; have h3 := someL_len n d (hasS e s).2; simp [ret, doS]
   omega
  ·simp [ret]
theorem Ev.until_len {d : Nat} {e : List UInt8} {s s' : St} {l : List Nd} (h : Ev (fun n => untilL n e d) s l s') : l.length ≤ s.toks.length + 1 := by
 obtain ⟨N, h⟩ := h; have h1 := untilL_len N e d s; have h2 : untilL N e d s = (l, s') := h N (Nat.le_refl _)
 rwa [h2] at h1
end Go.Proofs.YtdmmhfbafinkpaaGreatDoor
