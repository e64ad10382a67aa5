/- A part of the proof (StF, BaseReg, BaseInv), joined by squeeze2.py. -/
import Derived.Test.YtimpadpeibgmoaaGreatYd03
import Derived.Test.YtimpadpeibgmoaaGreatYd01
import Derived.Deep.RegionHeld3
set_option maxHeartbeats 8000000
set_option maxRecDepth 100000
namespace Go.Proofs.YtimpadpeibgmoaaGreat
open Go.RowKit Go.Emb
def InS (S : Nat → Prop) (w : World) (o : Option Nat) : Prop := ∀ b, o = some b → b < w.heap.size ∧ S b
theorem InS.keep {S : Nat → Prop} {F : List Nat} {w w' : World} {o : Option Nat} (h : InS S w o) (hk : Keep F w w') : InS S w' o := fun b hb => ⟨Nat.lt_of_lt_of_le (h b hb).1 hk.size, (h b hb).2⟩
theorem InS.mono {S T : Nat → Prop} {w : World} {o : Option Nat} (h : InS S w o) (hs : ∀ b, b < w.heap.size → S b → T b) : InS T w o := fun b hb => ⟨(h b hb).1, hs b (h b hb).1 (h b hb).2⟩
theorem InS.no {S : Nat → Prop} {F : List Nat} {w : World} {o : Option Nat} (h : InS S w o) (hF : ∀ b ∈ F, b < w.heap.size → ¬ S b) : ∀ b, o = some b → b ∉ F := fun b hb hm => hF b hm (h b hb).1 (h b hb).2
def BRd (S : Nat → Prop) (w : World) (v : Value) (bs : List UInt8) : Prop := (∃ o, Rd w 1 v bs.length (Lib.byteCells bs) o ∧ InS S w o) ∧ bs.length ≤ 1000000000
def XRd (S : Nat → Prop) (w : World) (v : Value) (xs : List (Int × Int)) : Prop := (∃ o, Rd w 2 v xs.length (xs.flatMap encX) o ∧ InS S w o) ∧ (∀ x ∈ xs, ExtOk x) ∧ xs.length ≤ 1000000000
def PRd1 (S : Nat → Prop) (w : World) (x : PlV) : Prop := I64 x.p.pid ∧ I64 x.p.len ∧ XRd S w x.v x.p.pieces
def PRd (S : Nat → Prop) (w : World) (v : Value) (xs : List PlV) : Prop := (∃ o, Rd w 3 v xs.length (xs.flatMap encP) o ∧ InS S w o) ∧ (∀ x ∈ xs, PRd1 S w x) ∧ xs.length ≤ 1000000000
def MRd (S : Nat → Prop) (w : World) (m : MnV) : Prop := m.s.size ≤ 1000000000 ∧ ExtOk m.area ∧ BRd S w m.rv m.rest ∧ PRd S w m.pv m.places
section
variable {S T : Nat → Prop} {F : List Nat} {w w' : World}
theorem BRd.keep {v : Value} {bs : List UInt8} (h : BRd S w v bs) (hk : Keep F w w') (hF : ∀ b ∈ F, b < w.heap.size → ¬ S b) : BRd S w' v bs := by
 obtain ⟨⟨o, h1, h2⟩, h3⟩ := h
 exact ⟨⟨o, h1.keep hk (h2.no hF), h2.keep hk⟩, h3⟩
theorem BRd.mono {v : Value} {bs : List UInt8} (h : BRd S w v bs) (hs : ∀ b, b < w.heap.size → S b → T b) : BRd T w v bs := by
 obtain ⟨⟨o, h1, h2⟩, h3⟩ := h
 exact ⟨⟨o, h1, h2.mono hs⟩, h3⟩
theorem BRd.rdb {v : Value} {bs : List UInt8} (h : BRd S w v bs) : RdB w.heap.size w v bs := by
 obtain ⟨⟨o, h1, h2⟩, h3⟩ := h
 exact ⟨⟨o, h1, fun b hb => (h2 b hb).1⟩, by omega⟩
theorem XRd.keep {v : Value} {xs : List (Int × Int)} (h : XRd S w v xs) (hk : Keep F w w') (hF : ∀ b ∈ F, b < w.heap.size → ¬ S b) : XRd S w' v xs := by
 obtain ⟨⟨o, h1, h2⟩, h3, h4⟩ := h
 exact ⟨⟨o, h1.keep hk (h2.no hF), h2.keep hk⟩, h3, h4⟩
theorem XRd.mono {v : Value} {xs : List (Int × Int)} (h : XRd S w v xs) (hs : ∀ b, b < w.heap.size → S b → T b) : XRd T w v xs := by
 obtain ⟨⟨o, h1, h2⟩, h3, h4⟩ := h
 exact ⟨⟨o, h1, h2.mono hs⟩, h3, h4⟩
theorem XRd.rdx {v : Value} {xs : List (Int × Int)} (h : XRd S w v xs) : RdX w.heap.size w v xs := by
 obtain ⟨⟨o, h1, h2⟩, h3, h4⟩ := h
 exact ⟨⟨o, h1, fun b hb => (h2 b hb).1⟩, h3, by omega⟩
theorem PRd1.keep {x : PlV} (h : PRd1 S w x) (hk : Keep F w w') (hF : ∀ b ∈ F, b < w.heap.size → ¬ S b) : PRd1 S w' x := ⟨h.1, h.2.1, h.2.2.keep hk hF⟩
theorem PRd1.mono {x : PlV} (h : PRd1 S w x) (hs : ∀ b, b < w.heap.size → S b → T b) : PRd1 T w x := ⟨h.1, h.2.1, h.2.2.mono hs⟩
theorem PRd.keep {v : Value} {xs : List PlV} (h : PRd S w v xs) (hk : Keep F w w') (hF : ∀ b ∈ F, b < w.heap.size → ¬ S b) : PRd S w' v xs := by
 obtain ⟨⟨o, h1, h2⟩, h3, h4⟩ := h
 exact ⟨⟨o, h1.keep hk (h2.no hF), h2.keep hk⟩, fun x hx => (h3 x hx).keep hk hF, h4⟩
theorem PRd.mono {v : Value} {xs : List PlV} (h : PRd S w v xs) (hs : ∀ b, b < w.heap.size → S b → T b) : PRd T w v xs := by
 obtain ⟨⟨o, h1, h2⟩, h3, h4⟩ := h
 exact ⟨⟨o, h1, h2.mono hs⟩, fun x hx => (h3 x hx).mono hs, h4⟩
theorem PRd.rdp {v : Value} {xs : List PlV} (h : PRd S w v xs) : RdPs w.heap.size w v xs := by
 obtain ⟨⟨o, h1, h2⟩, h3, h4⟩ := h
 exact ⟨⟨o, h1, fun b hb => (h2 b hb).1⟩, fun x hx => ⟨(h3 x hx).1, (h3 x hx).2.1, (h3 x hx).2.2.rdx⟩, by omega⟩
theorem MRd.keep {m : MnV} (h : MRd S w m) (hk : Keep F w w') (hF : ∀ b ∈ F, b < w.heap.size → ¬ S b) : MRd S w' m := ⟨h.1, h.2.1, h.2.2.1.keep hk hF, h.2.2.2.keep hk hF⟩
theorem MRd.mono {m : MnV} (h : MRd S w m) (hs : ∀ b, b < w.heap.size → S b → T b) : MRd T w m := ⟨h.1, h.2.1, h.2.2.1.mono hs, h.2.2.2.mono hs⟩
theorem MRd.rdm {m : MnV} (h : MRd S w m) : RdM w.heap.size w m := ⟨by have := h.1; omega, h.2.1, h.2.2.1.rdb, h.2.2.2.rdp⟩
theorem XRd.form {v : Value} {xs : List (Int × Int)} (h : XRd S w v xs) : ∃ a c, v = .slice a xs.length c ∧ xs.length ≤ c ∧ c ≤ maxLen := h.rdx.slice
theorem BRd.form {v : Value} {bs : List UInt8} (h : BRd S w v bs) : ∃ a c, v = .slice a bs.length c ∧ bs.length ≤ c ∧ c ≤ maxLen := by
 obtain ⟨⟨o, ⟨-, a, c, h1, h2, h3, -⟩, -⟩, -⟩ := h
 exact ⟨a, c, h1, h2, h3⟩
theorem PRd.form {v : Value} {xs : List PlV} (h : PRd S w v xs) : ∃ a c, v = .slice a xs.length c ∧ xs.length ≤ c ∧ c ≤ maxLen := by
 obtain ⟨⟨o, ⟨-, a, c, h1, h2, h3, -⟩, -⟩, -⟩ := h
 exact ⟨a, c, h1, h2, h3⟩
theorem MRd.forms {m : MnV} (h : MRd S w m) : (∃ a c, m.rv = .slice a m.rest.length c) ∧ ∃ a c, m.pv = .slice a m.places.length c := by
 obtain ⟨a, c, h1, -, -⟩ := h.2.2.1.form
 obtain ⟨a', c', h2, -, -⟩ := h.2.2.2.form
 exact ⟨⟨a, c, h1⟩, ⟨a', c', h2⟩⟩
theorem BRd.nil (S : Nat → Prop) (w : World) : BRd S w (.slice none 0 0) [] := ⟨⟨none, ⟨rfl, none, 0, rfl, Nat.le_refl _, by unfold maxLen; omega, .inl ⟨rfl, rfl⟩⟩, fun b hb => by cases hb⟩, by simp⟩
theorem XRd.nil (S : Nat → Prop) (w : World) : XRd S w (.slice none 0 0) [] := ⟨⟨none, ⟨rfl, none, 0, rfl, Nat.le_refl _, by unfold maxLen; omega, .inl ⟨rfl, rfl⟩⟩, fun b hb => by cases hb⟩, by simp, by simp⟩
theorem PRd.nil (S : Nat → Prop) (w : World) : PRd S w (.slice none 0 0) [] := ⟨⟨none, ⟨rfl, none, 0, rfl, Nat.le_refl _, by unfold maxLen; omega, .inl ⟨rfl, rfl⟩⟩, fun b hb => by cases hb⟩, by simp, by simp⟩
end
end Go.Proofs.YtimpadpeibgmoaaGreat

namespace Go.Emb
open Go.RowKit
theorem wpAnyH_takeL {P : Program} {l : List Oper} {Q : Exit → Act → World → Prop} {md : Region.Mode} {S : World → Prop} {i : Nat} {oi : Oper} {v : Value} {fuel : Nat} {listed : Array Bool} {a : Act} {w : World} (hi : l[i]? = some oi)
  (hs : Region.noSelect l.toArray = true) (hf : Region.free md l.toArray listed i = true) (hr : (Region.ready md l.toArray listed).contains i = true)
  (hQ : ∀ c a w, Q (.panic c) (a.put oi.dst v) w → Q (.panic c) a w) (hy : YieldsIf P l.toArray S oi v a) (hS : S w)
  (h : wpAnyH P md l.toArray Q S fuel (listed.setIfInBounds i true) (a.put oi.dst v) w) : wpAnyH P md l.toArray Q S (fuel + 1) listed a w :=
 wpAnyH_take (by simpa using hi) hs hf hr hQ hy hS h
theorem AllReadyH.consL {P : Program} {l : List Oper} {Q : Exit → Act → World → Prop} {md : Region.Mode} {S : World → Prop} {fuel : Nat} {listed : Array Bool} {a : Act} {w : World} {i : Nat} {o : Oper} {rs : List Nat} (ho : l[i]? = some o)
  (h : ∀ K' : Act → World → Prop, Shut (∀ a w, S w → (S w → wpAnyH P md l.toArray Q S fuel (listed.setIfInBounds i true) a w) → K' a w) → if Region.wanted o (yielded l.toArray a.tmps) = true then Oper.wp P o a w K' Q else K' (a.put o.dst undef) w)
  (hs : AllReadyH P md l.toArray Q S fuel listed a w rs) : AllReadyH P md l.toArray Q S fuel listed a w (i :: rs) :=
 AllReadyH.cons (by simpa using ho) h hs
section
variable {P : Program} {l : List Oper} {Q : Exit → Act → World → Prop} {md : Region.Mode} {S : World → Prop} {oi : Oper} {fuel : Nat} {listed : Array Bool} {a : Act} {w : World}
theorem tkL (i : Nat) (v : Value) (hi : l[i]? = some oi) (hy : ∀ w, S w → (execOp a.eval oi).run P w = .ok (.value v) w) (hS : S w)
  (h : wpAnyH P md l.toArray Q S fuel (listed.setIfInBounds i true) (a.put oi.dst v) w) (hs : Region.noSelect l.toArray = true := by kernel_rfl) (hf : Region.free md l.toArray listed i = true := by kernel_rfl) (hr : (Region.ready md l.toArray listed).contains i = true := by kernel_rfl)
  (hw : Region.wanted oi (yielded l.toArray a.tmps) = true := by kernel_rfl) (hQ : ∀ c a w, Q (.panic c) (a.put oi.dst v) w → Q (.panic c) a w := by exact fun _ _ _ h => h) : wpAnyH P md l.toArray Q S (fuel + 1) listed a w :=
 wpAnyH_takeL hi hs hf hr hQ (.inl ⟨hw, hy⟩) hS h
theorem skL (i : Nat) (hi : l[i]? = some oi) (hS : S w)
  (h : wpAnyH P md l.toArray Q S fuel (listed.setIfInBounds i true) (a.put oi.dst undef) w) (hs : Region.noSelect l.toArray = true := by kernel_rfl) (hf : Region.free md l.toArray listed i = true := by kernel_rfl) (hr : (Region.ready md l.toArray listed).contains i = true := by kernel_rfl)
  (hw : Region.wanted oi (yielded l.toArray a.tmps) = false := by kernel_rfl) (hQ : ∀ c a w, Q (.panic c) (a.put oi.dst undef) w → Q (.panic c) a w := by exact fun _ _ _ h => h) : wpAnyH P md l.toArray Q S (fuel + 1) listed a w :=
 wpAnyH_takeL hi hs hf hr hQ (.inr ⟨hw, rfl⟩) hS h
theorem rdH (i : Nat) {o : Oper} (ho : l[i]? = some o)
  (h : ∀ K' : Act → World → Prop, Shut (∀ a w, S w → (S w → wpAnyH P md l.toArray Q S fuel (listed.setIfInBounds i true) a w) → K' a w) → if Region.wanted o (yielded l.toArray a.tmps) = true then Oper.wp P o a w K' Q else K' (a.put o.dst undef) w)
  (hr : Region.ready md l.toArray listed = [i] := by kernel_rfl) : wpAnyH P md l.toArray Q S (fuel + 1) listed a w :=
 wpAnyH_ready hr (by simp) (AllReadyH.consL ho h AllReadyH.nil)
end
open Go.RowKit
theorem getD_lt {L : Array Bool} {i : Nat} (h : i < L.size) (b : Bool) : L.getD i b = L[i] := by
 unfold Array.getD
 rw [dif_pos h]
 rfl
theorem getD_ge {L : Array Bool} {i : Nat} (h : L.size ≤ i) (b : Bool) : L.getD i b = b := by
 unfold Array.getD
 rw [dif_neg (by omega)]
theorem lt_of_getD {L : Array Bool} {i : Nat} (h : L.getD i true = false) : i < L.size := by
 rcases Nat.lt_or_ge i L.size with h1 | h1
 ·exact h1
 ·rw [getD_ge h1] at h; cases h
def dn (L : Array Bool) : Nat → Bool := fun i => L.getD i true
def upd (d : Nat → Bool) (i : Nat) : Nat → Bool := fun j => if j = i then true else d j
theorem dn_set (L : Array Bool) (i : Nat) : dn (L.setIfInBounds i true) = upd (dn L) i := by
 funext j
 unfold dn upd
 by_cases h : j = i
 ·subst h
  rw [if_pos rfl]
  by_cases hj : j < L.size
  ·rw [getD_lt (by simpa using hj)]; simp
  ·rw [getD_ge (by simpa using hj)]
 ·rw [if_neg h]
  by_cases hj : j < L.size
  ·show _ = L.getD j true
   rw [getD_lt (by simpa using hj), getD_lt hj]
   exact Array.getElem_setIfInBounds_ne hj (Ne.symm h)
  ·show _ = L.getD j true
   rw [getD_ge (by simpa using hj), getD_ge (by simpa using hj)]
def depsOf (md : Region.Mode) (o : Oper) : List Nat := (o.after.toList.filter fun e => Region.binds md e).map (·.on)
def ordered (md : Region.Mode) (l : List Oper) : Bool := (List.range l.length).all fun i => match l[i]? with
 | none => true
 | some o => (depsOf md o).all fun k => decide (k < i)
def undone (l : List Oper) (L : Array Bool) : List Nat := (List.range l.length).filter fun i => !(L.getD i true)
theorem ready_nil {md : Region.Mode} {l : List Oper} {L : Array Bool} (ho : ordered md l = true) (hsz : L.size = l.length) (h : Region.ready md l.toArray L = []) : dn L = fun _ => true := by
 have key : ∀ i, dn L i = true := by
  intro i
  induction i using Nat.strongRecOn with
  | _ i ih =>
   cases hd : dn L i with
   | true => rfl
   | false =>
    exfalso
    have hi : i < l.length := hsz ▸ lt_of_getD hd
    have hmem : i ∈ Region.ready md l.toArray L := by
     refine mem_ready.2 ⟨hd, l[i], by simp [hi], fun e he hb => ?_⟩
     have h1 := List.all_eq_true.1 ho i (List.mem_range.2 hi)
     rw [List.getElem?_eq_getElem hi] at h1
     have h2 : e.on ∈ depsOf md l[i] := List.mem_map.2 ⟨e, List.mem_filter.2 ⟨by simpa using he, hb⟩, rfl⟩
     have h3 := of_decide_eq_true (List.all_eq_true.1 h1 _ h2)
     have h4 := ih e.on h3
     have h5 : e.on < L.size := by omega
     unfold dn at h4
     rw [getD_lt h5] at h4 ⊢
     exact h4
    rw [h] at hmem
    cases hmem
 funext i
 exact key i
def mixA (A : List Value) (ws : List Nat) (g : Nat → Value) : Array Value := ws.foldl (fun t k => t.setIfInBounds k (g k)) A.toArray
theorem mixA_self (A : List Value) (ws : List Nat) : mixA A ws (fun i => A.getD i undef) = A.toArray := by
 unfold mixA
 induction ws with
 | nil => rfl
 | cons k ks ih =>
  rw [List.foldl_cons]
  have : A.toArray.setIfInBounds k (A.getD k undef) = A.toArray := by
   apply Array.ext
   ·simp
   ·intro i h1 h2
    rw [Array.getElem_setIfInBounds]
    split
    ·rename_i h
     subst h
     simp at h2
     simp [h2]
    ·rfl
  rw [this]
  exact ih
def StepInv (P : Program) (l : List Oper) (Q : Exit → Act → World → Prop) (md : Region.Mode) (fr : (Nat → Value) → Array Value) (J : (Nat → Bool) → (Nat → Value) → World → Prop) (i : Nat) : Prop :=
 ∀ o, l[i]? = some o → ∀ d f W, d i = false → (∀ k ∈ depsOf md o, d k = true) → J d f W → ∀ K : Act → World → Prop, Shut (∀ f' W', J (upd d i) f' W' → K ⟨fr f', []⟩ W') →
  if Region.wanted o (yielded l.toArray (fr f)) = true then Oper.wp P o ⟨fr f, []⟩ W K Q else K (Act.put ⟨fr f, []⟩ o.dst undef) W
def AllInv (P : Program) (l : List Oper) (Q : Exit → Act → World → Prop) (md : Region.Mode) (fr : (Nat → Value) → Array Value) (J : (Nat → Bool) → (Nat → Value) → World → Prop) (rs : List Nat) : Prop := ∀ i ∈ rs, StepInv P l Q md fr J i
theorem AllInv.nil {P : Program} {l : List Oper} {Q : Exit → Act → World → Prop} {md : Region.Mode} {fr : (Nat → Value) → Array Value} {J : (Nat → Bool) → (Nat → Value) → World → Prop} : AllInv P l Q md fr J [] := fun _ h => by cases h
theorem AllInv.cons {P : Program} {l : List Oper} {Q : Exit → Act → World → Prop} {md : Region.Mode} {fr : (Nat → Value) → Array Value} {J : (Nat → Bool) → (Nat → Value) → World → Prop} {i : Nat} {rs ds : List Nat} {o : Oper} (ho : l[i]? = some o) (hds : depsOf md o = ds)
  (h : ∀ d f W, d i = false → (∀ k ∈ ds, d k = true) → J d f W → ∀ K : Act → World → Prop, Shut (∀ f' W', J (upd d i) f' W' → K ⟨fr f', []⟩ W') →
    if Region.wanted o (yielded l.toArray (fr f)) = true then Oper.wp P o ⟨fr f, []⟩ W K Q else K (Act.put ⟨fr f, []⟩ o.dst undef) W)
  (hs : AllInv P l Q md fr J rs) : AllInv P l Q md fr J (i :: rs) := fun j hj => by
 rcases List.mem_cons.1 hj with rfl | hj
 ·intro o' ho'
  rw [ho] at ho'
  cases ho'
  rw [hds]
  exact h
 ·exact hs j hj
theorem wpAnyH_inv_all {P : Program} {l : List Oper} {Q : Exit → Act → World → Prop} {md : Region.Mode} {S : World → Prop} {fr : (Nat → Value) → Array Value} {J : (Nat → Bool) → (Nat → Value) → World → Prop} (rs : List Nat)
  (ho : ordered md l = true) (hS : ∀ d f W, J d f W → S W) (hstep : AllInv P l Q md fr J rs)
  (hend : ∀ f W, J (fun _ => true) f W → Q .normal ⟨fr f, []⟩ W) :
  ∀ (fuel : Nat) (L : Array Bool) (f : Nat → Value) (w : World), L.size = l.length → L.toList.count false ≤ fuel → (∀ i, dn L i = false → i ∈ rs) → J (dn L) f w → wpAnyH P md l.toArray Q S fuel L ⟨fr f, []⟩ w := by
 have hdone : ∀ (L : Array Bool) (f : Nat → Value) (w : World), L.size = l.length → J (dn L) f w → Region.ready md l.toArray L = [] → Q .normal ⟨fr f, []⟩ w := by
  intro L f w hsz hJ hr
  rw [ready_nil ho hsz hr] at hJ
  exact hend f w hJ
 intro fuel
 induction fuel with
 | zero =>
  intro L a w hsz hcnt _ hc
  have hr : Region.ready md l.toArray L = [] := by
   rw [List.eq_nil_iff_forall_not_mem]
   intro i hi
   have h1 := (mem_ready.1 hi).1
   have h2 := lt_of_getD h1
   rw [getD_lt h2] at h1
   have : false ∈ L.toList := by rw [← h1]; exact Array.getElem_mem_toList h2
   have := List.count_pos_iff.2 this
   omega
  exact ⟨hr, hdone L a w hsz hc hr⟩
 | succ fuel ih =>
  intro L f w hsz hcnt hrs hJ
  refine ⟨hdone L f w hsz hJ, fun i hi => ?_⟩
  obtain ⟨h1, o, hio, hdeps⟩ := mem_ready.1 hi
  have hil := lt_of_getD h1
  have hLi : L[i] = false := by rw [getD_lt hil] at h1; exact h1
  have hnext : ∀ f' w', J (upd (dn L) i) f' w' → S w' ∧ wpAnyH P md l.toArray Q S fuel (L.setIfInBounds i true) ⟨fr f', []⟩ w' := by
   intro f' w' hc'
   refine ⟨hS _ _ _ hc', ih _ _ _ (by simpa using hsz) ?_ (fun k hk => ?_) (by rw [dn_set]; exact hc')⟩
   ·have h2 : (L.setIfInBounds i true).toList = L.toList.set i true := by simp
    rw [h2, List.count_set (by simpa using hil)]
    have h3 : L.toList[i]'(by simpa using hil) = false := by simpa using hLi
    simp only [h3, beq_self_eq_true, if_true]
    have h4 : 0 < L.toList.count false := List.count_pos_iff.2 (by rw [← hLi]; exact Array.getElem_mem_toList hil)
    simp
    simp at hcnt h4
    omega
   ·rw [dn_set] at hk
    unfold upd at hk
    by_cases hki : k = i
    ·rw [if_pos hki] at hk; cases hk
    ·rw [if_neg hki] at hk; exact hrs k hk
  have hk := hstep i (hrs i h1) o (by simpa using hio) (dn L) f w h1 (fun k hk => by
    obtain ⟨e, he, rfl⟩ := List.mem_map.1 hk
    obtain ⟨he1, he2⟩ := List.mem_filter.1 he
    have h3 := hdeps e (by simpa using he1) he2
    unfold dn
    by_cases hb : e.on < L.size
    · rw [getD_lt hb] at h3 ⊢; exact h3
    · exact getD_ge (by omega) _) hJ (fun a' w' => S w' ∧ wpAnyH P md l.toArray Q S fuel (L.setIfInBounds i true) a' w') hnext
  unfold wpOp
  rw [hio]
  dsimp only
  by_cases hw : Region.wanted o (yielded l.toArray (fr f)) = true
  ·rw [if_pos hw] at hk ⊢
   exact .inl hk
  ·rw [if_neg hw] at hk ⊢
   exact hk
theorem wpAnyH_inv {P : Program} {l : List Oper} {Q : Exit → Act → World → Prop} {md : Region.Mode} {S : World → Prop} {A : List Value} (J : (Nat → Bool) → (Nat → Value) → World → Prop) (ws rs : List Nat) {fuel : Nat} {L : Array Bool} {w : World}
  (ho : ordered md l = true) (hL : (L.size == l.length && decide (L.toList.count false ≤ fuel)) = true) (hrs : undone l L = rs) (hS : ∀ d f W, J d f W → S W) (h0 : J (dn L) (fun i => A.getD i undef) w) (hstep : AllInv P l Q md (mixA A ws) J rs)
  (hend : ∀ f W, J (fun _ => true) f W → Q .normal ⟨mixA A ws f, []⟩ W) : wpAnyH P md l.toArray Q S fuel L ⟨A.toArray, []⟩ w := by
 obtain ⟨h1, h2⟩ := Bool.and_eq_true_iff.1 hL
 rw [← mixA_self A ws]
 refine wpAnyH_inv_all (fr := mixA A ws) rs ho hS hstep hend fuel L _ w (by simpa using h1) (of_decide_eq_true h2) (fun i hi => ?_) h0
 have hil : i < L.size := lt_of_getD hi
 rw [← hrs]
 refine List.mem_filter.2 ⟨List.mem_range.2 (by have := eq_of_beq h1; omega), ?_⟩
 unfold dn at hi
 rw [hi]
 rfl
end Go.Emb
