/- The queue's functions: contracts, continued: Timers, Tick. -/
import Derived.Test.YtphfmbkfcjiciaaQueue3
namespace Go.Proofs.Ytphfmbkfcjiciaa
open Go.RowKit Go.Emb Go.Shelf Go.Lib Go.Sort

theorem ltT (x y : Int × Int) : ltOf cmpT x y = decide (x.2 < y.2 ∨ (x.2 = y.2 ∧ x.1 < y.1)) := by
  unfold ltOf cmpT or2 Lib.compareInt
  rw [Bool.eq_iff_iff]
  simp only [decide_eq_true_eq]
  by_cases h1 : x.2 < y.2
  · simp [h1]
  · by_cases h2 : y.2 < x.2
    · simp [h1, h2]; omega
    · have h3 : x.2 = y.2 := by omega
      by_cases h4 : x.1 < y.1
      · simp [h3, h4]
      · by_cases h5 : y.1 < x.1
        · simp [h3, h4, h5]
        · simp [h3, h4, h5]

theorem swoT : SWO (ltOf cmpT) where
  irrefl x := by rw [ltT]; simp
  trans x y z h1 h2 := by rw [ltT] at *; simp at *; omega
  ntrans x y z h1 h2 := by rw [ltT] at *; simp at *; omega

theorem totT (x y : Int × Int) (h1 : ltOf cmpT x y = false) (h2 : ltOf cmpT y x = false) : x = y := by
  rw [ltT] at *
  simp at h1 h2
  have : x.1 = y.1 ∧ x.2 = y.2 := by omega
  exact Prod.ext this.1 this.2

/-- timers, by their times -/
def sortT (T : List (Int × Int)) : List (Int × Int) := T.mergeSort fun x y => !(ltOf cmpT) y x

theorem sortT_perm {T T' : List (Int × Int)} (h : T.Perm T') : sortT T = sortT T' := by
  have hle : ∀ (a b c : Int × Int), (!ltOf cmpT b a) = true → (!ltOf cmpT c b) = true → (!ltOf cmpT c a) = true := by
    intro a b c h1 h2
    simp only [Bool.not_eq_true'] at *
    exact swoT.ntrans c b a h2 h1
  have htot : ∀ (a b : Int × Int), ((!ltOf cmpT b a) || (!ltOf cmpT a b)) = true := by
    intro a b
    rw [ltT, ltT]
    simp
    omega
  refine List.Perm.eq_of_pairwise (le := fun x y => (!ltOf cmpT y x) = true) ?_ (List.pairwise_mergeSort hle htot T) (List.pairwise_mergeSort hle htot T') ?_
  · intro a b _ _ h1 h2
    simp only [Bool.not_eq_true'] at *
    exact (totT b a h1 h2).symm
  · exact (List.mergeSort_perm T _).trans (h.trans (List.mergeSort_perm T' _).symm)

theorem timer_info : (Try.prog.info? 42).map (fun i => (i.zero, i.size, i.bytes)) = some (some (.agg #[.int .i64 0, .int .i64 0]), 2, 16) := by kernel_rfl

theorem two_src {P : Program} {tx e' : TypeId} (hk : P.underlying tx = some (.slice e')) (w : World) (x y : Value) (hx : x.oneCell' = true) (hy : y.oneCell' = true) (t : TypeId) : Src P 2 tx (.slice (some ⟨w.heap.size, 0, none⟩) 1 1) 1 [x, y] (w.alloc (.cells #[x, y] t)) :=
  Src.ofSlice _ hk _ 1 1 [x, y] rfl (fun j u hu => by
    match j with
    | 0 => simp at hu; subst hu; simp [Addr.add]
    | 1 => simp at hu; subst hu; simp [Addr.add]
    | j + 2 => simp at hu) (by simp [hx, hy])

/-- how many have come -/
def itSeen (w : World) (r : Nat) : Nat := match w.heap[r]? with | some (.mapIter _ _ seen _) => seen.size | _ => 0

theorem itSeen_of {α : Type} {enc : α → Value} {w : World} {b r : Nat} {ps vis : List (α × Value)} (h : MapIt enc w b r ps vis) : itSeen w r = vis.length := by
  obtain ⟨es, clock, seen, zs, _, _, _, _, _, h6, _, _, h9, rfl⟩ := h
  have := congrArg List.length h9
  simp at this
  simp [itSeen, h6, this]

def encV (p : Int × Int) : Int × Value := (p.1, .int .i64 p.2)

def TimersP (w : World) (T : List (Int × Int)) (e : Ending) (w' : World) : Prop := ∃ v o, e = .returned v ∧ Row w' 42 2 v T.length ((sortT T).flatMap encT) o ∧ (∀ b, o = some b → w.heap.size ≤ b) ∧ Keep [] w w'

def TimersR (w : World) (bt r : Nat) (T vis : List (Int × Int)) (v : Value) (wr : World) : Prop :=
  ∃ o, MapIt (Value.int .i64) wr bt r (T.map encV) (vis.map encV) ∧ Row wr 42 2 v vis.length (vis.flatMap encT) o ∧ (∀ b, o = some b → w.heap.size ≤ b ∧ b ≠ r) ∧ Keep [] w wr ∧ w.heap.size ≤ r ∧ vis.length ≤ T.length

theorem encV_inj {a b : Int × Int} (h : encV a = encV b) : a = b := by
  simp [encV] at h; exact Prod.ext h.1 h.2

theorem perm_of_encV {a b : List (Int × Int)} (h : (a.map encV).Perm (b.map encV)) : a.Perm b := by
  have hd : ∀ l : List (Int × Int), (l.map encV).map (fun p : Int × Value => (p.1, match p.2 with | .int _ x => x | _ => 0)) = l := by
    intro l
    rw [List.map_map]
    conv => rhs; rw [← List.map_id l]
    apply List.map_congr_left
    intro p _
    rfl
  have := h.map (fun p : Int × Value => (p.1, match p.2 with | .int _ x => x | _ => 0))
  rwa [hd, hd] at this

theorem wpList_next_T {P : Program} (w : World) {ops : Array Oper} {rest : List Oper} {o : Oper} {a : Act} {Q : Exit → Act → World → Prop} (hg : o.guard = none) (it : Operand) (hop : o.op = Op.next it false) (b r : Nat) (T vis : List (Int × Int)) (hit : a.eval it = .pointer (some ⟨r, 0, none⟩)) (h : MapIt (Value.int .i64) w b r (T.map encV) (vis.map encV)) (hbr : b ≠ r)
    (hDone : vis.Perm T → wpList P ops Q rest (a.put o.dst (.tuple #[.bool false])) w)
    (hMore : ∀ (x y : Int) (w' : World), (Instr.entry (.pointer (some ⟨r, 0, none⟩))).run P w' = .ok (.tuple #[.int .i64 x, .int .i64 y]) w' → MapIt (Value.int .i64) w' b r (T.map encV) ((vis ++ [(x, y)]).map encV) → Keep [r] w w' → w'.heap.size = w.heap.size →
      wpList P ops Q rest (a.put o.dst (.tuple #[.bool true, .int .i64 x, .int .i64 y])) w') : wpList P ops Q (o :: rest) a w :=
  wpList_mapIt_next w hg it hop b r _ _ hit h hbr (fun hp => hDone (perm_of_encV hp)) (fun p w' hen hp1 hp2 hp3 hp4 hp5 => by
    obtain ⟨t, _, rfl⟩ := List.mem_map.1 hp1
    exact hMore t.1 t.2 w' hen (by simpa using hp3) hp4 hp5)

theorem mapIt_len {w : World} {b r : Nat} {T vis : List (Int × Int)} (h : MapIt (Value.int .i64) w b r (T.map encV) (vis.map encV)) : vis.length ≤ T.length := by
  obtain ⟨es, clock, seen, zs, _, _, h3, h4, _, _, h7, h8, _, h10⟩ := h
  have hlen : es.toList.length = T.length := by have := congrArg List.length h4; simpa using this
  have h1 : zs.length = vis.length := by have := congrArg List.length h10; simpa using this.symm
  have hb : (zs.map (·.1.born)).length ≤ (es.toList.map (·.born)).length := by
    apply List.Nodup.length_le_of_subset h8
    intro x hx
    obtain ⟨z, hz, rfl⟩ := List.mem_map.1 hx
    exact List.mem_map.2 ⟨z.1, (List.of_mem_zip (h7 z hz)).1, rfl⟩
  simp at hb hlen
  omega

/-- the sort of the timers -/
theorem sort_call {w : World} {v : Value} {d : List (Int × Int)} {o : Option Nat} (h : Row w 42 2 v d.length (d.flatMap encT) o) (hsz : d.length ≤ 1000000000) :
    Calls Try.prog 29 #[v, .func (.func 30) #[] #[]] w fun e w' => e = .returned (.tuple #[]) ∧ Row w' 42 2 v d.length ((sortT d).flatMap encT) o ∧ Keep o.toList w w' := by
  have eg : ∀ args w, (callFunc 30 args).run Try.prog w = .ok (.enter 30 args) w := enters_of Try.func30 (by kernel_rfl) rfl
  have hk : ∀ x, (encT x).length = 2 := fun _ => rfl
  rcases d with _ | ⟨t, d⟩
  · obtain ⟨a, c, rfl⟩ : ∃ a c, v = .slice a 0 c := by
      rcases h.2 with ⟨_, hv, _⟩ | ⟨b, off, cap, cs, _, hv, _⟩
      · exact ⟨_, _, hv⟩
      · exact ⟨_, _, hv⟩
    have hcon := AnyF.slices_SortFunc_none Try.sortT a c (.func (.func 30) #[] #[]) w
    change Calls Try.prog 29 _ _ _ at hcon
    refine hcon.mono ?_
    rintro e w' ⟨rfl, rfl⟩
    exact ⟨rfl, by simpa [sortT] using h, Keep.refl _ _⟩
  · generalize hd : t :: d = D at *
    have hpos : D.length ≠ 0 := by rw [← hd]; simp
    obtain ⟨b, off, cap, rfl, rfl⟩ : ∃ b off cap, o = some b ∧ v = .slice (some ⟨b, off, none⟩) D.length cap := by
      rcases h.2 with ⟨_, _, h0⟩ | ⟨b, off, cap, cs, ho, hv, _⟩
      · exact absurd h0 hpos
      · exact ⟨b, off, cap, ho, hv⟩
    have h' : Row w 42 2 (.slice (some ⟨b, off, none⟩) D.toArray.size cap) D.toArray.size (D.toArray.toList.flatMap encT) (some b) := by simpa using h
    have hcon := AnyQ.slices_SortFunc_total Try.sortT 2 Try.isAgg42 Try.sizeOf42 encT hk (fun x v hv => by simp [encT] at hv; rcases hv with rfl | rfl <;> rfl) cmpT swoT 30 #[] b off cap D.toArray w eg (fun _ _ _ _ x y => closureT x y _) (h'.holdsK hk (by omega)) (h.lt b rfl) (by simp; omega) totT
    change Calls Try.prog 29 _ _ _ at hcon
    have hsz' : D.toArray.size = D.length := by simp
    rw [hsz'] at hcon
    refine hcon.mono ?_
    rintro e w' ⟨rfl, n, os, rfl⟩
    have hs2 : ((D.toArray.toList.mergeSort fun x y => !(ltOf cmpT) y x).toArray).size = D.toArray.size := by simp
    have := h'.sorted hk (by omega) hs2 n os
    exact ⟨rfl, by simpa [sortT] using this.1, by simpa using this.2⟩

set_option maxHeartbeats 1000000 in
theorem timers_any {w : World} {q : Nat} {l : List Int} {T : List (Int × Int)} {F : List Nat} (h : IsQ w q l T F) (hsz : T.length ≤ 1000000000) :
    Calls Try.prog 16 #[.pointer (some ⟨q, 0, none⟩)] w (TimersP w T) := by
  obtain ⟨v0, bi, bt, o, pi, h, rfl⟩ := h
  obtain ⟨c0, c1, c2, f0⟩ := cells3 h.here
  obtain ⟨i0, hi, hz0, hz1, hz2⟩ := info_parts timer_info
  have hm : MapA (Value.int .i64) w bt (T.map encV) := h.mt
  have hbt := hm.lt
  have HM := Lib.hid hm
  have HI := Lib.hid hi
  clear hm hi h
  go_enter Try.func16, Try.ntmps16
  go_wp2_with (at_range; refine wpList_mapA_range _ rfl _ 52 rfl 2 2 Try.underlying52 bt _ rfl HM.out ?_; intro w0 hit hk0 hs0)
  go_frame
  have hstart : TimersR w bt w.heap.size T [] (.slice none 0 0) w0 := ⟨none, hit, Row.nil _ _ _, by simp, hk0, Nat.le_refl _, Nat.zero_le _⟩
  have HST := Lib.hid hstart
  clear hstart hit hk0 hs0
  go_loopw [2] (fun u wr => ∃ v vis, v = u ∧ TimersR w bt w.heap.size T vis v wr) (fun _ wr => T.length - itSeen wr w.heap.size)
  case atStart => exact ⟨_, [], rfl, HST.out⟩
  case round =>
    obtain ⟨v, vis, rfl, o', hit, hrow, hfr, hK, hr, hvl⟩ := hrel
    have HIT := Lib.hid hit
    have HROW := Lib.hid hrow
    have HFR := Lib.hid hfr
    have HK := Lib.hid hK
    clear hit hrow hfr hK
    have hbr : bt ≠ w.heap.size := by omega
    go_wp2_with (at_next; refine wpList_next_T _ rfl _ rfl bt w.heap.size T vis rfl HIT.out hbr ?_ ?_)
    · intro hperm
      have HP := Lib.hid hperm
      clear hperm
      go_wp2_with fail
      refine (sort_call HROW.out (by omega)).mono ?_
      rintro e w' ⟨rfl, hrow', hk'⟩
      have HR := Lib.hid hrow'
      have HK' := Lib.hid hk'
      clear hrow' hk'
      go_wp2_with fail
      go_ret
      refine ⟨v, o', rfl, ?_, fun b hb => (HFR.out b hb).1, HK.out.trans HK'.out ?_⟩
      · have := HR.out
        rw [sortT_perm HP.out, HP.out.length_eq] at this
        exact this
      · intro x hx
        right
        cases o' with
        | none => simp at hx
        | some b => simp at hx; subst hx; exact (HFR.out _ rfl).1
    · intro x y w1 hen hit1 hk1 hs1
      have hrow1 : Row (w1.alloc (.cells #[.int .i64 x, .int .i64 y] 42)) 42 2 v vis.length (vis.flatMap encT) o' :=
        (HROW.out.keep hk1 (fun b hb => by simpa using (HFR.out b hb).2)).keep ((Keep.refl [] _).alloc _) (by simp)
      have hit2 : MapIt (Value.int .i64) w1 bt w.heap.size (T.map encV) ((vis ++ [(x, y)]).map encV) := by simpa using hit1
      have HIT1 := Lib.hid hit2
      clear hit2
      have HK1 := Lib.hid hk1
      have HR1 := Lib.hid hrow1
      have HS1 := Lib.hid hs1
      clear hit1 hk1 hs1 hrow1
      go_wp2_with (at_builtin; refine wpList_append_row _ rfl _ _ 38 38 rfl 42 i0 _ 2 16 Try.underlying38 HI.out hz0 hz1 hz2 rfl v vis.length (vis.flatMap encT) o' rfl HR1.out _ rfl 1 _ (two_src Try.underlying38 _ _ _ rfl rfl _) (by omega) (by unfold maxLen; omega) (by omega) ?_; intro g off2 cap w2 hrow2 hk2 hg2)
      go_roundw
      case rel =>
        have hlen := mapIt_len HIT1.out
        have hsz := HK.out.size
        have hs1 := HS1.out
        have hgne : w.heap.size ≤ g ∧ g ≠ w.heap.size := by
          rcases hg2 with h | h
          · exact HFR.out g h
          · have := (HIT.out.map (α := Int)).lt
            simp at h
            have hr' : w.heap.size < wr.heap.size := by
              obtain ⟨_, _, _, _, _, _, _, _, _, h6, _⟩ := HIT.out
              exact (Array.getElem?_eq_some_iff.1 h6).1
            omega
        have hk3 : Keep o'.toList w1 w2 := ((Keep.refl _ _).alloc _).trans hk2 (fun x hx => .inl hx)
        have hno : bt ∉ o'.toList ∧ w.heap.size ∉ o'.toList := by
          cases o' with
          | none => simp
          | some b => have := HFR.out b rfl; simp; omega
        refine ⟨_, vis ++ [(x, y)], rfl, some g, HIT1.out.keep hk3 hno.1 hno.2, ?_, by rintro b ⟨⟩; exact hgne, ?_, Nat.le_refl _, hlen⟩
        · simpa [encT] using hrow2
        · refine (HK.out.trans HK1.out (by simp)).trans hk3 ?_
          intro z hz
          right
          cases o' with
          | none => simp at hz
          | some b => simp at hz; subst hz; exact (HFR.out _ rfl).1
      case measure =>
        have hk3 : Keep o'.toList w1 w2 := ((Keep.refl _ _).alloc _).trans hk2 (fun x hx => .inl hx)
        have hno : bt ∉ o'.toList ∧ w.heap.size ∉ o'.toList := by
          cases o' with
          | none => simp
          | some b => have := HFR.out b rfl; simp; omega
        have hlen := mapIt_len HIT1.out
        rw [itSeen_of (HIT1.out.keep hk3 hno.1 hno.2), itSeen_of HIT.out]
        simp at hlen ⊢
        omega

end Go.Proofs.Ytphfmbkfcjiciaa
