/- The queue's functions: contracts. -/
import Derived.Test.YtphfmbkfcjiciaaProg
import Derived.Test.YtphfmbkfcjiciaaBase2
import Derived.WalkSpells
namespace Go.Proofs.Ytphfmbkfcjiciaa
open Go.RowKit Go.Emb

theorem keyI : KeyEnc Try.prog 2 (Value.int .i64) where
  same := ⟨.int .i64, Try.underlying2, fun x y => by simp [Instr.sameNow]; rw [Bool.eq_iff_iff]; simp⟩
  check := fun em x w => MapKept.run_checkKey Try.underlying2 (by simp [MapKept.IsKey]) em 9999
  stays := fun x w => MapKept.run_keyThatStays (d := .int .i64) (by simp [MapKept.IsKey])

/-- A queue in memory. -/
structure IsQ' (w : World) (q : Nat) (l : List Int) (T : List (Int × Int)) (v : Value) (bi bt : Nat) (o : Option Nat) (pi : List (Int × Value)) : Prop where
  here : w.heap[q]? = some (.cells #[v, .map (some bi), .map (some bt)] 54 (0, 0))
  row : Row w 2 1 v l.length (l.map (Value.int .i64)) o
  mis : MapA (Value.int .i64) w bi pi
  is : ∀ x, mfind pi x = if x ∈ l then some (.bool true) else none
  mt : MapA (Value.int .i64) w bt (T.map fun p => (p.1, Value.int .i64 p.2))
  nd : l.Nodup
  qi : q ≠ bi
  qt : q ≠ bt
  it : bi ≠ bt
  ob : ∀ b, o = some b → b ≠ q ∧ b ≠ bi ∧ b ≠ bt

def IsQ (w : World) (q : Nat) (l : List Int) (T : List (Int × Int)) (F : List Nat) : Prop :=
  ∃ v bi bt o pi, IsQ' w q l T v bi bt o pi ∧ F = q :: bi :: bt :: o.toList

set_option maxHeartbeats 400000 in
theorem next_some {w : World} {q : Nat} {p : Int} {l : List Int} {T : List (Int × Int)} {F : List Nat} (h : IsQ w q (p :: l) T F) :
    Calls Try.prog 11 #[.pointer (some ⟨q, 0, none⟩)] w fun e w' => e = .returned (.tuple #[.int .i64 p, .bool true]) ∧ IsQ w' q l T F ∧ Keep F w w' := by
  obtain ⟨v, bi, bt, o, pi, h, rfl⟩ := h
  obtain ⟨c0, c1, c2, f0⟩ := cells3 h.here
  obtain ⟨hl, hr⟩ := h.row
  rcases hr with ⟨_, _, hn⟩ | ⟨b, off, cap, cs, rfl, rfl, hb, h1, h2, h3, h5⟩
  · simp at hn
  have hp : w.cell? ⟨b, off, none⟩ = some (.int .i64 p) := by
    have := h5 0 (by simp)
    simp only [Nat.add_zero] at this
    simp [World.cell?, hb, this]
  have hrow := h.row.drop 1 (by simp)
  have hqi := h.qi
  obtain ⟨hbq, hbi, hbt⟩ := h.ob b rfl
  generalize hN : (p :: l).length = N at *
  have hlen : (0 : Int) < (N : Int) := by simp at hN; omega
  have hne : ((N : Int) == 0) = false := by simp; omega
  have hlo : (1 : Int) ≤ (N : Int) := by omega
  have hpost : ∀ w1, MapA (Value.int .i64) w1 bi (mdel pi p) → Keep [bi] (w.setCell ⟨q, 0, none⟩ (.slice (some ⟨b, sliceOff off cap 1 1, none⟩) (N - 1) (cap - 1))) w1 → IsQ w1 q l T (q :: bi :: bt :: [b]) ∧ Keep (q :: bi :: bt :: [b]) w w1 := by
    intro w1 hm hk
    have k0 := Keep.set1 w ⟨q, 0, none⟩ (.slice (some ⟨b, sliceOff off cap 1 1, none⟩) (N - 1) (cap - 1))
    refine ⟨⟨.slice (some ⟨b, sliceOff off cap 1 1, none⟩) (N - 1) (cap - 1), bi, bt, some b, mdel pi p, ⟨?_, ?_, hm, ?_, ?_, (List.nodup_cons.1 h.nd).2, h.qi, h.qt, h.it, h.ob⟩, rfl⟩, ?_⟩
    · exact (hk.block q (by simp [World.setCell]; exact (Array.getElem?_eq_some_iff.1 h.here).1) (by simpa using h.qi)).trans (heap_setCell_at h.here _)
    · have := (hrow.keep k0 (by rintro b' ⟨⟩; simpa using hbq)).keep hk (by rintro b' ⟨⟩; simpa using hbi)
      simp at hN
      subst hN
      simpa using this
    · intro x
      by_cases hx : x = p
      · subst hx
        rw [mfind_del_self, if_neg (List.nodup_cons.1 h.nd).1]
      · rw [mfind_del_other _ hx, h.is x]
        simp [hx]
    · exact (h.mt.keep k0 (by simpa using h.qt.symm)).keep hk (by simpa using h.it.symm)
    · exact (k0.mono (by simp)).trans hk (by simp)
  have HP := Lib.hid hpost
  have HI := Lib.hid h.mis
  clear hpost hN h h5 hb hl hrow
  have hsl : ∀ W, (Instr.slice 22 (.slice (some ⟨b, off, none⟩) N cap) (some (.int .i64 1)) none none).run Try.prog W = .ok (.slice (some ⟨b, sliceOff off cap 1 1, none⟩) (N - 1) (cap - 1)) W := by
    intro W
    exact run_slice_lo W Try.underlying22 (fun _ => by kernel_rfl) b off N cap 1 (by omega)
  go_enter Try.func11, Try.ntmps11
  go_wp2_with (at_delete; refine wpList_mapA_delete _ rfl _ _ 51 2 rfl 4 keyI Try.underlying51 bi pi rfl (HI.out.keep (Keep.set1 _ _ _) (by simpa using hqi.symm)) p rfl ?_; intro w1 hm1 hk1)
  go_ret2
  exact ⟨rfl, HP.out _ hm1 hk1⟩

theorem next_none {w : World} {q : Nat} {T : List (Int × Int)} {F : List Nat} (h : IsQ w q [] T F) :
    Calls Try.prog 11 #[.pointer (some ⟨q, 0, none⟩)] w fun e w' => e = .returned (.tuple #[.int .i64 0, .bool false]) ∧ w = w' := by
  obtain ⟨v, bi, bt, o, pi, h, rfl⟩ := h
  obtain ⟨c0, c1, c2, f0⟩ := cells3 h.here
  obtain ⟨a, cap, hv⟩ : ∃ a cap, v = .slice a 0 cap := by
    rcases h.row.2 with ⟨_, hv, _⟩ | ⟨b, off, cap, cs, _, hv, _⟩
    · exact ⟨_, _, hv⟩
    · exact ⟨_, _, hv⟩
  subst hv
  clear h c1 c2 f0
  go_enter Try.func11, Try.ntmps11
  go_wp2_with fail
  go_ret2
  exact ⟨rfl, rfl⟩

theorem next_nil (w : World) : Calls Try.prog 11 #[.pointer none] w fun e w' => e = .returned (.tuple #[.int .i64 0, .bool false]) ∧ w = w' := by
  go_enter Try.func11, Try.ntmps11
  go_wp2_with fail
  go_ret2
  exact ⟨rfl, rfl⟩

/-- A new queue. -/
def NewQ (w : World) (e : Ending) (w' : World) : Prop := ∃ q F, e = .returned (.pointer (some ⟨q, 0, none⟩)) ∧ IsQ w' q [] [] F ∧ Keep [] w w' ∧ ∀ b ∈ F, w.heap.size ≤ b

theorem new_any (w : World) : Calls Try.prog 8 #[] w (NewQ w) := by
  have hmm := @run_makeMap Try.prog
  go_enter Try.func8, Try.ntmps8
  go_wp2_with fail
  go_ret
  refine ⟨w.heap.size + 2, [w.heap.size + 2, w.heap.size, w.heap.size + 1], rfl, ⟨.slice none 0 0, w.heap.size, w.heap.size + 1, none, [], ⟨?_, Row.nil _ _ _, ?_, by simp [mfind], ?_, List.nodup_nil, by omega, by omega, by omega, by simp⟩, rfl⟩, (((Keep.refl _ _).alloc _).alloc _).alloc _, by simp⟩
  · have := heap_alloc_new ((w.alloc (.map #[] 0)).alloc (.map #[] 0)) (.cells #[.slice none 0 0, .map (some w.heap.size), .map (some (w.heap.size + 1))] 54)
    simpa using this
  · exact ((MapA.made (Value.int .i64) w).keep ((Keep.refl [] _).alloc _) (by simp)).keep ((Keep.refl [] _).alloc _) (by simp)
  · have := MapA.made (Value.int .i64) (w.alloc (.map #[] 0))
    rw [World.size_alloc] at this
    exact this.keep ((Keep.refl [] _).alloc _) (by simp)

/-- What waits behind a Ready. -/
def add1 (l : List Int) (p : Int) : List Int := if p ∈ l then l else l ++ [p]
def addAll (l : List Int) (xs : List Int) : List Int := xs.foldl add1 l
theorem add1_le (l : List Int) (p : Int) : l.length ≤ (add1 l p).length ∧ (add1 l p).length ≤ l.length + 1 := by
  unfold add1; split <;> simp
theorem addAll_le : ∀ (xs l : List Int), l.length ≤ (addAll l xs).length ∧ (addAll l xs).length ≤ l.length + xs.length
  | [], l => by simp [addAll]
  | x :: xs, l => by
    have h1 := add1_le l x
    have h2 := addAll_le xs (add1 l x)
    simp only [addAll, List.foldl_cons, List.length_cons] at *
    omega

/-- one pid more -/
theorem isQ_push {w : World} {q : Nat} {l : List Int} {T : List (Int × Int)} {v : Value} {bi bt : Nat} {o : Option Nat} {pi : List (Int × Value)} (h : IsQ' w q l T v bi bt o pi) {p : Int} (hp : p ∉ l) {w1 w2 : World} {g off cap : Nat} {m : Nat}
    (k1 : Keep [bi] w w1) (hm : MapA (Value.int .i64) w1 bi (mput pi p (.bool true))) (hrow : Row w2 2 1 (.slice (some ⟨g, off, none⟩) m cap) m (l.map (Value.int .i64) ++ [.int .i64 p]) (some g))
    (hmm : m = l.length + 1) (k2 : Keep o.toList w1 w2) (hg : o = some g ∨ w1.heap.size ≤ g) (u : Value) (hu : u = .slice (some ⟨g, off, none⟩) m cap) :
    IsQ (w2.setCell ⟨q, 0, none⟩ u) q (l ++ [p]) T (q :: bi :: bt :: [g]) ∧ Keep (q :: bi :: bt :: o.toList) w (w2.setCell ⟨q, 0, none⟩ u) ∧ (g ∈ o.toList ∨ w.heap.size ≤ g) := by
  subst hu
  have hlt := (Array.getElem?_eq_some_iff.1 h.here).1
  have hbi := h.mis.lt
  have hbt := h.mt.lt
  have hq1 : q < w1.heap.size := Nat.lt_of_lt_of_le hlt k1.size
  have hgne : g ≠ q ∧ g ≠ bi ∧ g ≠ bt := by
    rcases hg with rfl | hg
    · exact h.ob g rfl
    · have := k1.size; omega
  have hqo : q ∉ o.toList := by intro hq; cases o with | none => simp at hq | some b => simp at hq; exact (h.ob b rfl).1 hq.symm
  have hio : bi ∉ o.toList := by intro hq; cases o with | none => simp at hq | some b => simp at hq; exact (h.ob b rfl).2.1 hq.symm
  have hto : bt ∉ o.toList := by intro hq; cases o with | none => simp at hq | some b => simp at hq; exact (h.ob b rfl).2.2 hq.symm
  have hq2 : w2.heap[q]? = some (.cells #[v, .map (some bi), .map (some bt)] 54 (0, 0)) :=
    (k2.block q hq1 hqo).trans ((k1.block q hlt (by simpa using h.qi)).trans h.here)
  have k3 := Keep.set1 w2 ⟨q, 0, none⟩ (.slice (some ⟨g, off, none⟩) m cap)
  refine ⟨⟨_, bi, bt, some g, mput pi p (.bool true), ⟨heap_setCell_at hq2 _, ?_, ?_, ?_, ?_, ?_, h.qi, h.qt, h.it, by rintro b ⟨⟩; exact hgne⟩, rfl⟩, ?_, ?_⟩
  · have := hrow.keep k3 (by rintro b ⟨⟩; simpa using hgne.1)
    subst hmm
    simpa using this
  · exact (hm.keep k2 hio).keep k3 (by simpa using h.qi.symm)
  · intro x
    by_cases hx : x = p
    · subst hx
      rw [mfind_put_self]
      simp
    · rw [mfind_put_other _ _ hx, h.is x]
      simp [hx]
  · exact ((h.mt.keep k1 (by simpa using h.it.symm)).keep k2 hto).keep k3 (by simpa using h.qt.symm)
  · rw [List.nodup_append]
    exact ⟨h.nd, by simp, by rintro a ha b hb rfl; simp at hb; subst hb; exact hp ha⟩
  · exact ((k1.mono (by simp)).trans k2 (by intro x hx; left; simp at hx ⊢; right; right; right; exact hx)).trans k3 (by simp)
  · rcases hg with rfl | hg
    · left; simp
    · right; have := k1.size; omega


theorem i64_info : (Try.prog.info? 2).map (fun i => (i.zero, i.size, i.bytes)) = some (some (.int .i64 0), 1, 8) := by kernel_rfl

theorem one_src {P : Program} {tx e' : TypeId} (hk : P.underlying tx = some (.slice e')) (w : World) (x : Value) (hx : x.oneCell' = true) (t : TypeId) : Src P 1 tx (.slice (some ⟨w.heap.size, 0, none⟩) 1 1) 1 [x] (w.alloc (.cells #[x] t)) :=
  Src.ofSlice _ hk _ 1 1 [x] rfl (fun j u hu => by
    cases j with
    | zero => simp at hu; subst hu; simp [Addr.add]
    | succ j => simp at hu) (by simpa using hx)

/-- What Ready leaves. -/
def ReadyPost (w : World) (q : Nat) (l xs : List Int) (T : List (Int × Int)) (F : List Nat) (e : Ending) (w' : World) : Prop :=
  e = .returned (.int .i64 (((addAll l xs).length : Int) - l.length)) ∧ (∃ F', IsQ w' q (addAll l xs) T F' ∧ ∀ b ∈ F', b ∈ F ∨ w.heap.size ≤ b) ∧ Keep F w w'

def ReadyRel (w : World) (q : Nat) (l xs : List Int) (T : List (Int × Int)) (F : List Nat) (k : Nat) (w' : World) : Prop :=
  (∃ F', IsQ w' q (addAll l (xs.take k)) T F' ∧ ∀ b ∈ F', b ∈ F ∨ w.heap.size ≤ b) ∧ Keep F w w'

theorem addAll_snoc (l xs : List Int) (p : Int) : addAll l (xs ++ [p]) = add1 (addAll l xs) p := by simp [addAll]

theorem row_c1 {w : World} {q : Nat} {l : List Int} {T : List (Int × Int)} {v : Value} {bi bt : Nat} {o : Option Nat} {pi : List (Int × Value)} (h : IsQ' w q l T v bi bt o pi) {w1 : World} (hk : Keep [bi] w w1) (ob : Obj) : Row (w1.alloc ob) 2 1 v l.length (l.map (Value.int .i64)) o :=
  (h.row.keep hk (fun b hb => by simpa using (h.ob b hb).2.1)).keep ((Keep.refl [] _).alloc _) (by simp)

theorem row_c2 {w : World} {q : Nat} {l : List Int} {T : List (Int × Int)} {v : Value} {bi bt : Nat} {o : Option Nat} {pi : List (Int × Value)} (h : IsQ' w q l T v bi bt o pi) {w1 w2 : World} {ob : Obj} (hk : Keep [bi] w w1) (hk2 : Keep o.toList (w1.alloc ob) w2) :
    Keep o.toList w1 w2 ∧ w2.heap[q]? = some (.cells #[v, .map (some bi), .map (some bt)] 54 (0, 0)) := by
  have hlt := (Array.getElem?_eq_some_iff.1 h.here).1
  have hqo : q ∉ o.toList := by intro hq; cases o with | none => simp at hq | some b => simp at hq; exact (h.ob b rfl).1 hq.symm
  have k2 : Keep o.toList w1 w2 := ((Keep.refl _ _).alloc ob).trans hk2 (fun x hx => .inl hx)
  exact ⟨k2, (k2.block q (Nat.lt_of_lt_of_le hlt hk.size) hqo).trans ((hk.block q hlt (by simpa using h.qi)).trans h.here)⟩

set_option maxHeartbeats 800000 in
theorem ready_any {w : World} {q : Nat} {l : List Int} {T : List (Int × Int)} {F : List Nat} (h : IsQ w q l T F) {v : Value} {xs : List Int} {o : Option Nat} (ha : Rd w 1 v xs.length (xs.map (Value.int .i64)) o) (ho : ∀ b, o = some b → b ∉ F)
    (hsz : l.length + xs.length ≤ 1000000000) : Calls Try.prog 9 #[.pointer (some ⟨q, 0, none⟩), v] w (ReadyPost w q l xs T F) := by
  obtain ⟨hl, a, c, rfl, h1, h2, h3⟩ := ha
  obtain ⟨i0, hi, hz0, hz1, hz2⟩ := info_parts i64_info
  have hstart : ReadyRel w q l xs T F 0 w := ⟨⟨F, by simpa [addAll] using h, fun b hb => .inl hb⟩, Keep.refl _ _⟩
  have H3 := Lib.hid h3
  have HO := Lib.hid ho
  have HI := Lib.hid hi
  have HL := Lib.hid hl
  clear h3 ho h hi hl
  go_enter Try.func9, Try.ntmps9
  go_wp2_with fail
  go_loopw [4, 11] (fun n i wr => ∃ k : Nat, k ≤ xs.length ∧ i = .int .i64 k ∧ n = .int .i64 (((addAll l (xs.take k)).length : Int) - l.length) ∧ ReadyRel w q l xs T F k wr) (fun _ i _ => xs.length - (intOf i).toNat)
  case atStart => exact ⟨0, Nat.zero_le _, rfl, by simp [addAll], hstart⟩
  case round =>
    obtain ⟨k, hk, rfl, rfl, hrel⟩ := hrel
    by_cases hlt : k < xs.length
    · rcases H3.out with ⟨h0, _⟩ | ⟨b, off, rfl, rfl, h3⟩
      · omega
      obtain ⟨⟨F', hq, hF⟩, hK⟩ := hrel
      obtain ⟨v', bi, bt, o', pi, hq, rfl⟩ := hq
      obtain ⟨c0, c1, c2, f0⟩ := cells3 hq.here
      have hcell : wr.cell? ⟨b, off + k, none⟩ = some (.int .i64 xs[k]) := by
        have hb := h3 k (by omega)
        rw [List.getElem?_map, List.getElem?_eq_getElem hlt] at hb
        rw [hK.cell (p := ⟨b, off + k, none⟩) (World.block_lt_of_cell? _ _ hb) (HO.out b rfl), hb]
        rfl
      have hle := addAll_le (xs.take k) l
      have hsn : addAll l (xs.take (k + 1)) = add1 (addAll l (xs.take k)) xs[k] := by rw [List.take_succ_eq_append_getElem hlt, addAll_snoc]
      have hzb : ∀ w, (zeroValue 4).run Try.prog w = .ok (.bool false) w := fun _ => by kernel_rfl
      have HS := Lib.hid hsn
      have hlk : (xs.take k).length ≤ k := List.length_take_le _ _
      generalize hL : addAll l (xs.take k) = L at *
      generalize hp : xs[k] = p at *
      have HQ := Lib.hid hq
      have HK := Lib.hid hK
      have HF := Lib.hid hF
      clear hsn hL h3 hq hK hF hp
      by_cases hin : p ∈ L
      · have hmf : mfind pi p = some (.bool true) := by rw [HQ.out.is, if_pos hin]
        go_wp2_with (at_lookup; refine wpList_mapA_look _ rfl _ _ 51 rfl 2 4 keyI Try.underlying51 (hzb _) bi pi rfl HQ.out.mis p rfl ?_)
        go_roundw
        case rel => exact ⟨k + 1, by omega, by go_num, by rw [HS.out, add1, if_pos hin], ⟨⟨_, by rw [HS.out, add1, if_pos hin]; exact ⟨_, _, _, _, _, HQ.out, rfl⟩, HF.out⟩, HK.out⟩⟩
        case measure => simp [intOf]; omega
      · have hmf : mfind pi p = none := by rw [HQ.out.is, if_neg hin]
        go_wp2_with (first
          | (at_lookup; refine wpList_mapA_look _ rfl _ _ 51 rfl 2 4 keyI Try.underlying51 (hzb _) bi pi rfl HQ.out.mis p rfl ?_)
          | (at_mapUpdate; refine wpList_mapA_update _ rfl _ _ _ 51 rfl 2 4 keyI Try.underlying51 bi pi rfl HQ.out.mis p rfl _ rfl ?_; intro w1 hm1 hk1; have hq1 := (hk1.block q (Array.getElem?_eq_some_iff.1 HQ.out.here).1 (by simpa using HQ.out.qi)).trans HQ.out.here; obtain ⟨d0, d1, d2, g0⟩ := cells3 hq1; have HQ1 := Lib.hid hq1; have HM1 := Lib.hid hm1; have HK1 := Lib.hid hk1; clear hq1 hm1 hk1)
          | (at_builtin; refine wpList_append_row _ rfl _ _ 22 22 rfl 2 i0 (.int .i64 0) 1 8 Try.underlying22 HI.out hz0 hz1 hz2 rfl v' L.length (L.map (Value.int .i64)) o' rfl (row_c1 HQ.out HK1.out _) _ rfl 1 [.int .i64 p] (one_src Try.underlying22 _ _ rfl _) (by omega) (by unfold maxLen; omega) (by omega) ?_; intro g off2 cap w2 hrow2 hk2 hg2; obtain ⟨k2, hq2⟩ := row_c2 HQ.out HK1.out hk2; obtain ⟨e0, e1, e2, f2⟩ := cells3 hq2; have HR2 := Lib.hid hrow2; have HK2 := Lib.hid k2; have HG2 := Lib.hid hg2; clear hrow2 hk2 k2 hg2 hq2))
        go_roundw
        case rel =>
          obtain ⟨r1, r2, r3⟩ := isQ_push HQ.out hin HK1.out HM1.out HR2.out rfl HK2.out (HG2.out.imp id (fun h => by simp at h; omega)) _ rfl
          refine ⟨k + 1, by omega, by go_num, ?_, ⟨⟨_, by rw [HS.out, add1, if_neg hin]; exact r1, ?_⟩, HK.out.trans r2 HF.out⟩⟩
          · rw [HS.out, add1, if_neg hin, List.length_append]; go_num
          · intro x hx
            have hs := HK.out.size
            simp only [List.mem_cons, List.not_mem_nil, or_false] at hx
            rcases hx with rfl | rfl | rfl | rfl
            · exact HF.out _ (by simp)
            · exact HF.out _ (by simp)
            · exact HF.out _ (by simp)
            · rcases r3 with h | h
              · exact HF.out _ (by simp; right; right; right; simpa using h)
              · right; omega
        case measure => simp [intOf]; omega
    · have hkk : k = xs.length := by omega
      have Hk := Lib.hid hkk
      clear hkk
      go_wp2_with fail
      go_ret
      obtain ⟨h1, h2⟩ := hrel
      rw [Hk.out, List.take_length] at *
      exact ⟨rfl, h1, h2⟩

end Go.Proofs.Ytphfmbkfcjiciaa
