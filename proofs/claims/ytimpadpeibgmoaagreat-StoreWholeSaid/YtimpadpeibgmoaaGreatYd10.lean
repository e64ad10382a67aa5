/- A part of the proof (Mn21, Mn22), joined by squeeze2.py. -/
import Derived.Test.YtimpadpeibgmoaaGreatYd09
import Derived.Test.YtimpadpeibgmoaaGreatYd04
import Derived.Laws.EntriesVeiled
import Derived.Lib.ConvBytes
import Derived.Laws.Rows
set_option maxHeartbeats 8000000
set_option maxRecDepth 100000
namespace Go.Proofs.YtimpadpeibgmoaaGreat
open Go.RowKit Go.Emb
theorem conv_bytes {P : Program} (w : World) (src dst e : TypeId) (s : ByteArray) {u : TypeDesc} (hs : P.underlying src = some u) (hd : P.underlying dst = some (.slice e)) (he : P.underlying e = some (.int .u8)) (hsz : s.size ≤ 1000000000) :
  ∃ c w', (convert src dst (.string s)).run P w = .ok (.slice (some ⟨w.heap.size, 0, none⟩) s.size c) w' ∧ Rd w' 1 (.slice (some ⟨w.heap.size, 0, none⟩) s.size c) s.data.toList.length (Lib.byteCells s.data.toList) (some w.heap.size) ∧ Keep [] w w' ∧ w'.heap.size = w.heap.size + 1 := by
 refine ⟨_, _, Lib.run_convert_string_bytes w src dst e s hs hd he, ?_, ?_, Lib.bytesWorld_size w e s⟩
 ·have hl : s.data.toList.length = s.size := by simp
  rw [hl]
  refine ⟨by simp [Lib.byteCells], _, _, rfl, grownCap_ge w s.size 0 e, grownCap_le_maxLen w s.size 0 e (by simp only [maxLen]; omega), .inr ⟨w.heap.size, 0, rfl, rfl, fun i hi => ?_⟩⟩
  rw [Nat.zero_add, Lib.bytesWorld_cell w e s i (by omega)]
  have hi' : i < s.data.toList.length := by omega
  simp only [Lib.byteCells, List.getElem?_map, List.getElem?_eq_getElem hi', Option.map_some, List.getD_eq_getElem?_getD, Option.getD_some]
 ·exact ⟨rfl, rfl, rfl, by rw [Lib.bytesWorld_size]; omega, fun b hb _ => Lib.bytesWorld_at_old w e s b hb⟩
theorem results_cell_tmp {P : Program} {fn : Func} {p t : Tmp} {ty : TypeId} (h : fn.results = #[.cell p ty, .tmp t]) (tmps : Array Value) (w : World) (g : Nat) (tt : TypeId) (cs : Array Value) (fr : Nat × Nat) (d : TypeDesc)
  (hp : tmps.getD p undef = .pointer (some ⟨g, 0, none⟩)) (hg : w.heap[g]? = some (.cells cs tt fr))
  (hu : P.underlying ty = some d) (hd : (match d with | .struct _ | .array _ _ => true | _ => false) = true) (hi : (P.info? ty).map (·.size) = some cs.size) :
  (results fn tmps).run P w = .ok (.tuple #[.agg cs, tmps.getD t undef]) w := by
 have hp' : tmps[p]?.getD undef = .pointer (some ⟨g, 0, none⟩) := by simpa using hp
 simp [results, h, hp', asAddr, run_loadVar_row w g tt ty cs fr d hg hu hd hi]
theorem man_size : (Tryz.prog.info? 38).map (·.size) = some 5 := by kernel_rfl
def PlacesI (w0 : World) (av : List Nat) (q rb eb tb : Nat) (bs : List UInt8) (v : Value) (bo : Option Nat) (mb : Nat) (ro : Option Nat) (x : MnV) (st : Option (List UInt8)) (ps : List Plc) (w : World) : Prop :=
 GI w0 av w q rb eb tb bs v bo st ∧ ∃ po pv xs, xs.map (·.p) = ps ∧ MSep av w0.heap.size w mb ro po { x with pv := pv, places := xs }
theorem p_places {w0 w : World} {av : List Nat} {q rb eb tb : Nat} {bs : List UInt8} {v : Value} {bo : Option Nat} {mb : Nat} {ro : Option Nat} {x : MnV} {st : Option (List UInt8)} (h : PlacesI w0 av q rb eb tb bs v bo mb ro x st [] w) (hsz : bs.length ≤ 100000000) :
  Calls Tryz.prog 96 #[.func (.func 102) #[] #[.pointer (some ⟨rb, 0, none⟩), .pointer (some ⟨tb, 0, none⟩), .pointer (some ⟨eb, 0, none⟩), .pointer (some ⟨mb, 0, none⟩)], .pointer (some ⟨rb, 0, none⟩)] w fun e w' => e = .returned (.tuple #[]) ∧ PlacesI w0 av q rb eb tb bs v bo mb ro x (oMany gPlc (oNum false st).1 (oNum false st).2.2).2 (oMany gPlc (oNum false st).1 (oNum false st).2.2).1 w' := by
 have eg : ∀ args w, (callFunc 102 args).run Tryz.prog w = .ok (.enter 102 args) w := enters_of Tryz.func102 (by kernel_rfl) rfl
 exact p_times gPlc_less _ _ eg (I := fun st ps w => PlacesI w0 av q rb eb tb bs v bo mb ro x st ps w) (fun st xs w h => ⟨h.1.tape, h.1.hrb⟩) (fun st st' xs w w' h hk ht => by
     obtain ⟨h1, po, pv, ys, h2, h3⟩ := h
     exact ⟨h1.turn hk ht, po, pv, ys, h2, h3.keep hk (fun b hb => .inl (by simp at hb; subst hb; exact h1.qav))⟩)
  (fun l ps w hl h => by
    obtain ⟨h1, po, pv, ys, h2, h3⟩ := h
    have hyl : ys.length = ps.length := by rw [← h2]; simp
    refine (p_place h1 h3 (by simp only; omega) (by omega)).mono ?_
    rintro e w' ⟨rfl, h4, po', pv', y, hy, h5⟩
    exact ⟨rfl, h4, po', pv', ys ++ [y], by rw [List.map_append, h2, ← hy]; rfl, h5⟩) h
theorem flat_count {α : Type} {f : α → List UInt8} (h : ∀ x, 1 ≤ (f x).length) : ∀ l : List α, l.length ≤ (l.flatMap f).length
 | [] => Nat.le_refl _
 | x :: l => by
  have := flat_count h l
  have := h x
  simp only [List.flatMap_cons, List.length_append, List.length_cons]
  omega
theorem flat_mem {α : Type} {f : α → List UInt8} : ∀ (l : List α) (x : α), x ∈ l → (f x).length ≤ (l.flatMap f).length
 | [], x, h => by cases h
 | y :: l, x, h => by
  simp only [List.flatMap_cons, List.length_append]
  rcases List.mem_cons.1 h with rfl | h
  ·omega
  ·have := flat_mem (f := f) l x h; omega
theorem intL_length (n : Int) : 1 ≤ (intL n).length := by
 unfold intL
 split
 ·exact (numL_length _ _).2
 ·exact (numL_length _ _).2
theorem man_bounds (m : Man) : m.source.length ≤ (manL m).length ∧ m.rest.length ≤ (manL m).length ∧ m.places.length ≤ (manL m).length ∧ ∀ p ∈ m.places, p.pieces.length ≤ (manL m).length := by
 have h1 : ∀ p, 1 ≤ (plcL p).length := fun p => by
  have := intL_length p.pid
  unfold plcL; simp only [List.length_append]; omega
 have h2 := flat_count h1 m.places
 have hL : (manL m).length = (strL m.source).length + (extL m.area).length + (strL m.rest).length + (numL m.places.length 0).length + (m.places.flatMap plcL).length := by unfold manL; simp only [List.length_append]
 refine ⟨?_, ?_, by omega, fun p hp => ?_⟩
 ·rw [hL]; unfold strL; simp only [List.length_append]; omega
 ·rw [hL]; unfold strL; simp only [List.length_append]; omega
 ·have h3 := flat_mem (f := plcL) m.places p hp
  have h4 := flat_count (f := extL) (fun x => by have := intL_length x.1; unfold extL; simp only [List.length_append]; omega) p.pieces
  have h5 : (p.pieces.flatMap extL).length ≤ (plcL p).length := by unfold plcL; simp only [List.length_append]; omega
  omega
theorem MSep.mrd {av : List Nat} {B : Nat} {w : World} {mb : Nat} {ro po : Option Nat} {x : MnV} (h : MSep av B w mb ro po x) (hok : ManOk x.man) (hl : (manL x.man).length ≤ 1000000000) : MRd (fun b => B ≤ b) w x := by
 obtain ⟨b1, b2, b3, b4⟩ := man_bounds x.man
 obtain ⟨k1, k2, k3, k4, k5⟩ := hok
 have hs : x.s.size = x.man.source.length := by simp [MnV.man]
 have hp : x.man.places.length = x.places.length := by simp [MnV.man]
 have hr : x.man.rest = x.rest := rfl
 obtain ⟨o, hrd, ho⟩ := h.row.rd
 refine ⟨by omega, k2, ⟨⟨ro, h.rest, fun b hb => ⟨(h.ron b hb).2.1, (h.ron b hb).1⟩⟩, by rw [hr] at b2; omega⟩, ⟨⟨o, hrd, fun b hb => ?_⟩, fun y hy => ?_, by omega⟩⟩
 ·rcases ho with h1 | h1
  ·rw [h1] at hb; cases hb
  ·exact ⟨h.row.lt b (h1 ▸ hb), (h.pon b (h1 ▸ hb)).1⟩
 ·have hm : y.p ∈ x.man.places := List.mem_map.2 ⟨y, hy, rfl⟩
  obtain ⟨q1, q2, q3, q4⟩ := k5 _ hm
  have q5 := b4 _ hm
  obtain ⟨o2, h1, h2⟩ := h.pcs y hy
  exact ⟨q1, q2, ⟨o2, h1, fun b hb => ⟨(h2 b hb).2.1, (h2 b hb).1⟩⟩, q4, by omega⟩
theorem MSep.store {av : List Nat} {B : Nat} {w w' : World} {mb : Nat} {ro po : Option Nat} {x : MnV} (h : MSep av B w mb ro po x) (hk : Keep [mb] w w') {s' : ByteArray} {ar : Int × Int} (hb : w'.heap[mb]? = some (.cells #[.string s', .int .i64 ar.1, .int .i64 ar.2, x.rv, x.pv] 38)) : MSep av B w' mb ro po { x with s := s', area := ar } where
 box := hb
 rest := h.rest.keep hk (fun b hb hm => (h.ron b hb).2.2.2.1 (by simpa using hm))
 row := h.row.keep hk (fun b hb hm => (h.pon b hb).2.2 (by simpa using hm))
 pcs := fun y hy => by
  obtain ⟨o, h1, h2⟩ := h.pcs y hy
  exact ⟨o, h1.keep hk (fun b hb hm => (h2 b hb).2.2.2.1 (by simpa using hm)), fun b hb => ⟨(h2 b hb).1, Nat.lt_of_lt_of_le (h2 b hb).2.1 hk.size, (h2 b hb).2.2⟩⟩
 mbn := h.mbn
 mbB := h.mbB
 ron := fun b hb => ⟨(h.ron b hb).1, Nat.lt_of_lt_of_le (h.ron b hb).2.1 hk.size, (h.ron b hb).2.2⟩
 pon := h.pon
theorem MSep.setRest {av : List Nat} {B : Nat} {w w' : World} {mb : Nat} {ro po ro' : Option Nat} {x : MnV} {rv' : Value} {rest' : List UInt8} (h : MSep av B w mb ro po x) (hk : Keep [mb] w w') (hb : w'.heap[mb]? = some (.cells #[.string x.s, .int .i64 x.area.1, .int .i64 x.area.2, rv', x.pv] 38))
  (hrd : Rd w 1 rv' rest'.length (Lib.byteCells rest') ro') (hro : ∀ b, ro' = some b → B ≤ b ∧ b < w.heap.size ∧ b ∉ av ∧ b ≠ mb ∧ po ≠ some b) : MSep av B w' mb ro' po { x with rv := rv', rest := rest' } where
 box := hb
 rest := hrd.keep hk (fun b hb hm => (hro b hb).2.2.2.1 (by simpa using hm))
 row := h.row.keep hk (fun b hb hm => (h.pon b hb).2.2 (by simpa using hm))
 pcs := fun y hy => by
  obtain ⟨o, h1, h2⟩ := h.pcs y hy
  exact ⟨o, h1.keep hk (fun b hb hm => (h2 b hb).2.2.2.1 (by simpa using hm)), fun b hb => ⟨(h2 b hb).1, Nat.lt_of_lt_of_le (h2 b hb).2.1 hk.size, (h2 b hb).2.2⟩⟩
 mbn := h.mbn
 mbB := h.mbB
 ron := fun b hb => ⟨(hro b hb).1, Nat.lt_of_lt_of_le (hro b hb).2.1 hk.size, (hro b hb).2.2⟩
 pon := h.pon
theorem MSep.cells {av : List Nat} {B : Nat} {w : World} {mb : Nat} {ro po : Option Nat} {x : MnV} (h : MSep av B w mb ro po x) : w.cell? ⟨mb, 0, none⟩ = some (.string x.s) ∧ w.cell? ⟨mb, 1, none⟩ = some (.int .i64 x.area.1) ∧ w.cell? ⟨mb, 2, none⟩ = some (.int .i64 x.area.2) ∧ w.cell? ⟨mb, 3, none⟩ = some x.rv ∧ w.cell? ⟨mb, 4, none⟩ = some x.pv ∧ (∀ i, w.frozen? ⟨mb, i, none⟩ = false) := by
 refine ⟨?_, ?_, ?_, ?_, ?_, fun i => ?_⟩ <;> simp [World.cell?, World.frozen?, h.box]
theorem size_alloc (w : World) (o : Obj) : (w.alloc o).heap.size = w.heap.size + 1 := by simp
def man0 : MnV := ⟨⟨#[]⟩, (0, 0), .slice none 0 0, [], .slice none 0 0, []⟩
theorem get_start {w w1 w2 : World} {q : Nat} {bs : List UInt8} {v : Value} {bo : Option Nat} {st : Option (List UInt8)} (hk1 : Keep [] w w1) (hs : w1.heap.size = w.heap.size + 1) (hm : w1.heap[w.heap.size]? = some (.cells #[.string ⟨#[]⟩, .int .i64 0, .int .i64 0, .slice none 0 0, .slice none 0 0] 38)) (ht : TSt 187 w2 q bs v bo st) (hq : w1.heap.size ≤ q) (hbo : ∀ b, bo = some b → w1.heap.size ≤ b) (hblt : ∀ b, bo = some b → b < w2.heap.size ∧ b ≠ q) (hk2 : Keep [] w1 w2) :
  GI w ([q, w2.heap.size, w2.heap.size + 1 + 1, w2.heap.size + 1] ++ bo.toList) (((w2.alloc (.cells #[.pointer (some ⟨q, 0, none⟩)] 159)).alloc (.cells #[.func (.func 96) #[] #[.pointer (some ⟨w2.heap.size, 0, none⟩)]] 164)).alloc (.cells #[.func (.func 99) #[] #[.pointer (some ⟨w2.heap.size, 0, none⟩)]] 73)) q w2.heap.size (w2.heap.size + 1 + 1) (w2.heap.size + 1) bs v bo st ∧
  MSep ([q, w2.heap.size, w2.heap.size + 1 + 1, w2.heap.size + 1] ++ bo.toList) w.heap.size (((w2.alloc (.cells #[.pointer (some ⟨q, 0, none⟩)] 159)).alloc (.cells #[.func (.func 96) #[] #[.pointer (some ⟨w2.heap.size, 0, none⟩)]] 164)).alloc (.cells #[.func (.func 99) #[] #[.pointer (some ⟨w2.heap.size, 0, none⟩)]] 73)) w.heap.size none none man0 := by
 have hqlt : q < w2.heap.size := by
  obtain ⟨pos, fa, sp, ht, -⟩ := ht
  exact (Array.getElem?_eq_some_iff.1 ht.blk).1
 have hk3 : Keep [] w2 (((w2.alloc (.cells #[.pointer (some ⟨q, 0, none⟩)] 159)).alloc (.cells #[.func (.func 96) #[] #[.pointer (some ⟨w2.heap.size, 0, none⟩)]] 164)).alloc (.cells #[.func (.func 99) #[] #[.pointer (some ⟨w2.heap.size, 0, none⟩)]] 73)) := (((Keep.refl [] w2).alloc _).alloc _).alloc _
 have hb0 := lit_alloc (lit_alloc (heap_new w2 (.cells #[.pointer (some ⟨q, 0, none⟩)] 159)) (.cells #[.func (.func 96) #[] #[.pointer (some ⟨w2.heap.size, 0, none⟩)]] 164)) (.cells #[.func (.func 99) #[] #[.pointer (some ⟨w2.heap.size, 0, none⟩)]] 73)
 have hb1 := lit_alloc (heap_new (w2.alloc (.cells #[.pointer (some ⟨q, 0, none⟩)] 159)) (.cells #[.func (.func 96) #[] #[.pointer (some ⟨w2.heap.size, 0, none⟩)]] 164)) (.cells #[.func (.func 99) #[] #[.pointer (some ⟨w2.heap.size, 0, none⟩)]] 73)
 have hb3 := heap_new ((w2.alloc (.cells #[.pointer (some ⟨q, 0, none⟩)] 159)).alloc (.cells #[.func (.func 96) #[] #[.pointer (some ⟨w2.heap.size, 0, none⟩)]] 164)) (.cells #[.func (.func 99) #[] #[.pointer (some ⟨w2.heap.size, 0, none⟩)]] 73)
 simp only [size_alloc] at hb1 hb3
 have hss : (((w2.alloc (.cells #[.pointer (some ⟨q, 0, none⟩)] 159)).alloc (.cells #[.func (.func 96) #[] #[.pointer (some ⟨w2.heap.size, 0, none⟩)]] 164)).alloc (.cells #[.func (.func 99) #[] #[.pointer (some ⟨w2.heap.size, 0, none⟩)]] 73)).heap.size = w2.heap.size + 1 + 1 + 1 := by simp only [size_alloc]
 have hsz := hk2.size
 generalize (((w2.alloc (.cells #[.pointer (some ⟨q, 0, none⟩)] 159)).alloc (.cells #[.func (.func 96) #[] #[.pointer (some ⟨w2.heap.size, 0, none⟩)]] 164)).alloc (.cells #[.func (.func 99) #[] #[.pointer (some ⟨w2.heap.size, 0, none⟩)]] 73)) = w3 at *
 refine ⟨⟨ht.keep0 hk3, hb0, hb3, hb1, rfl, ⟨by omega, by omega, by omega, fun h => (hblt q h).2 rfl⟩, by omega, fun b hb => ?_, (hk1.trans hk2 (by simp)).trans hk3 (by simp)⟩, ⟨?_, ⟨rfl, none, 0, rfl, Nat.le_refl _, by simp [maxLen], .inl ⟨rfl, rfl⟩⟩, Row.nil _ _ _, fun y hy => by simp [man0] at hy, fun hm => ?_, Nat.le_refl _, fun b hb => (nomatch hb), fun b hb => (nomatch hb)⟩⟩
 ·simp at hb
  rcases hb with rfl | rfl | rfl | rfl | hb
  ·omega
  ·omega
  ·omega
  ·omega
  ·have := (hblt b hb).1; omega
 ·exact blk_keep (blk_keep hm hk2 (by simp)) hk3 (by simp)
 ·simp at hm
  rcases hm with h | h | h | h | h
  ·omega
  ·omega
  ·omega
  ·omega
  ·have := hbo _ h; omega
def GetP (w : World) (bs : List UInt8) (e : Ending) (w' : World) : Prop := Keep [] w w' ∧ (if (oMan bs).2 = some [] then ∃ x : MnV, e = .returned (.tuple #[aggM x, .int .i64 0]) ∧ x.man = (oMan bs).1 ∧ MRd (fun b => w.heap.size ≤ b) w' x else e = .returned (.tuple #[.agg #[.string ⟨#[]⟩, .int .i64 0, .int .i64 0, .slice none 0 0, .slice none 0 0], .int .i64 230]))
theorem p_get {w : World} {v : Value} {bs : List UInt8} {o : Option Nat} (h : Rd w 1 v bs.length (Lib.byteCells bs) o) (ho : ∀ b, o = some b → b < w.heap.size) (hsz : bs.length ≤ 100000000) :
  Calls Tryz.prog 66 #[v] w (GetP w bs) := by
 obtain ⟨-, va, vc, rfl, hc1, hc2, -⟩ := id h
 unfold maxLen at hc2
 have hk1 : Keep [] w (w.alloc (.cells #[.string ⟨#[]⟩, .int .i64 0, .int .i64 0, .slice none 0 0, .slice none 0 0] 38)) := (Keep.refl [] w).alloc _
 have hopen := p_open (h.keep hk1 (by simp)) (by omega)
 have HO := hyd hopen
 have HK1 := hyd hk1
 have HS1 : Hid ((w.alloc (.cells #[.string ⟨#[]⟩, .int .i64 0, .int .i64 0, .slice none 0 0, .slice none 0 0] 38)).heap.size = w.heap.size + 1) := hyd (size_alloc _ _)
 have HMB := hyd (heap_new w (.cells #[.string ⟨#[]⟩, .int .i64 0, .int .i64 0, .slice none 0 0, .slice none 0 0] 38))
 clear hopen h ho
 go_enter Tryz.func66, Tryz.ntmps66
 go_wp2_with fail
 generalize w.alloc (.cells #[.string ⟨#[]⟩, .int .i64 0, .int .i64 0, .slice none 0 0, .slice none 0 0] 38) = w1 at *
 refine HO.o.mono ?_
 rintro e w2 ⟨q, tv, bo, rfl, ht2, hq2, hb2, hbl2, hk2⟩
 go_wp2_with fail
 obtain ⟨hG, hM⟩ := get_start HK1.o HS1.o HMB.o ht2 hq2 hb2 (fun b hb => by
   obtain ⟨pos, fa, sp, ht, -⟩ := ht2
   exact ⟨hbl2 b hb, ht.ne b hb⟩) hk2
 obtain ⟨av, hav⟩ : ∃ a, a = [q, w2.heap.size, w2.heap.size + 1 + 1, w2.heap.size + 1] ++ bo.toList := ⟨_, rfl⟩
 rw [← hav] at hG hM
 have hqa := hG.qav
 have hstr := p_tstr hG.tape
 have HG := hyd hG
 have HM := hyd hM
 have HS := hyd hstr
 have HAV := hyd hav
 clear hG hM hstr ht2 hq2 hb2 hk2 hav hbl2
 generalize (((w2.alloc (.cells #[.pointer (some ⟨q, 0, none⟩)] 159)).alloc (.cells #[.func (.func 96) #[] #[.pointer (some ⟨w2.heap.size, 0, none⟩)]] 164)).alloc (.cells #[.func (.func 99) #[] #[.pointer (some ⟨w2.heap.size, 0, none⟩)]] 73)) = w3 at *
 refine HS.o.mono ?_
 rintro e w4 ⟨rfl, ht4, hk4⟩
 have hG4 := HG.o.turn hk4 ht4
 have hM4 := HM.o.keep hk4 (fun b hb => .inl (by simp at hb; subst hb; exact hqa))
 obtain ⟨m0, m1, m2, m3, m4, mf⟩ := hM4.cells
 have mf0 := mf 0
 have mf1 := mf 1
 have mf2 := mf 2
 have mf3 := mf 3
 have HG4 := hyd hG4
 have HM4 := hyd hM4
 clear ht4 hk4 HS HG HM hG4 hM4 mf
 unfold man0 at m0 m1 m2 m3 m4
 simp only at m0 m1 m2 m3 m4
 have hk5 : Keep [w.heap.size] w4 (w4.setCell ⟨w.heap.size, 0, none⟩ (.string ⟨(oStr (some bs)).1.toArray⟩)) := (Keep.refl _ w4).setCell (.inl (by simp)) _
 have hb5 := heap_setCell_at (i := 0) HM4.o.box (.string ⟨(oStr (some bs)).1.toArray⟩)
 have hM5 := HM4.o.store (ar := (0, 0)) (s' := ⟨(oStr (some bs)).1.toArray⟩) hk5 (by simpa [man0] using hb5)
 have hG5 := HG4.o.next hk5 (fun b hb => by simp at hb; subst hb; exact ⟨HM4.o.mbn, Nat.le_refl _⟩)
 have hex := p_extents hG5.tape hG5.hrb hG5.nq.1 hG5.bolt
 have eg : ∀ args w, (callFunc 99 args).run Tryz.prog w = .ok (.enter 99 args) w := enters_of Tryz.func99 (by kernel_rfl) rfl
 have ce : (w4.setCell ⟨w.heap.size, 0, none⟩ (.string ⟨(oStr (some bs)).1.toArray⟩)).cell? ⟨w2.heap.size + 1 + 1, 0, none⟩ = some (.func (.func 99) #[] #[.pointer (some ⟨w2.heap.size, 0, none⟩)]) := by simp [World.cell?, hG5.heb]
 have HG5 := hyd hG5
 have HM5 := hyd hM5
 have HEX := hyd hex
 clear hk5 hb5 hM5 hG5 hex HG4 HM4
 go_wp2_with fail
 generalize w4.setCell ⟨w.heap.size, 0, none⟩ (.string ⟨(oStr (some bs)).1.toArray⟩) = w5 at *
 refine HEX.o.mono ?_
 rintro e w6 ⟨rfl, ht6, hk6⟩
 clear m0 m1 m2 m3 m4 mf0 mf1 mf2 mf3 ce eg HEX
 have hG6 := HG5.o.turn hk6 ht6
 have hM6 := HM5.o.keep hk6 (fun b hb => .inl (by simp at hb; subst hb; exact hqa))
 obtain ⟨m0, m1, m2, m3, m4, mf⟩ := hM6.cells
 have mf0 := mf 0
 have mf1 := mf 1
 have mf2 := mf 2
 have mf3 := mf 3
 unfold man0 at m0 m1 m2 m3 m4
 simp only at m0 m1 m2 m3 m4
 have hk7 : Keep [w.heap.size] w6 ((w6.setCell ⟨w.heap.size, 1, none⟩ (.int .i64 (oExt (oStr (some bs)).2).1.1)).setCell ⟨w.heap.size, 2, none⟩ (.int .i64 (oExt (oStr (some bs)).2).1.2)) := ((Keep.refl _ w6).setCell (.inl (by simp)) _).setCell (.inl (by simp)) _
 have hb7 := heap_setCell_at (i := 2) (heap_setCell_at (i := 1) hM6.box (.int .i64 (oExt (oStr (some bs)).2).1.1)) (.int .i64 (oExt (oStr (some bs)).2).1.2)
 have hM7 := hM6.store (ar := (oExt (oStr (some bs)).2).1) (s' := ⟨(oStr (some bs)).1.toArray⟩) hk7 (by simpa [man0] using hb7)
 have hG7 := hG6.next hk7 (fun b hb => by simp at hb; subst hb; exact ⟨hM6.mbn, Nat.le_refl _⟩)
 have hstr := p_tstr hG7.tape
 have cr : ((w6.setCell ⟨w.heap.size, 1, none⟩ (.int .i64 (oExt (oStr (some bs)).2).1.1)).setCell ⟨w.heap.size, 2, none⟩ (.int .i64 (oExt (oStr (some bs)).2).1.2)).cell? ⟨w2.heap.size, 0, none⟩ = some (.pointer (some ⟨q, 0, none⟩)) := by simp [World.cell?, hG7.hrb]
 have HG7 := hyd hG7
 have HM7 := hyd hM7
 have HS7 := hyd hstr
 clear hk6 ht6 hG6 hM6 hk7 hb7 hM7 hG7 hstr HG5 HM5 mf
 go_wp2_with fail
 generalize (w6.setCell ⟨w.heap.size, 1, none⟩ (.int .i64 (oExt (oStr (some bs)).2).1.1)).setCell ⟨w.heap.size, 2, none⟩ (.int .i64 (oExt (oStr (some bs)).2).1.2) = w7 at *
 refine HS7.o.mono ?_
 rintro e w8 ⟨rfl, ht8, hk8⟩
 clear m0 m1 m2 m3 m4 mf0 mf1 mf2 mf3 cr HS7
 have hG8 := HG7.o.turn hk8 ht8
 have hM8 := HM7.o.keep hk8 (fun b hb => .inl (by simp at hb; subst hb; exact hqa))
 have HG8 := hyd hG8
 have HM8 := hyd hM8
 clear ht8 hk8 hG8 hM8 HG7 HM7
 go_wp2_with fail
 obtain ⟨cc, w9, hcr, hrd9, hk9, hs9⟩ := conv_bytes (P := Tryz.prog) w8 9 35 5 ⟨(oStr (oExt (oStr (some bs)).2).2).1.toArray⟩ Tryz.underlying9 Tryz.underlying35 Tryz.underlying5 (by
   have := oStr_le (oExt (oStr (some bs)).2).2 bs.length (fun l hl => by
     obtain ⟨l2, h2, h3⟩ := oExt_le hl
     have := oStr_rest h2
     omega)
   show (oStr (oExt (oStr (some bs)).2).2).1.toArray.size ≤ 1000000000
   simp; omega)
 have hcr2 : (convert 9 35 (.string ⟨(oStr (oExt (oStr (some bs)).2).2).1.toArray⟩)).run Tryz.prog w8 = .ok (.slice (some ⟨w8.heap.size, 0, none⟩) (oStr (oExt (oStr (some bs)).2).2).1.length cc) w9 := hcr
 have hrd9' : Rd w9 1 (.slice (some ⟨w8.heap.size, 0, none⟩) (oStr (oExt (oStr (some bs)).2).2).1.length cc) (oStr (oExt (oStr (some bs)).2).2).1.length (Lib.byteCells (oStr (oExt (oStr (some bs)).2).2).1) (some w8.heap.size) := hrd9
 rw [hcr2]
 clear hcr hrd9
 simp only [Result.andThen]
 rw [Oper.upon_value]
 have hG9 := HG8.o.next hk9 (fun b hb => by cases hb)
 have hM9 := HM8.o.keep hk9 (fun b hb => by cases hb)
 obtain ⟨m0, m1, m2, m3, m4, mf⟩ := hM9.cells
 have mf3 := mf 3
 unfold man0 at m0 m1 m2 m3 m4
 simp only at m0 m1 m2 m3 m4
 have hlt8 := HM8.o.lt
 have hk10 : Keep [w.heap.size] w9 (w9.setCell ⟨w.heap.size, 3, none⟩ (.slice (some ⟨w8.heap.size, 0, none⟩) (oStr (oExt (oStr (some bs)).2).2).1.length cc)) := (Keep.refl _ w9).setCell (.inl (by simp)) _
 have hb10 := heap_setCell_at (i := 3) hM9.box (.slice (some ⟨w8.heap.size, 0, none⟩) (oStr (oExt (oStr (some bs)).2).2).1.length cc)
 have hM10 := hM9.setRest (rv' := (.slice (some ⟨w8.heap.size, 0, none⟩) (oStr (oExt (oStr (some bs)).2).2).1.length cc)) (rest' := (oStr (oExt (oStr (some bs)).2).2).1) (ro' := some w8.heap.size) hk10 (by simpa [man0] using hb10) hrd9' (fun b hb => by
   cases hb
   refine ⟨HG8.o.keep.size, by omega, fun hm => ?_, by omega, by simp⟩
   have := HG8.o.lt _ hm; omega)
 have hG10 := hG9.next hk10 (fun b hb => by simp at hb; subst hb; exact ⟨hM9.mbn, Nat.le_refl _⟩)
 have hpi : PlacesI w av q w2.heap.size (w2.heap.size + 1 + 1) (w2.heap.size + 1) bs tv bo w.heap.size (some w8.heap.size) ⟨⟨(oStr (some bs)).1.toArray⟩, (oExt (oStr (some bs)).2).1, (.slice (some ⟨w8.heap.size, 0, none⟩) (oStr (oExt (oStr (some bs)).2).2).1.length cc), (oStr (oExt (oStr (some bs)).2).2).1, .slice none 0 0, []⟩ (oStr (oExt (oStr (some bs)).2).2).2 [] (w9.setCell ⟨w.heap.size, 3, none⟩ (.slice (some ⟨w8.heap.size, 0, none⟩) (oStr (oExt (oStr (some bs)).2).2).1.length cc)) := ⟨hG10, none, .slice none 0 0, [], rfl, hM10⟩
 have hcall := p_places hpi hsz
 have eg : ∀ args w, (callFunc 96 args).run Tryz.prog w = .ok (.enter 96 args) w := enters_of Tryz.func96 (by kernel_rfl) rfl
 have ct : w9.cell? ⟨w2.heap.size + 1, 0, none⟩ = some (.func (.func 96) #[] #[.pointer (some ⟨w2.heap.size, 0, none⟩)]) := by simp [World.cell?, hG9.htb]
 obtain ⟨R, hR⟩ : ∃ R, R = oMany gPlc (oNum false (oStr (oExt (oStr (some bs)).2).2).2).1 (oNum false (oStr (oExt (oStr (some bs)).2).2).2).2.2 := ⟨_, rfl⟩
 have hman : oMan bs = (⟨(oStr (some bs)).1, (oExt (oStr (some bs)).2).1, (oStr (oExt (oStr (some bs)).2).2).1, R.1⟩, R.2) := by rw [hR]; rfl
 rw [← hR] at hcall
 have HC := hyd hcall
 have HMAN := hyd hman
 clear hcr2 hrd9' hk9 hs9 hG9 hM9 mf hk10 hb10 hM10 hG10 hpi hcall hR hman HG8 HM8 hlt8
 go_wp2_with fail
 refine HC.o.mono ?_
 rintro e w11 ⟨rfl, hG11, po, pv, xs, hxs, hM11⟩
 clear m0 m1 m2 m3 m4 mf3 eg ct HC
 have cr : w11.cell? ⟨w2.heap.size, 0, none⟩ = some (.pointer (some ⟨q, 0, none⟩)) := by simp [World.cell?, hG11.hrb]
 have hend := p_end hG11.tape
 have HG11 := hyd hG11
 have HM11 := hyd hM11
 have HXS := hyd hxs
 have HE := hyd hend
 clear hG11 hM11 hxs hend
 go_wp2_with fail
 refine HE.o.mono ?_
 rintro e w12 ⟨E, rfl, hE, hE1, hE2, hk12⟩
 have hG12 := HG11.o.next hk12 (fun b hb => by cases hb)
 have hM12 := HM11.o.keep hk12 (fun b hb => by cases hb)
 obtain ⟨m0, m1, m2, m3, m4, mf⟩ := hM12.cells
 have mf0 := mf 0
 have mf1 := mf 1
 have mf2 := mf 2
 have mf3 := mf 3
 have mf4 := mf 4
 have HG12 := hyd hG12
 have HM12 := hyd hM12
 have HE12 := hyd hE
 clear hG12 hM12 mf hk12 hE HG11 HM11 HE cr
 by_cases h0 : E = 0
 ·subst h0
  have hst := HE12.o.1 rfl
  have hif : (oMan bs).2 = some [] := by rw [HMAN.o]; exact hst
  have hpm := pMan_oMan bs
  rw [if_pos hif] at hpm
  obtain ⟨hb1, hb2⟩ := pMan_inv hpm
  obtain ⟨pa, pn, pc, hpv⟩ : ∃ xa xn xc, pv = .slice xa xn xc := by
   obtain ⟨-, ⟨-, h, -⟩ | ⟨_, _, _, _, -, h, -⟩⟩ := HM12.o.row <;> exact ⟨_, _, _, h⟩
  simp only at m0 m1 m2 m3 m4
  subst hpv
  have HB := hyd (And.intro hif (And.intro hb1 hb2))
  clear hif hb1 hb2 hpm hst
  go_wp2_with fail
  have hk13 : Keep [w.heap.size] w12 (((((w12.setCell ⟨w.heap.size, 0, none⟩ (.string ⟨(oStr (some bs)).1.toArray⟩)).setCell ⟨w.heap.size, 1, none⟩ (.int .i64 (oExt (oStr (some bs)).2).1.1)).setCell ⟨w.heap.size, 2, none⟩ (.int .i64 (oExt (oStr (some bs)).2).1.2)).setCell ⟨w.heap.size, 3, none⟩ (.slice (some ⟨w8.heap.size, 0, none⟩) (oStr (oExt (oStr (some bs)).2).2).1.length cc)).setCell ⟨w.heap.size, 4, none⟩ (.slice pa pn pc)) := (((((Keep.refl _ w12).setCell (.inl (by simp)) _).setCell (.inl (by simp)) _).setCell (.inl (by simp)) _).setCell (.inl (by simp)) _).setCell (.inl (by simp)) _
  have hb13 : (((((w12.setCell ⟨w.heap.size, 0, none⟩ (.string ⟨(oStr (some bs)).1.toArray⟩)).setCell ⟨w.heap.size, 1, none⟩ (.int .i64 (oExt (oStr (some bs)).2).1.1)).setCell ⟨w.heap.size, 2, none⟩ (.int .i64 (oExt (oStr (some bs)).2).1.2)).setCell ⟨w.heap.size, 3, none⟩ (.slice (some ⟨w8.heap.size, 0, none⟩) (oStr (oExt (oStr (some bs)).2).2).1.length cc)).setCell ⟨w.heap.size, 4, none⟩ (.slice pa pn pc)).heap[w.heap.size]? = some (.cells #[(.string ⟨(oStr (some bs)).1.toArray⟩), (.int .i64 (oExt (oStr (some bs)).2).1.1), (.int .i64 (oExt (oStr (some bs)).2).1.2), (.slice (some ⟨w8.heap.size, 0, none⟩) (oStr (oExt (oStr (some bs)).2).2).1.length cc), (.slice pa pn pc)] 38) := by simpa using heap_setCell_at (i := 4) (heap_setCell_at (i := 3) (heap_setCell_at (i := 2) (heap_setCell_at (i := 1) (heap_setCell_at (i := 0) (HM12.o.box) (.string ⟨(oStr (some bs)).1.toArray⟩)) (.int .i64 (oExt (oStr (some bs)).2).1.1)) (.int .i64 (oExt (oStr (some bs)).2).1.2)) (.slice (some ⟨w8.heap.size, 0, none⟩) (oStr (oExt (oStr (some bs)).2).2).1.length cc)) (.slice pa pn pc)
  generalize (((((w12.setCell ⟨w.heap.size, 0, none⟩ (.string ⟨(oStr (some bs)).1.toArray⟩)).setCell ⟨w.heap.size, 1, none⟩ (.int .i64 (oExt (oStr (some bs)).2).1.1)).setCell ⟨w.heap.size, 2, none⟩ (.int .i64 (oExt (oStr (some bs)).2).1.2)).setCell ⟨w.heap.size, 3, none⟩ (.slice (some ⟨w8.heap.size, 0, none⟩) (oStr (oExt (oStr (some bs)).2).2).1.length cc)).setCell ⟨w.heap.size, 4, none⟩ (.slice pa pn pc)) = w13 at *
  refine bodyPost_ret (results_cell_tmp (ty := 38) rfl _ w13 w.heap.size _ _ _ _ rfl hb13 Tryz.underlying38 rfl man_size) rfl ?_
  have hM13 := HM12.o.store (s' := ⟨(oStr (some bs)).1.toArray⟩) (ar := (oExt (oStr (some bs)).2).1) hk13 hb13
  have hG13 := HG12.o.next hk13 (fun b hb => by simp at hb; subst hb; exact ⟨HM12.o.mbn, Nat.le_refl _⟩)
  obtain ⟨hif, hb1, hb2⟩ := HB.o
  have hmx : MnV.man _ = (oMan bs).1 := (show MnV.man ⟨⟨(oStr (some bs)).1.toArray⟩, (oExt (oStr (some bs)).2).1, (.slice (some ⟨w8.heap.size, 0, none⟩) (oStr (oExt (oStr (some bs)).2).2).1.length cc), (oStr (oExt (oStr (some bs)).2).2).1, .slice pa pn pc, xs⟩ = (oMan bs).1 from by rw [HMAN.o]; simp only [MnV.man, HXS.o])
  refine ⟨hG13.keep, ?_⟩
  rw [if_pos hif]
  refine ⟨_, rfl, hmx, hM13.mrd (by show ManOk (MnV.man ⟨⟨(oStr (some bs)).1.toArray⟩, (oExt (oStr (some bs)).2).1, (.slice (some ⟨w8.heap.size, 0, none⟩) (oStr (oExt (oStr (some bs)).2).2).1.length cc), (oStr (oExt (oStr (some bs)).2).2).1, .slice pa pn pc, xs⟩); rw [hmx]; exact hb2) (by show (manL (MnV.man ⟨⟨(oStr (some bs)).1.toArray⟩, (oExt (oStr (some bs)).2).1, (.slice (some ⟨w8.heap.size, 0, none⟩) (oStr (oExt (oStr (some bs)).2).2).1.length cc), (oStr (oExt (oStr (some bs)).2).2).1, .slice pa pn pc, xs⟩)).length ≤ _; rw [hmx, ← hb1]; omega)⟩
 ·have hne : (E != 0) = true := by simp [h0]
  have hst : R.2 ≠ some [] := fun h => h0 (HE12.o.2 h)
  simp only at m0 m1 m2 m3 m4
  go_wp2_with fail
  have hk13 : Keep [w.heap.size] w12 (((((w12.setCell ⟨w.heap.size, 0, none⟩ (.string ⟨#[]⟩)).setCell ⟨w.heap.size, 1, none⟩ (.int .i64 0)).setCell ⟨w.heap.size, 2, none⟩ (.int .i64 0)).setCell ⟨w.heap.size, 3, none⟩ (.slice none 0 0)).setCell ⟨w.heap.size, 4, none⟩ (.slice none 0 0)) := (((((Keep.refl _ w12).setCell (.inl (by simp)) _).setCell (.inl (by simp)) _).setCell (.inl (by simp)) _).setCell (.inl (by simp)) _).setCell (.inl (by simp)) _
  have hb13 : (((((w12.setCell ⟨w.heap.size, 0, none⟩ (.string ⟨#[]⟩)).setCell ⟨w.heap.size, 1, none⟩ (.int .i64 0)).setCell ⟨w.heap.size, 2, none⟩ (.int .i64 0)).setCell ⟨w.heap.size, 3, none⟩ (.slice none 0 0)).setCell ⟨w.heap.size, 4, none⟩ (.slice none 0 0)).heap[w.heap.size]? = some (.cells #[(.string ⟨#[]⟩), (.int .i64 0), (.int .i64 0), (.slice none 0 0), (.slice none 0 0)] 38) := by simpa using heap_setCell_at (i := 4) (heap_setCell_at (i := 3) (heap_setCell_at (i := 2) (heap_setCell_at (i := 1) (heap_setCell_at (i := 0) (HM12.o.box) (.string ⟨#[]⟩)) (.int .i64 0)) (.int .i64 0)) (.slice none 0 0)) (.slice none 0 0)
  generalize (((((w12.setCell ⟨w.heap.size, 0, none⟩ (.string ⟨#[]⟩)).setCell ⟨w.heap.size, 1, none⟩ (.int .i64 0)).setCell ⟨w.heap.size, 2, none⟩ (.int .i64 0)).setCell ⟨w.heap.size, 3, none⟩ (.slice none 0 0)).setCell ⟨w.heap.size, 4, none⟩ (.slice none 0 0)) = w13 at *
  refine bodyPost_ret (results_cell_tmp (ty := 38) rfl _ w13 w.heap.size _ _ _ _ rfl hb13 Tryz.underlying38 rfl man_size) rfl ?_
  have hG13 := HG12.o.next hk13 (fun b hb => by simp at hb; subst hb; exact ⟨HM12.o.mbn, Nat.le_refl _⟩)
  refine ⟨hG13.keep, ?_⟩
  rw [if_neg (by rw [HMAN.o]; exact hst)]
  rfl
end Go.Proofs.YtimpadpeibgmoaaGreat
