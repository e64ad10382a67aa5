import Derived.Test.YtdmmhfbafinkpaaGreatDoorPa13
/- Parse: prim. Printed by gen-pa14.py. -/
namespace Go.Proofs.YtdmmhfbafinkpaaGreatDoor
open Go.RowKit Go.Emb Go.Shelf

theorem AllC.le {lo pb m m' : Nat} (h : AllC lo pb m) (hm : m' ≤ m) : AllC lo pb m' where
  expr := fun a b c d => h.expr a b c (by omega)
  binary := fun a b c d e => h.binary a b c d (by omega)
  unary := fun a b c d => h.unary a b c (by omega)
  call := fun a b c d => h.call a b c (by omega)
  prim := fun a b c d => h.prim a b c (by omega)
  someL := fun a b c d => h.someL a b c (by omega)
  untilL := fun a b c d => h.untilL a b c (by omega)
  bodyP := fun a b c d e f => h.bodyP a b c (by omega) e f
  headP := fun a b c d e f => h.headP a b c (by omega) e f
  arms := fun a b c d => h.arms a b c (by omega)
  listP := fun a b c d => h.listP a b c (by omega)
/-- what prim's boxes hold -/
structure PI (w : World) (lo pb PB R N I : Nat) (i : Int) (cs : Array Value) (s1 : St) (wx : World) : Prop where
  p : wx.heap[PB]? = some (.cells #[.pointer (some ⟨pb, 0, none⟩)] 76 (0, 0))
  r : wx.heap[R]? = some zN
  n : wx.heap[N]? = some (.cells cs 29 (0, 0))
  i : wx.heap[I]? = some (.cells #[.int .i64 i] 3 (0, 0))
  ps : PS lo wx pb s1
  keep : Keep [pb] w wx
  ord : pb < lo ∧ lo ≤ w.heap.size ∧ w.heap.size ≤ PB ∧ PB < R ∧ R < N ∧ N < I
theorem PI.lt {w : World} {lo pb PB R N I : Nat} {i : Int} {cs : Array Value} {s1 : St} {wx : World} (h : PI w lo pb PB R N I i cs s1 wx) : N < wx.heap.size ∧ lo ≤ wx.heap.size ∧ R + 1 ≤ wx.heap.size := by
  have h1 := (Array.getElem?_eq_some_iff.1 h.n).1
  have := h.ord
  have := h.keep.size
  omega
theorem PI.call {w : World} {lo pb PB R N I : Nat} {i : Int} {cs : Array Value} {s1 s2 : St} {wx wy : World} (h : PI w lo pb PB R N I i cs s1 wx) (hk : Keep [pb] wx wy) (hps : PS lo wy pb s2) : PI w lo pb PB R N I i cs s2 wy := by
  have ho := h.ord
  exact ⟨blkK h.p hk (by simp; omega), blkK h.r hk (by simp; omega), blkK h.n hk (by simp; omega), blkK h.i hk (by simp; omega), hps, h.keep.trans hk (by simp), ho⟩
theorem PI.alloc {w : World} {lo pb PB R N I : Nat} {i : Int} {cs : Array Value} {s1 : St} {wx : World} (h : PI w lo pb PB R N I i cs s1 wx) (o : Obj) : PI w lo pb PB R N I i cs s1 (wx.alloc o) :=
  h.call (((Keep.refl [] wx).alloc o).mono (by simp)) (h.ps.keep0 ((Keep.refl [] wx).alloc o))
theorem PI.store {w : World} {lo pb PB R N I : Nat} {i : Int} {cs cs' : Array Value} {s1 : St} {wx wy : World} (h : PI w lo pb PB R N I i cs s1 wx) (hk : Keep [N] wx wy) (hn : wy.heap[N]? = some (.cells cs' 29 (0, 0))) : PI w lo pb PB R N I i cs' s1 wy := by
  have ho := h.ord
  exact ⟨blkK h.p hk (by simp; omega), blkK h.r hk (by simp; omega), hn, blkK h.i hk (by simp; omega), h.ps.keep hk (by simp; omega), keepB (lo := w.heap.size) ((h.keep.mono (G := [pb, N]) (by simp)).trans hk (by simp)) (by simp; omega) (Nat.le_refl _), ho⟩
theorem PI.set {w : World} {lo pb PB R N I : Nat} {i : Int} {cs : Array Value} {s1 : St} {wx : World} (h : PI w lo pb PB R N I i cs s1 wx) (k : Nat) (u : Value) : PI w lo pb PB R N I i (cs.setIfInBounds k u) s1 (wx.setCell ⟨N, k, none⟩ u) :=
  h.store (set7a (i := k) h.n u).2 (set7a (i := k) h.n u).1
theorem PI.boxes {w : World} {lo pb PB R N I : Nat} {i : Int} {cs : Array Value} {s1 : St} {wx : World} (h : PI w lo pb PB R N I i cs s1 wx) : wx.cell? ⟨PB, 0, none⟩ = some (.pointer (some ⟨pb, 0, none⟩)) ∧ wx.cell? ⟨I, 0, none⟩ = some (.int .i64 i) ∧ ∀ k, wx.frozen? ⟨N, k, none⟩ = false :=
  ⟨by simp [World.cell?, h.p], by simp [World.cell?, h.i], frozenP h.n⟩
theorem PI.call2 {w : World} {lo pb PB R N I : Nat} {i : Int} {cs cs' : Array Value} {s1 s2 : St} {wx wy : World} (h : PI w lo pb PB R N I i cs s1 wx) (hk : Keep [pb, N] wx wy) (hps : PS lo wy pb s2) (hn : wy.heap[N]? = some (.cells cs' 29 (0, 0))) : PI w lo pb PB R N I i cs' s2 wy := by
  have ho := h.ord
  exact ⟨blkK h.p hk (by simp; omega), blkK h.r hk (by simp; omega), hn, blkK h.i hk (by simp; omega), hps, keepB (lo := w.heap.size) ((h.keep.mono (G := [pb, N]) (by simp)).trans hk (by simp)) (by simp; omega) (Nat.le_refl _), ho⟩
theorem PI.at {w : World} {lo pb PB R N I : Nat} {i : Int} {cs cs' : Array Value} {s1 : St} {wx : World} (h : PI w lo pb PB R N I i cs s1 wx) (e : cs = cs') : PI w lo pb PB R N I i cs' s1 wx := e ▸ h
/-- a tree that may stand in the box -/
abbrev TrN (R N : Nat) (wx : World) : Nat → Prop := FrsX (R + 1) wx (some N)
theorem PI.node {w : World} {lo pb PB R N I : Nat} {i : Int} {cs : Array Value} {s1 : St} {wx wy : World} (h : PI w lo pb PB R N I i cs s1 wx) {k : Bool} {c : List Value} {a : Nd} (hn : NdR (Frs wx.heap.size wy) wy k c a) : NdR (TrN R N wy) wy k c a := by
  have h1 := h.lt
  exact hn.toX h1.2.2 (fun b hb => by cases hb; exact h1.1)
theorem PI.slice {w : World} {lo pb PB R N I : Nat} {i : Int} {cs : Array Value} {s1 : St} {wx wy : World} (h : PI w lo pb PB R N I i cs s1 wx) {k : Bool} {v : Value} {l : List Nd} (hn : NsR (Frs wx.heap.size wy) wy k v l) : NsR (TrN R N wy) wy k v l := by
  have h1 := h.lt
  exact hn.toX h1.2.2 (fun b hb => by cases hb; exact h1.1)
theorem PI.keepS {w : World} {lo pb PB R N I : Nat} {i : Int} {cs : Array Value} {s1 : St} {wx wy : World} (h : PI w lo pb PB R N I i cs s1 wx) (hk : Keep [pb] wx wy) {k : Bool} {v : Value} {l : List Nd} (hn : NsR (TrN R N wx) wx k v l) : NsR (TrN R N wy) wy k v l := by
  have ho := h.ord
  exact hn.keepX hk (by simp; omega)
theorem PI.keepN {w : World} {lo pb PB R N I : Nat} {i : Int} {cs : Array Value} {s1 : St} {wx wy : World} (h : PI w lo pb PB R N I i cs s1 wx) (hk : Keep [pb] wx wy) {k : Bool} {c : List Value} {a : Nd} (hn : NdR (TrN R N wx) wx k c a) : NdR (TrN R N wy) wy k c a := by
  have ho := h.ord
  exact hn.keepX hk (by simp; omega)
set_option maxRecDepth 100000 in
set_option maxHeartbeats 1000000 in
/-- the closure of fun -/
theorem w_fun1 {lo pb M : Nat} {w : World} {s : St} {d cb b2 b3 : Nat} {at_ : Int} (ih : AllC lo pb M) (hM : 32 * s.toks.length + 12 < M) (h : PS lo w pb s) (hlo : lo ≤ w.heap.size) (hd : d + s.toks.length ≤ 1000000) (hcb : lo ≤ cb)
    (hb : w.heap[cb]? = some (.cells #[.slice none 0 0, .slice none 0 0, .slice none 0 0, .string ⟨#[]⟩, .int .i64 at_] 52 (0, 0)))
    (h2 : w.cell? ⟨b2, 0, none⟩ = some (.pointer (some ⟨pb, 0, none⟩))) (h3 : w.cell? ⟨b3, 0, none⟩ = some (.int .i64 d)) :
    Calls Tryz.prog 145 #[.pointer (some ⟨cb, 0, none⟩), .pointer (some ⟨b2, 0, none⟩), .pointer (some ⟨b3, 0, none⟩)] w (OneP lo w pb cb (fun n => oneC n 1 d) s) := by
  have hcall := ih.headP (nm := []) (d := d) h hlo hd hM hcb hb
  have HCALL := Lib.hid hcall
  clear ih hM h hlo hd hcb hb hcall
  go_enter Tryz.func145, Tryz.ntmps145
  go_wp2_with fail
  refine HCALL.out.mono ?_
  rintro e w3 ⟨cs, n, s', rfl, hev, hb3, hnd, hps, hle, hk⟩
  have hres : OneP lo w pb cb (fun n => oneC n 1 d) s (.returned (.tuple #[])) w3 := ⟨cs, n, s', rfl, Ev.of_one_1 hev, hb3, hnd, hps, hle, hk⟩
  have HRES := Lib.hid hres
  clear hev hb3 hnd hps hle hk hres
  go_wp2_with fail
  go_end0
  exact HRES.out
theorem leaf_none {s : St} (h : (leafS s).1 = none) : leafS s = (none, s) := by
  unfold leafS at h ⊢
  split at h
  · rfl
  · split at h
    · cases h
    · rename_i h2; rw [if_neg h2]
set_option maxRecDepth 100000 in
set_option maxHeartbeats 8000000 in
theorem w_prim {lo pb : Nat} {w : World} {s : St} {d : Nat} (ih : AllC lo pb (32 * s.toks.length)) (h : PS lo w pb s) (hlo : lo ≤ w.heap.size) (hd : d + s.toks.length ≤ 1000000) :
    Calls Tryz.prog 131 #[.pointer (some ⟨pb, 0, none⟩), .int .i64 d] w (NodeP lo w pb (fun n => prim n d) s) := by
  have hplo := h.plo
  have hkA := (Keep.refl [] w).alloc (.cells #[.pointer (some ⟨pb, 0, none⟩)] 76)
  have hpA := heap_alloc_new w (.cells #[.pointer (some ⟨pb, 0, none⟩)] 76)
  have hk1 := hkA.alloc zN
  have hp1 := blkK hpA ((Keep.refl [] _).alloc zN) (by simp)
  have hr1 := heap_alloc_new (w.alloc (.cells #[.pointer (some ⟨pb, 0, none⟩)] 76)) zN
  rw [size_alloc] at hr1
  have hlf := p_leaf (h.keep0 hk1) (Nat.le_trans hlo hk1.size)
  have hs1 : ((w.alloc (.cells #[.pointer (some ⟨pb, 0, none⟩)] 76)).alloc zN).heap.size = w.heap.size + 2 := by rw [size_alloc, size_alloc]
  have c1 : ((w.alloc (.cells #[.pointer (some ⟨pb, 0, none⟩)] 76)).alloc zN).cell? ⟨w.heap.size, 0, none⟩ = some (.pointer (some ⟨pb, 0, none⟩)) := by simp [World.cell?, hp1]
  have HLF := Lib.hid hlf
  have HP1 := Lib.hid hp1
  have HR1 := Lib.hid hr1
  have HK1 := Lib.hid hk1
  have HS1 := Lib.hid hs1
  have IH := Lib.hid ih
  have HN := Lib.hid (And.intro hplo (And.intro hlo hd))
  clear ih h hplo hlo hd hkA hpA hk1 hp1 hr1 hlf hs1
  go_enter Tryz.func131, Tryz.ntmps131
  go_wp2_with fail
  refine HLF.out.mono ?_
  rintro e w2 ⟨k, i, at0, nm, rfl, hlf, hps2, hk2⟩
  obtain ⟨hplo, hlo, hd⟩ := HN.out
  have hp2 := blkK HP1.out hk2 (by simp; omega)
  have hr2 := blkK HR1.out hk2 (by simp; omega)
  have hkw2 := (HK1.out.mono (G := [pb]) (by simp)).trans hk2 (by simp)
  have hs2 := hk2.size
  rw [HS1.out] at hs2
  have hlen2 := (Good.leaf s).1
  have HP2 := Lib.hid hp2
  have HR2 := Lib.hid hr2
  have HKW2 := Lib.hid hkw2
  have HPS2 := Lib.hid hps2
  have HS2 := Lib.hid hs2
  have HLF2 := Lib.hid hlf
  have HLEN2 := Lib.hid hlen2
  clear hp2 hr2 hkw2 hk2 hs2 hlf hlen2 hps2 hplo hlo hd HLF HP1 HR1 HK1 HS1 c1
  rcases hl : (leafS s).1 with _ | a
  · have hls := leaf_none hl
    have HLS := Lib.hid hls
    rw [hls] at HPS2
    simp only at HPS2
    have hk3 := (Keep.refl [] w2).alloc (.cells #[.int .i64 k, .int .i64 i, .string ⟨nm.toArray⟩, .int .i64 at0, .slice none 0 0, .slice none 0 0, .slice none 0 0] 29)
    have HPS3 := Lib.hid (HPS2.out.keep0 hk3)
    have hdd : IntKind.i64.wrap ((d : Int) + 1) = (d : Int) + 1 := IntWalk.i64_in _ (by have := HN.out.2.2; omega)
    have c2 : w2.cell? ⟨w.heap.size, 0, none⟩ = some (.pointer (some ⟨pb, 0, none⟩)) := by simp [World.cell?, HP2.out]
    have hpi : PI w lo pb w.heap.size (w.heap.size + 1) (w2.heap.size + 1) (w2.heap.size + 1 + 1) ((d : Int) + 1) #[.int .i64 0, .int .i64 0, .string ⟨#[]⟩, .int .i64 (plc s), .slice none 0 0, .slice none 0 0, .slice none 0 0] s (((w2.alloc (.cells #[.int .i64 k, .int .i64 i, .string ⟨nm.toArray⟩, .int .i64 at0, .slice none 0 0, .slice none 0 0, .slice none 0 0] 29)).alloc (.cells #[.int .i64 0, .int .i64 0, .string ⟨#[]⟩, .int .i64 (plc s), .slice none 0 0, .slice none 0 0, .slice none 0 0] 29)).alloc (.cells #[.int .i64 ((d : Int) + 1)] 3)) := by
      have hk4 := hk3.alloc (.cells #[.int .i64 0, .int .i64 0, .string ⟨#[]⟩, .int .i64 (plc s), .slice none 0 0, .slice none 0 0, .slice none 0 0] 29)
      have hk5 := hk4.alloc (.cells #[.int .i64 ((d : Int) + 1)] 3)
      obtain ⟨hplo, hlo, hd⟩ := HN.out
      have hs2 := HS2.out
      have h1 := heap_alloc_new (w2.alloc (.cells #[.int .i64 k, .int .i64 i, .string ⟨nm.toArray⟩, .int .i64 at0, .slice none 0 0, .slice none 0 0, .slice none 0 0] 29)) (.cells #[.int .i64 0, .int .i64 0, .string ⟨#[]⟩, .int .i64 (plc s), .slice none 0 0, .slice none 0 0, .slice none 0 0] 29)
      rw [size_alloc] at h1
      have h2 := heap_alloc_new ((w2.alloc (.cells #[.int .i64 k, .int .i64 i, .string ⟨nm.toArray⟩, .int .i64 at0, .slice none 0 0, .slice none 0 0, .slice none 0 0] 29)).alloc (.cells #[.int .i64 0, .int .i64 0, .string ⟨#[]⟩, .int .i64 (plc s), .slice none 0 0, .slice none 0 0, .slice none 0 0] 29)) (.cells #[.int .i64 ((d : Int) + 1)] 3)
      rw [size_alloc, size_alloc] at h2
      exact ⟨blkK HP2.out hk5 (by simp), blkK HR2.out hk5 (by simp), blkK h1 ((Keep.refl [] _).alloc _) (by simp), h2, HPS2.out.keep0 hk5, HKW2.out.trans hk5 (by simp), hplo, hlo, Nat.le_refl _, by omega, by omega, by omega⟩
    have c3 : (w2.alloc (.cells #[.int .i64 k, .int .i64 i, .string ⟨nm.toArray⟩, .int .i64 at0, .slice none 0 0, .slice none 0 0, .slice none 0 0] 29)).cell? ⟨w.heap.size, 0, none⟩ = some (.pointer (some ⟨pb, 0, none⟩)) := by simp only [World.cell?, blkK HP2.out hk3 (by simp)]; rfl
    have c4 : ((w2.alloc (.cells #[.int .i64 k, .int .i64 i, .string ⟨nm.toArray⟩, .int .i64 at0, .slice none 0 0, .slice none 0 0, .slice none 0 0] 29)).alloc (.cells #[.int .i64 0, .int .i64 0, .string ⟨#[]⟩, .int .i64 (plc s), .slice none 0 0, .slice none 0 0, .slice none 0 0] 29)).cell? ⟨w.heap.size, 0, none⟩ = some (.pointer (some ⟨pb, 0, none⟩)) := by simp only [World.cell?, blkK HP2.out (hk3.alloc (.cells #[.int .i64 0, .int .i64 0, .string ⟨#[]⟩, .int .i64 (plc s), .slice none 0 0, .slice none 0 0, .slice none 0 0] 29)) (by simp)]; rfl
    obtain ⟨c5, c6, f5⟩ := hpi.boxes
    have HPI := Lib.hid hpi
    clear hls hl hk3 hpi HLEN2 HLF2
    go_wp2_with (go_at_call 67; refine (p_place HPS3.out).mono ?_; rintro e w2' ⟨rfl, rfl⟩)
    refine (take_litb HPI.out.ps (by rw [size_alloc, size_alloc, size_alloc]) opensL 7 _ rfl (by simp [maxLen]) rfl).mono ?_
    rintro e w6 ⟨rfl, hps6, hk6⟩
    have hpi6 := HPI.out.call hk6 hps6
    have hsz6 := hk6.size
    obtain ⟨B, hB⟩ : ∃ B, B = w.heap.size := ⟨_, rfl⟩
    obtain ⟨N, hN⟩ : ∃ N, N = w2.heap.size + 1 := ⟨_, rfl⟩
    rw [← hB, ← hN] at hpi6 ⊢
    have HBB := Lib.hid hB
    have HPI6 := Lib.hid hpi6
    clear hB hN hpi6 hps6 hk6 hsz6 c2 c3 c4 c5 c6 f5 HPI HP2 HR2 HKW2 HPS2 HS2 HPS3
    obtain ⟨p6, i6, f6⟩ := HPI6.out.boxes
    obtain ⟨g0, g1, g2, g3, g4, g5, g6⟩ := cells7 HPI6.out.n
    rcases ho : (takeS opensL s).1 with _ | t
    · have HO := Lib.hid ho
      clear ho
      go_wp2_with (go_at_call 44; refine (p_fails HPI6.out.ps 110).mono ?_; rintro e w7 ⟨rfl, hps7, hk7⟩; have hpi7 := HPI6.out.call hk7 hps7; have HPI7 := Lib.hid hpi7; clear hps7 hk7 g0 g1 g2 g3 g4 g5 g6 p6 i6 f6; obtain ⟨g0, g1, g2, g3, g4, g5, g6⟩ := cells7 hpi7.n; obtain ⟨d0, d1, d2, d3, d4, d5, d6⟩ := cells7 hpi7.r; have f7 := frozenP hpi7.r; clear hpi7)
      obtain ⟨hr8, hk8⟩ := set7 HPI7.out.r (.int .i64 0) (.int .i64 0) (.string ⟨#[]⟩) (.int .i64 (plc s)) (.slice none 0 0) (.slice none 0 0) (.slice none 0 0)
      refine bodyPost_ret (results_cell_row (ty := 29) rfl _ _ (B + 1) _ _ _ _ rfl hr8 Tryz.underlying29 rfl node_size) rfl ?_
      have hord := HPI7.out.ord
      exact ⟨_, nd0, _, rfl, Ev.of_prim_fail HLS.out HO.out, NdR.mk7 (kind := 0) (num := 0) (name := []) (NsR.nil _ _ false) (NsR.nil _ _ true) (NsR.nil _ _ false), HPI7.out.ps.keep hk8 (by simp; omega), by have h1 := failS_len 110 (takeS opensL s).2; have h2 := take_len opensL s; omega, keepB (lo := w.heap.size) ((HPI7.out.keep.mono (G := [pb, B + 1]) (by simp)).trans hk8 (by simp)) (by simp; omega) (Nat.le_refl _)⟩
    · obtain ⟨hlt, hmem⟩ := take_lt ho
      have HLT := Lib.hid hlt
      have HO := Lib.hid ho
      clear ho hlt
      simp only [Option.isSome_some, Option.getD_some]
      have hd1 : ((d + 1 : Nat) : Int) = (d : Int) + 1 := by omega
      have hdl := HN.out.2.2
      have he1 : ∀ (W : World) (s1 : St), PS lo W pb s1 → lo ≤ W.heap.size → s1.toks.length + 1 ≤ s.toks.length → Calls Tryz.prog 43 #[.pointer (some ⟨pb, 0, none⟩), .int .i64 ((d : Int) + 1)] W (NodeP lo W pb (fun n => expr n (d + 1)) s1) := fun W s1 hW hl hle => by have h := IH.out.expr (d := d + 1) hW hl (by omega) (by omega); rw [hd1] at h; exact h
      have hs1 : ∀ (W : World) (s1 : St), PS lo W pb s1 → lo ≤ W.heap.size → s1.toks.length + 1 ≤ s.toks.length → Calls Tryz.prog 116 #[.pointer (some ⟨pb, 0, none⟩), .int .i64 ((d : Int) + 1)] W (ListP lo W pb false (fun n => someL n (d + 1)) s1) := fun W s1 hW hl hle => by have h := IH.out.someL (d := d + 1) hW hl (by omega) (by omega); rw [hd1] at h; exact h
      have ha1 : ∀ (W : World) (s1 : St), PS lo W pb s1 → lo ≤ W.heap.size → s1.toks.length + 1 ≤ s.toks.length → Calls Tryz.prog 146 #[.pointer (some ⟨pb, 0, none⟩), .int .i64 ((d : Int) + 1)] W (ListP lo W pb true (fun n => clausesL n 0 (d + 1)) s1) := fun W s1 hW hl hle => by have h := IH.out.arms (d := d + 1) hW hl (by omega) (by omega); rw [hd1] at h; exact h
      have hu1 : ∀ (W : World) (s1 : St) (x : List UInt8), PS lo W pb s1 → lo ≤ W.heap.size → s1.toks.length + 1 ≤ s.toks.length → Calls Tryz.prog 95 #[.pointer (some ⟨pb, 0, none⟩), .string ⟨x.toArray⟩, .int .i64 ((d : Int) + 1)] W (ListP lo W pb false (fun n => untilL n x (d + 1)) s1) := fun W s1 x hW hl hle => by have h := IH.out.untilL (x := x) (d := d + 1) hW hl (by omega) (by omega); rw [hd1] at h; exact h
      have hl1 : ∀ (W : World) (s1 : St) (a : Int), PS lo W pb s1 → lo ≤ W.heap.size → s1.toks.length + 1 ≤ s.toks.length → Calls Tryz.prog 144 #[.pointer (some ⟨pb, 0, none⟩), .int .i64 a, .int .i64 ((d : Int) + 1)] W (NodeP lo W pb (fun n => listP n (d + 1)) s1) := fun W s1 a hW hl hle => by have h := IH.out.listP (at_ := a) (d := d + 1) hW hl (by omega) (by omega); rw [hd1] at h; exact h
      have HE := Lib.hid he1
      have HS := Lib.hid hs1
      have HA := Lib.hid ha1
      have HU := Lib.hid hu1
      have HL := Lib.hid hl1
      clear he1 hs1 ha1 hu1 hl1 hd1 hdl
      go_upto_region 10 with fail
      rename_i K_out a_out K_in a_in
      have hcut : ∀ a' w', CutF 100 (fun f wx => f 4 = .pointer (some ⟨B + 1, 0, none⟩) ∧ f 7 = .pointer (some ⟨N, 0, none⟩) ∧ ∃ (n : Nd) (s' : St) (cs : List Value), Ev (fun n => prim n d) s n s' ∧ PI w lo pb B (B + 1) N (N + 1) ((d : Int) + 1) cs.toArray s' wx ∧ NdR (TrN (B + 1) N wx) wx false cs n ∧ s'.toks.length ≤ s.toks.length) a' w' → K_out a' w' := by
        intro a' w' hc
        refine a_out _ _ ?_
        clear a_out a_in K_in HE HS HA HU HL p6 i6 f6 g0 g1 g2 g3 g4 g5 g6
        obtain ⟨f, rfl, h4, h7, n, s', cs, hev, hpi, hnd, hle⟩ := hc.lit
        obtain ⟨kindA, numA, atA, nameA, p1A, n1A, c1A, p2A, n2A, c2A, p3A, n3A, c3A, rfl, -⟩ := id hnd.un7s
        rw [show ((List.range 100).map f).toArray = #[f 0, f 1, f 2, f 3, f 4, f 5, f 6, f 7, f 8, f 9, f 10, f 11, f 12, f 13, f 14, f 15, f 16, f 17, f 18, f 19, f 20, f 21, f 22, f 23, f 24, f 25, f 26, f 27, f 28, f 29, f 30, f 31, f 32, f 33, f 34, f 35, f 36, f 37, f 38, f 39, f 40, f 41, f 42, f 43, f 44, f 45, f 46, f 47, f 48, f 49, f 50, f 51, f 52, f 53, f 54, f 55, f 56, f 57, f 58, f 59, f 60, f 61, f 62, f 63, f 64, f 65, f 66, f 67, f 68, f 69, f 70, f 71, f 72, f 73, f 74, f 75, f 76, f 77, f 78, f 79, f 80, f 81, f 82, f 83, f 84, f 85, f 86, f 87, f 88, f 89, f 90, f 91, f 92, f 93, f 94, f 95, f 96, f 97, f 98, f 99] from rfl]
        rw [h4, h7]
        have HEV := Lib.hid hev
        have HPI := Lib.hid hpi
        have HND := Lib.hid hnd
        have HLE := Lib.hid hle
        obtain ⟨g0, g1, g2, g3, g4, g5, g6⟩ := cells7 hpi.n
        obtain ⟨d0, d1, d2, d3, d4, d5, d6⟩ := cells7 hpi.r
        have f7 := frozenP hpi.r
        clear hc h4 h7 hev hpi hnd hle
        go_wp2_with fail
        obtain ⟨hr8, hk8⟩ := set7 HPI.out.r (.int .i64 kindA) (.int .i64 numA) (.string ⟨nameA.toArray⟩) (.int .i64 atA) (.slice p1A n1A c1A) (.slice p2A n2A c2A) (.slice p3A n3A c3A)
        refine bodyPost_ret (results_cell_row (ty := 29) rfl _ _ (B + 1) _ _ _ _ rfl hr8 Tryz.underlying29 rfl node_size) rfl ?_
        have hord := HPI.out.ord
        exact ⟨_, n, s', rfl, HEV.out, (HND.out.keep hk8 (fun b hb hc => by simp at hb; have := hc.1; omega)).mono (fun b h => ⟨by have := h.1; omega, Nat.lt_of_lt_of_le h.2.1 hk8.size⟩), HPI.out.ps.keep hk8 (by simp; omega), HLE.out, keepB (lo := w.heap.size) ((HPI.out.keep.mono (G := [pb, B + 1]) (by simp)).trans hk8 (by simp)) (by simp; omega) (Nat.le_refl _)⟩
      have HCUT := Lib.hid hcut
      clear hcut a_out
      have ht : t = sOpen ∨ t = sOpenC ∨ t = sOpenB ∨ t = sFun ∨ t = sCase ∨ t = sReceive ∨ t = sTry := by simpa using hmem
      clear hmem
      rcases ht with rfl | rfl | rfl | rfl | rfl | rfl | rfl
      · go_wp2_with fail
        refine (HE.out w6 _ HPI6.out.ps HPI6.out.lt.2.1 HLT.out).mono ?_
        rintro e w7 ⟨cs, a, s7, rfl, hev7, hnd7, hps7, hle7, hk7⟩
        obtain ⟨kindA, numA, atA, nameA, p1A, n1A, c1A, p2A, n2A, c2A, p3A, n3A, c3A, rfl, -⟩ := id hnd7.un7s
        have hpi7 := HPI6.out.call hk7 hps7
        have hnd7' := HPI6.out.node hnd7
        obtain ⟨hn8, hk8⟩ := set7 hpi7.n (.int .i64 kindA) (.int .i64 numA) (.string ⟨nameA.toArray⟩) (.int .i64 atA) (.slice p1A n1A c1A) (.slice p2A n2A c2A) (.slice p3A n3A c3A)
        have hpi8 := hpi7.store hk8 hn8
        have hnd8 := hnd7'.keepX hk8 (by simp)
        have hm := p_must hpi8.ps hpi8.lt.2.1 sShut
        have HPI8 := Lib.hid hpi8
        have HND8 := Lib.hid hnd8
        have HM := Lib.hid hm
        have HEV7 := Lib.hid hev7
        have HLE7 := Lib.hid hle7
        clear p6 i6 f6 g0 g1 g2 g3 g4 g5 g6 hnd7 hps7 hle7 hk7 hnd7' hn8 hk8 hnd8 hm hev7
        obtain ⟨p7, i7, f7⟩ := hpi7.boxes
        obtain ⟨p8, i8, f8⟩ := hpi8.boxes
        obtain ⟨g0, g1, g2, g3, g4, g5, g6⟩ := cells7 hpi7.n
        clear hpi7 hpi8
        go_wp2_with fail
        refine HM.out.mono ?_
        rintro e w9 ⟨rfl, hps9, hk9⟩
        have HPI9 := Lib.hid (HPI8.out.call hk9 hps9)
        have HND9 := Lib.hid (HPI8.out.keepN hk9 HND8.out)
        clear hps9 hk9 g0 g1 g2 g3 g4 g5 g6 p7 i7 f7 p8 i8 f8
        go_wp2_with fail
        exact HCUT.out _ _ (CutF.mk rfl ⟨rfl, rfl, a, _, _, Ev.of_prim_open HLS.out HO.out HEV7.out, HPI9.out, HND9.out, by have h1 := must_len sShut s7; have h2 := HLE7.out; have h3 := HLT.out; omega⟩)
      · go_wp2_with fail
        refine (HU.out w6 _ sShutC HPI6.out.ps HPI6.out.lt.2.1 HLT.out).mono ?_
        rintro e w7 ⟨v, l, s7, rfl, hev7, hns7, hps7, hle7, hk7⟩
        obtain ⟨q1, q2, rfl⟩ := hns7.form
        have hpi7 := HPI6.out.call hk7 hps7
        have hns7' := HPI6.out.slice hns7
        have hpi8 := (hpi7.set 0 (.int .i64 4)).at (cs' := #[.int .i64 4, .int .i64 0, .string ⟨#[]⟩, .int .i64 (plc s), .slice none 0 0, .slice none 0 0, .slice none 0 0]) (by simp)
        have hpi9 := (hpi8.set 4 (.slice q1 l.length q2)).at (cs' := #[.int .i64 4, .int .i64 0, .string ⟨#[]⟩, .int .i64 (plc s), .slice q1 l.length q2, .slice none 0 0, .slice none 0 0]) (by simp)
        have hns9 := (hns7'.keepX (set7a (i := 0) hpi7.n (.int .i64 4)).2 (by simp)).keepX (set7a (i := 4) hpi8.n (.slice q1 l.length q2)).2 (by simp)
        have HPI9 := Lib.hid hpi9
        have HNS9 := Lib.hid hns9
        have HEV7 := Lib.hid hev7
        have HLE7 := Lib.hid hle7
        clear p6 i6 f6 g0 g1 g2 g3 g4 g5 g6 hev7 hns7 hps7 hle7 hk7 hns7' hpi9 hns9 hpi8
        obtain ⟨p7, i7, f7⟩ := hpi7.boxes
        obtain ⟨g0, g1, g2, g3, g4, g5, g6⟩ := cells7 hpi7.n
        clear hpi7
        go_wp2_with fail
        exact HCUT.out _ _ (CutF.mk rfl ⟨rfl, rfl, _, _, _, Ev.of_prim_tuple HLS.out HO.out HEV7.out, HPI9.out, NdR.mk7 (kind := 4) (num := 0) (name := []) (at_ := plc s) HNS9.out (NsR.nil _ _ true) (NsR.nil _ _ false), by have h2 := HLE7.out; have h3 := HLT.out; omega⟩)
      · go_wp2_with fail
        refine (HL.out w6 _ (plc s) HPI6.out.ps HPI6.out.lt.2.1 HLT.out).mono ?_
        rintro e w7 ⟨cs, a, s7, rfl, hev7, hnd7, hps7, hle7, hk7⟩
        obtain ⟨kindA, numA, atA, nameA, p1A, n1A, c1A, p2A, n2A, c2A, p3A, n3A, c3A, rfl, -⟩ := id hnd7.un7s
        have hpi7 := HPI6.out.call hk7 hps7
        have hnd7' := HPI6.out.node hnd7
        obtain ⟨hn8, hk8⟩ := set7 hpi7.n (.int .i64 kindA) (.int .i64 numA) (.string ⟨nameA.toArray⟩) (.int .i64 atA) (.slice p1A n1A c1A) (.slice p2A n2A c2A) (.slice p3A n3A c3A)
        have hpi8 := hpi7.store hk8 hn8
        have hnd8 := hnd7'.keepX hk8 (by simp)
        have HPI8 := Lib.hid hpi8
        have HND8 := Lib.hid hnd8
        have HEV7 := Lib.hid hev7
        have HLE7 := Lib.hid hle7
        clear p6 i6 f6 g0 g1 g2 g3 g4 g5 g6 hnd7 hps7 hle7 hk7 hnd7' hn8 hk8 hnd8 hev7 hpi8
        obtain ⟨p7, i7, f7⟩ := hpi7.boxes
        obtain ⟨g0, g1, g2, g3, g4, g5, g6⟩ := cells7 hpi7.n
        clear hpi7
        go_wp2_with fail
        exact HCUT.out _ _ (CutF.mk rfl ⟨rfl, rfl, a, _, _, Ev.of_prim_list HLS.out HO.out HEV7.out, HPI8.out, HND8.out, by have h2 := HLE7.out; have h3 := HLT.out; omega⟩)
      · have hpi7 := (HPI6.out.set 0 (.int .i64 13)).at (cs' := #[.int .i64 13, .int .i64 0, .string ⟨#[]⟩, .int .i64 (plc s), .slice none 0 0, .slice none 0 0, .slice none 0 0]) (by simp)
        obtain ⟨p7, i7, f7⟩ := hpi7.boxes
        have eg : ∀ args w, (callFunc 145 args).run Tryz.prog w = .ok (.enter 145 args) w := enters_of Tryz.func145 (by kernel_rfl) rfl
        have hcl := p_clauses (w := (w6.setCell ⟨N, 0, none⟩ (.int .i64 13))) (k := 1) (d := d + 1) 145 #[.pointer (some ⟨B, 0, none⟩), .pointer (some ⟨N + 1, 0, none⟩)] eg (fun W2 si cb at_ hk2 hps2 hl2 hle2 hcb2 hb2 => by
          have hord := hpi7.ord
          have hpi := hpi7.call hk2 hps2
          obtain ⟨pb2, ib2, _⟩ := hpi.boxes
          have hdl := HN.out.2.2
          have hlt := HLT.out
          exact w_fun1 IH.out (by omega) hps2 hl2 (by omega) (by have := hpi7.lt; omega) hb2 pb2 (by rw [ib2]; simp)) hpi7.ps hpi7.lt.2.1 (by have := HN.out.2.2; have := HLT.out; omega)
        have HCL := Lib.hid hcl
        have HPI7 := Lib.hid hpi7
        clear hcl hpi7 eg
        go_wp2_with fail
        refine HCL.out.mono ?_
        rintro e w8 ⟨v, l, s8, rfl, hev8, hns8, hps8, hle8, hk8⟩
        obtain ⟨q1, q2, rfl⟩ := hns8.form
        have hpi8 := HPI7.out.call hk8 hps8
        have hns8' := HPI7.out.slice hns8
        have hpi9 := (hpi8.set 5 (.slice q1 l.length q2)).at (cs' := #[.int .i64 13, .int .i64 0, .string ⟨#[]⟩, .int .i64 (plc s), .slice none 0 0, .slice q1 l.length q2, .slice none 0 0]) (by simp)
        have hns9 := hns8'.keepX (set7a (i := 5) hpi8.n (.slice q1 l.length q2)).2 (by simp)
        have HM := Lib.hid (p_must hpi9.ps hpi9.lt.2.1 sEnd)
        have HPI9 := Lib.hid hpi9
        have HNS9 := Lib.hid hns9
        have HEV8 := Lib.hid hev8
        have HLE8 := Lib.hid hle8
        clear p6 i6 f6 g0 g1 g2 g3 g4 g5 g6 p7 i7 f7 hev8 hns8 hps8 hle8 hk8 hns8' hns9
        obtain ⟨p8, i8, f8⟩ := hpi8.boxes
        obtain ⟨g0, g1, g2, g3, g4, g5, g6⟩ := cells7 hpi8.n
        obtain ⟨p9, i9, f9⟩ := hpi9.boxes
        clear hpi8 hpi9
        go_wp2_with fail
        refine HM.out.mono ?_
        rintro e w10 ⟨rfl, hps10, hk10⟩
        have HPI10 := Lib.hid (HPI9.out.call hk10 hps10)
        have HNS10 := Lib.hid (HPI9.out.keepS hk10 HNS9.out)
        clear hps10 hk10 g0 g1 g2 g3 g4 g5 g6 p8 i8 f8 p9 i9 f9
        go_wp2_with fail
        exact HCUT.out _ _ (CutF.mk rfl ⟨rfl, rfl, _, _, _, Ev.of_prim_fun HLS.out HO.out HEV8.out, HPI10.out, NdR.mk7 (kind := 13) (num := 0) (name := []) (at_ := plc s) (NsR.nil _ _ false) HNS10.out (NsR.nil _ _ false), by have h1 := must_len sEnd s8; have h2 := HLE8.out; have h3 := HLT.out; omega⟩)
      · go_wp2_with fail
        refine (HE.out w6 _ HPI6.out.ps HPI6.out.lt.2.1 HLT.out).mono ?_
        rintro e w7 ⟨cs, a, s7, rfl, hev7, hnd7, hps7, hle7, hk7⟩
        obtain ⟨kindA, numA, atA, nameA, p1A, n1A, c1A, p2A, n2A, c2A, p3A, n3A, c3A, rfl, -⟩ := id hnd7.un7s
        have hpi7 := HPI6.out.call hk7 hps7
        have hnd7' := HPI6.out.node hnd7
        have hlit := NsR.lit1X (cs := #[.int .i64 kindA, .int .i64 numA, .string ⟨nameA.toArray⟩, .int .i64 atA, .slice p1A n1A c1A, .slice p2A n2A c2A, .slice p3A n3A c3A]) 29 rfl hpi7.lt.2.2 (fun b hb => by cases hb; exact hpi7.lt.1) hnd7'
        have hpi7a := hpi7.alloc (.cells #[.int .i64 kindA, .int .i64 numA, .string ⟨nameA.toArray⟩, .int .i64 atA, .slice p1A n1A c1A, .slice p2A n2A c2A, .slice p3A n3A c3A] 29)
        have hpi8 := (hpi7a.set 0 (.int .i64 14)).at (cs' := #[.int .i64 14, .int .i64 0, .string ⟨#[]⟩, .int .i64 (plc s), .slice none 0 0, .slice none 0 0, .slice none 0 0]) (by simp)
        have hpi9 := (hpi8.set 4 (.slice (some ⟨w7.heap.size, 0, none⟩) 1 1)).at (cs' := #[.int .i64 14, .int .i64 0, .string ⟨#[]⟩, .int .i64 (plc s), .slice (some ⟨w7.heap.size, 0, none⟩) 1 1, .slice none 0 0, .slice none 0 0]) (by simp)
        have hlit9 := (hlit.keepX (set7a (i := 0) hpi7a.n (.int .i64 14)).2 (by simp)).keepX (set7a (i := 4) hpi8.n (.slice (some ⟨w7.heap.size, 0, none⟩) 1 1)).2 (by simp)
        have HM := Lib.hid (p_must hpi9.ps hpi9.lt.2.1 sOf)
        have HPI9 := Lib.hid hpi9
        have HLIT9 := Lib.hid hlit9
        have HEV7 := Lib.hid hev7
        have HLE7 := Lib.hid hle7
        clear p6 i6 f6 g0 g1 g2 g3 g4 g5 g6 hnd7 hps7 hle7 hk7 hnd7' hev7 hlit hlit9 hpi8
        obtain ⟨p7, i7, f7⟩ := hpi7a.boxes
        obtain ⟨g0, g1, g2, g3, g4, g5, g6⟩ := cells7 hpi7a.n
        obtain ⟨p9, i9, f9⟩ := hpi9.boxes
        clear hpi7 hpi7a hpi9
        go_wp2_with fail
        refine HM.out.mono ?_
        rintro e w9 ⟨rfl, hps9, hk9⟩
        have HPI10 := Lib.hid (HPI9.out.call hk9 hps9)
        have HLIT10 := Lib.hid (HPI9.out.keepS hk9 HLIT9.out)
        have HLEM := Lib.hid (show (mustS sOf s7).toks.length + 1 ≤ s.toks.length by have h1 := must_len sOf s7; have h2 := HLE7.out; have h3 := HLT.out; omega)
        clear hps9 hk9 g0 g1 g2 g3 g4 g5 g6 p7 i7 f7 p9 i9 f9
        obtain ⟨p9, i9, f9⟩ := HPI10.out.boxes
        go_wp2_with fail
        refine (HA.out w9 _ HPI10.out.ps HPI10.out.lt.2.1 HLEM.out).mono ?_
        rintro e w10 ⟨v, l, s10, rfl, hev10, hns10, hps10, hle10, hk10⟩
        obtain ⟨r1, r2, rfl⟩ := hns10.form
        have hpi10 := HPI10.out.call hk10 hps10
        have hcl10 := HPI10.out.slice hns10
        have hot10 := HPI10.out.keepS hk10 HLIT10.out
        have hpi11 := (hpi10.set 5 (.slice r1 l.length r2)).at (cs' := #[.int .i64 14, .int .i64 0, .string ⟨#[]⟩, .int .i64 (plc s), .slice (some ⟨w7.heap.size, 0, none⟩) 1 1, .slice r1 l.length r2, .slice none 0 0]) (by simp)
        have hcl11 := hcl10.keepX (set7a (i := 5) hpi10.n (.slice r1 l.length r2)).2 (by simp)
        have hot11 := hot10.keepX (set7a (i := 5) hpi10.n (.slice r1 l.length r2)).2 (by simp)
        have HM2 := Lib.hid (p_must hpi11.ps hpi11.lt.2.1 sEnd)
        have HPI11 := Lib.hid hpi11
        have HCL11 := Lib.hid hcl11
        have HOT11 := Lib.hid hot11
        have HEV10 := Lib.hid hev10
        have HLE10 := Lib.hid hle10
        clear hev10 hns10 hps10 hle10 hk10 hcl10 hot10 hcl11 hot11 p9 i9 f9
        obtain ⟨p10, i10, f10⟩ := hpi10.boxes
        obtain ⟨g0, g1, g2, g3, g4, g5, g6⟩ := cells7 hpi10.n
        obtain ⟨p11, i11, f11⟩ := hpi11.boxes
        clear hpi10 hpi11
        go_wp2_with fail
        refine HM2.out.mono ?_
        rintro e w12 ⟨rfl, hps12, hk12⟩
        have HPI12 := Lib.hid (HPI11.out.call hk12 hps12)
        have HCL12 := Lib.hid (HPI11.out.keepS hk12 HCL11.out)
        have HOT12 := Lib.hid (HPI11.out.keepS hk12 HOT11.out)
        clear hps12 hk12 g0 g1 g2 g3 g4 g5 g6 p10 i10 f10 p11 i11 f11
        go_wp2_with fail
        exact HCUT.out _ _ (CutF.mk rfl ⟨rfl, rfl, _, _, _, Ev.of_prim_case HLS.out HO.out HEV7.out HEV10.out, HPI12.out, NdR.mk7 (kind := 14) (num := 0) (name := []) (at_ := plc s) HOT12.out HCL12.out (NsR.nil _ _ false), by have h1 := must_len sEnd s10; have h2 := HLE10.out; have h3 := HLEM.out; omega⟩)
      · have hrc := w_recv (d := d + 1) (nb := N) (IH.out.le (by have := HLT.out; omega)) HPI6.out.ps HPI6.out.lt.2.1 (by have := HN.out.2.2; have := HLT.out; omega) (by have := HPI6.out.ord; omega) HPI6.out.n
        rw [show ((d + 1 : Nat) : Int) = (d : Int) + 1 from by omega] at hrc
        have HRC := Lib.hid hrc
        clear hrc
        go_wp2_with fail
        refine HRC.out.mono ?_
        rintro e w7 ⟨cs, a, s7, rfl, hev7, hn7, hnd7, hps7, hle7, hk7⟩
        have HPI7 := Lib.hid (HPI6.out.call2 hk7 hps7 hn7)
        have HND7 := Lib.hid (HPI6.out.node hnd7)
        have HEV7 := Lib.hid hev7
        have HLE7 := Lib.hid hle7
        clear p6 i6 f6 g0 g1 g2 g3 g4 g5 g6 hnd7 hps7 hle7 hk7 hn7 hev7
        go_wp2_with fail
        exact HCUT.out _ _ (CutF.mk rfl ⟨rfl, rfl, a, _, _, Ev.of_prim_recv HLS.out HO.out HEV7.out, HPI7.out, HND7.out, by have h2 := HLE7.out; have h3 := HLT.out; omega⟩)
      · go_wp2_with fail
        refine (HS.out w6 _ HPI6.out.ps HPI6.out.lt.2.1 HLT.out).mono ?_
        rintro e w7 ⟨v, b, s7, rfl, hev7, hns7, hps7, hle7, hk7⟩
        obtain ⟨q1, q2, rfl⟩ := hns7.form
        have hpi7 := HPI6.out.call hk7 hps7
        have hns7' := HPI6.out.slice hns7
        have hpi8 := (hpi7.set 0 (.int .i64 16)).at (cs' := #[.int .i64 16, .int .i64 0, .string ⟨#[]⟩, .int .i64 (plc s), .slice none 0 0, .slice none 0 0, .slice none 0 0]) (by simp)
        have hpi9 := (hpi8.set 6 (.slice q1 b.length q2)).at (cs' := #[.int .i64 16, .int .i64 0, .string ⟨#[]⟩, .int .i64 (plc s), .slice none 0 0, .slice none 0 0, .slice q1 b.length q2]) (by simp)
        have hlit9 := (hns7'.keepX (set7a (i := 0) hpi7.n (.int .i64 16)).2 (by simp)).keepX (set7a (i := 6) hpi8.n (.slice q1 b.length q2)).2 (by simp)
        have HM := Lib.hid (p_must hpi9.ps hpi9.lt.2.1 sCatch)
        have HPI9 := Lib.hid hpi9
        have HLIT9 := Lib.hid hlit9
        have HEV7 := Lib.hid hev7
        have HLE7 := Lib.hid hle7
        clear p6 i6 f6 g0 g1 g2 g3 g4 g5 g6 hns7 hps7 hle7 hk7 hns7' hev7 hlit9 hpi8
        obtain ⟨p7, i7, f7⟩ := hpi7.boxes
        obtain ⟨g0, g1, g2, g3, g4, g5, g6⟩ := cells7 hpi7.n
        obtain ⟨p9, i9, f9⟩ := hpi9.boxes
        clear hpi7 hpi9
        go_wp2_with fail
        refine HM.out.mono ?_
        rintro e w9 ⟨rfl, hps9, hk9⟩
        have HPI10 := Lib.hid (HPI9.out.call hk9 hps9)
        have HLIT10 := Lib.hid (HPI9.out.keepS hk9 HLIT9.out)
        have HLEM := Lib.hid (show (mustS sCatch s7).toks.length + 1 ≤ s.toks.length by have h1 := must_len sCatch s7; have h2 := HLE7.out; have h3 := HLT.out; omega)
        clear hps9 hk9 g0 g1 g2 g3 g4 g5 g6 p7 i7 f7 p9 i9 f9
        obtain ⟨p9, i9, f9⟩ := HPI10.out.boxes
        go_wp2_with fail
        refine (HA.out w9 _ HPI10.out.ps HPI10.out.lt.2.1 HLEM.out).mono ?_
        rintro e w10 ⟨v, l, s10, rfl, hev10, hns10, hps10, hle10, hk10⟩
        obtain ⟨r1, r2, rfl⟩ := hns10.form
        have hpi10 := HPI10.out.call hk10 hps10
        have hcl10 := HPI10.out.slice hns10
        have hot10 := HPI10.out.keepS hk10 HLIT10.out
        have hpi11 := (hpi10.set 5 (.slice r1 l.length r2)).at (cs' := #[.int .i64 16, .int .i64 0, .string ⟨#[]⟩, .int .i64 (plc s), .slice none 0 0, .slice r1 l.length r2, .slice q1 b.length q2]) (by simp)
        have hcl11 := hcl10.keepX (set7a (i := 5) hpi10.n (.slice r1 l.length r2)).2 (by simp)
        have hot11 := hot10.keepX (set7a (i := 5) hpi10.n (.slice r1 l.length r2)).2 (by simp)
        have HM2 := Lib.hid (p_must hpi11.ps hpi11.lt.2.1 sEnd)
        have HPI11 := Lib.hid hpi11
        have HCL11 := Lib.hid hcl11
        have HOT11 := Lib.hid hot11
        have HEV10 := Lib.hid hev10
        have HLE10 := Lib.hid hle10
        clear hev10 hns10 hps10 hle10 hk10 hcl10 hot10 hcl11 hot11 p9 i9 f9
        obtain ⟨p10, i10, f10⟩ := hpi10.boxes
        obtain ⟨g0, g1, g2, g3, g4, g5, g6⟩ := cells7 hpi10.n
        obtain ⟨p11, i11, f11⟩ := hpi11.boxes
        clear hpi10 hpi11
        go_wp2_with fail
        refine HM2.out.mono ?_
        rintro e w12 ⟨rfl, hps12, hk12⟩
        have HPI12 := Lib.hid (HPI11.out.call hk12 hps12)
        have HCL12 := Lib.hid (HPI11.out.keepS hk12 HCL11.out)
        have HOT12 := Lib.hid (HPI11.out.keepS hk12 HOT11.out)
        clear hps12 hk12 g0 g1 g2 g3 g4 g5 g6 p10 i10 f10 p11 i11 f11
        go_wp2_with fail
        exact HCUT.out _ _ (CutF.mk rfl ⟨rfl, rfl, _, _, _, Ev.of_prim_try HLS.out HO.out HEV7.out HEV10.out, HPI12.out, NdR.mk7 (kind := 16) (num := 0) (name := []) (at_ := plc s) (NsR.nil _ _ false) HCL12.out HOT12.out, by have h1 := must_len sEnd s10; have h2 := HLE10.out; have h3 := HLEM.out; omega⟩)
  · obtain rfl := HLF2.out a hl
    have hev := Ev.of_prim_leaf (d := d) hl
    have c2 : w2.cell? ⟨w.heap.size, 0, none⟩ = some (.pointer (some ⟨pb, 0, none⟩)) := by simp [World.cell?, HP2.out]
    have hk3 := (Keep.refl [] w2).alloc (.cells #[.int .i64 k, .int .i64 i, .string ⟨nm.toArray⟩, .int .i64 at0, .slice none 0 0, .slice none 0 0, .slice none 0 0] 29)
    have hl3 := heap_alloc_new w2 (.cells #[.int .i64 k, .int .i64 i, .string ⟨nm.toArray⟩, .int .i64 at0, .slice none 0 0, .slice none 0 0, .slice none 0 0] 29)
    have hr3 := blkK HR2.out hk3 (by simp)
    obtain ⟨d0, d1, d2, d3, d4, d5, d6⟩ := cells7 hr3
    have f3 := frozenP hr3
    have HEV := Lib.hid hev
    have HR3 := Lib.hid hr3
    have HPS3 := Lib.hid (HPS2.out.keep0 hk3)
    have HKW3 := Lib.hid (HKW2.out.trans hk3 (by simp))
    clear hl hev hk3 hr3
    go_wp2_with fail
    obtain ⟨hr4, hk4⟩ := set7 HR3.out (.int .i64 k) (.int .i64 i) (.string ⟨nm.toArray⟩) (.int .i64 at0) (.slice none 0 0) (.slice none 0 0) (.slice none 0 0)
    refine bodyPost_ret (results_cell_row (ty := 29) rfl _ _ (w.heap.size + 1) _ _ _ _ rfl hr4 Tryz.underlying29 rfl node_size) rfl ?_
    obtain ⟨hplo, hlo, hd⟩ := HN.out
    exact ⟨_, _, _, rfl, HEV.out, NdR.mk7 (NsR.nil _ _ false) (NsR.nil _ _ true) (NsR.nil _ _ false), HPS3.out.keep hk4 (by simp; omega), HLEN2.out, keepB (lo := w.heap.size) ((HKW3.out.mono (G := [pb, w.heap.size + 1]) (by simp)).trans hk4 (by simp)) (by simp) (Nat.le_refl _)⟩
end Go.Proofs.YtdmmhfbafinkpaaGreatDoor
