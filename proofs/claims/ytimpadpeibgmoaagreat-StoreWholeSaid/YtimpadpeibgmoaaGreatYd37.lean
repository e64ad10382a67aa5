/- A part of the proof (St12), joined by squeeze2.py. -/
import Derived.Test.YtimpadpeibgmoaaGreatYd36
set_option maxHeartbeats 8000000
set_option maxRecDepth 100000
namespace Go.Emb
open Go.RowKit
theorem listIn_append_any {P : Program} {w : World} {l N : Nat} {ops : Array Oper} {rest : List Oper} {o : Oper} {a : Act} {Q : Exit → Act → World → Prop} (hgd : o.guard = none) (s x : Operand) (T tx : TypeId) (ho : o.op = .call { callee := .builtin .append, args := #[s, x], argTypes := #[T, tx] })
  (E e' : TypeId) (i : TypeInfo) (z : Value) (k bytes : Nat) (ht : P.underlying T = some (.slice E)) (htx : P.underlying tx = some (.slice e')) (hi : P.info? E = some i) (hz : i.zero = some z) (hik : i.size = k) (hib : i.bytes = bytes) (hzs : z.cells.size = k)
  (v : Value) (n : Nat) (xs : List Value) (r : Option Nat) (hs : a.eval s = v) (hown : Row w E k v n xs r) (xv : Value) (hx : a.eval x = xv) (m : Nat) (news : List Value) (ox : Option Nat) (hrd : Rd w k xv m news ox) (h1 : ∀ u ∈ news, u.oneCell' = true) (h63 : n + m ≤ maxLen) (hbytes : (n + m) * bytes ≤ 140737488355328)
  (h : ∀ v' o' w', Row w' E k v' (n + m) (xs ++ news) o' → Keep r.toList w w' → (∀ b, o' = some b → r = some b ∨ w.heap.size ≤ b) → wpListIn (Fence.wide.inRound l) N P ops Q rest (a.put o.dst v') w') : wpListIn (Fence.wide.inRound l) N P ops Q (o :: rest) a w := by
 refine wpListIn_plain hgd fun K' hK' => wp_round (fun c => by rw [ho]; exact nofun) ?_
 obtain ⟨v', o', w', hr, h2, h3, h4⟩ := run_append_any (P := P) (w := w) (ty := o.type) ht htx hi hz hik hib hzs hown hrd h1 h63 hbytes
 unfold Oper.wp execOp
 simp only [ho, resolve, invoke, builtin, Sem.run_bind, Sem.run_pure, Result.andThen_ok, List.map_toArray, List.map_cons, List.map_nil, hs, hx, hr]
 exact hK' _ _ (h v' o' w' h2 h3 h4)
end Go.Emb
namespace Go.Proofs.YtimpadpeibgmoaaGreat
open Go.RowKit Go.Emb Go.Lib Go.Emb.Ext Go.Shelf
attribute [local go_sem] Oper.semAt_some
noncomputable def ldB (d : DS) (k : Nat) : List UInt8 := ((openS (blkOf d k)).map (·.load)).getD []
theorem Holds.ld {d : DS} {bl : List Nat} {kind : UInt8} {num : Nat} {bs : List UInt8} (h : Holds d bl kind num bs) (hd : d.ok) (hk : kind ≠ 0) (hn : num < 18446744073709551616) : (∀ k ∈ bl, openS (blkOf d k) = some ⟨kind, num, ldB d k⟩ ∧ (ldB d k).length ≤ roomN d.sz) ∧ bl.map (ldB d) = chunks (roomN d.sz) bs := by
 have h1 : ∀ (i k : Nat), bl[i]? = some k → openS (blkOf d k) = some ⟨kind, num, chunk (roomN d.sz) bs i⟩ := fun i k hi => h.at hd hk hn hi
 refine ⟨fun k hk' => ?_, ?_⟩
 ·obtain ⟨i, hi⟩ := List.getElem?_of_mem hk'
  have h2 := h1 i k hi
  have h3 : ldB d k = chunk (roomN d.sz) bs i := by unfold ldB; rw [h2]; rfl
  rw [h3]
  exact ⟨h2, chunk_le _ _ _⟩
 ·apply List.ext_getElem?
  intro i
  rw [List.getElem?_map]
  cases hi : bl[i]? with
  | none =>
   have h4 := List.getElem?_eq_none_iff.1 hi
   rw [h.len] at h4
   rw [List.getElem?_eq_none (by rw [chunks_len]; exact h4)]
   rfl
  | some k =>
   have h2 := h1 i k hi
   have h3 : i < cnt (roomN d.sz) bs := by rw [← h.len]; exact (List.getElem?_eq_some_iff.1 hi).1
   rw [chunks_at h3]
   simp only [Option.map_some]
   unfold ldB
   rw [h2]
   rfl
theorem Holds.flat {d : DS} {bl : List Nat} {kind : UInt8} {num : Nat} {bs : List UInt8} (h : Holds d bl kind num bs) (hd : d.ok) (hk : kind ≠ 0) (hn : num < 18446744073709551616) : (bl.map (ldB d)).flatten = bs := by
 rw [(h.ld hd hk hn).2, chunks_flat (by have := (room_ok hd).2; omega)]
def RdI (Wb : World) (Bo : Nat) (d : DS) (pl : List E) (pre : List {k : Nat // k ∈ blkL pl}) (W : World) : Prop :=
 ∃ (v : Value) (o : Option Nat), W.heap[Bo]? = some (.cells #[v] 35 (0, 0)) ∧ RB W v (pre.map (fun x => ldB d x.1)).flatten o ∧ (∀ b, o = some b → Wb.heap.size ≤ b) ∧ Keep [Bo] Wb W
theorem rdI_own (Wb : World) (Bo : Nat) (d : DS) (pl : List E) (hBo : Bo < Wb.heap.size) : OwnFrom Wb.heap.size (RdI Wb Bo d pl) := by
 intro s W W' row hs hg hr
 obtain ⟨v, o, h1, h2, h3, h4⟩ := hs
 refine ⟨v, o, ?_, Row.grown h2 hg (fun r e => (hr r e).2), h3, h4.grown hg (fun k e => .inr (hr k e).1)⟩
 rw [hg.block Bo (Array.getElem?_eq_some_iff.1 h1).1 (fun e => by have := (hr Bo e.symm).1; omega)]
 exact h1
theorem flat_len {d : DS} {pl : List E} {R : Nat} (h : ∀ k ∈ blkL pl, (ldB d k).length ≤ R) (pre : List {k : Nat // k ∈ blkL pl}) : (pre.map (fun x => ldB d x.1)).flatten.length ≤ pre.length * R := by
 induction pre with
 | nil => simp
 | cons x l ih =>
  have h1 := h x.1 x.2
  rw [List.map_cons, List.flatten_cons, List.length_append, List.length_cons, Nat.add_mul]
  omega
theorem box_done2 {W : World} {g8 g9 D0 : Nat} {v8 x8 v9 x9 : Value} {t8 t9 : TypeId} (h8 : W.heap[g8]? = some (.cells #[x8] t8 (0, 0))) (h9 : W.heap[g9]? = some (.cells #[x9] t9 (0, 0))) (hD : W.heap[D0]? = some (.deferred (some []))) (hn : g8 ≠ g9) :
  ((W.setCell ⟨g8, 0, none⟩ v8).setCell ⟨g9, 0, none⟩ v9).heap[D0]? = some (.deferred (some [])) ∧
  (((W.setCell ⟨g8, 0, none⟩ v8).setCell ⟨g9, 0, none⟩ v9).putObj D0 (.deferred none)).cell? ⟨g8, 0, none⟩ = some v8 ∧
  (((W.setCell ⟨g8, 0, none⟩ v8).setCell ⟨g9, 0, none⟩ v9).putObj D0 (.deferred none)).cell? ⟨g9, 0, none⟩ = some v9 ∧
  Keep [g8, g9, D0] W (((W.setCell ⟨g8, 0, none⟩ v8).setCell ⟨g9, 0, none⟩ v9).putObj D0 (.deferred none)) := by
 have n8 : g8 ≠ D0 := fun e => by rw [e, hD] at h8; cases h8
 have k1 : Keep [g8] W (W.setCell ⟨g8, 0, none⟩ v8) := Keep.set1 W ⟨g8, 0, none⟩ v8
 have b8 : (W.setCell ⟨g8, 0, none⟩ v8).heap[g8]? = some (.cells #[v8] t8 (0, 0)) := by simpa using heap_setCell_at (i := 0) h8 v8
 have b9 := blkk h9 k1 (by simpa using hn.symm)
 have hD1 := (k1.block D0 (Array.getElem?_eq_some_iff.1 hD).1 (by simpa using fun e => n8 e.symm)).trans hD
 obtain ⟨c1, c2, c3⟩ := box_done (v4 := v9) b9 hD1
 refine ⟨c1, cell1 (blkk b8 c3 (by simp; exact ⟨hn, n8⟩)), c2, (k1.mono (by simp)).trans (c3.mono (F := [g9, D0]) (G := [g8, g9, D0]) (by simp)) (fun b hb => .inl hb)⟩
def ReadHP (w : World) (bs : List UInt8) (e : Ending) (w' : World) : Prop := ∃ v o, e = .returned (.tuple #[v, .bool true]) ∧ RB w' v bs o ∧ (∀ b, o = some b → w.heap.size ≤ b) ∧ Keep [] w w'
theorem st_read {w : World} {q : Nat} {lm : List Int} {D : List Nat} {d : DS} {S : Nat → Prop} {v : Value} {pl : List E} {kind : UInt8} {num : Nat} {bs : List UInt8} (h : DK w q lm D d) (hoff : d.off = false) (hx : XRd S w v pl) (hin : ∀ e ∈ pl, 0 ≤ e.1 ∧ 1 ≤ e.2 ∧ e.1 + e.2 ≤ d.n)
  (hh : Holds d (blkL pl) kind num bs) (hkd : kind ≠ 0) (hnum : num < 18446744073709551616) (hbl : (blkL pl).length ≤ 1000000) :
  Calls Tryz.prog 42 #[.pointer (some ⟨q, 0, none⟩), v, .int .u8 kind.toNat, .int .u64 (num : Nat)] w (ReadHP w bs) := by
 obtain ⟨pa, pc, rfl, -, -⟩ := hx.form
 obtain ⟨po, hpr, hpo⟩ := hx.rde
 have hok := h.isok
 have hsz := hok.2.2.1
 have hsz2 := hok.2.2.2.1
 have hn16 := hok.2.1
 have hld := (hh.ld hok hkd hnum).1
 have hfl := hh.flat hok hkd hnum
 have hrm : roomN d.sz ≤ 4096 := by unfold roomN; split <;> omega
 have hk1 : Keep [] w (((((w.alloc (.cells #[.pointer (some ⟨q, 0, none⟩)] 25)).alloc (.cells #[.int .u8 kind.toNat] 5)).alloc (.cells #[.int .u64 (num : Nat)] 54)).alloc (.cells #[.slice none 0 0] 35)).alloc (.cells #[.bool false] 4)) := (((((Keep.refl [] w).alloc _).alloc _).alloc _).alloc _).alloc _
 have hb4 := lit_alloc (lit_alloc (lit_alloc (lit_alloc (heap_new w (.cells #[.pointer (some ⟨q, 0, none⟩)] 25)) (.cells #[.int .u8 kind.toNat] 5)) (.cells #[.int .u64 (num : Nat)] 54)) (.cells #[.slice none 0 0] 35)) (.cells #[.bool false] 4)
 have hb6 := lit_alloc (lit_alloc (lit_alloc (heap_new (w.alloc (.cells #[.pointer (some ⟨q, 0, none⟩)] 25)) (.cells #[.int .u8 kind.toNat] 5)) (.cells #[.int .u64 (num : Nat)] 54)) (.cells #[.slice none 0 0] 35)) (.cells #[.bool false] 4)
 have hb7 := lit_alloc (lit_alloc (heap_new ((w.alloc (.cells #[.pointer (some ⟨q, 0, none⟩)] 25)).alloc (.cells #[.int .u8 kind.toNat] 5)) (.cells #[.int .u64 (num : Nat)] 54)) (.cells #[.slice none 0 0] 35)) (.cells #[.bool false] 4)
 have hb8 := lit_alloc (heap_new (((w.alloc (.cells #[.pointer (some ⟨q, 0, none⟩)] 25)).alloc (.cells #[.int .u8 kind.toNat] 5)).alloc (.cells #[.int .u64 (num : Nat)] 54)) (.cells #[.slice none 0 0] 35)) (.cells #[.bool false] 4)
 have hb9 := heap_new ((((w.alloc (.cells #[.pointer (some ⟨q, 0, none⟩)] 25)).alloc (.cells #[.int .u8 kind.toNat] 5)).alloc (.cells #[.int .u64 (num : Nat)] 54)).alloc (.cells #[.slice none 0 0] 35)) (.cells #[.bool false] 4)
 have hsz1 : (((((w.alloc (.cells #[.pointer (some ⟨q, 0, none⟩)] 25)).alloc (.cells #[.int .u8 kind.toNat] 5)).alloc (.cells #[.int .u64 (num : Nat)] 54)).alloc (.cells #[.slice none 0 0] 35)).alloc (.cells #[.bool false] 4)).heap.size = w.heap.size + 5 := by simp
 simp only [size_alloc] at hb6 hb7 hb8 hb9
 have H := hyd h
 have HK1 := hyd hk1
 have HB4 := hyd hb4
 have HB6 := hyd hb6
 have HB7 := hyd hb7
 have HB8 := hyd hb8
 have HB9 := hyd hb9
 have HSZ1 := hyd hsz1
 have HPR := hyd hpr
 have HPO := hyd hpo
 have HIN := hyd hin
 have HLD := hyd hld
 have HFL := hyd hfl
 have HBL := hyd hbl
 have hxl := hx.2.2
 clear h hk1 hb4 hb6 hb7 hb8 hb9 hsz1 hpr hpo hin hx hld hfl hh hbl
 refine (callsIn_wide (n := 6)).1 ?_
 have hro : Fence.wide.round = none := rfl
 refine callsIn_of_wp_marks Tryz.func42 rfl trivial ?_ hro
 simp only [Tryz.ntmps42, List.size_toArray, List.length_cons, List.length_nil, Nat.reduceAdd, Nat.reduceSub, Array.replicate_succ, Array.replicate_zero, List.push_toArray, List.append_toArray, List.nil_append, List.cons_append]
 refine wpIn_wide.2 (wp_mono (Q := postN Fence.wide 6 Tryz.prog Tryz.f42 (ReadHP w bs)) ?_ postN_post)
 go_upto_region 1 with fail
 generalize (((((w.alloc (.cells #[.pointer (some ⟨q, 0, none⟩)] 25)).alloc (.cells #[.int .u8 kind.toNat] 5)).alloc (.cells #[.int .u64 (num : Nat)] 54)).alloc (.cells #[.slice none 0 0] 35)).alloc (.cells #[.bool false] 4)) = w1 at *
 go_wp2_with (go_at_call 68; refine p_blocksF.mono ?_; rintro e w5 ⟨rfl, rfl⟩)
 refine (wpIn_wide (n := 6)).1 ?_
 have hkb : Keep [] w1 (w1.alloc (.cells #[.slice pa pl.length pc] 46)) := (Keep.refl [] w1).alloc _
 have hbs := heap_new w1 (.cells #[.slice pa pl.length pc] 46)
 have hszb : (w1.alloc (.cells #[.slice pa pl.length pc] 46)).heap.size = w1.heap.size + 1 := by simp
 have HBS := hyd hbs
 have HSZB := hyd hszb
 have HKB1 := hyd hkb
 have HKB := hyd (HK1.o.trans hkb (by simp))
 clear hkb hbs hszb
 generalize w1.alloc (.cells #[.slice pa pl.length pc] 46) = Wb at *
 have HW1 := hyd HSZ1.o
 generalize w1.heap.size = B11 at *
 have hb8l : w.heap.size + 1 + 1 + 1 < Wb.heap.size := by have := HSZB.o; have := HW1.o; omega
 obtain ⟨i0, hi, hz0, hz1, hz2⟩ := info_parts byte_info
 have HI := hyd hi
 clear hi
 refine wpIn_rangeFunc_ownH hro (by omega) (gf := 107) (lb := #[.pointer (some ⟨B11, 0, none⟩)]) rfl trivial (enters_of Tryz.func107 (by kernel_rfl) rfl)
  (blkT_stops (fun b => b ≠ w.heap.size + 1 + 1 + 1 ∧ b < Wb.heap.size) (6 - 1) (by omega) B11 (.slice pa pl.length pc) pl po hxl (fun e he => by have := HIN.o e he; omega) Wb HBS.o
    ⟨by have := HW1.o; omega, by have := HSZB.o; omega⟩ (RdE.keep HPR.o HKB.o (by simp)) (fun b hb => by
      have h1 := HPO.o b hb
      exact ⟨by omega, Nat.lt_of_lt_of_le h1.1 HKB.o.size⟩)) KpT.trans (fun W l o o' _ hl ho _ => KpT.putObj _ W l o o' hl ho) (Below.refl _ _) (fun _ => rfl)
  (RdI Wb (w.heap.size + 1 + 1 + 1) d pl) (fun _ _ _ => False) (rdI_own Wb (w.heap.size + 1 + 1 + 1) d pl hb8l) (fun _ _ _ _ _ hs _ _ => hs)
  ⟨_, none, blkk HB8.o HKB1.o (by simp), Row.nil _ _ _, by simp, Keep.refl _ _⟩
  (fun x a' _ => a' = { tmps := #[(.pointer (some ⟨q, 0, none⟩)), (.slice pa pl.length pc), (.int .u8 kind.toNat), (.int .u64 (num : Nat)), (.pointer (some ⟨w.heap.size, 0, none⟩)), undef, (.pointer (some ⟨w.heap.size + 1, 0, none⟩)), (.pointer (some ⟨w.heap.size + 1 + 1, 0, none⟩)), (.pointer (some ⟨w.heap.size + 1 + 1 + 1, 0, none⟩)), (.pointer (some ⟨w.heap.size + 1 + 1 + 1 + 1, 0, none⟩)), (.int .i64 (x.1 : Nat)), undef, undef, undef, (.slice pa pl.length pc), (.func (.func 107) #[] #[.pointer (some ⟨B11, 0, none⟩)]), (.int .i64 (x.1 : Nat)), undef, undef, undef, undef, undef, undef, undef, undef, undef, undef, undef, undef, undef, undef, undef, undef, undef, undef, undef, undef, undef, undef, undef, undef, undef, undef, undef, undef, undef, undef, undef, undef], defers := [] }) (fun _ _ _ _ _ _ h _ _ => h)
  ?assign ?body ?done ?stop
 case assign =>
  rintro l pre x W K hI hK
  obtain ⟨v1, o1, hbx, hrb, ho1, hkw⟩ := id hI
  clear hbx hrb ho1 hkw
  gi_wp2
  exact hK _ _ ((KeepsOthers.refl _).from _) (KpT.refl _ _) hI rfl
 case body =>
  rintro l pre x a' W hl hloop ⟨v1, o1, hbx, hrb, ho1, hkw⟩ rfl hlt
  obtain ⟨k, hk⟩ := x
  simp only
  have hkn : k < d.n := blk_lt HIN.o k hk
  obtain ⟨hop, hldl⟩ := HLD.o k hk
  obtain ⟨C1, hC1⟩ : ∃ z, z = (pre.map (fun x => ldB d x.1)).flatten := ⟨_, rfl⟩
  have hcl := flat_len (R := 4096) (fun k hk => Nat.le_trans (HLD.o k hk).2 hrm) pre
  rw [← hC1] at hrb hcl
  obtain ⟨va, vc, N1, hN1, rfl⟩ : ∃ a c n, n = C1.length ∧ v1 = .slice a n c := by
   obtain ⟨a, c, h, -⟩ := hrb.form
   exact ⟨a, c, _, rfl, h⟩
  have hrow : Row W 5 1 (.slice va N1 vc) N1 (Lib.byteCells C1) o1 := by
   have h := hrb
   unfold RB at h
   rwa [← hN1] at h
  have hNl : N1 ≤ 4096000000 := by have := HBL.o; omega
  have hcb := blkk (blkk HB4.o HKB1.o (by simp)) hkw (by simp; omega)
  have hc6 := blkk (blkk HB6.o HKB1.o (by simp)) hkw (by simp)
  have hc7 := blkk (blkk HB7.o HKB1.o (by simp)) hkw (by simp)
  have d4 := cell1 hcb
  have HC6 := hyd hc6
  have HC7 := hyd hc7
  have HBX := hyd hbx
  have HC1 := hyd hC1
  have HN1 := hyd hN1
  have HROW := hyd hrow
  have HO1 := hyd ho1
  have HKW := hyd hkw
  have HOP := hyd hop
  have HPRD := hyd (p_read (H.o.keep0 (HKB.o) |>.keep hkw (fun b hb hm => by
    simp at hm; subst hm
    have := H.o.lt _ hb; omega)) (k : Int))
  have hbkl := blkOf_len hok hkn
  have HBKL := hyd hbkl
  clear hcb hc6 hc7 hbx hC1 hN1 hrow hrb ho1 hkw hop hloop hbkl hlt
  gi_wp2_with fail
  refine ⟨trivial, (CallsIn.inRound l (callsIn_wide.2 HPRD.o)).mono ?_⟩
  rintro e w2 ⟨hc, hk2⟩
  obtain ⟨v2, o2, rfl, hr2, ho2⟩ : ∃ v o, e = .returned (.tuple #[v, .int .i64 0]) ∧ RB w2 v (blkOf d k) o ∧ (∀ b, o = some b → W.heap.size ≤ b) := by
   rcases hc with ⟨h1, -⟩ | ⟨-, h1, -⟩ | ⟨-, -, v, o, h1, h2, h3⟩
   ·exact absurd ⟨by omega, by omega⟩ h1
   ·rw [hoff] at h1; cases h1
   ·exact ⟨v, o, h1, h2, h3⟩
  obtain ⟨o2', hrd2, hoo2⟩ := Row.rd hr2
  have hsl := sl_get (w := w2) hrd2 (fun c hc => by
    rcases hoo2 with h | h
    · rw [h] at hc; cases hc
    · exact RB.lt hr2 c (h ▸ hc)) (by rw [HBKL.o]; omega)
  obtain ⟨a2, c2, N2, hN2, rfl⟩ : ∃ a c n, n = (blkOf d k).length ∧ v2 = .slice a n c := by
   obtain ⟨a, c, h, -⟩ := hr2.form
   exact ⟨a, c, _, rfl, h⟩
  have HSL := hyd hsl
  have HK2 := hyd hk2
  clear hc hk2 hr2 ho2 hrd2 hoo2 hsl hN2 d4
  gi_wp2_with fail
  refine ⟨trivial, (CallsIn.inRound l (callsIn_wide.2 HSL.o)).mono ?_⟩
  rintro e w3 ⟨hc, hk3⟩
  obtain ⟨lv, o3, rfl, hr3, ho3⟩ : ∃ lv o, e = .returned (.tuple #[.agg #[.int .u8 kind.toNat, .int .u64 (num : Nat), lv], .int .i64 0]) ∧ RB w3 lv (ldB d k) o ∧ (∀ c, o = some c → w2.heap.size ≤ c) := by
   rcases hc with ⟨h1, -⟩ | ⟨x, lv, o, h1, h2, h3, h4⟩
   ·rw [HOP.o] at h1; cases h1
   ·rw [HOP.o] at h1
    injection h1 with h1
    subst h1
    exact ⟨lv, o, h2, h3, h4⟩
  obtain ⟨LD, hLD⟩ : ∃ z, z = ldB d k := ⟨_, rfl⟩
  rw [← hLD] at hr3 hldl
  obtain ⟨a3, c3, M1, hM1, rfl⟩ : ∃ a c n, n = LD.length ∧ lv = .slice a n c := by
   obtain ⟨a, c, h, -⟩ := hr3.form
   exact ⟨a, c, _, rfl, h⟩
  obtain ⟨o3', hrd3, hoo3⟩ := Row.rd hr3
  rw [← hM1] at hrd3
  have hka : Keep [] w3 (w3.alloc (.cells #[.int .u8 kind.toNat, .int .u64 (num : Nat), .slice a3 M1 c3] 131)) := (Keep.refl [] w3).alloc _
  have hk4 : Keep [] W (w3.alloc (.cells #[.int .u8 kind.toNat, .int .u64 (num : Nat), .slice a3 M1 c3] 131)) := (HK2.o.trans hk3 (by simp)).trans hka (by simp)
  obtain ⟨g0, g1, g2⟩ := cells3b (heap_new w3 (.cells #[.int .u8 kind.toNat, .int .u64 (num : Nat), .slice a3 M1 c3] 131))
  have d6 := cell1 (blkk HC6.o hk4 (by simp))
  have d7 := cell1 (blkk HC7.o hk4 (by simp))
  have hbx4 := blkk HBX.o hk4 (by simp)
  have d8 := cell1 hbx4
  have HBX4 := hyd hbx4
  have HROW4 := hyd (HROW.o.keep hk4 (by simp))
  have HRD4 := hyd (hrd3.keep hka (by simp))
  have HK4 := hyd hk4
  have HLD2 := hyd hLD
  have HM1 := hyd hM1
  have HSZ4 := hyd (show W.heap.size ≤ (w3.alloc (.cells #[.int .u8 kind.toNat, .int .u64 (num : Nat), .slice a3 M1 c3] 131)).heap.size from hk4.size)
  have HONE := hyd (show ∀ u ∈ Lib.byteCells LD, u.oneCell' = true from fun u hu => by
    unfold Lib.byteCells at hu
    obtain ⟨z, -, rfl⟩ := List.mem_map.1 hu
    rfl)
  have hM : M1 ≤ 4096 := by omega
  clear hc hk3 hr3 ho3 hLD hM1 hrd3 hoo3 hka hk4 hbx4
  gi_wp2_with (gi_at_builtin; refine listIn_append_any rfl _ _ 35 35 rfl 5 5 i0 (.int .u8 0) 1 1 Tryz.underlying35 Tryz.underlying35 HI.o hz0 hz1 hz2 rfl _ N1 (Lib.byteCells C1) o1 rfl HROW4.o _ rfl M1 (Lib.byteCells LD) o3' HRD4.o HONE.o (by first | (unfold maxLen; omega) | (simp [maxLen] <;> omega)) (by omega) ?_)
  intro v' o' w' hr' hk' hg'
  obtain ⟨a4, c4, N4, hN4, rfl⟩ : ∃ a c n, n = N1 + M1 ∧ v' = .slice a n c := by
   obtain ⟨o5, ⟨-, a, c, h, -⟩, -⟩ := hr'.rd
   exact ⟨a, c, _, rfl, h⟩
  rw [← hN4] at hr'
  have HN4 := hyd hN4
  clear hN4
  have hno8 : w.heap.size + 1 + 1 + 1 ∉ o1.toList := fun hm => by
   have := HO1.o _ (by simpa using hm)
   omega
  have hbx5 := blkk HBX4.o hk' hno8
  have d8' := cell1 hbx5
  have f8 := frozen4 hbx5
  have HBX5 := hyd hbx5
  have HR5 := hyd hr'
  have HK5 := hyd hk'
  have HG5 := hyd hg'
  clear hr' hk' hg' hbx5 d6 d7 d8 g0 g1 g2
  gi_wp2_with fail
  have hks : Keep [w.heap.size + 1 + 1 + 1] w' (w'.setCell ⟨w.heap.size + 1 + 1 + 1, 0, none⟩ (.slice a4 N4 c4)) := Keep.set1 w' ⟨w.heap.size + 1 + 1 + 1, 0, none⟩ _
  have hkall : Keep ((w.heap.size + 1 + 1 + 1) :: o1.toList) W (w'.setCell ⟨w.heap.size + 1 + 1 + 1, 0, none⟩ (.slice a4 N4 c4)) := (((HK4.o.mono (G := o1.toList) (by simp)).trans HK5.o (fun b hb => .inl hb)).mono (fun b hb _ => by simp at hb; simp [hb])).trans (hks.mono (G := (w.heap.size + 1 + 1 + 1) :: o1.toList) (by simp)) (fun b hb => .inl hb)
  have hWs : Wb.heap.size ≤ W.heap.size := HKW.o.size
  have hbn : ∀ b, o' = some b → Wb.heap.size ≤ b := fun b hb => by
   rcases HG5.o b hb with h | h
   ·exact HO1.o b h
   ·have h1 := HSZ4.o
    simp only [size_alloc] at h1
    omega
  have hcell : (w'.setCell ⟨w.heap.size + 1 + 1 + 1, 0, none⟩ (.slice a4 N4 c4)).heap[w.heap.size + 1 + 1 + 1]? = some (.cells #[.slice a4 N4 c4] 35 (0, 0)) := by simpa using heap_setCell_at (i := 0) HBX5.o (.slice a4 N4 c4)
  refine ⟨(hkall.others (fun b hb => ?_)).from _, KpT.of_keep hkall (fun b hb => ?_), .slice a4 N4 c4, o', hcell, ?_, hbn, ?_⟩
  ·rcases List.mem_cons.1 hb with rfl | hb
   ·exact ⟨_, HBX.o, rfl⟩
   ·obtain ⟨cs, h⟩ := row_blk (show Row W 5 _ _ _ _ (some b) from (show o1 = some b by simpa using hb) ▸ HROW.o)
    exact ⟨_, h, rfl⟩
  ·rcases List.mem_cons.1 hb with rfl | hb
   ·refine ⟨fun h => h.1 rfl, fun cs h => ?_⟩
    rw [HBX.o] at h
    injection h with h
    injection h with _ h
    exact absurd h (by decide)
   ·have hb' : o1 = some b := by simpa using hb
    refine ⟨fun h => by have := HO1.o b hb'; omega, fun cs h => ?_⟩
    obtain ⟨cs', h2⟩ := row_blk (show Row W 5 _ _ _ _ (some b) from hb' ▸ HROW.o)
    rw [h] at h2
    injection h2 with h2
    injection h2 with _ h2
    exact absurd h2 (by decide)
  ·have h := HR5.o.keep hks (fun b hb => by have := hbn b hb; simp; omega)
   rw [byteCells_append] at h
   have e : ((pre ++ [(⟨k, hk⟩ : {k : Nat // k ∈ blkL pl})]).map (fun x => ldB d x.1)).flatten = C1 ++ LD := by
    rw [List.map_append, List.flatten_append, HC1.o, HLD2.o]
    simp
   have hl : N4 = (C1 ++ LD).length := by rw [HN4.o, HN1.o, HM1.o, List.length_append]
   rw [e]
   unfold RB
   rw [← hl]
   exact h
  ·refine HKW.o.trans (hkall.mono (G := (w.heap.size + 1 + 1 + 1) :: o1.toList) (fun b hb _ => hb)) (fun b hb => ?_)
   rcases List.mem_cons.1 hb with rfl | hb
   ·exact .inl (by simp)
   ·exact .inr (HO1.o b (by simpa using hb))
 case done =>
  rintro D0 zs W hD hzs ⟨v1, o1, hbx, hrb, ho1, hkw⟩ hK
  have hcont : (zs.map (fun x => ldB d x.1)).flatten = bs := by
   have h := congrArg (fun l => (l.map (ldB d)).flatten) hzs
   simp only [List.map_map] at h
   rw [HFL.o] at h
   exact h
  rw [hcont] at hrb
  obtain ⟨va, vc, N1, hN1, rfl⟩ : ∃ a c m, m = bs.length ∧ v1 = .slice a m c := by
   obtain ⟨a, c, h, -⟩ := hrb.form
   exact ⟨a, c, _, rfl, h⟩
  have hb9 := blkk (blkk HB9.o HKB1.o (by simp)) hkw (by simp)
  have e8 := cell1 hbx
  have f8 := frozen4 hbx
  have e9 := cell1 hb9
  have f9 := frozen4 hb9
  have HBX := hyd hbx
  have HB9W := hyd hb9
  have HDK := hyd hK
  have HRB := hyd hrb
  have HO1 := hyd ho1
  have HKW := hyd hkw
  have HN1 := hyd hN1
  clear hbx hb9 hK hrb ho1 hkw hN1 hcont hzs
  have HBD := hyd (box_done2 (v8 := .slice va N1 vc) (v9 := .bool true) HBX.o HB9W.o HDK.o (by omega))
  go_wp2_with fail
  obtain ⟨hD1, q8, q9, hkf⟩ := HBD.o
  have hsw := HSZB.o
  have hw1 := HW1.o
  refine ⟨by simp, .inl ⟨_, _, rfl, run_takeDeferred hD1, ?_⟩⟩
  refine ⟨.tuple #[.slice va N1 vc, .bool true], by simp [results, Tryz.results42, go_sem, q8, q9], ?_⟩
  refine ⟨_, o1, rfl, HRB.o.keep hkf (fun b hb hm => ?_), fun b hb => by have := HO1.o b hb; omega, (HKB.o.trans HKW.o (fun b hb => by simp at hb; subst hb; exact .inr (by omega))).trans hkf (fun b hb => by
    simp at hb
    rcases hb with rfl | rfl | rfl
    · exact .inr (by omega)
    · exact .inr (by omega)
    · exact .inr (by omega))⟩
  have h1 := HO1.o b hb
  simp at hm
  rcases hm with rfl | rfl | rfl
  ·omega
  ·omega
  ·obtain ⟨cs, hcs⟩ := row_blk (show Row W 5 _ _ _ _ (some b) from hb ▸ HRB.o)
   have h2 := HDK.o
   rw [hcs] at h2
   cases h2
 case stop =>
  rintro D0 c pre W _ _ h _
  exact h.elim
end Go.Proofs.YtimpadpeibgmoaaGreat
