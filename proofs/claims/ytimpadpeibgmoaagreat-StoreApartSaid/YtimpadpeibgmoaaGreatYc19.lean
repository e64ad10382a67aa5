/- A part of the proof (Su10, Su11, Su12), joined by squeeze2.py. -/
import Derived.Test.YtimpadpeibgmoaaGreatYc18
import Derived.Lib.SliceRun
set_option maxHeartbeats 8000000
set_option maxRecDepth 100000
namespace Go.Proofs.YtimpadpeibgmoaaGreat
open Go.RowKit Go.Emb
def blkOf (d : DS) (k : Nat) : List UInt8 := (d.L.drop (k * d.sz)).take d.sz
theorem blk_le {d : DS} (h : d.ok) {k : Nat} (hk : k < d.n) : k * d.sz + d.sz ≤ d.n * d.sz := by
 have := Nat.mul_le_mul_right d.sz (show k + 1 ≤ d.n from hk)
 rw [Nat.succ_mul] at this
 exact this
theorem blkOf_len {d : DS} (h : d.ok) {k : Nat} (hk : k < d.n) : (blkOf d k).length = d.sz := by
 have h1 := blk_le h hk
 have h2 := h.2.2.2.2.1
 unfold blkOf
 rw [List.length_take, List.length_drop]
 omega
def ReadP (w : World) (d : DS) (k : Int) (e : Ending) (w' : World) : Prop :=
 (¬ (0 ≤ k ∧ k < d.n) ∧ e = .returned (.tuple #[.slice none 0 0, .int .i64 2]) ∨
  (0 ≤ k ∧ k < d.n) ∧ d.off = true ∧ e = .returned (.tuple #[.slice none 0 0, .int .i64 20]) ∨
  (0 ≤ k ∧ k < d.n) ∧ d.off = false ∧ ∃ v o, e = .returned (.tuple #[v, .int .i64 0]) ∧ RB w' v (blkOf d k.toNat) o ∧ (∀ b, o = some b → w.heap.size ≤ b)) ∧ Keep [] w w'
theorem p_read {w : World} {q : Nat} {m : List Int} {D : List Nat} {d : DS} (h : DK w q m D d) (k : Int) :
  Calls Tryz.prog 69 #[.pointer (some ⟨q, 0, none⟩), .int .i64 k] w (ReadP w d k) := by
 obtain ⟨gb, c, logv, logs, lo, s, r, rfl, h1, h2, h3, h4, h5, h6⟩ := h
 have ok := h6
 obtain ⟨o1, o2, o3, o4, o5, o6, o7⟩ := h6
 have HH := hyd (p_has h1 rfl (by omega) o2 k)
 have HD := fun (w2 : World) (hk2 : Keep [] w w2) => p_dead (blkk h1 hk2 (by simp)) ((hk2.block c (Array.getElem?_eq_some_iff.1 h3).1 (by simp)).trans h3)
 have HDD := hyd HD
 have H1 := hyd h1
 have H2 := hyd h2
 have OK := hyd ok
 clear HD h1 h2 h3 h4 h5 o1 o2 o3 o4 o5 o6 o7 ok
 by_cases hk : 0 ≤ k ∧ k < (d.n : Int)
 ·rw [decide_eq_true hk] at HH
  have HK := hyd hk
  clear hk
  cases hoff : d.off with
  | true =>
   rw [hoff] at HDD
   go_enter Tryz.func69, Tryz.ntmps69
   go_wp2_with fail
   refine HH.o.mono ?_
   rintro e w2 ⟨rfl, hk2⟩
   go_wp2_with fail
   refine (HDD.o w2 hk2).mono ?_
   rintro e w3 ⟨rfl, rfl⟩
   go_wp2_with fail
   refine bodyPost_ret (results_tmp2 rfl _ _ _) rfl ?_
   exact ⟨.inr (.inl ⟨HK.o, hoff, rfl⟩), hk2⟩
  | false =>
   rw [hoff] at HDD
   have HOFF := hyd hoff
   clear hoff
   obtain ⟨kn, rfl⟩ : ∃ n : Nat, k = n := ⟨k.toNat, by have := HK.o; omega⟩
   have hkn : kn < d.n := by have := HK.o; omega
   have HKN := hyd hkn
   clear hkn
   go_enter Tryz.func69, Tryz.ntmps69
   go_wp2_with fail
   refine HH.o.mono ?_
   rintro e w2 ⟨rfl, hk2⟩
   go_wp2_with fail
   refine (HDD.o w2 hk2).mono ?_
   rintro e w3 ⟨rfl, rfl⟩
   have hblk := p_block (blkk H1.o hk2 (by simp)) rfl (by have := OK.o.2.2.1; omega) OK.o.2.2.2.1 OK.o.2.1 HKN.o
   have HBLK := hyd hblk
   clear hblk
   go_wp2_with fail
   refine HBLK.o.mono ?_
   rintro e w4 ⟨rfl, hk4⟩
   have hkw := hk2.trans hk4 (by simp)
   have hle := blk_le OK.o HKN.o
   have hmx := mul_le_disk OK.o.2.1 OK.o.2.2.2.1
   have hrd := (H2.o.keep hkw (by simp)).rd (off := kn * d.sz) (n := d.sz) (c := d.n * d.sz - kn * d.sz) (by rw [OK.o.2.2.2.2.1]; exact hle) (by omega) (by unfold maxLen; omega)
   have hcl := p_clone hrd (by rw [List.length_take]; have := OK.o.2.2.2.1; omega)
   rw [show List.take d.sz (List.drop (kn * d.sz) d.L) = blkOf d kn from rfl] at hcl
   have HCL := hyd hcl
   have HKW := hyd hkw
   clear hcl hrd hkw hle hmx hk2 hk4
   go_wp2_with fail
   refine HCL.o.mono ?_
   rintro e w5 ⟨v5, o5, rfl, hrb, hfr, hk5⟩
   obtain ⟨va, vc, rfl, -⟩ := hrb.form
   have HRB := hyd hrb
   have HFR := hyd hfr
   have HK5 := hyd hk5
   clear hrb hfr hk5
   go_wp2_with fail
   refine bodyPost_ret (results_tmp2 rfl _ _ _) rfl ?_
   refine ⟨.inr (.inr ⟨HK.o, HOFF.o, _, o5, rfl, ?_, fun b hb => Nat.le_trans HKW.o.size (HFR.o b hb)⟩), HKW.o.trans HK5.o (by simp)⟩
   have hx := HRB.o
   rw [Int.toNat_natCast]
   exact hx
 ·rw [decide_eq_false hk] at HH
  have HK := hyd hk
  clear hk
  go_enter Tryz.func69, Tryz.ntmps69
  go_wp2_with fail
  refine HH.o.mono ?_
  rintro e w2 ⟨rfl, hk2⟩
  go_wp2_with fail
  refine bodyPost_ret (results_tmp2 rfl _ _ _) rfl ?_
  exact ⟨.inl ⟨HK.o, rfl⟩, hk2⟩
theorem cells_ne {w : World} {a b : Nat} {x y : Array Value} {t u : TypeId} (h1 : w.heap[a]? = some (.cells x t (0, 0))) (h2 : w.heap[b]? = some (.cells y u (0, 0))) (hn : t ≠ u) : a ≠ b := by
 rintro rfl
 rw [h1] at h2
 injection h2 with h2
 injection h2 with _ h3 _
 exact hn h3
theorem chan_ne {w : World} {a b : Nat} {x : Array Value} {t : TypeId} {n s r : Nat} {f : Array Value} {cl tm : Bool} (h1 : w.heap[a]? = some (.cells x t (0, 0))) (h2 : w.heap[b]? = some (.chan n f cl s r tm)) : a ≠ b := by
 rintro rfl
 rw [h1] at h2
 cases h2
theorem row_ne {w : World} {E k n b : Nat} {v : Value} {xs : List Value} {lo : Option Nat} {o : Obj} (h : Row w E k v n xs lo) (h2 : w.heap[b]? = some o) (hn : ∀ cs, o ≠ .cells cs E (0, 0)) : ∀ l, lo = some l → l ≠ b := by
 rintro l hl rfl
 obtain ⟨-, ⟨h3, -⟩ | ⟨b', off, cap, cs, h3, -, h4, -⟩⟩ := h
 ·rw [h3] at hl; cases hl
 ·rw [h3] at hl
  cases hl
  rw [h2] at h4
  cases h4
  exact hn cs rfl
theorem set_dk {w : World} {q sz c : Nat} {bv lv : Value} {left : Int} {t : TypeId} (h : w.heap[q]? = some (.cells (dkCells sz bv lv left c) t (0, 0))) (l2 : Int) :
  (w.setCell ⟨q, 3, none⟩ (.int .i64 l2)).heap[q]? = some (.cells (dkCells sz bv lv l2 c) t (0, 0)) := heap_setCell_at h _
theorem clear_b {w : World} {g off n cap : Nat} {bs : List UInt8} {ty : TypeId} (hb : BB w g bs) (hfit : off + n ≤ bs.length) (h0 : 0 < n) :
  ∃ w', (Builtin.clear_ #[35] ty #[.slice (some ⟨g, off, none⟩) n cap]).run Tryz.prog w = .ok (.tuple #[]) w' ∧ BB w' g (bs.take off ++ List.replicate n 0 ++ bs.drop (off + n)) ∧ Keep [g] w w' := by
 obtain ⟨i0, hi, hz0, hz1, hz2⟩ := u8_ok
 have hzv : ∀ w, (zeroValue 5).run Tryz.prog w = .ok (Value.int .u8 0) w := fun w => by simp [zeroValue, typeInfo, hi, hz0]
 have hzc : (Builtin.zeroCells (Value.int .u8 0).cells n).toList = List.replicate n (Value.int .u8 0) := by
  have e : (Value.int IntKind.u8 0).cells = #[Value.int .u8 0] := rfl
  rw [e]
  simp [Builtin.zeroCells]
  apply List.ext_getElem
  ·simp
  ·intro i h1 h2
   simp [Nat.mod_one]
 have hst := run_storeCells_at Tryz.prog g off 5 (List.replicate n (Value.int .u8 0)) 0 _ w hb (by simp [Lib.byteCells]; omega) (fun v hv => by rw [(List.mem_replicate.1 hv).2]; rfl)
 obtain ⟨n', rfl⟩ : ∃ n', n = n' + 1 := ⟨n - 1, by omega⟩
 simp only [Nat.add_zero, List.length_replicate] at hst
 refine ⟨w.setRow g ((Lib.byteCells bs).toArray.toList.take off ++ List.replicate (n' + 1) (Value.int .u8 0) ++ (Lib.byteCells bs).toArray.toList.drop (off + (n' + 1))).toArray, ?_, ?_, ⟨rfl, rfl, rfl, by simp [World.setRow], fun k _ hk => setRow_other w g k _ (by simpa using hk)⟩⟩
 ·simp only [Builtin.clear_, Sem.run_bind, run_underlying Tryz.underlying35, Result.andThen_ok, hzv, hzc, hst]
  simp [run_underlying Tryz.underlying35, hzv, hzc, hst]
 ·unfold BB
  rw [setRow_heap w g _ _ 5 _ hb]
  simp [Lib.byteCells, List.map_take, List.map_drop]
theorem clear_0 (w : World) (a : Option Addr) (cap : Nat) (ty : TypeId) : (Builtin.clear_ #[35] ty #[.slice a 0 cap]).run Tryz.prog w = .ok (.tuple #[]) w := by
 cases a <;> simp [Builtin.clear_, run_underlying Tryz.underlying35]
def putB (d : DS) (k : Nat) (p : List UInt8) : List UInt8 := d.L.take (k * d.sz) ++ p ++ List.replicate (d.sz - p.length) 0 ++ d.L.drop (k * d.sz + d.sz)
theorem putB_len {d : DS} (h : d.ok) {k : Nat} (hk : k < d.n) {p : List UInt8} (hp : p.length ≤ d.sz) : (putB d k p).length = d.n * d.sz := by
 have h1 := blk_le h hk
 have h2 := h.2.2.2.2.1
 unfold putB
 simp only [List.length_append, List.length_take, List.length_drop, List.length_replicate]
 omega
theorem putB_full {d : DS} (h : d.ok) {k : Nat} (hk : k < d.n) {p : List UInt8} (hp : p.length = d.sz) : d.L.take (k * d.sz) ++ p ++ d.L.drop (k * d.sz + p.length) = putB d k p := by
 unfold putB
 rw [hp, Nat.sub_self]
 simp
theorem putB_short {d : DS} (h : d.ok) {k : Nat} (hk : k < d.n) {p : List UInt8} (hp : p.length < d.sz) :
  ((d.L.take (k * d.sz) ++ p ++ d.L.drop (k * d.sz + p.length)).take (k * d.sz + p.length) ++ List.replicate (d.sz - p.length) 0 ++ (d.L.take (k * d.sz) ++ p ++ d.L.drop (k * d.sz + p.length)).drop (k * d.sz + p.length + (d.sz - p.length))) = putB d k p := by
 have h1 := blk_le h hk
 have h2 := h.2.2.2.2.1
 have hl : (d.L.take (k * d.sz) ++ p).length = k * d.sz + p.length := by rw [List.length_append, List.length_take]; omega
 unfold putB
 rw [List.take_left' hl, List.drop_append, hl, List.drop_of_length_le (by omega), List.nil_append, List.drop_drop]
 congr 2
 omega
def writeD (d : DS) (k : Int) (p : List UInt8) : Int × DS :=
 if ¬ (0 ≤ k ∧ k < d.n) then (2, d)
 else if d.sz < p.length then (1, d)
 else if d.off = true then (20, d)
 else if d.left = 0 then (20, { d with off := true })
 else (0, { d with left := if 0 < d.left then d.left - 1 else d.left, L := putB d k.toNat p })
theorem one_src {P : Program} {tx e' : TypeId} (hk : P.underlying tx = some (.slice e')) (w : World) (x : Value) (hx : x.oneCell' = true) (t : TypeId) : Src P 1 tx (.slice (some ⟨w.heap.size, 0, none⟩) 1 1) 1 [x] (w.alloc (.cells #[x] t)) :=
 Src.ofSlice _ hk _ 1 1 [x] rfl (fun j u hu => by
   cases j with
   | zero => simp at hu; subst hu; simp [Addr.add]
   | succ j => simp at hu) (by simpa using hx)
theorem int_info : (Tryz.prog.info? 3).map (fun i => (i.zero, i.size, i.bytes)) = some (some (.int .i64 0), 1, 8) := by kernel_rfl
end Go.Proofs.YtimpadpeibgmoaaGreat
