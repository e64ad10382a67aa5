/- A part of the proof (Su4, Su5), joined by squeeze2.py. -/
import Derived.Test.YtimpadpeibgmoaaGreatYd16
import Derived.Laws.CopyRow
import Derived.Laws.MakeOwn
import Derived.Test.YtimpadpeibgmoaaGreatYd04
import Derived.Test.YtimpadpeibgmoaaGreatYd12
set_option maxHeartbeats 8000000
set_option maxRecDepth 100000
namespace Go.Proofs.YtimpadpeibgmoaaGreat
open Go.RowKit Go.Emb
theorem cells3b {w : World} {q : Nat} {a b c : Value} {t : TypeId} (h : w.heap[q]? = some (.cells #[a, b, c] t (0, 0))) : w.cell? ⟨q, 0, none⟩ = some a ∧ w.cell? ⟨q, 1, none⟩ = some b ∧ w.cell? ⟨q, 2, none⟩ = some c := by
 refine ⟨?_, ?_, ?_⟩ <;> simp [World.cell?, h]
theorem blkk {w w' : World} {b : Nat} {C : Obj} {F : List Nat} (hb : w.heap[b]? = some C) (hk : Keep F w w') (hn : b ∉ F) : w'.heap[b]? = some C := (hk.block b (Array.getElem?_eq_some_iff.1 hb).1 hn).trans hb
def SlPutP (w : World) (size : Nat) (x : Seal) (e : Ending) (w' : World) : Prop :=
 ((roomN size = 0 ∨ x.kind = 0) ∧ e = .returned (.tuple #[.slice none 0 0, .int .i64 2]) ∨
  ¬ (roomN size = 0 ∨ x.kind = 0) ∧ roomN size < x.load.length ∧ e = .returned (.tuple #[.slice none 0 0, .int .i64 1]) ∨
  ¬ (roomN size = 0 ∨ x.kind = 0) ∧ x.load.length ≤ roomN size ∧ ∃ g, e = .returned (.tuple #[.slice (some ⟨g, 0, none⟩) size size, .int .i64 0]) ∧ BB w' g (sealL size x) ∧ w.heap.size ≤ g) ∧ Keep [] w w'
theorem made_bytes (n : Nat) : madeCells (Value.int .u8 0).cells n = (Lib.byteCells (List.replicate n 0)).toArray := by
 apply Array.ext_getElem?
 intro i
 have e1 : (Value.int IntKind.u8 0).cells = #[Value.int .u8 0] := rfl
 simp only [madeCells, e1, Lib.byteCells, List.map_replicate]
 by_cases h : i < n
 ·simp [h, Nat.mod_one]
 ·simp [h]
theorem layL {A X : List UInt8} {off k r : Nat} (hA : A.length = off) (hX : X.length = k) (hk : k ≤ r) : (A ++ List.replicate r 0).take off ++ X ++ (A ++ List.replicate r 0).drop (off + k) = (A ++ X) ++ List.replicate (r - k) 0 := by
 subst hA hX
 rw [List.take_left' rfl, List.drop_append, List.drop_of_length_le (by omega), List.nil_append, List.drop_replicate]
 congr 2
 omega
theorem put0 {size : Nat} {kind : UInt8} (h : 0 < size) : (List.replicate size (0 : UInt8)).set 0 kind = [kind] ++ List.replicate (size - 1) 0 := by
 obtain ⟨n, rfl⟩ : ∃ n, size = n + 1 := ⟨size - 1, by omega⟩
 simp [List.replicate_succ]
theorem head_eq {size : Nat} {kind : UInt8} {num : Nat} {load : List UInt8} {r : Nat} (h : r = size - 15 - load.length + 4) : [kind] ++ hiL 8 num ++ hiL 2 load.length ++ load ++ List.replicate r 0 = sealHead size ⟨kind, num, load⟩ ++ List.replicate 4 0 := by
 subst h
 rw [← List.replicate_append_replicate]
 simp [sealHead]
theorem cell_new (w : World) (v : Value) (t : TypeId) : (w.alloc (.cells #[v] t)).cell? ⟨w.heap.size, 0, none⟩ = some v := by
 have h := heap_alloc_new w (.cells #[v] t)
 rw [World.cell?, h]
 rfl
theorem crcL_lt (l : List UInt8) : crcL l < 4294967296 := by unfold crcL; omega
theorem u8_ok : ∃ i0, Tryz.prog.info? 5 = some i0 ∧ i0.zero = some (Value.int .u8 0) ∧ i0.size = 1 ∧ i0.bytes = 1 := info_parts byte_info
theorem make_b (w : World) (n : Nat) (hn : n ≤ 1000000000) : ∃ w', (Instr.makeSlice 35 (.int .i64 n) (.int .i64 n)).run Tryz.prog w = .ok (.slice (some ⟨w.heap.size, 0, none⟩) n n) w' ∧ BB w' w.heap.size (List.replicate n 0) ∧ Keep [] w w' := by
 obtain ⟨i0, hi, hz0, hz1, hz2⟩ := u8_ok
 have hr := run_make (P := Tryz.prog) w 35 5 i0 (.int .u8 0) Tryz.underlying35 hi hz0 .i64 .i64 (n : Int) (n : Int) (by omega) (by omega) (by rw [hz2]; omega) (by omega)
 rw [hz1, Int.toNat_natCast, Nat.mul_one, made_bytes] at hr
 exact ⟨_, hr, heap_alloc_new w _, (Keep.refl _ _).alloc _⟩
theorem copy_b {w : World} {g off len cap : Nat} {bs load : List UInt8} {la : Option Addr} {lc : Nat} {lo : Option Nat} {ty : TypeId} (hb : BB w g bs) (hr : Rd w 1 (.slice la load.length lc) load.length (Lib.byteCells load) lo) (hl : load.length ≤ len) (hfit : off + len ≤ bs.length) :
  ∃ w', (Builtin.copy_ #[35, 35] ty #[.slice (some ⟨g, off, none⟩) len cap, .slice la load.length lc]).run Tryz.prog w = .ok (goInt load.length) w' ∧ BB w' g (bs.take off ++ load ++ bs.drop (off + load.length)) ∧ Keep [g] w w' := by
 obtain ⟨i0, hi, hz0, hz1, hz2⟩ := u8_ok
 have hs : (Tryz.prog.info? 5).map (·.size) = some 1 := by rw [hi]; simp [hz1]
 obtain ⟨hlen, a, c, he, hc, hm, hcase⟩ := hr
 cases he
 rcases hcase with ⟨h0, -⟩ | ⟨b, o, rfl, -, hcells⟩
 ·have e0 : load = [] := List.length_eq_zero_iff.1 h0
  subst e0
  rcases la with _ | q
  ·have := run_copy_nil (P := Tryz.prog) w 35 35 ty 5 (⟨g, off, none⟩) len cap Tryz.underlying35 (by rw [hi]; rfl)
   refine ⟨w, ?_, by simpa using hb, Keep.refl _ _⟩
   simp [Builtin.copy_, run_underlying Tryz.underlying35, Builtin.lenOf, Builtin.firstCells, sizeOf, typeInfo, hi, storeCells]
  ·have := run_copy_row (P := Tryz.prog) w 35 35 ty 5 g off len cap q 0 lc (Lib.byteCells bs).toArray 5 [] Tryz.underlying35 hs hb (by simp) (by simp) (by simp [Lib.byteCells]; omega) (by simp)
   refine ⟨_, this, ?_, ⟨rfl, rfl, rfl, by simp [World.setRow], fun k _ hk => setRow_other w g k _ (by simpa using hk)⟩⟩
   unfold BB
   rw [setRow_heap w g _ _ 5 _ hb]
   simp [Lib.byteCells]
 ·have hsz : (Lib.byteCells load).length = load.length := by simp [Lib.byteCells]
  have h := run_copy_row (P := Tryz.prog) w 35 35 ty 5 g off len cap ⟨b, o, none⟩ load.length lc (Lib.byteCells bs).toArray 5 (Lib.byteCells load) Tryz.underlying35 hs hb (by rw [hsz]; exact (Nat.min_eq_left hl).symm) (fun j v hj => by
      have hjl : j < (Lib.byteCells load).length := (List.getElem?_eq_some_iff.1 hj).1
      have := hcells j (by rw [hsz] at hjl; omega)
      rw [hj] at this
      rw [← this, show (⟨b, o, none⟩ : Addr).add j = ⟨b, o + j, none⟩ by unfold Addr.add; split <;> simp_all]) (by simp [Lib.byteCells]; omega) (fun v hv => by
      simp [Lib.byteCells] at hv
      obtain ⟨x, -, rfl⟩ := hv
      rfl)
  rw [hsz] at h
  refine ⟨_, h, ?_, ⟨rfl, rfl, rfl, by simp [World.setRow], fun k _ hk => setRow_other w g k _ (by simpa using hk)⟩⟩
  unfold BB
  rw [setRow_heap w g _ _ 5 _ hb]
  simp [Lib.byteCells, List.map_take, List.map_drop]
theorem sl_put {w : World} {size num : Nat} {kind : UInt8} {lv : Value} {load : List UInt8} {lo : Option Nat} (hr : Rd w 1 lv load.length (Lib.byteCells load) lo) (hsz : size ≤ 1000000000) (hnum : num < 18446744073709551616) (hload : load.length ≤ 1000000000) :
  Calls Tryz.prog 93 #[.int .i64 size, .agg #[.int .u8 kind.toNat, .int .u64 num, lv]] w (SlPutP w size ⟨kind, num, load⟩) := by
 obtain ⟨la, lc, rfl⟩ : ∃ a c, lv = .slice a load.length c := by obtain ⟨-, a, c, h, -⟩ := hr; exact ⟨a, c, h⟩
 have hk1 : Keep [] w (w.alloc (.cells #[.int .u8 kind.toNat, .int .u64 num, .slice la load.length lc] 131)) := (Keep.refl [] w).alloc _
 have hb1 := heap_alloc_new w (.cells #[.int .u8 kind.toNat, .int .u64 num, .slice la load.length lc] 131)
 have HR := hyd hr
 have HK1 := hyd hk1
 have HB1 := hyd hb1
 obtain ⟨c0, c1, c2⟩ := cells3b hb1
 have hroom := p_room (size : Int)
 rw [roomI_nat] at hroom
 have HRM := hyd hroom
 clear hr hk1 hb1 hroom
 obtain ⟨rm, hrm⟩ : ∃ r, r = roomN size := ⟨_, rfl⟩
 rw [← hrm] at HRM
 have HRR := hyd hrm
 clear hrm
 by_cases hbad : rm = 0 ∨ kind = 0
 ·have HBAD := hyd hbad
  by_cases h0 : rm = 0
  ·have h0' : ((rm : Int) == 0) = true := by simp [h0]
   clear hbad h0
   go_enter Tryz.func93, Tryz.ntmps93
   go_wp2_with fail
   refine (HRM.o _).mono ?_
   rintro e w2 ⟨rfl, rfl⟩
   go_wp2_with fail
   refine bodyPost_ret (results_tmp2 rfl _ _ _) rfl ?_
   exact ⟨.inl ⟨by rw [← HRR.o]; exact HBAD.o, rfl⟩, HK1.o⟩
  ·have h0' : ((rm : Int) == 0) = false := beq_eq_false_iff_ne.2 (by omega)
   have hk0 : kind = 0 := hbad.resolve_left h0
   have hk0' : ((kind.toNat : Int) == 0) = true := by rw [hk0]; rfl
   clear hbad h0 hk0
   go_enter Tryz.func93, Tryz.ntmps93
   go_wp2_with fail
   refine (HRM.o _).mono ?_
   rintro e w2 ⟨rfl, rfl⟩
   go_wp2_with fail
   refine bodyPost_ret (results_tmp2 rfl _ _ _) rfl ?_
   exact ⟨.inl ⟨by rw [← HRR.o]; exact HBAD.o, rfl⟩, HK1.o⟩
 ·have HBAD := hyd hbad
  have h0' : ((rm : Int) == 0) = false := beq_eq_false_iff_ne.2 (fun h => hbad (.inl (by omega)))
  have hk0' : ((kind.toNat : Int) == 0) = false := beq_eq_false_iff_ne.2 (fun h => hbad (.inr (UInt8.toNat.inj (show kind.toNat = 0 by omega))))
  clear hbad
  go_enter Tryz.func93, Tryz.ntmps93
  go_wp2_with fail
  generalize w.alloc (.cells #[.int .u8 kind.toNat, .int .u64 num, .slice la load.length lc] 131) = w1 at *
  refine (HRM.o _).mono ?_
  rintro e w2 ⟨rfl, rfl⟩
  go_upto_region 3 with fail
  clear c0 c1 c2
  refine wp_region_held_drew (S := fun w' => Keep [] w1 w' ∧ w'.heap[w.heap.size]? = some (.cells #[.int .u8 kind.toNat, .int .u64 num, .slice la load.length lc] 131)) (by kernel_rfl) ⟨(Keep.refl [] w1).drew, HB1.o⟩ (fun hHeld => ?_)
  have HS0 := hyd hHeld
  clear hHeld
  have hHeld := HS0.o
  generalize w1.drew = w2 at *
  refine tkL 0 ?vA0 rfl ?runA0 hHeld ?_
  case runA0 => (intro w9 hS9; obtain ⟨c0, c1, c2⟩ := cells3b hS9.2; go_simp; try exact rfl)
  try simp only [Act.put, lA, lZ, lS]
  refine tkL 1 ?vA1 rfl ?runA1 hHeld ?_
  case runA1 => (intro w9 hS9; obtain ⟨c0, c1, c2⟩ := cells3b hS9.2; go_simp; try exact rfl)
  try simp only [Act.put, lA, lZ, lS]
  refine tkL 2 ?vA2 rfl ?runA2 hHeld ?_
  case runA2 => (intro w9 hS9; obtain ⟨c0, c1, c2⟩ := cells3b hS9.2; go_simp; try exact rfl)
  try simp only [Act.put, lA, lZ, lS]
  refine tkL 3 ?vA3 rfl ?runA3 hHeld ?_
  case runA3 => (intro w9 hS9; obtain ⟨c0, c1, c2⟩ := cells3b hS9.2; go_simp; try exact rfl)
  try simp only [Act.put, lA, lZ, lS]
  refine rdH 4 rfl (fun K hK => ?_)
  go_simp
  refine (HRM.o _).mono ?_
  rintro e w3 ⟨rfl, rfl⟩
  clear hHeld
  go_wp2_with fail
  refine hK.out _ _ HS0.o (fun hHeld => ?_)
  clear hK K
  try simp only [Act.put, lA, lZ, lS]
  refine tkL 5 ?vA5 rfl ?runA5 hHeld ?_
  case runA5 => (intro w9 hS9; obtain ⟨c0, c1, c2⟩ := cells3b hS9.2; go_simp; try exact rfl)
  try simp only [Act.put, lA, lZ, lS]
  refine tkL 6 ?vA6 rfl ?runA6 hHeld ?_
  case runA6 => (intro w9 hS9; obtain ⟨c0, c1, c2⟩ := cells3b hS9.2; go_simp; try exact rfl)
  try simp only [Act.put, lA, lZ, lS]
  refine wpAnyH_done (by kernel_rfl) ?_ _
  clear hHeld
  by_cases hlong : rm < load.length
  ·have hlong' : (rm : Int) < (load.length : Int) := by omega
   go_wp2_with fail
   refine bodyPost_ret (results_tmp2 rfl _ _ _) rfl ?_
   exact ⟨.inr (.inl ⟨by rw [← HRR.o]; exact HBAD.o, by rw [← HRR.o]; omega, rfl⟩), HK1.o.trans HS0.o.1 (by simp)⟩
  ·have hlong' : ¬ (rm : Int) < (load.length : Int) := by omega
   obtain ⟨wm, hmk, hbb, hkm⟩ := make_b w2 size (by omega)
   have hbx := blkk HS0.o.2 hkm (by simp)
   obtain ⟨c0, c1, c2⟩ := cells3b hbx
   have hqg : w.heap.size < w2.heap.size := (Array.getElem?_eq_some_iff.1 HS0.o.2).1
   have hrm : load.length + 15 ≤ size ∧ 64 ≤ size ∧ size ≤ 4096 := by
    have h1 := HRR.o
    have h2 : rm ≠ 0 := fun h => HBAD.o (.inl h)
    unfold roomN at h1
    split at h1
    ·exact absurd h1 h2
    ·omega
   obtain ⟨z1, z2, z3⟩ := hrm
   have z4 : (0 : Int) < (size : Int) := by omega
   have z5 : (9 : Int) ≤ (size : Int) := by omega
   have z6 : (11 : Int) ≤ (size : Int) := by omega
   have hc := hbb.at (p := 0) (by rw [List.length_replicate]; omega)
   have hf := hbb.frozen 0
   have hset := hbb.set 0 kind
   have HBB := hyd hset
   have HBX := hyd (blkk hbx (Keep.set1 wm ⟨w2.heap.size, 0, none⟩ (.int .u8 kind.toNat)) (by simp; omega))
   have HQG := hyd hqg
   have hkk := (HK1.o.trans HS0.o.1 (by simp)).trans hkm (by simp)
   have HK := hyd (hkk.setCell (p := ⟨w2.heap.size, 0, none⟩) (.inr (by show w.heap.size ≤ w2.heap.size; omega)) (.int .u8 kind.toNat))
   clear hset hbx hkk hqg hbb hkm HS0
   go_upto_region 7 with fail
   have HG := hyd (show w.heap.size ≤ w2.heap.size by exact Nat.le_of_lt HQG.o)
   clear c0 c1 c2 hc hf hmk
   generalize wm.setCell ⟨w2.heap.size, 0, none⟩ (.int .u8 kind.toNat) = wA at *
   generalize w2.heap.size = g at *
   rw [put0 (by omega)] at HBB
   refine wp_region_held_drew (S := fun w' => Keep [g] wA w') (by kernel_rfl) (Keep.refl [g] wA).drew (fun hHeld => ?_)
   have HS0 := hyd hHeld
   clear hHeld
   have hHeld := HS0.o
   have HB2 := hyd (show BB wA.drew g _ from HBB.o)
   generalize wA.drew = wAb at *
   refine tkL 0 ?vB0 rfl ?runB0 hHeld ?_
   case runB0 => (intro w9 hS9; obtain ⟨c0, c1, c2⟩ := cells3b (blkk HBX.o hS9 (by simpa using Nat.ne_of_lt HQG.o)); go_simp; try exact rfl)
   try simp only [Act.put, lA, lZ, lS]
   refine tkL 1 (.slice (some ⟨g, 1, none⟩) 8 (size - 1)) rfl ?runB1 hHeld ?_
   case runB1 => (intro w9 hS9; obtain ⟨c0, c1, c2⟩ := cells3b (blkk HBX.o hS9 (by simpa using Nat.ne_of_lt HQG.o)); go_simp; first | done | exact rfl | omega | (simp [*]; done) | (simp; omega))
   try simp only [Act.put, lA, lZ, lS]
   refine tkL 2 ?vB2 rfl ?runB2 hHeld ?_
   case runB2 => (intro w9 hS9; obtain ⟨c0, c1, c2⟩ := cells3b (blkk HBX.o hS9 (by simpa using Nat.ne_of_lt HQG.o)); go_simp; try exact rfl)
   try simp only [Act.put, lA, lZ, lS]
   refine tkL 3 ?vB3 rfl ?runB3 hHeld ?_
   case runB3 => (intro w9 hS9; obtain ⟨c0, c1, c2⟩ := cells3b (blkk HBX.o hS9 (by simpa using Nat.ne_of_lt HQG.o)); go_simp; try exact rfl)
   try simp only [Act.put, lA, lZ, lS]
   refine rdH 4 rfl (fun K hK => ?_)
   go_simp
   refine (p_lay (off := 1) (len := 8) HB2.o (by simp [hiL_len]; omega) hnum (by simp [hiL_len]; omega)).mono ?_
   rintro e wB ⟨rfl, hbb, hkl⟩
   go_wp2_with fail
   refine hK.out _ _ (HS0.o.trans hkl (by simp)) (fun hHeld2 => ?_)
   clear hK K hHeld; have hHeld := hHeld2; clear hHeld2
   try simp only [Act.put, lA, lZ, lS]
   refine wpAnyH_done (by kernel_rfl) ?_ _
   clear hHeld
   rw [layL (off := 1) (A := [kind]) rfl (hiL_len _ _) (by omega)] at hbb
   have hks := HS0.o.trans hkl (by simp)
   have hbx := blkk HBX.o hks (by simpa using Nat.ne_of_lt HQG.o)
   have hk2 := HK.o.trans hks (by simpa using HG.o)
   clear HBB HB2 HBX HK HS0 hkl hks
   have HBB := hyd hbb
   have HBX := hyd hbx
   have HK := hyd hk2
   clear hbb hbx hk2
   go_upto_region 8 with fail
   refine wp_region_held_drew (S := fun w' => Keep [g] wB w') (by kernel_rfl) (Keep.refl [g] wB).drew (fun hHeld => ?_)
   have HS0 := hyd hHeld
   clear hHeld
   have hHeld := HS0.o
   have HB2 := hyd (show BB wB.drew g _ from HBB.o)
   generalize wB.drew = wBb at *
   have hwr : IntKind.u64.wrap (load.length : Int) = (load.length : Int) := IntWalk.u64_in _ (by omega)
   refine tkL 0 ?vC0 rfl ?runC0 hHeld ?_
   case runC0 => (intro w9 hS9; obtain ⟨c0, c1, c2⟩ := cells3b (blkk HBX.o hS9 (by simpa using Nat.ne_of_lt HQG.o)); go_simp; try exact rfl)
   try simp only [Act.put, lA, lZ, lS]
   refine tkL 1 (.slice (some ⟨g, 9, none⟩) 2 (size - 9)) rfl ?runC1 hHeld ?_
   case runC1 => (intro w9 hS9; obtain ⟨c0, c1, c2⟩ := cells3b (blkk HBX.o hS9 (by simpa using Nat.ne_of_lt HQG.o)); go_simp; first | done | exact rfl | omega | (simp [*]; done) | (simp; omega))
   try simp only [Act.put, lA, lZ, lS]
   refine tkL 2 ?vC2 rfl ?runC2 hHeld ?_
   case runC2 => (intro w9 hS9; obtain ⟨c0, c1, c2⟩ := cells3b (blkk HBX.o hS9 (by simpa using Nat.ne_of_lt HQG.o)); go_simp; try exact rfl)
   try simp only [Act.put, lA, lZ, lS]
   refine tkL 3 ?vC3 rfl ?runC3 hHeld ?_
   case runC3 => (intro w9 hS9; obtain ⟨c0, c1, c2⟩ := cells3b (blkk HBX.o hS9 (by simpa using Nat.ne_of_lt HQG.o)); go_simp; try exact rfl)
   try simp only [Act.put, lA, lZ, lS]
   refine tkL 4 ?vC4 rfl ?runC4 hHeld ?_
   case runC4 => (intro w9 hS9; obtain ⟨c0, c1, c2⟩ := cells3b (blkk HBX.o hS9 (by simpa using Nat.ne_of_lt HQG.o)); go_simp; try exact rfl)
   try simp only [Act.put, lA, lZ, lS]
   refine tkL 5 ?vC5 rfl ?runC5 hHeld ?_
   case runC5 => (intro w9 hS9; obtain ⟨c0, c1, c2⟩ := cells3b (blkk HBX.o hS9 (by simpa using Nat.ne_of_lt HQG.o)); go_simp; try exact rfl)
   try simp only [Act.put, lA, lZ, lS]
   refine rdH 6 rfl (fun K hK => ?_)
   go_simp
   refine (p_lay (off := 9) (len := 2) HB2.o (by simp [hiL_len]; omega) (by omega) (by simp [hiL_len]; omega)).mono ?_
   rintro e wC ⟨rfl, hbb, hkl⟩
   go_wp2_with fail
   refine hK.out _ _ (HS0.o.trans hkl (by simp)) (fun hHeld2 => ?_)
   clear hK K hHeld; have hHeld := hHeld2; clear hHeld2
   try simp only [Act.put, lA, lZ, lS]
   refine wpAnyH_done (by kernel_rfl) ?_ _
   clear hHeld
   rw [layL (by simp [hiL_len]) (hiL_len _ _) (by omega)] at hbb
   have hks := HS0.o.trans hkl (by simp)
   have hbx := blkk HBX.o hks (by simpa using Nat.ne_of_lt HQG.o)
   have hk2 := HK.o.trans hks (by simpa using HG.o)
   clear HBB HB2 HBX HK HS0 hkl hks
   have HBB := hyd hbb
   have HBX := hyd hbx
   have HK := hyd hk2
   clear hbb hbx hk2
   go_upto_region 9 with fail
   refine wp_region_held_drew (S := fun w' => Keep [g] wC w') (by kernel_rfl) (Keep.refl [g] wC).drew (fun hHeld => ?_)
   have HS0 := hyd hHeld
   clear hHeld
   have hHeld := HS0.o
   have HB2 := hyd (show BB wC.drew g _ from HBB.o)
   generalize wC.drew = wCb at *
   have hrk := HR.o.keep (HK.o.trans HS0.o (by simpa using HG.o)) (by simp)
   obtain ⟨wD, hcp, hbb, hkl⟩ := copy_b (off := 11) (len := size - 11) (cap := size - 11) (ty := 3) HB2.o hrk (by omega) (by simp [hiL_len]; omega)
   have HBD := hyd hbb
   have HKL := hyd hkl
   clear hbb hkl hrk
   refine tkL 0 ?vD0 rfl ?runD0 hHeld ?_
   case runD0 => (intro w9 hS9; obtain ⟨c0, c1, c2⟩ := cells3b (blkk HBX.o hS9 (by simpa using Nat.ne_of_lt HQG.o)); go_simp; try exact rfl)
   try simp only [Act.put, lA, lZ, lS]
   refine tkL 1 (.slice (some ⟨g, 11, none⟩) (size - 11) (size - 11)) rfl ?runD1 hHeld ?_
   case runD1 => (intro w9 hS9; obtain ⟨c0, c1, c2⟩ := cells3b (blkk HBX.o hS9 (by simpa using Nat.ne_of_lt HQG.o)); go_simp; first | done | exact rfl | omega | (simp [*]; done) | (simp; omega))
   try simp only [Act.put, lA, lZ, lS]
   refine tkL 2 ?vD2 rfl ?runD2 hHeld ?_
   case runD2 => (intro w9 hS9; obtain ⟨c0, c1, c2⟩ := cells3b (blkk HBX.o hS9 (by simpa using Nat.ne_of_lt HQG.o)); go_simp; try exact rfl)
   try simp only [Act.put, lA, lZ, lS]
   refine tkL 3 ?vD3 rfl ?runD3 hHeld ?_
   case runD3 => (intro w9 hS9; obtain ⟨c0, c1, c2⟩ := cells3b (blkk HBX.o hS9 (by simpa using Nat.ne_of_lt HQG.o)); go_simp; try exact rfl)
   try simp only [Act.put, lA, lZ, lS]
   refine rdH 4 rfl (fun K hK => ?_)
   go_simp
   refine hK.out _ _ (HS0.o.trans HKL.o (by simp)) (fun hHeld => ?_)
   clear hK K
   try simp only [Act.put, lA, lZ, lS]
   refine wpAnyH_done (by kernel_rfl) ?_ _
   have hbb := HBD.o
   have hkl := HKL.o
   clear hHeld
   rw [layL (by simp [hiL_len]) rfl (by omega)] at hbb
   have hks := HS0.o.trans hkl (by simp)
   have hbx := blkk HBX.o hks (by simpa using Nat.ne_of_lt HQG.o)
   have hk2 := HK.o.trans hks (by simpa using HG.o)
   clear HBB HB2 HBX HK HS0 hkl hks
   have HBB := hyd hbb
   have HBX := hyd hbx
   have HK := hyd hk2
   clear hbb hbx hk2
   go_upto_region 10 with fail
   obtain ⟨m, hm⟩ : ∃ m, size = m + 4 := ⟨size - 4, by omega⟩
   have HM := hyd hm
   rw [head_eq (size := size) (by omega)] at HBB
   have hsl : (sealHead size ⟨kind, num, load⟩).length = m := by simp [sealHead, hiL_len]; omega
   have HSL := hyd hsl
   have hwm : IntKind.i64.wrap ((size : Int) - 4) = (m : Int) := (IntWalk.i64_in _ (by omega)).trans (by omega)
   have m0 : (m : Int) ≤ (size : Int) := by omega
   have m1 : (0 : Int) ≤ (m : Int) := by omega
   clear hm hsl
   refine wp_region_held_drew (S := fun w' => Keep [g] wD w') (by kernel_rfl) (Keep.refl [g] wD).drew (fun hHeld => ?_)
   have HS0 := hyd hHeld
   clear hHeld
   have hHeld := HS0.o
   have HB2 := hyd (show BB wD.drew g _ from HBB.o)
   generalize wD.drew = wDb at *
   refine tkL 0 ?vE0 rfl ?runE0 hHeld ?_
   case runE0 => (intro w9 hS9; obtain ⟨c0, c1, c2⟩ := cells3b (blkk HBX.o hS9 (by simpa using Nat.ne_of_lt HQG.o)); go_simp; try exact rfl)
   try simp only [Act.put, lA, lZ, lS]
   refine tkL 1 ?vE1 rfl ?runE1 hHeld ?_
   case runE1 => (intro w9 hS9; obtain ⟨c0, c1, c2⟩ := cells3b (blkk HBX.o hS9 (by simpa using Nat.ne_of_lt HQG.o)); go_simp; try exact rfl)
   try simp only [Act.put, lA, lZ, lS]
   refine tkL 2 ?vE2 rfl ?runE2 hHeld ?_
   case runE2 => (intro w9 hS9; obtain ⟨c0, c1, c2⟩ := cells3b (blkk HBX.o hS9 (by simpa using Nat.ne_of_lt HQG.o)); go_simp; try exact rfl)
   try simp only [Act.put, lA, lZ, lS]
   refine tkL 3 (.slice (some ⟨g, m, none⟩) 4 4) rfl ?runE3 hHeld ?_
   case runE3 => (intro w9 hS9; obtain ⟨c0, c1, c2⟩ := cells3b (blkk HBX.o hS9 (by simpa using Nat.ne_of_lt HQG.o)); go_simp; (have hm := HM.o; first | done | omega | (simp; omega)))
   try simp only [Act.put, lA, lZ, lS]
   refine tkL 4 ?vE4 rfl ?runE4 hHeld ?_
   case runE4 => (intro w9 hS9; obtain ⟨c0, c1, c2⟩ := cells3b (blkk HBX.o hS9 (by simpa using Nat.ne_of_lt HQG.o)); go_simp; try exact rfl)
   try simp only [Act.put, lA, lZ, lS]
   refine tkL 5 ?vE5 rfl ?runE5 hHeld ?_
   case runE5 => (intro w9 hS9; obtain ⟨c0, c1, c2⟩ := cells3b (blkk HBX.o hS9 (by simpa using Nat.ne_of_lt HQG.o)); go_simp; try exact rfl)
   try simp only [Act.put, lA, lZ, lS]
   refine tkL 6 ?vE6 rfl ?runE6 hHeld ?_
   case runE6 => (intro w9 hS9; obtain ⟨c0, c1, c2⟩ := cells3b (blkk HBX.o hS9 (by simpa using Nat.ne_of_lt HQG.o)); go_simp; try exact rfl)
   try simp only [Act.put, lA, lZ, lS]
   refine tkL 7 (.slice (some ⟨g, 0, none⟩) m size) rfl ?runE7 hHeld ?_
   case runE7 => (intro w9 hS9; obtain ⟨c0, c1, c2⟩ := cells3b (blkk HBX.o hS9 (by simpa using Nat.ne_of_lt HQG.o)); go_simp; first | done | exact rfl | omega | (simp [*]; done) | (simp; omega))
   try simp only [Act.put, lA, lZ, lS]
   refine rdH 8 rfl (fun K hK => ?_)
   go_simp
   refine hK.out _ _ (HS0.o.alloc _) (fun hHeld => ?_)
   clear hK K
   try simp only [Act.put, lA, lZ, lS]
   have hn := cell_new wDb (.slice (some ⟨g, 0, none⟩) m size) 35
   have hbF := HB2.o.keep ((Keep.refl [] wDb).alloc (.cells #[.slice (some ⟨g, 0, none⟩) m size] 35)) (by simp)
   have HBF := hyd hbF
   have HNEW := hyd hn
   have HSF := hyd hHeld
   clear hn hbF hHeld HB2 HS0
   have hHeld := HSF.o
   generalize wDb.alloc (.cells #[.slice (some ⟨g, 0, none⟩) m size] 35) = wF at *
   generalize wDb.heap.size = gs at *
   have hrs := HBF.o.rd (off := 0) (n := m) (c := size) (by rw [List.length_append, HSL.o]; omega) (by omega) (by unfold maxLen; omega)
   rw [List.drop_zero, List.take_left' HSL.o] at hrs
   have hsum := p_sum (lc := 1) HNEW.o hrs (by rw [HSL.o]; omega)
   have HSUM := hyd hsum
   clear hrs hsum
   have hcrc := crcL_lt (sealHead size ⟨kind, num, load⟩)
   obtain ⟨crc, hcc⟩ : ∃ c, c = crcL (sealHead size ⟨kind, num, load⟩) := ⟨_, rfl⟩
   rw [← hcc] at HSUM hcrc
   have HCRC := hyd hcc
   clear hcc
   have hwc : IntKind.u64.wrap (crc : Int) = (crc : Int) := IntWalk.u64_in _ (by omega)
   refine rdH 9 rfl (fun K hK => ?_)
   go_simp
   refine HSUM.o.mono ?_
   rintro e wG ⟨rfl, hkg⟩
   have HBG := hyd (HBF.o.keep hkg (by simp))
   have HSG := hyd (HSF.o.trans hkg (by simp))
   clear hkg
   go_wp2_with fail
   refine hK.out _ _ HSG.o (fun hHeld2 => ?_)
   clear hK K hHeld; have hHeld := hHeld2; clear hHeld2
   try simp only [Act.put, lA, lZ, lS]
   refine tkL 10 (.int .u64 crc) rfl ?runE10 hHeld ?_
   case runE10 => (intro w9 hS9; obtain ⟨c0, c1, c2⟩ := cells3b (blkk HBX.o hS9 (by simpa using Nat.ne_of_lt HQG.o)); go_simp; first | done | exact rfl | omega | (simp [*]; done) | (simp; omega))
   try simp only [Act.put, lA, lZ, lS]
   have HB2 := HBG
   have HS0 := HSG
   have hpl : (sealHead size ⟨kind, num, load⟩ ++ List.replicate 4 0).length = m + 4 := by rw [List.length_append, HSL.o, List.length_replicate]
   refine rdH 11 rfl (fun K hK => ?_)
   go_simp
   refine (p_lay (off := m) (len := 4) HB2.o (by omega) (by omega) (by omega)).mono ?_
   rintro e wE ⟨rfl, hbb, hkl⟩
   go_wp2_with fail
   refine hK.out _ _ (HS0.o.trans hkl (by simp)) (fun hHeld2 => ?_)
   clear hK K hHeld; have hHeld := hHeld2; clear hHeld2
   try simp only [Act.put, lA, lZ, lS]
   refine wpAnyH_done (by kernel_rfl) ?_ _
   clear hHeld
   rw [layL HSL.o (hiL_len _ _) (by omega), HCRC.o] at hbb
   have hks := HS0.o.trans hkl (by simp)
   have hbx := blkk HBX.o hks (by simpa using Nat.ne_of_lt HQG.o)
   have hk2 := HK.o.trans hks (by simpa using HG.o)
   clear HBB HB2 HBX HK HS0 hkl hks
   have HBB := hyd hbb
   have HBX := hyd hbx
   have HK := hyd hk2
   clear hbb hbx hk2
   go_wp2_with fail
   refine bodyPost_ret (results_tmp2 rfl _ _ _) rfl ?_
   refine ⟨.inr (.inr ⟨by rw [← HRR.o]; exact HBAD.o, by rw [← HRR.o]; show load.length ≤ rm; omega, g, rfl, ?_, HG.o⟩), HK.o⟩
   have hf := HBB.o
   simpa [sealL] using hf
theorem take_eq_succ {l m : List UInt8} {k : Nat} (h : l.take k = m.take k) (hl : k < l.length) (hm : k < m.length) (he : l[k] = m[k]) : l.take (k + 1) = m.take (k + 1) := by
 rw [List.take_succ_eq_append_getElem hl, List.take_succ_eq_append_getElem hm, h, he]
theorem p_eql {w : World} {v1 v2 : Value} {l m : List UInt8} {o1 o2 : Option Nat} (h1 : Rd w 1 v1 l.length (Lib.byteCells l) o1) (h2 : Rd w 1 v2 m.length (Lib.byteCells m) o2) (hl : l.length ≤ 1000000000) (hm : m.length ≤ 1000000000) :
  Calls Tryz.prog 109 #[v1, v2] w fun e w' => e = .returned (.bool (decide (l = m))) ∧ Keep [] w w' := by
 obtain ⟨a1, c1, rfl⟩ : ∃ a c, v1 = .slice a l.length c := by obtain ⟨-, a, c, h, -⟩ := h1; exact ⟨a, c, h⟩
 obtain ⟨a2, c2, rfl⟩ : ∃ a c, v2 = .slice a m.length c := by obtain ⟨-, a, c, h, -⟩ := h2; exact ⟨a, c, h⟩
 have H1 := hyd h1
 have H2 := hyd h2
 clear h1 h2
 by_cases hlm : l.length = m.length
 ·have hlm' : ((l.length : Int) == (m.length : Int)) = true := by simp [hlm]
  have HLM := hyd hlm
  clear hlm
  go_enter Tryz.func109, Tryz.ntmps109
  go_wp2_with fail
  go_loopw [13] (fun i wr => ∃ k : Nat, k ≤ l.length ∧ i = .int .i64 k ∧ l.take k = m.take k ∧ Keep [] w wr) (fun i _ => l.length - (RowKit.intOf i).toNat)
  case atStart => exact ⟨0, Nat.zero_le _, rfl, rfl, Keep.refl _ _⟩
  case round =>
   obtain ⟨k, hk, rfl, htk, hkw⟩ := hrel
   by_cases hlt : k < l.length
   ·have hltm : k < m.length := by rw [← HLM.o]; exact hlt
    obtain ⟨b1, f1, rfl, g1⟩ := rdb_at H1.o hlt
    obtain ⟨b2, f2, rfl, g2⟩ := rdb_at H2.o hltm
    have c0 := hkw.cellOf g1
    have c3 := hkw.cellOf g2
    have q0 : (0 : Int) ≤ (k : Int) := by omega
    have q1 : (k : Int) < (l.length : Int) := by omega
    have q2 : (k : Int) < (m.length : Int) := by omega
    have HKW := hyd hkw
    have HTK := hyd htk
    clear hkw htk g1 g2
    by_cases he : l[k] = m[k]
    ·have he' : ((l[k].toNat : Int) == (m[k].toNat : Int)) = true := by simp [he]
     have HE := hyd he
     clear he
     go_upto_region 6 with fail
     go_quiet (fail)
     go_wp2_with fail
     go_roundw
     case rel => exact ⟨k + 1, by omega, by go_num, take_eq_succ HTK.o hlt hltm HE.o, by repeat (first | exact HKW.o | refine Keep.drewN ?_ _ | refine Keep.drew ?_)⟩
     case measure => first | (simp [RowKit.intOf]; omega) | omega
    ·have he' : ((l[k].toNat : Int) == (m[k].toNat : Int)) = false := beq_eq_false_iff_ne.2 (fun h => he (UInt8.toNat.inj (by omega)))
     have HE := hyd he
     clear he
     go_upto_region 6 with fail
     go_quiet (fail)
     go_wp2_with fail
     refine bodyPost_ret (results_tmp rfl _ _ _) rfl ?_
     refine ⟨?_, by repeat (first | exact HKW.o | refine Keep.drewN ?_ _ | refine Keep.drew ?_)⟩
     rw [decide_eq_false (fun h => HE.o (by subst h; rfl))]
     rfl
   ·have hall : l = m := by
     have h := htk
     rw [List.take_of_length_le (by omega), List.take_of_length_le (by have := HLM.o; omega)] at h
     exact h
    have HALL := hyd hall
    have HKW := hyd hkw
    have q1 : ¬ (k : Int) < (l.length : Int) := by omega
    clear hall hkw htk
    go_wp2_with fail
    refine bodyPost_ret (results_tmp rfl _ _ _) rfl ?_
    refine ⟨?_, HKW.o⟩
    rw [decide_eq_true HALL.o]
    rfl
 ·have hlm' : ((l.length : Int) == (m.length : Int)) = false := beq_eq_false_iff_ne.2 (by omega)
  have HLM := hyd hlm
  clear hlm
  go_enter Tryz.func109, Tryz.ntmps109
  go_wp2_with fail
  refine bodyPost_ret (results_tmp rfl _ _ _) rfl ?_
  refine ⟨?_, Keep.refl _ _⟩
  rw [decide_eq_false (fun h => HLM.o (by rw [h]))]
  rfl
end Go.Proofs.YtimpadpeibgmoaaGreat
