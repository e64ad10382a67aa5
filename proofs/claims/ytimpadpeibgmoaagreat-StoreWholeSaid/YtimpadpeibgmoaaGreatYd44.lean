/- A part of the proof (St22, St23, St24, St25, St26), joined by squeeze2.py. -/
import Derived.Test.YtimpadpeibgmoaaGreatYd43
set_option maxHeartbeats 8000000
set_option maxRecDepth 100000
namespace Go.Proofs.YtimpadpeibgmoaaGreat
open Go.RowKit Go.Emb Go.Lib Go.Emb.Ext Go.Shelf
def SmallA (n : Int) (a : AcV) : Prop := (a.p.length : Int) ≤ n ∧ (a.src.size : Int) ≤ n ∧ (a.alive.length : Int) ≤ n ∧ a.dirty.length ≤ 40 ∧ ∀ y ∈ a.dirty, (y.b.length : Int) ≤ n
theorem SmallA.mono {n m : Int} {a : AcV} (h : SmallA n a) (hm : n ≤ m) : SmallA m a := ⟨by have := h.1; omega, by have := h.2.1; omega, by have := h.2.2.1; omega, h.2.2.2.1, fun y hy => by have := h.2.2.2.2 y hy; omega⟩
def HugeNo (l : List AcV) : Prop := l.length ≤ 40 ∧ ∀ a ∈ l, SmallA 8000 a
def HugeP (w : World) (l : List AcV) (e : Ending) (w' : World) : Prop := ∃ b : Bool, e = .returned (.bool b) ∧ (b = false → HugeNo l) ∧ Keep [] w w'
theorem RdIm.at {B : Nat} {w : World} {a : Option Addr} {c n : Nat} {l : List ImV} (h : RdIm B w (.slice a n c) l) {k : Nat} (hk : k < l.length) :
  ∃ b off, a = some ⟨b, off, none⟩ ∧ b < B ∧ w.cell? ⟨b, off + k * 2, none⟩ = some (.int .i64 l[k].pid) ∧ w.cell? ⟨b, off + k * 2 + 1, none⟩ = some l[k].v := by
 obtain ⟨⟨o, h1, h2⟩, -, -⟩ := h
 obtain ⟨b, off, e1, e2, e3⟩ := rd_at (e := encI) (m := 2) (fun x => rfl) h1 hk (by decide)
 exact ⟨b, off, e1, h2 b e2, by have := e3 0 (by decide); simpa [encI] using this, by have := e3 1 (by decide); simpa [encI, Nat.add_assoc] using this⟩
theorem RdAs.at {B : Nat} {w : World} {a : Option Addr} {c n : Nat} {l : List AcV} (h : RdAs B w (.slice a n c) l) {k : Nat} (hk : k < l.length) :
  ∃ b off, a = some ⟨b, off, none⟩ ∧ b < B ∧ w.cell? ⟨b, off + k * 6, none⟩ = some (.int .i64 l[k].kind) ∧ w.cell? ⟨b, off + k * 6 + 1, none⟩ = some (.int .i64 l[k].n) ∧ w.cell? ⟨b, off + k * 6 + 2, none⟩ = some l[k].pv ∧ w.cell? ⟨b, off + k * 6 + 3, none⟩ = some (.string l[k].src) ∧ w.cell? ⟨b, off + k * 6 + 4, none⟩ = some l[k].av ∧ w.cell? ⟨b, off + k * 6 + 5, none⟩ = some l[k].dv := by
 obtain ⟨⟨o, h1, h2⟩, -, -⟩ := h
 obtain ⟨b, off, e1, e2, e3⟩ := rd_at (e := encA) (m := 6) (fun x => rfl) h1 hk (by decide)
 exact ⟨b, off, e1, h2 b e2, by have := e3 0 (by decide); simpa [encA] using this, by have := e3 1 (by decide); simpa [encA, Nat.add_assoc] using this, by have := e3 2 (by decide); simpa [encA, Nat.add_assoc] using this, by have := e3 3 (by decide); simpa [encA, Nat.add_assoc] using this, by have := e3 4 (by decide); simpa [encA, Nat.add_assoc] using this, by have := e3 5 (by decide); simpa [encA, Nat.add_assoc] using this⟩
theorem RdIm1.keep {B : Nat} {w w' : World} {x : ImV} (h : RdIm1 B w x) (hk : Keep [] w w') : RdIm1 B w' x := by
 obtain ⟨h1, ⟨o, h2, h3⟩, h4⟩ := h
 exact ⟨h1, ⟨o, h2.keep0 hk, h3⟩, h4⟩
theorem RdIm.keep {B : Nat} {w w' : World} {v : Value} {l : List ImV} (h : RdIm B w v l) (hk : Keep [] w w') : RdIm B w' v l := by
 obtain ⟨⟨o, h1, h2⟩, h3, h4⟩ := h
 exact ⟨⟨o, h1.keep0 hk, h2⟩, fun x hx => (h3 x hx).keep hk, h4⟩
theorem RdN.keep {B : Nat} {w w' : World} {v : Value} {l : List Int} (h : RdN B w v l) (hk : Keep [] w w') : RdN B w' v l := by
 obtain ⟨⟨o, h1, h2⟩, h3, h4⟩ := h
 exact ⟨⟨o, h1.keep0 hk, h2⟩, h3, h4⟩
theorem RdA.keep {B : Nat} {w w' : World} {a : AcV} (h : RdA B w a) (hk : Keep [] w w') : RdA B w' a := by
 obtain ⟨h1, h2, ⟨⟨o, h3, h3'⟩, h3''⟩, h4, h5, h6⟩ := h
 exact ⟨h1, h2, ⟨⟨o, h3.keep0 hk, h3'⟩, h3''⟩, h4, h5.keep hk, h6.keep hk⟩
theorem RdAs.keep {B : Nat} {w w' : World} {v : Value} {l : List AcV} (h : RdAs B w v l) (hk : Keep [] w w') : RdAs B w' v l := by
 obtain ⟨⟨o, h1, h2⟩, h3, h4⟩ := h
 exact ⟨⟨o, h1.keep0 hk, h2⟩, fun x hx => (h3 x hx).keep hk, h4⟩
theorem RdAs.form {B : Nat} {w : World} {v : Value} {l : List AcV} (h : RdAs B w v l) : ∃ a c, v = .slice a l.length c := by
 obtain ⟨⟨o, ⟨-, a, c, h, -⟩, -⟩, -⟩ := h
 exact ⟨a, c, h⟩
theorem RdIm.form {B : Nat} {w : World} {v : Value} {l : List ImV} (h : RdIm B w v l) : ∃ a c, v = .slice a l.length c := by
 obtain ⟨⟨o, ⟨-, a, c, h, -⟩, -⟩, -⟩ := h
 exact ⟨a, c, h⟩
theorem RdN.form {B : Nat} {w : World} {v : Value} {l : List Int} (h : RdN B w v l) : ∃ a c, v = .slice a l.length c := by
 obtain ⟨⟨o, ⟨-, a, c, h, -⟩, -⟩, -⟩ := h
 exact ⟨a, c, h⟩
theorem rdB_form {B : Nat} {w : World} {v : Value} {l : List UInt8} (h : RdB B w v l) : ∃ a c, v = .slice a l.length c := by
 obtain ⟨⟨o, ⟨-, a, c, h, -⟩, -⟩, -⟩ := h
 exact ⟨a, c, h⟩
theorem RdA.forms {B : Nat} {w : World} {a : AcV} (h : RdA B w a) : ∃ pa pc aa ac da dc, a.pv = .slice pa a.p.length pc ∧ a.av = .slice aa a.alive.length ac ∧ a.dv = .slice da a.dirty.length dc := by
 obtain ⟨pa, pc, e1⟩ := rdB_form h.2.2.1
 obtain ⟨aa, ac, e2⟩ := h.2.2.2.2.1.form
 obtain ⟨da, dc, e3⟩ := h.2.2.2.2.2.form
 exact ⟨pa, pc, aa, ac, da, dc, e1, e2, e3⟩
theorem cells6 {w : World} {q : Nat} {v0 v1 v2 v3 v4 v5 : Value} {t : TypeId} (h : w.heap[q]? = some (.cells #[v0, v1, v2, v3, v4, v5] t (0, 0))) :
  w.cell? ⟨q, 0, none⟩ = some v0 ∧ w.cell? ⟨q, 1, none⟩ = some v1 ∧ w.cell? ⟨q, 2, none⟩ = some v2 ∧ w.cell? ⟨q, 3, none⟩ = some v3 ∧ w.cell? ⟨q, 4, none⟩ = some v4 ∧ w.cell? ⟨q, 5, none⟩ = some v5 :=
 ⟨cell_of h 0, cell_of h 1, cell_of h 2, cell_of h 3, cell_of h 4, cell_of h 5⟩
theorem huge_any {w : World} {v : Value} {l : List AcV} (h : RdAs w.heap.size w v l) : Calls Tryz.prog 7 #[v] w (HugeP w l) := by
 obtain ⟨va, vc, rfl⟩ := h.form
 have hll : l.length ≤ 140737488355328 := by have := h.2.2; omega
 have H := hyd h
 obtain ⟨n, hn⟩ : ∃ n, n = l.length := ⟨_, rfl⟩
 have HN := hyd hn
 rw [← hn] at hll ⊢
 clear h hn
 go_enter Tryz.func7, Tryz.ntmps7
 go_wp2_with fail
 go_loopw [3, 4] (fun s i wr => ∃ (k : Nat) (m : Int), k ≤ n ∧ k ≤ 41 ∧ i = .int .i64 k ∧ s = .int .i64 m ∧ 0 ≤ m ∧ m ≤ k * 7000000000000000 ∧ (∀ a ∈ l.take k, SmallA m a) ∧ Keep [] w wr) (fun _ i _ => 41 - (intOf i).toNat)
 case atStart => exact ⟨0, 0, Nat.zero_le _, by omega, rfl, rfl, by omega, by omega, by simp, Keep.refl _ _⟩
 case round =>
  obtain ⟨k, m, hk, hk41, rfl, rfl, hm0, hm1, hsm, hkw⟩ := hrel
  have HSM := hyd hsm
  have HKW := hyd hkw
  clear hsm hkw
  by_cases hlt : k < n
  ·by_cases h40 : k ≤ 40
   ·have hl : k < l.length := by have := HN.o; omega
    obtain ⟨lb, loff, rfl, hlb, g0, g1, g2, g3, g4, g5⟩ := (by
      have := (H.o.keep HKW.o)
      rw [← HN.o] at this
      exact this.at hl)
    have hra := (H.o.2.1 _ (List.getElem_mem hl)).keep HKW.o
    obtain ⟨pa, pc, aa, ac, da, dc, e1, e2, e3⟩ := hra.forms
    have htk : l.take (k + 1) = l.take k ++ [l[k]] := List.take_succ_eq_append_getElem hl
    obtain ⟨y, hy⟩ : ∃ y, y = l[k] := ⟨_, rfl⟩
    rw [← hy] at g0 g1 g2 g3 g4 g5 hra e1 e2 e3 htk
    rw [e1] at g2; rw [e2] at g4; rw [e3] at g5
    have b1 := hra.2.2.1.2
    have b2 := hra.2.2.2.1
    have b3 := hra.2.2.2.2.1.2.2
    have b4 := hra.2.2.2.2.2.2.2
    obtain ⟨np, hnp⟩ : ∃ z, z = y.p.length := ⟨_, rfl⟩
    obtain ⟨ns, hns⟩ : ∃ z, z = y.src.size := ⟨_, rfl⟩
    obtain ⟨na, hna⟩ : ∃ z, z = y.alive.length := ⟨_, rfl⟩
    obtain ⟨nd, hnd⟩ : ∃ z, z = y.dirty.length := ⟨_, rfl⟩
    have HYL := hyd (And.intro hnp (And.intro hns (And.intro hna (And.intro hnd (And.intro e3 htk)))))
    rw [← hnp] at g2 b1; rw [← hns] at b2; rw [← hna] at g4 b3; rw [← hnd] at g5 b4
    have HRA := hyd hra
    have j0 : (0 : Int) ≤ (k : Int) := by omega
    have j1 : (k : Int) < (n : Int) := by omega
    have j2 : (k : Int) ≤ 40 := by omega
    have hw1 : IntKind.i64.wrap (m + np) = m + np := IntWalk.i64_in _ (by omega)
    have hw2 : IntKind.i64.wrap (m + np + y.src.size) = m + np + y.src.size := IntWalk.i64_in _ (by omega)
    have hw3 : IntKind.i64.wrap (m + np + y.src.size + na) = m + np + y.src.size + na := IntWalk.i64_in _ (by omega)
    have hka : Keep [] wr (wr.alloc (.cells #[.int .i64 y.kind, .int .i64 y.n, .slice pa np pc, .string y.src, .slice aa na ac, .slice da nd dc] 44)) := (Keep.refl [] wr).alloc _
    have HAB := hyd (heap_new wr (.cells #[.int .i64 y.kind, .int .i64 y.n, .slice pa np pc, .string y.src, .slice aa na ac, .slice da nd dc] 44))
    have HKA := hyd hka
    clear hnp hna hnd e1 e2 e3 htk hra hl hka hy hlb
    go_upto_region 6 with fail
    generalize wr.alloc (.cells #[.int .i64 y.kind, .int .i64 y.n, .slice pa np pc, .string y.src, .slice aa na ac, .slice da nd dc] 44) = wa at *
    generalize wr.heap.size = Bp at *
    clear g0 g1 g2 g3 g4 g5
    obtain ⟨g0, g1, g2, g3, g4, g5⟩ := cells6 HAB.o
    have b2s : (y.src.size : Int) ≤ 140737488355328 := by have := HYL.o.2.1; omega
    by_cases h4 : 40 < nd
    ·have j4 : (40 : Int) < (nd : Int) := by omega
     go_wp2_with fail
     go_ret
     exact ⟨true, rfl, (fun h => nomatch h), HKW.o.trans HKA.o (by simp)⟩
    ·have j4 : ¬ (40 : Int) < (nd : Int) := by omega
     go_wp2_with fail
     obtain ⟨m2, hm2⟩ : ∃ z, z = m + np + y.src.size + na := ⟨_, rfl⟩
     have HM2 := hyd hm2
     rw [← hm2]
     have hm20 : 0 ≤ m2 := by omega
     have hm21 : m2 ≤ m + 3 * 140737488355328 := by omega
     have hns2 := HYL.o.2.1
     clear hw1 hw2 hw3 hm2
     clear g0 g1 g2 g3 g4
     go_loopw [3, 6] (fun s i wx => ∃ (c : Nat) (m3 : Int), c ≤ nd ∧ i = .int .i64 c ∧ s = .int .i64 m3 ∧ m2 ≤ m3 ∧ m3 ≤ m2 + c * 140737488355328 ∧ (∀ z ∈ y.dirty.take c, (z.b.length : Int) ≤ m3) ∧ wx = wa) (fun _ i _ => nd - (intOf i).toNat)
     case atStart => exact ⟨0, m2, Nat.zero_le _, rfl, rfl, by omega, by omega, by simp, rfl⟩
     case round =>
      obtain ⟨c, m3, hc, rfl, rfl, hm30, hm31, hs3, rfl⟩ := hrel
      have HS3 := hyd hs3
      clear hs3
      by_cases hlt2 : c < nd
      ·have hl2 : c < y.dirty.length := by have := HYL.o.2.2.2.1; omega
       have hr2 := HRA.o.2.2.2.2.2.keep HKA.o
       rw [HYL.o.2.2.2.2.1] at hr2
       obtain ⟨db, doff, hda, hdb, q0, q1⟩ := hr2.at hl2
       subst hda
       have hr3 := hr2.2.1 _ (List.getElem_mem hl2)
       obtain ⟨za, zc, hz⟩ := rdB_form hr3.2
       have htk2 : y.dirty.take (c + 1) = y.dirty.take c ++ [y.dirty[c]] := List.take_succ_eq_append_getElem hl2
       obtain ⟨z, hzz⟩ : ∃ z, z = y.dirty[c] := ⟨_, rfl⟩
       rw [← hzz] at q0 q1 hz hr3 htk2
       rw [hz] at q1
       have b5 := hr3.2.2
       obtain ⟨nz, hnz⟩ : ∃ x, x = z.b.length := ⟨_, rfl⟩
       rw [← hnz] at q1 b5
       have HZ := hyd (And.intro hnz htk2)
       have j5 : (0 : Int) ≤ (c : Int) := by omega
       have j6 : (c : Int) < (nd : Int) := by omega
       have hw4 : IntKind.i64.wrap (m3 + nz) = m3 + nz := IntWalk.i64_in _ (by omega)
       clear hnz hz htk2 hzz hr2 hr3 hl2 hdb
       go_wp2_with fail
       go_roundw
       case rel =>
        refine ⟨c + 1, m3 + nz, by omega, by go_num, rfl, by omega, by push_cast; omega, fun x hx => ?_, by first | rfl | trivial⟩
        rw [HZ.o.2] at hx
        rcases List.mem_append.1 hx with hx | hx
        ·have := HS3.o x hx; omega
        ·rw [List.mem_singleton.1 hx, ← HZ.o.1]; omega
       case measure => show nd - (c + 1) < nd - c; omega
      ·obtain rfl : c = nd := by omega
       go_wp2_with fail
       go_roundw
       case rel =>
        refine ⟨k + 1, m3, by omega, by omega, by go_num, rfl, by omega, by push_cast; omega, fun x hx => ?_, HKW.o.trans HKA.o (by simp)⟩
        rw [HYL.o.2.2.2.2.2] at hx
        rcases List.mem_append.1 hx with hx | hx
        ·refine (HSM.o x hx).mono (by have := HM2.o; omega)
        ·rw [List.mem_singleton.1 hx]
         have e := HM2.o
         have e1 := HYL.o.1
         have e3 := HYL.o.2.2.1
         have e4 := HYL.o.2.2.2.1
         refine ⟨by omega, by omega, by omega, by omega, fun z hz => HS3.o z (by rw [List.take_of_length_le (by omega)]; exact hz)⟩
       case measure => show 41 - (k + 1) < 41 - k; omega
   ·have j2 : ¬ (k : Int) ≤ 40 := by omega
    have j1 : (k : Int) < (n : Int) := by omega
    have j3 : (40 : Int) < (n : Int) := by omega
    go_wp2_with fail
    go_ret
    exact ⟨true, rfl, (fun h => nomatch h), HKW.o⟩
  ·have j1 : ¬ (k : Int) < (n : Int) := by omega
   obtain rfl : k = n := by omega
   by_cases h40 : 40 < k
   ·have j3 : (40 : Int) < (k : Int) := by omega
    go_wp2_with fail
    go_ret
    exact ⟨true, rfl, (fun h => nomatch h), HKW.o⟩
   ·have j3 : ¬ (40 : Int) < (k : Int) := by omega
    by_cases h80 : 8000 < m
    ·have hd : decide ((8000 : Int) < m) = true := decide_eq_true h80
     go_wp2_with fail
     go_ret
     exact ⟨true, rfl, (fun h => nomatch h), HKW.o⟩
    ·have hd : decide ((8000 : Int) < m) = false := decide_eq_false h80
     go_wp2_with fail
     go_ret
     refine ⟨false, rfl, fun _ => ⟨by have := HN.o; omega, fun a ha => ?_⟩, HKW.o⟩
     exact (HSM.o a (by rw [List.take_of_length_le (by have := HN.o; omega)]; exact ha)).mono (by omega)
def ImgI (B : Nat) (w : World) (v : Value) (l : List ImV) (io : Option Nat) : Prop := Row w 52 2 v l.length (l.flatMap encI) io ∧ (∀ c, io = some c → B ≤ c) ∧ ∀ y ∈ l, I64 y.pid ∧ ∃ o, RB w y.v y.b o ∧ ∀ c, o = some c → B ≤ c
theorem ImgI.keep {B : Nat} {w w' : World} {v : Value} {l : List ImV} {io : Option Nat} (h : ImgI B w v l io) (hk : Keep [] w w') : ImgI B w' v l io :=
 ⟨h.1.keep hk (by simp), h.2.1, fun y hy => by obtain ⟨h1, o, h2, h3⟩ := h.2.2 y hy; exact ⟨h1, o, RB.keep h2 hk (by simp), h3⟩⟩
theorem rb_apart {w : World} {io o : Option Nat} {v v' : Value} {n : Nat} {xs : List Value} {bs : List UInt8} (hr : Row w 52 2 v n xs io) (hb : RB w v' bs o) : ∀ c, o = some c → c ∉ io.toList := fun c hc hm => by
 obtain ⟨cs, h1⟩ := row_blk (show Row w 5 _ _ _ _ (some c) from hc ▸ hb)
 obtain ⟨cs', h2⟩ := row_blk (show Row w 52 _ _ _ _ (some c) from (show io = some c by simpa using hm) ▸ hr)
 rw [h1] at h2
 injection h2 with h2
 injection h2 with _ h2
 exact absurd h2 (by decide)
def ImagesP (w : World) (l : List ImV) (e : Ending) (w' : World) : Prop := ∃ v l', e = .returned v ∧ IRd (fun c => w.heap.size ≤ c) w' v l' ∧ imL l' = imL l ∧ Keep [] w w'
theorem images_any {B : Nat} {w : World} {v : Value} {l : List ImV} (h : RdIm B w v l) (hl : l.length ≤ 1000) (hb : ∀ y ∈ l, y.b.length ≤ 1000000) : Calls Tryz.prog 14 #[v] w (ImagesP w l) := by
 obtain ⟨i0, hi, hz0, hz1, hz2⟩ := info_parts byte_info
 obtain ⟨i1, hi1, hx0, hx1, hx2⟩ := info_parts im_info
 obtain ⟨va, vc, rfl⟩ := h.form
 have H := hyd h
 have HI := hyd hi
 have HI1 := hyd hi1
 have HBL := hyd hb
 obtain ⟨n, hn⟩ : ∃ n, n = l.length := ⟨_, rfl⟩
 have HN := hyd hn
 rw [← hn] at hl ⊢
 clear h hn hi hi1 hb
 go_enter Tryz.func14, Tryz.ntmps14
 go_wp2_with fail
 go_loopw [3, 4] (fun s i wr => ∃ (k : Nat) (io : Option Nat) (imgs : List ImV), k ≤ n ∧ i = .int .i64 k ∧ ImgI w.heap.size wr s imgs io ∧ imL imgs = imL (l.take k) ∧ Keep [] w wr) (fun _ i _ => n - (intOf i).toNat)
 case atStart => exact ⟨0, none, [], Nat.zero_le _, rfl, ⟨Row.nil _ _ _, by simp, by simp⟩, rfl, Keep.refl _ _⟩
 case round =>
  obtain ⟨k, io, imgs, hk, rfl, hg, him, hkw⟩ := hrel
  obtain ⟨NI, hNI⟩ : ∃ z, z = imgs.length := ⟨_, rfl⟩
  obtain ⟨o5, ⟨-, xa, xc, hu, -⟩, -⟩ := hg.1.rd
  rw [← hNI] at hu
  subst hu
  have hrow := hg.1
  rw [← hNI] at hrow
  have HROW := hyd hrow
  have HGI := hyd hg
  have HIM := hyd him
  have HKW := hyd hkw
  have hNk : NI = k := by
   have h1 := congrArg List.length him
   unfold imL at h1
   simp only [List.length_map, List.length_take] at h1
   have := HN.o
   omega
  have HNI := hyd (And.intro hNI hNk)
  have hNb : NI ≤ 1000 := by omega
  clear hg him hkw hrow hNI
  by_cases hlt : k < n
  ·have hlk : k < l.length := by have := HN.o; omega
   have hrl := H.o.keep HKW.o
   rw [← HN.o] at hrl
   obtain ⟨lb, loff, rfl, -, g0, g1⟩ := hrl.at hlk
   have hry := hrl.2.1 _ (List.getElem_mem hlk)
   have htk : l.take (k + 1) = l.take k ++ [l[k]] := List.take_succ_eq_append_getElem hlk
   have hbb := HBL.o _ (List.getElem_mem hlk)
   obtain ⟨y, hy⟩ : ∃ y, y = l[k] := ⟨_, rfl⟩
   rw [← hy] at g0 g1 hry htk hbb
   obtain ⟨pid, hpid⟩ : ∃ z, z = y.pid := ⟨_, rfl⟩
   rw [← hpid] at g0
   obtain ⟨ba, bc, hyv⟩ := rdB_form hry.2
   obtain ⟨nb, hnb⟩ : ∃ z, z = y.b.length := ⟨_, rfl⟩
   rw [← hnb] at hyv hbb
   rw [hyv] at g1
   obtain ⟨bo, hrb, -⟩ := hry.2.1
   rw [hyv, ← hnb] at hrb
   have HRB := hyd hrb
   have HNB := hyd hnb
   have HY := hyd (And.intro hpid (And.intro htk hry.1))
   have j0 : (0 : Int) ≤ (k : Int) := by omega
   have j1 : (k : Int) < (n : Int) := by omega
   clear hnb hpid htk hry hy hrl hlk hrb hyv hNk
   go_upto_region 5 with fail
   have HG := hyd (And.intro g0 g1)
   clear g0 g1
   refine wp_regionB [6, 5, 12] (fun W => Keep [] wr W) (by kernel_rfl) ?_
   have hkd : Keep [] wr wr.drew := (Keep.refl [] wr).drew
   have HKD := hyd hkd
   have HS0 := HKD
   clear hkd
   generalize wr.drew = wd at *
   refine tkY 0 ?vW0 rfl ?runW0 ?_
   case runW0 => (intro w9 _; go_simp; try exact rfl)
   try simp only [Act.put, lA, lZ, lS]
   refine tkY 1 ?vW1 rfl ?runW1 ?_
   case runW1 => (intro w9 _; go_simp; try exact rfl)
   try simp only [Act.put, lA, lZ, lS]
   refine tkY 2 ?vW2 rfl ?runW2 ?_
   case runW2 => (intro w9 _; go_simp; try exact rfl)
   try simp only [Act.put, lA, lZ, lS]
   refine tkY 3 ?vW3 rfl ?runW3 ?_
   case runW3 => (intro w9 _; go_simp; try exact rfl)
   try simp only [Act.put, lA, lZ, lS]
   refine tkY 4 ?vW4 rfl ?runW4 ?_
   case runW4 => (intro w9 _; go_simp; try exact rfl)
   try simp only [Act.put, lA, lZ, lS]
   refine tkY 7 ?vW7 rfl ?runW7 ?_
   case runW7 => (intro w9 _; go_simp; try exact rfl)
   try simp only [Act.put, lA, lZ, lS]
   refine tkY 8 ?vW8 rfl ?runW8 ?_
   case runW8 => (intro w9 _; go_simp; try exact rfl)
   try simp only [Act.put, lA, lZ, lS]
   refine tkY 9 ?vW9 rfl ?runW9 ?_
   case runW9 => (intro w9 _; go_simp; try exact rfl)
   try simp only [Act.put, lA, lZ, lS]
   refine tkY 10 ?vW10 rfl ?runW10 ?_
   case runW10 => (intro w9 _; go_simp; try exact rfl)
   try simp only [Act.put, lA, lZ, lS]
   refine tkB [6, 5] 11 ?vW11 rfl ?runW11 (HS0.o) ?_
   case runW11 => (intro w9 hS9; obtain ⟨q0, q1⟩ := And.intro (hS9.cellOf HG.o.1 (by simp)) (hS9.cellOf HG.o.2 (by simp)); go_simp; try exact rfl)
   try simp only [Act.put, lA, lZ, lS]
   refine tkB [6, 12] 5 ?vW5 rfl ?runW5 (HS0.o) ?_
   case runW5 => (intro w9 hS9; obtain ⟨q0, q1⟩ := And.intro (hS9.cellOf HG.o.1 (by simp)) (hS9.cellOf HG.o.2 (by simp)); go_simp; try exact rfl)
   try simp only [Act.put, lA, lZ, lS]
   refine rdB 6 rfl (fun K hK => ?_)
   go_simp
   have HK1 := hyd (show Keep [] wd (wd.alloc (.cells #[] 5)) from (Keep.refl [] wd).alloc _)
   have HMD := hyd (Row.made0 wd 5 1)
   generalize wd.alloc (.cells #[] 5) = w1 at *
   refine hK.out _ _ (fun h => HKD.o.trans HK1.o (by simp)) ?_
   clear hK K
   try simp only [Act.put, lA, lZ, lS]
   refine rdB 12 rfl (fun K hK => ?_)
   refine step_append_any _ (by kernel_rfl) _ _ 35 35 rfl 5 5 i0 (.int .u8 0) 1 1 Tryz.underlying35 Tryz.underlying35 HI.o hz0 hz1 hz2 rfl _ 0 [] (some wd.heap.size) rfl HMD.o _ rfl nb (Lib.byteCells y.b) bo (HRB.o.keep (HKD.o.trans HK1.o (by simp)) (by simp)) (byteCells_one _) (by unfold maxLen; omega) (by omega) ?_
   intro v4 o4 w4 hr4 hk4 ho4
   try simp only [Nat.zero_add, List.nil_append] at hr4
   have hrb4 : RB w4 v4 y.b o4 := by rw [HNB.o] at hr4; exact hr4
   obtain ⟨o5, ⟨-, a4, c4, hv4, -⟩, -⟩ := hr4.rd
   subst hv4
   have HO4 := hyd (show ∀ c, o4 = some c → wr.heap.size ≤ c from fun c hc => by have h1 := HKD.o.size; have h2 := HK1.o.size; rcases ho4 c hc with h | h; (cases h; exact h1); omega)
   have HRB4 := hyd hrb4
   have HK4 := hyd (HK1.o.trans hk4 (fun c hc => .inr (by simp at hc; omega)))
   clear hr4 hrb4 hk4 ho4
   refine hK.out _ _ (fun h => HKD.o.trans HK4.o (by simp)) ?_
   clear hK K
   try simp only [Act.put, lA, lZ, lS]
   refine tkY 13 ?vW13 rfl ?runW13 ?_
   case runW13 => (intro w9 _; go_simp; try exact rfl)
   try simp only [Act.put, lA, lZ, lS]
   refine rdB 14 rfl (fun K hK => ?_)
   go_simp
   have hkc : Keep [] w4 (w4.alloc (.cells #[.int .i64 pid, .slice a4 nb c4] 52)) := (Keep.refl [] w4).alloc _
   have HNS := hyd (rd_block (n := 1) (k := 2) (heap_new w4 (.cells #[.int .i64 pid, .slice a4 nb c4] 52)) (xs := [.int .i64 pid, .slice a4 nb c4]) (by simp) (by simp [maxLen]))
   have HKC := hyd hkc
   have HROW5 := hyd (((HROW.o.keep HKD.o (by simp)).keep HK4.o (by simp)).keep hkc (by simp))
   clear hkc
   generalize w4.alloc (.cells #[.int .i64 pid, .slice a4 nb c4] 52) = w5 at *
   generalize w4.heap.size = B4 at *
   refine hK.out _ _ (fun h => (nomatch h)) ?_
   clear hK K
   try simp only [Act.put, lA, lZ, lS]
   refine rdB 15 rfl (fun K hK => ?_)
   refine step_append_any _ (by kernel_rfl) _ _ 42 42 rfl 52 52 i1 (.agg #[.int .i64 0, .slice none 0 0]) 2 32 Tryz.underlying42 Tryz.underlying42 HI1.o hx0 hx1 hx2 rfl _ NI (imgs.flatMap encI) io rfl HROW5.o _ rfl 1 [.int .i64 pid, .slice a4 nb c4] (some B4) HNS.o (by intro u hu; simp at hu; rcases hu with rfl | rfl <;> rfl) (by unfold maxLen; omega) (by omega) ?_
   intro v6 o6 w6 hr6 hk6 ho6
   refine hK.out _ _ (fun h => (nomatch h)) ?_
   clear hK K
   try simp only [Act.put, lA, lZ, lS]
   refine tkY 16 ?vW16 rfl ?runW16 ?_
   case runW16 => (intro w9 _; go_simp; try exact rfl)
   try simp only [Act.put, lA, lZ, lS]
   refine wpAnyB_done (by kernel_rfl) ?_ _
   have hk05 : Keep [] wr w5 := (HKD.o.trans HK4.o (by simp)).trans HKC.o (by simp)
   have hk06 : Keep [] w w6 := (HKW.o.trans hk05 (by simp)).trans hk6 (fun c hc => .inr (HGI.o.2.1 c (by simpa using hc)))
   have hgi : ImgI w.heap.size w6 v6 (imgs ++ [(⟨pid, .slice a4 nb c4, y.b⟩ : ImV)]) o6 := by
    refine ⟨?_, fun c hc => ?_, fun z hz => ?_⟩
    ·rw [List.flatMap_append, List.length_append, ← HNI.o.1]
     exact hr6
    ·rcases ho6 c hc with h | h
     ·exact HGI.o.2.1 c h
     ·have h1 := HKW.o.size; have h2 := hk05.size; omega
    ·have hk5 := HGI.o.keep hk05
     rcases List.mem_append.1 hz with hz | hz
     ·obtain ⟨h1, o, h2, h3⟩ := hk5.2.2 z hz
      exact ⟨h1, o, RB.keep h2 hk6 (rb_apart hk5.1 h2), h3⟩
     ·rw [List.mem_singleton.1 hz]
      have h4 := RB.keep HRB4.o HKC.o (by simp)
      exact ⟨by rw [HY.o.1]; exact HY.o.2.2, o4, h4.keep hk6 (rb_apart hk5.1 h4), fun c hc => by have h1 := HKW.o.size; have := HO4.o c hc; omega⟩
   have HGI6 := hyd hgi
   have HK6 := hyd hk06
   clear hr6 hk6 ho6 hk05 hk06 hgi
   go_wp2_with fail
   go_roundw
   case rel =>
    refine ⟨k + 1, o6, imgs ++ [⟨pid, .slice a4 nb c4, y.b⟩], by omega, by go_num, HGI6.o, ?_, HK6.o⟩
    have h1 := HIM.o
    unfold imL at h1 ⊢
    rw [List.map_append, h1, HY.o.2.1, List.map_append, HY.o.1]
    rfl
   case measure => show n - (k + 1) < n - k; omega
  ·obtain rfl : k = n := by omega
   go_wp2_with fail
   go_ret
   have h1 := HIM.o
   rw [List.take_of_length_le (by have := HN.o; omega)] at h1
   have hNN := HNI.o
   refine ⟨_, imgs, rfl, ?_, h1, HKW.o⟩
   obtain ⟨o, hr, ho⟩ := HGI.o.1.rd
   refine ⟨⟨o, by rw [← hNN.1] at hr ⊢; exact hr, fun c hc => ?_⟩, fun y hy => ?_, by omega⟩
   ·rcases ho with h | h
    ·rw [h] at hc; cases hc
    ·rw [h] at hc
     exact ⟨Row.lt HGI.o.1 c hc, HGI.o.2.1 c hc⟩
   ·obtain ⟨g1, o, g2, g3⟩ := HGI.o.2.2 y hy
    refine ⟨g1, g2.brd ?_ g3⟩
    have h2 : (y.pid, y.b) ∈ imL imgs := List.mem_map.2 ⟨y, hy, rfl⟩
    rw [h1] at h2
    obtain ⟨z, hz, e⟩ := List.mem_map.1 h2
    injection e with _ e
    rw [← e]
    have := HBL.o z hz
    omega
structure LW (w0 w : World) (s q : Nat) (lm : List Int) (D : List Nat) (d : DS) (x : SV) (im : Int → List UInt8) (N k : Nat) : Prop where
 st : STD w s q lm D d x
 inv : SInv d x.area x.ns x.nm.man x.os x.om.man im
 bk : x.bk = false
 n : d.n = N
 sz : d.sz = 64
 off : d.off = false
 left : d.left < 0
 gen : x.ns.gen ≤ k
 lg : lm.length ≤ 100 + k * 4000
 ds : ∀ b ∈ s :: D, w0.heap.size ≤ b
 kp : Keep [] w0 w
section
variable {w0 w w' : World} {s q : Nat} {lm : List Int} {D : List Nat} {d : DS} {x : SV} {im : Int → List UInt8} {N k : Nat}
theorem LW.keep (h : LW w0 w s q lm D d x im N k) (hk : Keep [] w w') : LW w0 w' s q lm D d x im N k := ⟨h.st.keep0 hk, h.inv, h.bk, h.n, h.sz, h.off, h.left, h.gen, h.lg, h.ds, h.kp.trans hk (by simp)⟩
theorem LW.lt (h : LW w0 w s q lm D d x im N k) : ∀ b ∈ s :: D, b < w.heap.size := fun b hb => by
 rcases List.mem_cons.1 hb with h1 | h1
 ·rw [h1]; exact lt_of_some h.st.blk
 ·exact h.st.dk.lt b h1
theorem LW.no (h : LW w0 w s q lm D d x im N k) {b : Nat} (hb : b < w0.heap.size) : b ∉ s :: D := fun hm => by have := h.ds b hm; omega
end
section
variable {w0 w : World} {s q : Nat} {lm : List Int} {D : List Nat} {d : DS} {x : SV} {im : Int → List UInt8} {N k : Nat} {src : ByteArray} {rv : Value} {rest : List UInt8} {av : Value} {alive : List Int} {iv : Value} {dirty : List ImV}
theorem imL_len {a b : List ImV} (h : imL a = imL b) : a.length = b.length := by
 have := congrArg List.length h
 unfold imL at this
 simpa using this
theorem imL_pid {a b : List ImV} (h : imL a = imL b) : a.map (·.pid) = b.map (·.pid) := by
 have := congrArg (List.map (·.1)) h
 unfold imL at this
 rw [List.map_map, List.map_map] at this
 exact this
theorem imL_len' {a b : List ImV} (h : imL a = imL b) {m : Nat} (hb : ∀ y ∈ b, y.b.length ≤ m) : ∀ y ∈ a, y.b.length ≤ m := fun y hy => by
 have h2 : (y.pid, y.b) ∈ imL a := List.mem_map.2 ⟨y, hy, rfl⟩
 rw [h] at h2
 obtain ⟨z, hz, e⟩ := List.mem_map.1 h2
 injection e with _ e
 rw [← e]
 exact hb z hz
end
theorem lw_new {w0 w w' : World} {s q N A : Nat} {D D' : List Nat} (h1 : 1 ≤ A) (h2 : A + 3 ≤ N) (hN : N ≤ 80) (hk1 : Keep [] w0 w) (hD : ∀ b ∈ D, w0.heap.size ≤ b) (hs : w.heap.size ≤ s)
  (hst : STD w' s q ([] ++ (runW ⟨N, 64, List.replicate (N * 64) 0, -1, false⟩ (zW 64 (A + 2))).2.2) D' (runW ⟨N, 64, List.replicate (N * 64) 0, -1, false⟩ (zW 64 (A + 2))).2.1 (zSV A)) (hD' : ∀ b ∈ D', b ∈ D ∨ w.heap.size ≤ b) (hk2 : Keep D w w') (im : Int → List UInt8) :
  ∃ lm d, LW w0 w' s q lm D' d (zSV A) im N 0 := by
 obtain ⟨i1, i2, i3, i4, i5, i6⟩ := format_inv (n := N) (A := A) h1 h2 (by omega) im rfl
 refine ⟨_, _, hst, i1, rfl, i2, i3, i4, i5, Nat.le_refl _, ?_, fun b hb => ?_, hk1.trans hk2 (fun b hb => .inr (hD b hb))⟩
 ·rw [List.nil_append, i6]; omega
 ·have := hk1.size
  rcases List.mem_cons.1 hb with h | h
  ·omega
  ·rcases hD' b h with h | h
   ·exact hD b h
   ·omega
end Go.Proofs.YtimpadpeibgmoaaGreat
