import Derived.Test.YtdmmhfbafinkpaaGreatDoorSc8
/- Scanning: Scan (the program's). Printed by gen-sc9.py. -/
namespace Go.Proofs.YtdmmhfbafinkpaaGreatDoor
open Go.RowKit Go.Emb

theorem src_blk {P : Program} {w : World} {T e : TypeId} {k b : Nat} {xs : List Value} {t : TypeId} (hk : P.underlying T = some (.slice e)) (hb : w.heap[b]? = some (.cells xs.toArray t)) (hl : xs.length = 1 * k) (h1 : ∀ u ∈ xs, u.oneCell' = true) : Src P k T (.slice (some ⟨b, 0, none⟩) 1 1) 1 xs w :=
  Src.ofSlice w hk ⟨b, 0, none⟩ 1 1 xs hl (fun j u hj => by
    have hadd : (⟨b, 0, none⟩ : Addr).add j = ⟨b, j, none⟩ := by unfold Addr.add; split <;> simp_all
    rw [hadd]
    simp [World.cell?, hb]
    exact hj) h1
theorem tok_info : (Tryz.prog.info? 88).map (fun i => (i.zero, i.size, i.bytes)) = some (some (.agg #[.int .i64 0, .int .i64 0, .string ⟨#[]⟩, .int .i64 0, .int .i64 0]), 5, 48) := by kernel_rfl
def encT (x : Tk × Nat) : List Value := [.int .i64 x.1.kind, .int .i64 x.1.num, .string ⟨x.1.text.toArray⟩, .int .i64 (x.2 : Nat), .int .i64 (x.2 + x.1.en : Nat)]
def RowT (w : World) (v : Value) (ts : List (Tk × Nat)) (o : Option Nat) : Prop := Row w 88 5 v ts.length (ts.flatMap encT) o
theorem RowT.slice {w : World} {v : Value} {ts : List (Tk × Nat)} {o : Option Nat} (h : RowT w v ts o) : ∃ a c, v = .slice a ts.length c := by
  obtain ⟨-, ⟨-, h, hn⟩ | ⟨_, _, _, _, -, h, -⟩⟩ := h
  · exact ⟨none, 0, by rw [h, hn]⟩
  · exact ⟨_, _, h⟩
def prepT (ts : List (Tk × Nat)) : Except (Int × Nat) (List (Tk × Nat)) → Except (Int × Nat) (List (Tk × Nat))
  | .ok us => .ok (ts ++ us)
  | .error x => .error x
/-- what Scan answers -/
def ScanP (w : World) (big : Bool) (R : Except (Int × Nat) (List (Tk × Nat))) (e : Ending) (w' : World) : Prop :=
  (if big then e = .returned (.tuple #[.slice none 0 0, .int .i64 1, .int .i64 0]) else
    match R with
    | .ok ts => ∃ v o, e = .returned (.tuple #[v, .int .i64 0, .int .i64 0]) ∧ RowT w' v ts o ∧ ∀ b, o = some b → w.heap.size ≤ b
    | .error p => e = .returned (.tuple #[.slice none 0 0, .int .i64 p.1, .int .i64 (p.2 : Nat)])) ∧ Keep [] w w'
def ScanI (w : World) (l : List UInt8) (R : Except (Int × Nat) (List (Tk × Nat))) (k : Nat) (v : Value) (wr : World) : Prop :=
  ∃ ts o, RowT wr v ts o ∧ (∀ b, o = some b → w.heap.size ≤ b) ∧ Keep [] w wr ∧ R = prepT ts (scanL (l.drop k) k) ∧ ts.length ≤ k
theorem scan_run : ∀ (u v : List UInt8) (a : Nat), (∀ x ∈ u, blankB x = true) → scanL (u ++ v) a = scanL v (a + u.length)
  | [], v, a, _ => rfl
  | c :: u, v, a, h => by
    rw [List.cons_append, scanL_blank _ _ (h c (by simp)), scan_run u v (a + 1) (fun x hx => h x (by simp [hx]))]
    simp [Nat.add_assoc, Nat.add_comm 1]
theorem tw_drop (p : UInt8 → Bool) (l : List UInt8) : l.drop (l.takeWhile p).length = l.dropWhile p := by
  conv => lhs; rw [← List.takeWhile_append_dropWhile (p := p) (l := l)]
  have : ∀ (x y z : List UInt8), z = x → (x ++ y).drop z.length = y := fun x y z h => by subst h; simp
  exact this _ _ _ (by rw [List.takeWhile_append_dropWhile])
theorem scan_blanks (l : List UInt8) (a : Nat) : scanL l a = scanL (l.drop (l.takeWhile blankB).length) (a + (l.takeWhile blankB).length) := by
  have e : l = l.takeWhile blankB ++ l.drop (l.takeWhile blankB).length := by rw [tw_drop, List.takeWhile_append_dropWhile]
  have h := scan_run (l.takeWhile blankB) (l.drop (l.takeWhile blankB).length) a (tw_all _ _)
  rwa [← e] at h
theorem scan_skip {l : List UInt8} {c : UInt8} {r : List UInt8} (hl : l = c :: r) (hb : blankB c = false) (hc : c.toNat = 37) (a : Nat) : scanL l a = scanL (l.drop (l.takeWhile noNL).length) (a + (l.takeWhile noNL).length) ∧ 1 ≤ (l.takeWhile noNL).length := by
  subst hl
  have hp : noNL c = true := by simp [noNL, hc]
  rw [scanL_note r a hb hc, List.takeWhile_cons_of_pos hp]
  refine ⟨?_, by simp⟩
  have e : a + 1 + (r.takeWhile (fun x : UInt8 => decide (x.toNat ≠ 10))).length = a + ((r.takeWhile noNL).length + 1) := by show a + 1 + (r.takeWhile noNL).length = _; omega
  rw [List.length_cons, List.drop_succ_cons, tw_drop, e]
theorem string_eq {S : ByteArray} {t : List UInt8} (h : S.data.toList = t) : S = ⟨t.toArray⟩ := by cases S; simp at h; subst h; simp
theorem ScanI.push {w w1 w2 : World} {l : List UInt8} {R : Except (Int × Nat) (List (Tk × Nat))} {k g off cap : Nat} {ts : List (Tk × Nat)} {o : Option Nat} {t : Tk} {c : UInt8} {r : List UInt8} (ho : ∀ b, o = some b → w.heap.size ≤ b) (hk : Keep [] w w1)
    (hr : RowT w2 (.slice (some ⟨g, off, none⟩) (ts.length + 1) cap) (ts ++ [(t, k)]) (some g)) (hk2 : Keep o.toList w1 w2) (hg : o = some g ∨ w1.heap.size ≤ g) (hR : R = prepT ts (scanL (l.drop k) k)) (hl : ts.length ≤ k)
    (hc : l.drop k = c :: r) (hb : blankB c = false) (hn : c.toNat ≠ 37) (ht : tokL (l.drop k) = .ok t) : ScanI w l R (k + t.en) (.slice (some ⟨g, off, none⟩) (ts.length + 1) cap) w2 := by
  have hen := tokL_en ht
  refine ⟨ts ++ [(t, k)], some g, hr, ?_, hk.trans hk2 (fun x hx => .inr ?_), ?_, by rw [List.length_append]; simp only [List.length_cons, List.length_nil]; omega⟩
  · rintro b ⟨⟩
    rcases hg with h | h
    · exact ho _ h
    · have := hk.size; omega
  · cases o with
    | none => simp at hx
    | some y => simp at hx; subst hx; exact ho _ rfl
  · rw [hR, hc, scanL_tok r k hb hn, ← hc, ht]
    simp only
    rw [List.drop_drop]
    cases scanL (l.drop (k + t.en)) (k + t.en) with
    | ok us => simp [prepT]
    | error x => rfl
set_option maxRecDepth 100000 in
set_option maxHeartbeats 4000000 in
theorem p_scan (s : ByteArray) (w : World) (he : ErrOk w) (hs : s.size ≤ 140737488355328) : Calls Tryz.prog 59 #[.string s] w (ScanP w (decide (16384 < s.size)) (scanL s.data.toList 0)) := by
  by_cases hbig : 16384 < s.size
  · have hb' : (16384 : Int) < (s.size : Int) := by omega
    rw [decide_eq_true hbig]
    go_enter Tryz.func59, Tryz.ntmps59
    go_wp2_with fail
    refine bodyPost_ret (results_tmp3 rfl _ _ _) rfl ?_
    exact ⟨rfl, Keep.refl _ _⟩
  · have hb' : ¬ (16384 : Int) < (s.size : Int) := by omega
    rw [decide_eq_false hbig]
    obtain ⟨R, hR⟩ : ∃ R, R = scanL s.data.toList 0 := ⟨_, rfl⟩
    rw [← hR]
    have hst : ScanI w s.data.toList R 0 (.slice none 0 0) w := ⟨[], none, Row.nil _ _ _, by simp, Keep.refl _ _, by rw [List.drop_zero, ← hR]; cases R <;> simp [prepT], Nat.le_refl _⟩
    have HST := Lib.hid hst
    have hsl : s.data.toList.length = s.size := by simp
    have HSL := Lib.hid hsl
    have HE := Lib.hid he
    clear hst hsl he hR
    obtain ⟨i0, hi, hz0, hz1, hz2⟩ := info_parts tok_info
    have HI := Lib.hid hi
    clear hi
    go_enter Tryz.func59, Tryz.ntmps59
    go_wp2_with fail
    go_loopw [2, 4] (fun l i wr => ∃ k : Nat, k ≤ s.size ∧ i = .int .i64 k ∧ ScanI w s.data.toList R k l wr) (fun _ i _ => s.size - (RowKit.intOf i).toNat)
    case atStart => exact ⟨0, Nat.zero_le _, rfl, HST.out⟩
    case round =>
      clear HST
      obtain ⟨k, hk, rfl, ts, o, hrow, ho, hkw, hR, hlen⟩ := hrel
      obtain ⟨la, lc, rfl⟩ := hrow.slice
      have HROW := Lib.hid hrow
      have HO := Lib.hid ho
      have HKW := Lib.hid hkw
      have HR := Lib.hid hR
      clear hrow ho hkw hR
      by_cases hlt : k < s.size
      · have i0' : (0 : Int) ≤ (k : Int) := by omega
        have i1' : (k : Int) < (s.size : Int) := by omega
        have i2' : (k : Int) ≤ (s.size : Int) := by omega
        have hcons : s.data.toList.drop k = s[k] :: s.data.toList.drop (k + 1) := by
          rw [List.drop_eq_getElem_cons (by simpa using hlt), index_at s k hlt]
        have hel : (s.extract k s.size).data.toList = s.data.toList.drop k := by
          simp [ByteArray.data_extract]
          rw [List.take_of_length_le (by simp)]
        have hesz : (s.extract k s.size).size = s.size - k := by simp
        have hrun := p_run (s.extract k s.size) ⟨#[32, 9, 10, 13]⟩ wr (by rw [hesz]; omega)
        have hrn : runN (s.extract k s.size).data.toList [32, 9, 10, 13] = ((s.data.toList.drop k).takeWhile blankB).length := by unfold runN; rw [hel]; simp only [set_blank]
        simp only at hrun
        rw [hrn] at hrun
        have hbl := scan_blanks (s.data.toList.drop k) k
        rw [List.drop_drop] at hbl
        have hnle := tw_le blankB (s.data.toList.drop k)
        have hn00 : ((s.data.toList.drop k).takeWhile blankB).length = 0 → blankB s[k] = false := fun h => by
          rw [hcons] at h
          cases hb : blankB s[k] with
          | false => rfl
          | true => rw [List.takeWhile_cons_of_pos hb] at h; simp at h
        obtain ⟨n, hn⟩ : ∃ n, n = ((s.data.toList.drop k).takeWhile blankB).length := ⟨_, rfl⟩
        rw [← hn] at hrun hbl hnle hn00
        rw [List.length_drop, HSL.out] at hnle
        have HRUN := Lib.hid hrun
        have HBL := Lib.hid hbl
        have HCONS := Lib.hid hcons
        clear hrun hrn hbl hn
        by_cases hn0 : 0 < n
        · have hn0' : (0 : Int) < (n : Int) := by omega
          have hkn : IntKind.i64.wrap ((k : Int) + (n : Int)) = ((k + n : Nat) : Int) := (IntWalk.i64_in _ (by omega)).trans (by omega)
          clear hesz hcons hn00 hel
          go_wp2_with fail
          refine HRUN.out.mono ?_
          rintro e w2 ⟨rfl, rfl⟩
          go_wp2_with fail
          go_roundw
          case rel => exact ⟨k + n, by omega, by go_num, ts, o, HROW.out, HO.out, HKW.out, by rw [← HBL.out]; exact HR.out, by omega⟩
          case measure => simp [intOf]; omega
        · obtain rfl : n = 0 := by omega
          have hbf := hn00 rfl
          have HBF := Lib.hid hbf
          by_cases h37 : s[k].toNat = 37
          · have e1 : ((s[k].toNat : Int) == 37) = true := by simp [h37]
            have hsk := scan_skip hcons hbf h37 k
            have hcut := p_cut (s.extract k s.size)
            unfold CutP at hcut
            rw [hel] at hcut
            have hmle := tw_le noNL (s.data.toList.drop k)
            rw [List.length_drop, HSL.out] at hmle
            obtain ⟨m, hm⟩ : ∃ m, m = ((s.data.toList.drop k).takeWhile noNL).length := ⟨_, rfl⟩
            rw [← hm, List.drop_drop] at hsk
            rw [← hm] at hmle
            have hm1 := hsk.2
            have HSK := Lib.hid hsk.1
            have HM := Lib.hid hm
            have HCUT := Lib.hid (hcut wr (by rw [hesz]; omega))
            have hkm : IntKind.i64.wrap ((k : Int) + (m : Int)) = ((k + m : Nat) : Int) := (IntWalk.i64_in _ (by omega)).trans (by omega)
            clear hsk hm hcut hbf hn00 h37 hcons hel hesz
            go_wp2_with fail
            refine HRUN.out.mono ?_
            rintro e w2 ⟨rfl, rfl⟩
            go_wp2_with fail
            refine HCUT.out.mono ?_
            rintro e w3 ⟨S, T, b, rfl, hS, hk3⟩
            have hsz : S.size = m := by
              have h1 : S.data.toList.length = S.size := by simp
              rw [← h1, hS, ← HM.out]
            have HK3 := Lib.hid hk3
            clear hS hk3
            subst hsz
            go_wp2_with fail
            go_roundw
            case rel => exact ⟨k + S.size, by omega, by go_num, ts, o, Row.keep HROW.out HK3.out (by simp), HO.out, HKW.out.trans HK3.out (by simp), by rw [← HSK.out]; exact HR.out, by omega⟩
            case measure => simp [intOf]; omega
          · have e1 : ((s[k].toNat : Int) == 37) = false := beq_eq_false_iff_ne.2 (by omega)
            have htok := p_token (s.extract k s.size) wr (HE.out.keep HKW.out) (by rw [hesz]; omega) (by rw [hesz]; omega)
            rw [hel] at htok
            have HTOK := Lib.hid htok
            have H37 := Lib.hid h37
            clear htok hbf hn00 h37 hcons hel hesz
            go_wp2_with fail
            refine HRUN.out.mono ?_
            rintro e w2 ⟨rfl, rfl⟩
            go_wp2_with fail
            refine HTOK.out.mono ?_
            rintro e w3 ⟨⟨tk0, tn0, ta0, tz0, S, f0', g0', rfl, hres⟩, hk3⟩
            have HK3 := Lib.hid hk3
            have hk4 : Keep [] w3 ((w3.alloc (.cells #[.int .i64 tk0, .int .i64 tn0, .string S, .int .i64 ta0, .int .i64 tz0] 88)).alloc (.cells #[.int .i64 f0', .int .i64 g0'] 129)) := ((Keep.refl [] w3).alloc _).alloc _
            have hb1 := blkk (heap_alloc_new w3 (.cells #[.int .i64 tk0, .int .i64 tn0, .string S, .int .i64 ta0, .int .i64 tz0] 88)) ((Keep.refl [] _).alloc (.cells #[.int .i64 f0', .int .i64 g0'] 129))
            have hb2 := heap_alloc_new (w3.alloc (.cells #[.int .i64 tk0, .int .i64 tn0, .string S, .int .i64 ta0, .int .i64 tz0] 88)) (.cells #[.int .i64 f0', .int .i64 g0'] 129)
            rw [show (w3.alloc (.cells #[.int .i64 tk0, .int .i64 tn0, .string S, .int .i64 ta0, .int .i64 tz0] 88)).heap.size = w3.heap.size + 1 by simp] at hb2
            have HK4 := Lib.hid hk4
            have HB1 := Lib.hid hb1
            have HB2 := Lib.hid hb2
            obtain ⟨⟨c0, c1, c2, c3, c4⟩, f0, f1, f2, f3, f4⟩ := cells5b hb1
            obtain ⟨d0, d1, g0, g1, -⟩ := cells2b hb2
            clear hk3 hk4 hb1 hb2
            cases htk : tokL (s.data.toList.drop k) with
            | error p =>
              rw [htk] at hres
              obtain ⟨hf, hg⟩ := hres
              have hpe := tokL_err (e := p.1) (f := p.2) htk
              rw [List.length_drop, HSL.out] at hpe
              have hne : (f0' != 0) = true := by rw [hf]; rcases hpe.2 with h | h <;> rw [h] <;> rfl
              have hadd : IntKind.i64.wrap ((k : Int) + g0') = (k : Int) + g0' := IntWalk.i64_in _ (by rw [hg]; omega)
              have hr := HR.out
              rw [HCONS.out, scanL_tok _ k HBF.out H37.out, ← HCONS.out, htk] at hr
              have HR2 := Lib.hid hr
              have HF := Lib.hid hf
              have HG := Lib.hid hg
              clear hf hg hpe hr htk
              go_wp2_with fail
              generalize (w3.alloc (.cells #[.int .i64 tk0, .int .i64 tn0, .string S, .int .i64 ta0, .int .i64 tz0] 88)).alloc (.cells #[.int .i64 f0', .int .i64 g0'] 129) = w4 at *
              go_quiet (fail)
              go_wp2_with fail
              refine bodyPost_ret (results_tmp3 rfl _ _ _) rfl ?_
              refine ⟨?_, ((HKW.out.trans HK3.out (by simp)).trans HK4.out (by simp)).drewN _⟩
              rw [HR2.out]
              simp only [prepT]
              rw [HF.out, HG.out]
              rfl
            | ok t =>
              rw [htk] at hres
              obtain ⟨rfl, rfl, rfl, hS, rfl, rfl⟩ := hres
              have hS2 := string_eq hS
              have hen := tokL_en htk
              rw [List.length_drop, HSL.out] at hen
              have hadd : IntKind.i64.wrap (((t.en : Nat) : Int) + (k : Int)) = (k : Int) + (t.en : Int) := (IntWalk.i64_in _ (by omega)).trans (by omega)
              have HS2 := Lib.hid hS2
              have HTK := Lib.hid htk
              clear hS hS2 htk
              go_upto_region 16 with fail
              have h7a : Keep [] w3 (((w3.alloc (.cells #[.int .i64 t.kind, .int .i64 t.num, .string S, .int .i64 (k : Nat), .int .i64 ((k : Int) + (t.en : Int))] 88)).alloc (.cells #[.int .i64 0, .int .i64 g0'] 129))) := ((Keep.refl [] w3).alloc _).alloc _
              have h7k : Keep [] w (((w3.alloc (.cells #[.int .i64 t.kind, .int .i64 t.num, .string S, .int .i64 (k : Nat), .int .i64 ((k : Int) + (t.en : Int))] 88)).alloc (.cells #[.int .i64 0, .int .i64 g0'] 129))) := (HKW.out.trans HK3.out (by simp)).trans h7a (by simp)
              have h7r : RowT (((w3.alloc (.cells #[.int .i64 t.kind, .int .i64 t.num, .string S, .int .i64 (k : Nat), .int .i64 ((k : Int) + (t.en : Int))] 88)).alloc (.cells #[.int .i64 0, .int .i64 g0'] 129))) (.slice la ts.length lc) ts o := Row.keep HROW.out (HK3.out.trans h7a (by simp)) (by simp)
              have h7b : (((w3.alloc (.cells #[.int .i64 t.kind, .int .i64 t.num, .string S, .int .i64 (k : Nat), .int .i64 ((k : Int) + (t.en : Int))] 88)).alloc (.cells #[.int .i64 0, .int .i64 g0'] 129))).heap[w3.heap.size]? = some (.cells #[.int .i64 t.kind, .int .i64 t.num, .string S, .int .i64 (k : Nat), .int .i64 ((k : Int) + (t.en : Int))] 88 (0, 0)) := blkk (heap_alloc_new w3 (.cells #[.int .i64 t.kind, .int .i64 t.num, .string S, .int .i64 (k : Nat), .int .i64 ((k : Int) + (t.en : Int))] 88)) ((Keep.refl [] _).alloc _)
              clear h7a
              have H7K := Lib.hid h7k
              have H7R := Lib.hid h7r
              clear h7k h7r c0 c1 c2 c3 c4 f0 f1 f2 f3 f4 d0 d1 g0 g1
              generalize ((w3.alloc (.cells #[.int .i64 t.kind, .int .i64 t.num, .string S, .int .i64 (k : Nat), .int .i64 ((k : Int) + (t.en : Int))] 88)).alloc (.cells #[.int .i64 0, .int .i64 g0'] 129)) = w7 at *
              obtain ⟨⟨c0, c1, c2, c3, c4⟩, -⟩ := cells5b h7b
              clear h7b
              have t1 := src_blk (P := Tryz.prog) (k := 5) Tryz.underlying46 (heap_alloc_new w7 (.cells #[.int .i64 t.kind, .int .i64 t.num, .string S, .int .i64 (k : Nat), .int .i64 ((k : Int) + (t.en : Int))] 88)) rfl (by intro u hu; simp at hu; rcases hu with rfl | rfl | rfl | rfl | rfl <;> rfl)
              have t2 : Row (w7.alloc (.cells #[.int .i64 t.kind, .int .i64 t.num, .string S, .int .i64 (k : Nat), .int .i64 ((k : Int) + (t.en : Int))] 88)) 88 5 (.slice la ts.length lc) ts.length (ts.flatMap encT) o := Row.keep H7R.out ((Keep.refl [] w7).alloc _) (by simp)
              have T1 := Lib.hid t1
              have T2 := Lib.hid t2
              clear t1 t2
              go_wp2_with (at_builtin; refine wpList_append_row _ rfl _ _ 46 46 rfl 88 i0 (.agg #[.int .i64 0, .int .i64 0, .string ⟨#[]⟩, .int .i64 0, .int .i64 0]) 5 48 Tryz.underlying46 HI.out hz0 hz1 hz2 rfl _ ts.length _ o rfl T2.out _ rfl 1 _ T1.out (by omega) (by first | (unfold maxLen; omega) | (simp [maxLen] <;> omega)) (by omega) ?_)
              intro g off cap w9 hr9 hk9 hg9
              have hr9' : RowT w9 (.slice (some ⟨g, off, none⟩) (ts.length + 1) cap) (ts ++ [(t, k)]) (some g) := by
                unfold RowT
                rw [List.flatMap_append, List.length_append]
                have e : [(t, k)].flatMap encT = [.int .i64 t.kind, .int .i64 t.num, .string S, .int .i64 (k : Nat), .int .i64 ((k : Int) + (t.en : Int))] := by rw [HS2.out]; simp [encT, Int.natCast_add]
                rw [e]; exact hr9
              have hpush := ScanI.push HO.out H7K.out hr9' (((Keep.refl o.toList w7).alloc _).trans hk9 (fun b hb => .inl hb)) (by
                rcases hg9 with h | h
                · exact .inl h
                · exact .inr (by first | omega | (simp at h; omega))) HR.out hlen HCONS.out HBF.out H37.out HTK.out
              have HPUSH := Lib.hid hpush
              clear hr9 hr9' hk9 hg9 hpush T1 T2 c0 c1 c2 c3 c4
              go_wp2_with fail
              go_roundw
              case rel => exact ⟨k + t.en, by omega, by go_num, HPUSH.out⟩
              case measure => simp [intOf]; omega
      · obtain rfl : k = s.size := by omega
        have i1' : ¬ (s.size : Int) < (s.size : Int) := by omega
        have hr := HR.out
        rw [List.drop_eq_nil_of_le (by simp), scanL_nil] at hr
        have HR2 := Lib.hid hr
        clear hr
        go_wp2_with fail
        refine bodyPost_ret (results_tmp3 rfl _ _ _) rfl ?_
        refine ⟨?_, HKW.out⟩
        rw [HR2.out]
        exact ⟨_, o, rfl, by rw [List.append_nil]; exact HROW.out, HO.out⟩
end Go.Proofs.YtdmmhfbafinkpaaGreatDoor
