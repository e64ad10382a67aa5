import Derived.Test.YtdmmhfbafinkpaaGreatDoorPa18
import Derived.Deep.QuietTactic
/- Parse: Parse. -/
namespace Go.Proofs.YtdmmhfbafinkpaaGreatDoor
open Go.RowKit Go.Emb Go.Shelf

def ProgP (w : World) (bs : List UInt8) (e : Ending) (w' : World) : Prop :=
  ∃ l s', Ev (fun n => funsL n true) (beginS bs) l s' ∧ Keep [] w w' ∧
    ((s'.err = 0 ∧ ∃ v, e = .returned (.tuple #[v, .int .i64 0, .int .i64 0]) ∧ FsR (Frs w.heap.size w') w' v l) ∨ (s'.err ≠ 0 ∧ e = .returned (.tuple #[.slice none 0 0, .int .i64 s'.err, .int .i64 s'.at_])))
theorem FsR.mono {S S' : Nat → Prop} {w : World} {v : Value} {l : List (List Nd)} (h : FsR S w v l) (hs : ∀ b, S b → S' b) : FsR S' w v l := by
  obtain ⟨es, o, h1, h2, h3, h4⟩ := h
  exact ⟨es, o, h1, fun x hx => hs x (h2 x hx), h3, fun i h h' => (h4 i h h').mono hs⟩
theorem FsR.keep {S : Nat → Prop} {w w' : World} {v : Value} {l : List (List Nd)} {F : List Nat} (h : FsR S w v l) (hk : Keep F w w') (hs : ∀ b ∈ F, ¬ S b) : FsR S w' v l := by
  obtain ⟨es, o, h1, h2, h3, h4⟩ := h
  exact ⟨es, o, h1.keep hk (fun b hb hm => hs b hm (h2 b hb)), h2, h3, fun i h h' => (h4 i h h').keep hk hs⟩
theorem FsR.form {S : Nat → Prop} {w : World} {v : Value} {l : List (List Nd)} (h : FsR S w v l) : ∃ a c, v = .slice a l.length c := by
  obtain ⟨es, o, ⟨-, a, c, h, -⟩, -⟩ := h; exact ⟨a, c, h⟩
set_option maxRecDepth 100000 in
set_option maxHeartbeats 4000000 in
theorem p_program (s : ByteArray) (w : World) (he : ErrOk w) (hs : s.size ≤ 16384) (hlv : LvT w.heap.size w) :
    Calls Tryz.prog 12 #[.string s] w (ProgP w s.data.toList) := by
  have hbl := begin_len s.data.toList
  have HBL := Lib.hid (show (beginS s.data.toList).toks.length ≤ 16384 by simp at hbl; omega)
  have HBG := Lib.hid (p_begin s w he hs hlv)
  obtain ⟨i0, hi0, hz0, hz1, hz2⟩ := info3 fun_info
  have HI := Lib.hid hi0
  clear he hs hlv hbl hi0
  obtain ⟨bs, hbs⟩ : ∃ bs, bs = s.data.toList := ⟨_, rfl⟩
  rw [← hbs] at HBL HBG ⊢
  clear hbs
  go_enter Tryz.func12, Tryz.ntmps12
  go_wp2_with fail
  refine HBG.out.mono ?_
  rintro e w2 ⟨q, rfl, hps2, hq, hq2, hk2⟩
  have HPS2 := Lib.hid hps2
  have HK2 := Lib.hid hk2
  have HQ := Lib.hid (And.intro hq hq2)
  clear hps2 hk2 hq hq2 HBG
  go_wp2_with fail
  go_loopw [2] (fun v wr => ∃ (l : List (List Nd)) (si : St) (o : Option Nat), RowF (q + 1) wr v l o ∧ PS (q + 1) wr q si ∧ Keep [q] w2 wr ∧ (si.err = 0 → l.length + si.toks.length ≤ 16384) ∧ si.toks.length ≤ 16384 ∧ ∀ l' s', Ev (fun n => funsL n (decide (l = []))) si l' s' → Ev (fun n => funsL n true) (beginS bs) (l ++ l') s') (fun _ wr => pmeas wr q)
  case atStart => exact ⟨[], beginS bs, none, RowF.nil _ _, HPS2.out, Keep.refl _ _, by simpa using fun _ => HBL.out, HBL.out, fun l' s' h => by simpa using h⟩
  case round =>
    obtain ⟨l, si, o, hrow, hps, hkw, hlen, htl, hev⟩ := hrel
    obtain ⟨pa, pc, rfl⟩ := hrow.form
    have HROW := Lib.hid hrow
    have HPS := Lib.hid hps
    have HKW := Lib.hid hkw
    have HLEN := Lib.hid hlen
    have HTL := Lib.hid htl
    have HEV := Lib.hid hev
    have HM := Lib.hid hps.meas
    obtain ⟨v, po, hb, ⟨-, ta, tc, rfl, -⟩, -⟩ := hps.blk
    obtain ⟨s0, s1, s2, s3⟩ := cells4p hb
    clear hrow hps hkw hlen htl hev hb HPS2
    by_cases herr : si.err = 0
    · have herr' : (si.err == 0) = true := by simp [herr]
      by_cases hgo : l = [] ∨ si.toks ≠ []
      · have HGO := Lib.hid hgo
        have hfn := p_function HPS.out (by have := HKW.out.size; have := HQ.out.2; omega) (by have := HTL.out; omega)
        have HFN := Lib.hid hfn
        clear hfn
        have hstart : ∀ wr', wr' = wr → Calls Tryz.prog 41 #[.pointer (some ⟨q, 0, none⟩)] wr' (FuncP (q + 1) wr q si) := fun _ h => by subst h; exact HFN.out
        have HST := Lib.hid hstart
        clear hstart
        rcases (show (l = [] ∨ (l ≠ [] ∧ si.toks ≠ [])) by rcases hgo with h | h; exact .inl h; by_cases h0 : l = []; exact .inl h0; exact .inr ⟨h0, h⟩) with h0 | ⟨h0, h1⟩
        · have hl' : ((l.length : Int) == 0) = true := by simp [h0]
          have hlz : l.length = 0 := by simp [h0]
          clear hgo h0
          go_wp2_with fail
          refine (HST.out wr rfl).mono ?_
          rintro e w3 ⟨v, f, sv, rfl, hev2, hns, hps2, hle2, hk3⟩
          obtain ⟨va, vc, rfl⟩ := hns.form
          have hq2 := HQ.out.2
          have hqr := HKW.out.size
          have hol : ∀ b, o = some b → b < wr.heap.size := HROW.out.lt
          obtain ⟨es, hrow3, hpush⟩ := (HROW.out.keep hk3 (by simp)).app hns (by omega) hk3.size hol #[.slice va f.length vc] 50
          have hk4 := (Keep.refl [] w3).alloc (.cells #[.slice va f.length vc] 50)
          have hsrc := src_lit1 (P := Tryz.prog) w3 [.slice va f.length vc] 1 rfl (by simp [Value.oneCell']) 23 50 50 Tryz.underlying23
          have HROW3 := Lib.hid hrow3
          have HPUSH := Lib.hid hpush
          have HSRC := Lib.hid hsrc
          have HPS3 := Lib.hid (hps2.keep0 hk4)
          have HK3 := Lib.hid ((HKW.out.trans hk3 (by simp)).trans hk4 (by simp))
          have hoge : ∀ b, o = some b → q + 1 ≤ b := by obtain ⟨_, -, -, -, h⟩ := HROW.out; exact h
          have HOGE := Lib.hid hoge
          have HEV2 := Lib.hid hev2
          have HLE2 := Lib.hid hle2
          have hlm : l.length ≤ 1000000 := by have := HLEN.out herr; omega
          clear hrow3 hpush hsrc hps2 hk3 hk4 hoge hev2 hle2 hns hol hq2 hqr HST HFN HPS HKW HROW s0 s1 s2 s3 hlz hl'
          go_wp2_with (at_builtin; go_loud (refine wpList_append_row _ rfl _ _ 23 23 rfl 50 i0 _ 1 24 Tryz.underlying23 HI.out hz0 hz1 hz2 rfl _ _ _ o rfl HROW3.out _ rfl 1 _ HSRC.out (by omega) (by unfold maxLen; omega) (by omega) ?_); intro g off cap w4 hr4 hk4 hg4; have hr5 := HPUSH.out g _ w4 hr4 hk4 hg4; have hps4 := HPS3.out.keep hk4 (fun b hb => HOGE.out b (by simpa using hb)); have hk5 : Keep [q] w2 w4 := keepB (lo := w2.heap.size) ((HK3.out.mono (G := q :: o.toList) (by simp)).trans hk4 (fun x hx => .inl (List.mem_cons_of_mem _ hx))) (fun b hb => by simp at hb; rcases hb with rfl | hb; exact .inl rfl; have := HOGE.out b hb; have := HQ.out.2; exact .inr (by omega)) (Nat.le_refl _); have HR5 := Lib.hid hr5; have HPS4 := Lib.hid hps4; have HK5 := Lib.hid hk5; clear hr4 hk4 hg4 hr5 hps4 hk5)
          go_roundw
          case rel =>
            exact ⟨l ++ [f], sv, some g, HR5.out, HPS4.out, HK5.out, fun he2 => by have h3 := HEV2.out.fun_less he2; have := HLEN.out herr; simp; omega, by have := HTL.out; have := HLE2.out; omega, fun l' s' h => by
                have h4 := HEV.out (f :: l') s' (Ev.of_funs_go ⟨herr, by rcases HGO.out with h | h; exact .inl (by simp [h]); exact .inr h⟩ HEV2.out (by simpa using h))
                simpa using h4⟩
          case measure =>
            rw [HPS4.out.meas, HM.out, if_pos herr]
            split
            · rename_i he2
              have h3 := HEV2.out.fun_less he2
              omega
            · omega
        · have hl' : ((l.length : Int) == 0) = false := beq_eq_false_iff_ne.2 (by have := List.length_pos_iff.2 h0; omega)
          have hlz : ¬ (l.length = 0) := by have := List.length_pos_iff.2 h0; omega
          have ht' : (0 : Int) < (si.toks.length : Int) := by have := List.length_pos_iff.2 h1; omega
          have ht2 : 0 < si.toks.length := by have := List.length_pos_iff.2 h1; omega
          clear hgo h0 h1
          go_wp2_with fail
          refine (HST.out wr rfl).mono ?_
          rintro e w3 ⟨v, f, sv, rfl, hev2, hns, hps2, hle2, hk3⟩
          obtain ⟨va, vc, rfl⟩ := hns.form
          have hq2 := HQ.out.2
          have hqr := HKW.out.size
          have hol : ∀ b, o = some b → b < wr.heap.size := HROW.out.lt
          obtain ⟨es, hrow3, hpush⟩ := (HROW.out.keep hk3 (by simp)).app hns (by omega) hk3.size hol #[.slice va f.length vc] 50
          have hk4 := (Keep.refl [] w3).alloc (.cells #[.slice va f.length vc] 50)
          have hsrc := src_lit1 (P := Tryz.prog) w3 [.slice va f.length vc] 1 rfl (by simp [Value.oneCell']) 23 50 50 Tryz.underlying23
          have HROW3 := Lib.hid hrow3
          have HPUSH := Lib.hid hpush
          have HSRC := Lib.hid hsrc
          have HPS3 := Lib.hid (hps2.keep0 hk4)
          have HK3 := Lib.hid ((HKW.out.trans hk3 (by simp)).trans hk4 (by simp))
          have hoge : ∀ b, o = some b → q + 1 ≤ b := by obtain ⟨_, -, -, -, h⟩ := HROW.out; exact h
          have HOGE := Lib.hid hoge
          have HEV2 := Lib.hid hev2
          have HLE2 := Lib.hid hle2
          have hlm : l.length ≤ 1000000 := by have := HLEN.out herr; omega
          clear hrow3 hpush hsrc hps2 hk3 hk4 hoge hev2 hle2 hns hol hq2 hqr HST HFN HPS HKW HROW s0 s1 s2 s3 hlz hl'
          go_wp2_with (at_builtin; go_loud (refine wpList_append_row _ rfl _ _ 23 23 rfl 50 i0 _ 1 24 Tryz.underlying23 HI.out hz0 hz1 hz2 rfl _ _ _ o rfl HROW3.out _ rfl 1 _ HSRC.out (by omega) (by unfold maxLen; omega) (by omega) ?_); intro g off cap w4 hr4 hk4 hg4; have hr5 := HPUSH.out g _ w4 hr4 hk4 hg4; have hps4 := HPS3.out.keep hk4 (fun b hb => HOGE.out b (by simpa using hb)); have hk5 : Keep [q] w2 w4 := keepB (lo := w2.heap.size) ((HK3.out.mono (G := q :: o.toList) (by simp)).trans hk4 (fun x hx => .inl (List.mem_cons_of_mem _ hx))) (fun b hb => by simp at hb; rcases hb with rfl | hb; exact .inl rfl; have := HOGE.out b hb; have := HQ.out.2; exact .inr (by omega)) (Nat.le_refl _); have HR5 := Lib.hid hr5; have HPS4 := Lib.hid hps4; have HK5 := Lib.hid hk5; clear hr4 hk4 hg4 hr5 hps4 hk5)
          go_roundw
          case rel =>
            exact ⟨l ++ [f], sv, some g, HR5.out, HPS4.out, HK5.out, fun he2 => by have h3 := HEV2.out.fun_less he2; have := HLEN.out herr; simp; omega, by have := HTL.out; have := HLE2.out; omega, fun l' s' h => by
                have h4 := HEV.out (f :: l') s' (Ev.of_funs_go ⟨herr, by rcases HGO.out with h | h; exact .inl (by simp [h]); exact .inr h⟩ HEV2.out (by simpa using h))
                simpa using h4⟩
          case measure =>
            rw [HPS4.out.meas, HM.out, if_pos herr]
            split
            · rename_i he2
              have h3 := HEV2.out.fun_less he2
              omega
            · omega
      · have hl : l ≠ [] := fun h => hgo (.inl h)
        have ht : si.toks = [] := Classical.byContradiction fun h => hgo (.inr h)
        have hl' : ((l.length : Int) == 0) = false := beq_eq_false_iff_ne.2 (by have := List.length_pos_iff.2 hl; omega)
        have ht' : ¬ (0 : Int) < (si.toks.length : Int) := by rw [ht]; simp
        have hlz : ¬ (l.length = 0) := by have := List.length_pos_iff.2 hl; omega
        go_wp2_with fail
        refine bodyPost_ret (results_tmp3 rfl _ _ _) rfl ?_
        have hq := HQ.out
        have hev := HEV.out [] si (Ev.of_funs_stop (by simp [hl, ht]))
        rw [List.append_nil] at hev
        exact ⟨l, si, hev, ((HK2.out.mono (G := [q]) (by simp)).trans HKW.out (by simp)).mono (fun b hb hl => by simp at hb; omega), .inl ⟨herr, _, rfl, HROW.out.fs.mono (fun b h => ⟨by have := h.1; omega, h.2⟩)⟩⟩
    · have herr' : (si.err == 0) = false := beq_eq_false_iff_ne.2 herr
      go_wp2_with fail
      go_quiet (fail)
      go_wp2_with fail
      refine bodyPost_ret (results_tmp3 rfl _ _ _) rfl ?_
      have hq := HQ.out
      have hev := HEV.out [] si (Ev.of_funs_stop (by simp [herr]))
      rw [List.append_nil] at hev
      exact ⟨l, si, hev, (((HK2.out.mono (G := [q]) (by simp)).trans HKW.out (by simp)).drewN _).mono (fun b hb hl => by simp at hb; omega), .inr ⟨herr, rfl⟩⟩
end Go.Proofs.YtdmmhfbafinkpaaGreatDoor
