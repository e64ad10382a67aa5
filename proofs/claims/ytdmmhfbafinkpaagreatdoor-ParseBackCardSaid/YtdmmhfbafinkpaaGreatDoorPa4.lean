import Derived.Test.YtdmmhfbafinkpaaGreatDoorPa7
import Derived.Deep.AppendSrc
/- Parse: unary. -/
namespace Go.Proofs.YtdmmhfbafinkpaaGreatDoor
open Go.RowKit Go.Emb

set_option maxRecDepth 100000 in
set_option maxHeartbeats 1000000 in
theorem w_unary {lo pb : Nat} {w : World} {s : St} {d : Nat} (ih : AllC lo pb (32 * s.toks.length + 2)) (h : PS lo w pb s) (hlo : lo ≤ w.heap.size) (hd : d + s.toks.length ≤ 1000000) :
    Calls Tryz.prog 98 #[.pointer (some ⟨pb, 0, none⟩), .int .i64 d] w (NodeP lo w pb (fun n => unary n d) s) := by
  have IH := Lib.hid ih
  have HLO := Lib.hid hlo
  have HD := Lib.hid hd
  have hplo := h.plo
  have HPLO := Lib.hid hplo
  have hk1 := (Keep.refl [] w).alloc zN
  have HK1 := Lib.hid hk1
  have hb1 := heap_alloc_new w zN
  have HE := Lib.hid (p_enter (h.keep0 hk1) d)
  have HB1 := Lib.hid hb1
  clear ih h hlo hd hplo hk1 hb1
  go_enter Tryz.func98, Tryz.ntmps98
  go_wp2_with (go_at_call 65; refine HE.out.mono ?_; rintro e w2 ⟨rfl, h2, hk2⟩; have H2 := Lib.hid h2; have HK2 := Lib.hid hk2; clear h2 hk2)
  go_wp2_with (go_at_call 67; refine (p_place H2.out).mono ?_; rintro e w2' ⟨rfl, rfl⟩)
  go_wp2_with fail
  refine (take_lit H2.out [sMinus, sNot] 2 _ rfl (by simp [maxLen]) rfl).mono ?_
  rintro e w3 ⟨rfl, h3, hk3⟩
  have hb3 : w3.heap[w.heap.size]? = some zN := blkK (blkK HB1.out HK2.out (by simp; have := HPLO.out; have := HLO.out; omega)) hk3 (by simp; have := HPLO.out; have := HLO.out; omega)
  have hkk := (HK2.out.trans hk3 (by simp)).size
  rw [size_alloc] at hkk
  have HB3 := Lib.hid hb3
  have H3 := Lib.hid h3
  have HK3 := Lib.hid ((HK1.out.mono (G := [pb]) (by simp)).trans (HK2.out.trans hk3 (by simp)) (by simp))
  obtain ⟨B, hB⟩ : ∃ B, B = w.heap.size := ⟨_, rfl⟩
  have hlo3 : lo ≤ w3.heap.size := by have := HLO.out; omega
  have HLO3 := Lib.hid hlo3
  have HSZ := Lib.hid hkk
  have hln := Nat.le_trans (take_len [sMinus, sNot] (enterS d s)) (enter_len d s)
  rw [← hB] at hb3 HB3 HSZ ⊢
  have HBB := Lib.hid hB
  clear hB hlo3 hkk h3 hk3 hb3 HE HB1
  rcases ho : (takeS [sMinus, sNot] (enterS d s)).1 with _ | t
  · simp only [Option.isSome_none, Option.getD_none]
    have hcall := IH.out.call (d := d) H3.out HLO3.out (by have := HD.out; omega) (by omega)
    have HCALL := Lib.hid hcall
    have HO := Lib.hid ho
    have HLN := Lib.hid hln
    clear hcall ho hln
    go_wp2_with fail
    refine HCALL.out.mono ?_
    rintro e w4 ⟨cs, n, s', rfl, hev, hnd, hps, hle, hk4⟩
    obtain ⟨kind, num, at_, name, p1, n1, c1, p2, n2, c2, p3, n3, c3, rfl, -⟩ := id hnd.un7s
    have hb4 := blkK HB3.out hk4 (by simp; have := HPLO.out; have := HLO.out; have := HBB.out; omega)
    obtain ⟨d0, d1, d2, d3, d4, d5, d6⟩ := cells7 hb4
    have f4 := frozenP hb4
    have HEV := Lib.hid hev
    have HND := Lib.hid hnd
    have HPS := Lib.hid hps
    have HLE := Lib.hid hle
    have HK4 := Lib.hid hk4
    have HB4 := Lib.hid hb4
    clear hev hnd hps hle hk4 hb4
    go_wp2_with fail
    obtain ⟨hb5, hk5⟩ := set7 HB4.out (.int .i64 kind) (.int .i64 num) (.string ⟨name.toArray⟩) (.int .i64 at_) (.slice p1 n1 c1) (.slice p2 n2 c2) (.slice p3 n3 c3)
    refine bodyPost_ret (results_cell_row (ty := 29) rfl _ _ B _ _ _ _ rfl hb5 Tryz.underlying29 rfl node_size) rfl ?_
    have hB := HBB.out
    have hP := HPLO.out
    have hL := HLO.out
    refine ⟨_, n, s', rfl, Ev.of_unary_none HO.out HEV.out, HND.out.up hk5 (by simp; have := HSZ.out; omega) (by have := HSZ.out; omega), HPS.out.keep hk5 (by simp; omega), Nat.le_trans HLE.out HLN.out, ?_⟩
    exact keepB (lo := w.heap.size) ((HK3.out.trans HK4.out (by simp)).mono (G := [pb, B]) (by simp) |>.trans hk5 (by simp)) (by simp; omega) (Nat.le_refl _)
  · simp only [Option.isSome_some, Option.getD_some]
    obtain ⟨hlt, -⟩ := take_lt ho
    have hle1 := enter_len d s
    have hcall := IH.out.unary (d := d + 1) H3.out HLO3.out (by have := HD.out; omega) (by omega)
    have hdd : IntKind.i64.wrap ((d : Int) + 1) = ((d + 1 : Nat) : Int) := by rw [IntWalk.i64_in _ (by have := HD.out; omega)]; omega
    have HCALL := Lib.hid hcall
    have HO := Lib.hid ho
    have HLN := Lib.hid hln
    clear hcall ho hln hlt hle1
    go_wp2_with fail
    refine HCALL.out.mono ?_
    rintro e w4 ⟨cs, n, s', rfl, hev, hnd, hps, hle, hk4⟩
    obtain ⟨kind, num, at_, name, p1, n1, c1, p2, n2, c2, p3, n3, c3, rfl, -⟩ := id hnd.un7s
    have hb4 := blkK HB3.out hk4 (by simp; have := HPLO.out; have := HLO.out; have := HBB.out; omega)
    have hk5 := (Keep.refl [] w4).alloc (.cells #[.int .i64 kind, .int .i64 num, .string ⟨name.toArray⟩, .int .i64 at_, .slice p1 n1 c1, .slice p2 n2 c2, .slice p3 n3 c3] 29)
    have hb5 := blkK hb4 hk5 (by simp)
    obtain ⟨d0, d1, d2, d3, d4, d5, d6⟩ := cells7 hb5
    have f5 := frozenP hb5
    have HEV := Lib.hid hev
    have HND := Lib.hid hnd
    have HPS := Lib.hid hps
    have HLE := Lib.hid hle
    have HK4 := Lib.hid hk4
    have HB5 := Lib.hid hb5
    have HK5 := Lib.hid hk5
    clear hev hnd hps hle hk4 hb4 hb5 hk5
    go_wp2_with fail
    obtain ⟨hb6, hk6⟩ := set7 HB5.out (.int .i64 10) (.int .i64 0) (.string ⟨t.toArray⟩) (.int .i64 (plc (enterS d s))) (.slice (some ⟨w4.heap.size, 0, none⟩) 1 1) (.slice none 0 0) (.slice none 0 0)
    refine bodyPost_ret (results_cell_row (ty := 29) rfl _ _ B _ _ _ _ rfl hb6 Tryz.underlying29 rfl node_size) rfl ?_
    have hB := HBB.out
    have hP := HPLO.out
    have hL := HLO.out
    have hS := HSZ.out
    have hS4 := HK4.out.size
    have hlit := NsR.lit1 (lo := w3.heap.size) 29 hS4 rfl HND.out
    have hlit' := hlit.up hk6 (lo' := w.heap.size) (by simp; omega) (by omega)
    refine ⟨_, _, s', rfl, Ev.of_unary_some HO.out HEV.out, NdR.mk7 hlit' (NsR.nil _ _ _) (NsR.nil _ _ _), (HPS.out.keep0 HK5.out).keep hk6 (by simp; omega), Nat.le_trans HLE.out HLN.out, ?_⟩
    exact keepB (lo := w.heap.size) (((HK3.out.trans HK4.out (by simp)).mono (G := [pb, B]) (by simp) |>.trans HK5.out (by simp)).trans hk6 (by simp)) (by simp; omega) (Nat.le_refl _)
end Go.Proofs.YtdmmhfbafinkpaaGreatDoor

/- Parse: until, some. -/
namespace Go.Proofs.YtdmmhfbafinkpaaGreatDoor
open Go.RowKit Go.Emb

set_option maxRecDepth 100000 in
set_option maxHeartbeats 1000000 in
theorem w_until {lo pb : Nat} {w : World} {s : St} {d : Nat} {x : List UInt8} (ih : AllC lo pb (32 * s.toks.length + 11)) (h : PS lo w pb s) (hlo : lo ≤ w.heap.size) (hd : d + s.toks.length ≤ 1000000) :
    Calls Tryz.prog 95 #[.pointer (some ⟨pb, 0, none⟩), .string ⟨x.toArray⟩, .int .i64 d] w (ListP lo w pb false (fun n => untilL n x d) s) := by
  have HLO := Lib.hid hlo
  have hhl := has_len x s
  have hplo := h.plo
  have HH := Lib.hid (p_has h hlo x)
  clear h
  rcases ho : (hasS x s).1 with _ | _
  · have HS := Lib.hid (fun (W : World) (hW : PS lo W pb (hasS x s).2) (hl : lo ≤ W.heap.size) => ih.someL (d := d) hW hl (by omega) (by omega))
    rw [ho] at HH
    have HHL := Lib.hid hhl
    have HO := Lib.hid ho
    have HPL := Lib.hid hplo
    clear ho ih hhl hlo hd hplo
    go_enter Tryz.func95, Tryz.ntmps95
    go_wp2_with (go_at_call 94; refine HH.out.mono ?_; rintro e w2 ⟨rfl, h2, hk2⟩; have H2 := Lib.hid h2; have HK2 := Lib.hid hk2; have hl2 := Nat.le_trans HLO.out hk2.size; have HL2 := Lib.hid hl2; clear h2 hk2 hl2)
    refine (HS.out w2 H2.out HL2.out).mono ?_
    rintro e w3 ⟨v, l, s', rfl, hev, hns, hps, hle, hk3⟩
    have HM := Lib.hid (p_must hps (Nat.le_trans HL2.out hk3.size) x)
    have HEV := Lib.hid hev
    have HNS := Lib.hid hns
    have HLE := Lib.hid hle
    have HK3 := Lib.hid hk3
    clear hev hns hps hle hk3
    go_wp2_with (go_at_call 63; refine HM.out.mono ?_; rintro e w4 ⟨rfl, h4, hk4⟩; have H4 := Lib.hid h4; have HK4 := Lib.hid hk4; clear h4 hk4)
    go_ret
    have h1 := HPL.out
    have h2 := HL2.out
    exact ⟨_, l, _, rfl, Ev.of_until_some HO.out HEV.out, HNS.out.up HK4.out (by simp; omega) HK2.out.size, H4.out, Nat.le_trans (must_len x s') (Nat.le_trans HLE.out HHL.out), (HK2.out.trans HK3.out (by simp)).trans HK4.out (by simp)⟩
  · rw [ho] at HH
    have HHL := Lib.hid hhl
    have HO := Lib.hid ho
    clear ho ih hhl hlo hd hplo
    go_enter Tryz.func95, Tryz.ntmps95
    go_wp2_with (go_at_call 94; refine HH.out.mono ?_; rintro e w2 ⟨rfl, h2, hk2⟩; have H2 := Lib.hid h2; have HK2 := Lib.hid hk2; clear h2 hk2)
    go_ret
    exact ⟨_, [], _, rfl, Ev.of_until_nil HO.out, NsR.nil _ _ _, H2.out, HHL.out, HK2.out⟩
set_option maxRecDepth 100000 in
set_option maxHeartbeats 2000000 in
theorem w_some {lo pb : Nat} {w : World} {s : St} {d : Nat} (ih : AllC lo pb (32 * s.toks.length + 10)) (h : PS lo w pb s) (hlo : lo ≤ w.heap.size) (hd : d + s.toks.length ≤ 1000000) :
    Calls Tryz.prog 116 #[.pointer (some ⟨pb, 0, none⟩), .int .i64 d] w (ListP lo w pb false (fun n => someL n d) s) := by
  have hplo := h.plo
  obtain ⟨i0, hi0, hz0, hz1, hz2⟩ := info3 node_info
  have HI := Lib.hid hi0
  have IH := Lib.hid ih
  have HLO := Lib.hid hlo
  have HPL := Lib.hid hplo
  have HH := Lib.hid h
  have HD := Lib.hid hd
  clear hi0 ih hlo hplo h hd
  go_enter Tryz.func116, Tryz.ntmps116
  go_wp2_with fail
  go_loopw [4] (fun v wr => ∃ (l : List Nd) (si : St) (o : Option Nat), RowN w.heap.size wr false v l o ∧ PS lo wr pb si ∧ Keep [pb] w wr ∧ l.length + si.toks.length ≤ s.toks.length ∧ ∀ l' s', Ev (fun n => someL n d) si l' s' → Ev (fun n => someL n d) s (l ++ l') s') (fun _ wr => plen wr pb)
  case atStart => exact ⟨[], s, none, RowN.nil _ _ _, HH.out, Keep.refl _ _, by simp, fun l' s' h => h⟩
  case round =>
    obtain ⟨l, si, o, hrow, hps, hkw, hlen, hev⟩ := hrel
    obtain ⟨pa, pc, rfl⟩ := hrow.form
    have hlr : lo ≤ wr.heap.size := Nat.le_trans HLO.out hkw.size
    have HROW := Lib.hid hrow
    have HPS := Lib.hid hps
    have HKW := Lib.hid hkw
    have HLEN := Lib.hid hlen
    have HEV := Lib.hid hev
    have HLR := Lib.hid hlr
    have HPN := Lib.hid hps.len
    have HE := Lib.hid (IH.out.expr (d := d) hps hlr (by have := HD.out; omega) (by omega))
    clear hrow hps hkw hlen hev hlr
    go_wp2_with fail
    refine HE.out.mono ?_
    rintro e w2 ⟨cs, n, s2, rfl, hev2, hnd, hps2, hle2, hk2⟩
    obtain ⟨kind, num, at_, name, p1, n1, c1, p2, n2, c2, p3, n3, c3, rfl, -⟩ := id hnd.un7s
    have hpw := Nat.lt_of_lt_of_le HPL.out HLO.out
    have hol : ∀ b, o = some b → b < wr.heap.size := HROW.out.lt
    obtain ⟨es, hrow3, hpush⟩ := (HROW.out.keep hk2 (by simp; exact hpw)).app hnd HKW.out.size hk2.size hol #[.int .i64 kind, .int .i64 num, .string ⟨name.toArray⟩, .int .i64 at_, .slice p1 n1 c1, .slice p2 n2 c2, .slice p3 n3 c3] 29
    have hk3 := (Keep.refl [] w2).alloc (.cells #[.int .i64 kind, .int .i64 num, .string ⟨name.toArray⟩, .int .i64 at_, .slice p1 n1 c1, .slice p2 n2 c2, .slice p3 n3 c3] 29)
    have hsrc := src_lit1 (P := Tryz.prog) w2 [.int .i64 kind, .int .i64 num, .string ⟨name.toArray⟩, .int .i64 at_, .slice p1 n1 c1, .slice p2 n2 c2, .slice p3 n3 c3] 7 rfl hnd.one 26 29 29 Tryz.underlying26
    have HROW3 := Lib.hid hrow3
    have HPUSH := Lib.hid hpush
    have HSRC := Lib.hid hsrc
    have HPS3 := Lib.hid (hps2.keep0 hk3)
    have HK3 := Lib.hid (hk2.trans hk3 (by simp))
    have hoge : ∀ b, o = some b → w.heap.size ≤ b := by obtain ⟨_, -, -, -, h⟩ := HROW.out; exact h
    have HOGE := Lib.hid hoge
    have HEV2 := Lib.hid hev2
    have HLE2 := Lib.hid hle2
    have hlm : l.length ≤ 1000000 := by have := HLEN.out; have := HD.out; omega
    clear hrow3 hpush hsrc hps2 hk2 hk3 hoge hev2 hle2 hnd hpw hol
    go_wp2_with (at_builtin; go_loud (refine wpList_append_row _ rfl _ _ 26 26 rfl 29 i0 _ 7 112 Tryz.underlying26 HI.out hz0 hz1 hz2 rfl _ _ _ o rfl HROW3.out _ rfl 1 _ HSRC.out (by omega) (by unfold maxLen; omega) (by omega) ?_); intro g off cap w4 hr4 hk4 hg4; have hr5 := HPUSH.out g _ w4 hr4 hk4 hg4; have hps4 := HPS3.out.keep hk4 (fun b hb => Nat.le_trans HLO.out (HOGE.out b (by simpa using hb))); have hk5 : Keep [pb] w w4 := keepB (lo := w.heap.size) ((HKW.out.trans HK3.out (by simp)).mono (G := pb :: o.toList) (by simp) |>.trans hk4 (fun x hx => .inl (List.mem_cons_of_mem _ hx))) (fun b hb => by simp at hb; rcases hb with rfl | hb; exact .inl rfl; exact .inr (HOGE.out b hb)) (Nat.le_refl _); have hl4 := Nat.le_trans HLO.out hk5.size; have HR5 := Lib.hid hr5; have HPS4 := Lib.hid hps4; have HK5 := Lib.hid hk5; have HHAS := Lib.hid (p_has hps4 hl4 sComma); clear hr4 hk4 hg4 hr5 hps4 hk5 hl4)
    refine HHAS.out.mono ?_
    rintro e w5 ⟨rfl, hps5, hk5⟩
    have hpw := Nat.lt_of_lt_of_le HPL.out HLO.out
    have hr6 := HR5.out.keep hk5 (by simp; exact hpw)
    have hk6 : Keep [pb] w w5 := HK5.out.trans hk5 (by simp)
    have HPS5 := Lib.hid hps5
    have HR6 := Lib.hid hr6
    have HK6 := Lib.hid hk6
    have HL5 := Lib.hid (has_len sComma s2)
    clear hps5 hk5 hr6 hk6 HHAS HPUSH HSRC HROW3 HPS3 HK3 HROW HE
    rcases ho : (hasS sComma s2).1 with _ | _
    · have HO := Lib.hid ho
      clear ho
      go_wp2_with fail
      go_ret
      refine ⟨_, l ++ [n], _, rfl, HEV.out [n] _ (Ev.of_some_one HEV2.out HO.out), HR6.out.ns, HPS5.out, ?_, HK6.out⟩
      have h1 := HL5.out
      have h2 := HLE2.out
      have h3 := HLEN.out
      omega
    · have HO := Lib.hid ho
      have HLT := Lib.hid (has_lt ho)
      clear ho
      go_wp2_with fail
      go_roundw
      case rel =>
        refine ⟨l ++ [n], _, some g, HR6.out, HPS5.out, HK6.out, ?_, fun l' s' h => ?_⟩
        · have h1 := HLT.out
          have h2 := HLE2.out
          have h3 := HLEN.out
          simp only [List.length_append, List.length_singleton]
          omega
        · have := HEV.out (n :: l') s' (Ev.of_some_more HEV2.out HO.out h)
          simpa using this
      case measure =>
        rw [HPS5.out.len, HPN.out]
        have h1 := HLT.out
        have h2 := HLE2.out
        omega
end Go.Proofs.YtdmmhfbafinkpaaGreatDoor
