import Derived.Test.YtdmmhfbafinkpaaGreatDoorSc5
import Derived.Laws.Rows
/- Scanning: quoted (the program's). Printed by gen-sc6.py. -/
namespace Go.Proofs.YtdmmhfbafinkpaaGreatDoor
open Go.RowKit Go.Emb

theorem isB_new (w : World) : IsB (w.alloc (.cells #[.pointer none, .slice none 0 0] 60)) w.heap.size [] [w.heap.size] :=
  ⟨.pointer none, .slice none 0 0, none, .inl rfl, heap_alloc_new w _, Row.nil _ _ _, Off0.nil, by simp, rfl⟩
theorem results_ttc {P : Program} {fn : Func} {a b p : Tmp} {ty : TypeId} (h : fn.results = #[.tmp a, .tmp b, .cell p ty]) (tmps : Array Value) (w : World) (g : Nat) (tt : TypeId) (cs : Array Value) (fr : Nat × Nat) (d : TypeDesc)
    (hp : tmps.getD p undef = .pointer (some ⟨g, 0, none⟩)) (hg : w.heap[g]? = some (.cells cs tt fr))
    (hu : P.underlying ty = some d) (hd : (match d with | .struct _ | .array _ _ => true | _ => false) = true) (hi : (P.info? ty).map (·.size) = some cs.size) :
    (results fn tmps).run P w = .ok (.tuple #[tmps.getD a undef, tmps.getD b undef, .agg cs]) w := by
  have hp' : tmps[p]?.getD undef = .pointer (some ⟨g, 0, none⟩) := by simpa using hp
  simp [results, h, hp', asAddr, run_loadVar_row w g tt ty cs fr d hg hu hd hi]
theorem results_cc {P : Program} {fn : Func} {p q : Tmp} {ty uy : TypeId} (h : fn.results = #[.cell p ty, .cell q uy]) (tmps : Array Value) (w : World) (g g' : Nat) (tt tt' : TypeId) (cs cs' : Array Value) (fr fr' : Nat × Nat) (d d' : TypeDesc)
    (hp : tmps.getD p undef = .pointer (some ⟨g, 0, none⟩)) (hg : w.heap[g]? = some (.cells cs tt fr))
    (hu : P.underlying ty = some d) (hd : (match d with | .struct _ | .array _ _ => true | _ => false) = true) (hi : (P.info? ty).map (·.size) = some cs.size)
    (hp2 : tmps.getD q undef = .pointer (some ⟨g', 0, none⟩)) (hg2 : w.heap[g']? = some (.cells cs' tt' fr'))
    (hu2 : P.underlying uy = some d') (hd2 : (match d' with | .struct _ | .array _ _ => true | _ => false) = true) (hi2 : (P.info? uy).map (·.size) = some cs'.size) :
    (results fn tmps).run P w = .ok (.tuple #[.agg cs, .agg cs']) w := by
  have hp' : tmps[p]?.getD undef = .pointer (some ⟨g, 0, none⟩) := by simpa using hp
  have hp2' : tmps[q]?.getD undef = .pointer (some ⟨g', 0, none⟩) := by simpa using hp2
  simp [results, h, hp', hp2', asAddr, run_loadVar_row w g tt ty cs fr d hg hu hd hi, run_loadVar_row w g' tt' uy cs' fr' d' hg2 hu2 hd2 hi2]
theorem fault_size : (Tryz.prog.info? 129).map (·.size) = some 2 := by kernel_rfl
set_option maxRecDepth 100000 in
theorem b_len {w : World} {b : Nat} {bs : List UInt8} {F : List Nat} (h : IsB w b bs F) : Calls Tryz.prog 128 #[.pointer (some ⟨b, 0, none⟩)] w fun e w' => e = .returned (.int .i64 bs.length) ∧ w = w' := by
  obtain ⟨p, v, o, hp, hb, hr, h0, ho, rfl⟩ := h
  obtain ⟨c0, c1, -, -, -⟩ := cells2b hb
  have hv : ∃ a c, v = .slice a bs.length c := by
    obtain ⟨-, hr⟩ := hr
    rcases hr with ⟨h1, h2, hz⟩ | ⟨g, off, cap, cur, h1, h2, -⟩
    · exact ⟨none, 0, by rw [hz]; first | exact h1 | exact h2⟩
    · first | exact ⟨_, _, h1⟩ | exact ⟨_, _, h2⟩
  obtain ⟨a, c, rfl⟩ := hv
  have HX := Lib.hid hr
  clear hr h0 ho hp hb
  go_enter Tryz.func128, Tryz.ntmps128
  go_wp2_with fail
  go_ret
  exact ⟨rfl, rfl⟩
theorem blkk {w w' : World} {b : Nat} {C : Obj} (hb : w.heap[b]? = some C) (hk : Keep [] w w') : w'.heap[b]? = some C := (hk.block b (Array.getElem?_eq_some_iff.1 hb).1 (by simp)).trans hb
/-- what quoted answers -/
def QuotedP (w : World) (R : Except Nat (List UInt8 × Nat)) (e : Ending) (w' : World) : Prop :=
  (match R with
    | .ok p => ∃ S : ByteArray, e = .returned (.tuple #[.string S, .int .i64 (p.2 : Nat), .agg #[.int .i64 0, .int .i64 0]]) ∧ S.data.toList = p.1
    | .error a => e = .returned (.tuple #[.string ⟨#[]⟩, .int .i64 0, .agg #[.int .i64 100, .int .i64 (a : Nat)]])) ∧ Keep [] w w'
def QuoI (w : World) (s : ByteArray) (R : Except Nat (List UInt8 × Nat)) (k : Nat) (wr : World) : Prop := ∃ bs F, IsB wr (w.heap.size + 1) bs F ∧ (∀ x ∈ F, w.heap.size + 1 ≤ x) ∧ Keep [] w wr ∧
  wr.heap[w.heap.size]? = some (.cells #[.int .i64 0, .int .i64 0] 129 (0, 0)) ∧ quoL (s.data.toList.drop k) k bs = R ∧ bs.length ≤ k
theorem QuoI.byte {w wr w2 : World} {s : ByteArray} {R : Except Nat (List UInt8 × Nat)} {bs : List UInt8} {F : List Nat} {c : UInt8} {e : Ending} {k : Nat} (hF : ∀ x ∈ F, w.heap.size + 1 ≤ x) (hk : Keep [] w wr)
    (hf : wr.heap[w.heap.size]? = some (.cells #[.int .i64 0, .int .i64 0] 129 (0, 0))) (hp : BPost wr (w.heap.size + 1) (bs ++ [c]) F .nilIface e w2) (hq : quoL (s.data.toList.drop k) k (bs ++ [c]) = R) (hl : bs.length + 1 ≤ k) : QuoI w s R k w2 := by
  obtain ⟨-, F', q1, q2, q3⟩ := hp
  refine ⟨bs ++ [c], F', q1, fun x hx => ?_, hk.trans q3 (fun x hx => .inr (by have := hF x hx; omega)), ?_, hq, by simpa using hl⟩
  · rcases q2 x hx with h | h
    · exact hF x h
    · have := (Array.getElem?_eq_some_iff.1 hf).1; omega
  · exact (q3.block _ (Array.getElem?_eq_some_iff.1 hf).1 (fun h => by have := hF _ h; omega)).trans hf
set_option maxRecDepth 100000 in
set_option maxHeartbeats 2000000 in
theorem p_quoted (s : ByteArray) (w : World) (hs0 : 0 < s.size) (hs : s.size ≤ 20000) : Calls Tryz.prog 114 #[.string s] w (QuotedP w (quoL (s.data.toList.drop 1) 1 [])) := by
  obtain ⟨R, hR⟩ : ∃ R, R = quoL (s.data.toList.drop 1) 1 [] := ⟨_, rfl⟩
  rw [← hR]
  have hst : QuoI w s R 1 ((w.alloc (.cells #[.int .i64 0, .int .i64 0] 129)).alloc (.cells #[.pointer none, .slice none 0 0] 60)) := by
    have h1 := isB_new (w.alloc (.cells #[.int .i64 0, .int .i64 0] 129))
    have hsz : (w.alloc (.cells #[.int .i64 0, .int .i64 0] 129)).heap.size = w.heap.size + 1 := by simp
    rw [hsz] at h1
    refine ⟨[], [w.heap.size + 1], h1, by simp, ((Keep.refl [] w).alloc _).alloc _, ?_, hR.symm, by simp⟩
    exact (((Keep.refl [] _).alloc _).block _ (by simp) (by simp)).trans (heap_alloc_new w _)
  have HST := Lib.hid hst
  have hsl : s.data.toList.length = s.size := by simp
  have HSL := Lib.hid hsl
  clear hst hR hsl
  go_enter Tryz.func114, Tryz.ntmps114
  go_wp2_with fail
  generalize (w.alloc (.cells #[.int .i64 0, .int .i64 0] 129)).alloc (.cells #[.pointer none, .slice none 0 0] 60) = w1 at *
  go_loopw [6, 7, 8, 9] (fun i _ _ _ wr => ∃ k : Nat, 1 ≤ k ∧ k ≤ s.size ∧ i = .int .i64 k ∧ QuoI w s R k wr) (fun i _ _ _ _ => s.size - (RowKit.intOf i).toNat)
  case atStart => exact ⟨1, Nat.le_refl _, by omega, rfl, HST.out⟩
  case round =>
    obtain ⟨k, hk1, hk, rfl, bs, F, hb, hF, hkw, hf, hq, hl⟩ := hrel
    clear HST
    have HB := Lib.hid hb
    have HF := Lib.hid hF
    have HKW := Lib.hid hkw
    have HQ := Lib.hid hq
    have HFB := Lib.hid hf
    obtain ⟨c0, c1, f0, f1, -⟩ := cells2b hf
    clear hb hF hkw hq hf
    by_cases hlt : k < s.size
    · have hcons : s.data.toList.drop k = s[k] :: s.data.toList.drop (k + 1) := by
        rw [List.drop_eq_getElem_cons (by simpa using hlt), index_at s k hlt]
      have hqc := HQ.out
      rw [hcons, quoL_cons] at hqc
      have i0 : (0 : Int) ≤ (k : Int) := by omega
      have i1 : (k : Int) < (s.size : Int) := by omega
      have hes := p_escape (s.extract k s.size)
      have hel : (s.extract k s.size).data.toList = s.data.toList.drop k := by
        simp [ByteArray.data_extract]
        rw [List.take_of_length_le (by simp)]
      rw [hel] at hes
      have HES := Lib.hid hes
      have HC := Lib.hid hcons
      clear hes hel hcons
      obtain ⟨c, hc⟩ : ∃ c, c = s[k] := ⟨_, rfl⟩
      have hcl := c.toNat_lt
      rw [← hc] at hqc
      have HCC := Lib.hid hc
      by_cases h39 : c.toNat = 39
      · rw [if_pos h39] at hqc
        have hlen := b_len HB.out
        have HLEN := Lib.hid hlen
        have e1 : ((s[k].toNat : Int) == 39) = true := by rw [← hc]; simp [h39]
        clear hlen hc
        by_cases hz : bs.length = 0
        · rw [if_pos (.inl hz)] at hqc
          have HR := Lib.hid hqc
          have hz' : ((bs.length : Int) == 0) = true := by simp [hz]
          clear hqc h39
          go_wp2_with fail
          refine HLEN.out.mono ?_
          rintro e w2 ⟨rfl, rfl⟩
          go_wp2_with fail
          have hb9 : ((wr.setCell ⟨w.heap.size, 0, none⟩ (.int .i64 100)).setCell ⟨w.heap.size, 1, none⟩ (.int .i64 0)).heap[w.heap.size]? = some (.cells #[.int .i64 100, (.int .i64 0)] 129 (0, 0)) := by rw [heap_setCell_at (heap_setCell_at HFB.out _)]; rfl
          refine bodyPost_ret (results_ttc (ty := 129) rfl _ _ w.heap.size _ _ _ _ rfl hb9 Tryz.underlying129 rfl fault_size) rfl ?_
          have hk9 : Keep [] w ((wr.setCell ⟨w.heap.size, 0, none⟩ (.int .i64 100)).setCell ⟨w.heap.size, 1, none⟩ (.int .i64 0)) := (HKW.out.setCell (p := ⟨w.heap.size, 0, none⟩) (.inr (Nat.le_refl _)) _).setCell (p := ⟨w.heap.size, 1, none⟩) (.inr (Nat.le_refl _)) _
          refine ⟨?_, hk9⟩
          rw [← HR.out]
          rfl
        · by_cases hz2 : 255 < bs.length
          · rw [if_pos (.inr hz2)] at hqc
            have HR := Lib.hid hqc
            have hz' : ((bs.length : Int) == 0) = false := beq_eq_false_iff_ne.2 (by omega)
            have hz2' : (255 : Int) < (bs.length : Int) := by omega
            clear hqc h39
            go_wp2_with fail
            refine HLEN.out.mono ?_
            rintro e w2 ⟨rfl, rfl⟩
            go_wp2_with fail
            refine HLEN.out.mono ?_
            rintro e w2 ⟨rfl, rfl⟩
            go_wp2_with fail
            have hb9 : ((wr.setCell ⟨w.heap.size, 0, none⟩ (.int .i64 100)).setCell ⟨w.heap.size, 1, none⟩ (.int .i64 0)).heap[w.heap.size]? = some (.cells #[.int .i64 100, (.int .i64 0)] 129 (0, 0)) := by rw [heap_setCell_at (heap_setCell_at HFB.out _)]; rfl
            refine bodyPost_ret (results_ttc (ty := 129) rfl _ _ w.heap.size _ _ _ _ rfl hb9 Tryz.underlying129 rfl fault_size) rfl ?_
            have hk9 : Keep [] w ((wr.setCell ⟨w.heap.size, 0, none⟩ (.int .i64 100)).setCell ⟨w.heap.size, 1, none⟩ (.int .i64 0)) := (HKW.out.setCell (p := ⟨w.heap.size, 0, none⟩) (.inr (Nat.le_refl _)) _).setCell (p := ⟨w.heap.size, 1, none⟩) (.inr (Nat.le_refl _)) _
            refine ⟨?_, hk9⟩
            rw [← HR.out]
            rfl
          · rw [if_neg (fun h => h.elim hz hz2)] at hqc
            have HR := Lib.hid hqc
            have hz' : ((bs.length : Int) == 0) = false := beq_eq_false_iff_ne.2 (by omega)
            have hz2' : ¬ (255 : Int) < (bs.length : Int) := by omega
            have hkk : IntKind.i64.wrap ((k : Int) + 1) = ((k + 1 : Nat) : Int) := (IntWalk.i64_in _ (by omega)).trans (by omega)
            have htx := fun (W : World) (hW : Keep [] wr W) => b_text (HB.out.keep hW (by simp)) (fun h => hz (by rw [h]; rfl))
            have HTX := Lib.hid htx
            clear hqc h39 htx
            go_wp2_with fail
            refine HLEN.out.mono ?_
            rintro e w2 ⟨rfl, rfl⟩
            go_wp2_with fail
            refine HLEN.out.mono ?_
            rintro e w2 ⟨rfl, rfl⟩
            go_wp2_with fail
            clear c0 c1 f0 f1
            refine wp_region_held_drew (S := fun w' => Keep [] w w' ∧ w'.heap[w.heap.size]? = some (.cells #[.int .i64 0, .int .i64 0] 129 (0, 0))) (by kernel_rfl) ⟨HKW.out.drew, HFB.out⟩ (fun hHeld => ?_)
            have HS0 := Lib.hid hHeld
            have HKD : Hid (Keep [] wr wr.drew) := Lib.hid ((Keep.refl [] wr).drew)
            clear hHeld
            have hHeld := HS0.out
            generalize wr.drew = w8 at *
            refine wpAnyH_takeL (i := 1) (v := ?vT1) rfl (by kernel_rfl) (by kernel_rfl) (by kernel_rfl) (fun _ _ _ h => h) (Or.inl ⟨by kernel_rfl, ?runT1⟩) hHeld ?_
            case runT1 => (intro w9 hS9; obtain ⟨c0, c1, -, -, -⟩ := cells2b hS9.2; go_simp; try exact rfl)
            try simp only [Act.put, List.setIfInBounds_toArray, List.set_cons_zero, List.set_cons_succ]
            refine wpAnyH_takeL (i := 2) (v := ?vT2) rfl (by kernel_rfl) (by kernel_rfl) (by kernel_rfl) (fun _ _ _ h => h) (Or.inl ⟨by kernel_rfl, ?runT2⟩) hHeld ?_
            case runT2 => (intro w9 hS9; obtain ⟨c0, c1, -, -, -⟩ := cells2b hS9.2; go_simp; try exact rfl)
            try simp only [Act.put, List.setIfInBounds_toArray, List.set_cons_zero, List.set_cons_succ]
            refine wpAnyH_takeL (i := 3) (v := ?vT3) rfl (by kernel_rfl) (by kernel_rfl) (by kernel_rfl) (fun _ _ _ h => h) (Or.inl ⟨by kernel_rfl, ?runT3⟩) hHeld ?_
            case runT3 => (intro w9 hS9; obtain ⟨c0, c1, -, -, -⟩ := cells2b hS9.2; go_simp; try exact rfl)
            try simp only [Act.put, List.setIfInBounds_toArray, List.set_cons_zero, List.set_cons_succ]
            refine wpAnyH_ready (rs := [0]) (by kernel_rfl) (by simp) ?_
            refine AllReadyH.consL rfl (fun K hK => ?_) AllReadyH.nil
            go_simp
            refine (HTX.out w8 HKD.out).mono ?_
            rintro e wn ⟨rfl, hkn⟩
            have hS1 : Keep [] w wn ∧ wn.heap[w.heap.size]? = some (.cells #[.int .i64 0, .int .i64 0] 129 (0, 0)) := ⟨HS0.out.1.trans hkn (fun x hx => .inr (by have := HF.out x hx; omega)), (hkn.block _ (Array.getElem?_eq_some_iff.1 HS0.out.2).1 (fun h => by have := HF.out _ h; omega)).trans HS0.out.2⟩
            have HS1 := Lib.hid hS1
            clear hHeld hS1 hkn
            go_wp2_with fail
            refine hK.out _ _ HS1.out (fun hHeld => ?_)
            clear hK K
            try simp only [Act.put, List.setIfInBounds_toArray, List.set_cons_zero, List.set_cons_succ]
            refine wpAnyH_takeL (i := 4) (v := ?vT4) rfl (by kernel_rfl) (by kernel_rfl) (by kernel_rfl) (fun _ _ _ h => h) (Or.inl ⟨by kernel_rfl, ?runT4⟩) hHeld ?_
            case runT4 => (intro w9 hS9; obtain ⟨c0, c1, -, -, -⟩ := cells2b hS9.2; go_simp; try exact rfl)
            try simp only [Act.put, List.setIfInBounds_toArray, List.set_cons_zero, List.set_cons_succ]
            refine wpAnyH_takeL (i := 5) (v := ?vT5) rfl (by kernel_rfl) (by kernel_rfl) (by kernel_rfl) (fun _ _ _ h => h) (Or.inl ⟨by kernel_rfl, ?runT5⟩) hHeld ?_
            case runT5 => (intro w9 hS9; obtain ⟨c0, c1, -, -, -⟩ := cells2b hS9.2; go_simp; try exact rfl)
            try simp only [Act.put, List.setIfInBounds_toArray, List.set_cons_zero, List.set_cons_succ]
            obtain ⟨c0, c1, f0, f1, -⟩ := cells2b HS1.out.2
            refine wpAnyH_ready (rs := [6]) (by kernel_rfl) (by simp) ?_
            refine AllReadyH.consL rfl (fun K hK => ?_) AllReadyH.nil
            go_simp
            have hb9 : ((wn.setCell ⟨w.heap.size, 0, none⟩ (.int .i64 0)).setCell ⟨w.heap.size, 1, none⟩ (.int .i64 0)).heap[w.heap.size]? = some (.cells #[.int .i64 0, .int .i64 0] 129 (0, 0)) := by rw [heap_setCell_at (heap_setCell_at HS1.out.2 _)]; rfl
            have hk9 : Keep [] w ((wn.setCell ⟨w.heap.size, 0, none⟩ (.int .i64 0)).setCell ⟨w.heap.size, 1, none⟩ (.int .i64 0)) := (HS1.out.1.setCell (p := ⟨w.heap.size, 0, none⟩) (.inr (Nat.le_refl _)) _).setCell (p := ⟨w.heap.size, 1, none⟩) (.inr (Nat.le_refl _)) _
            refine hK.out _ _ ⟨hk9, hb9⟩ (fun hHeld => ?_)
            clear hK K
            try simp only [Act.put, List.setIfInBounds_toArray, List.set_cons_zero, List.set_cons_succ]
            refine wpAnyH_done (by kernel_rfl) ?_ _
            go_wp2_with fail
            refine bodyPost_ret (results_ttc (ty := 129) rfl _ _ w.heap.size _ _ _ _ rfl hb9 Tryz.underlying129 rfl fault_size) rfl ?_
            refine ⟨?_, hk9⟩
            rw [← HR.out]
            exact ⟨_, rfl, rfl⟩
      · rw [if_neg h39] at hqc
        have e1 : ((s[k].toNat : Int) == 39) = false := beq_eq_false_iff_ne.2 (by rw [← hc]; omega)
        by_cases h92 : c.toNat = 92
        · rw [if_pos h92] at hqc
          have e2 : ((s[k].toNat : Int) == 92) = true := by rw [← hc]; simp [h92]
          have hcv := HC.out
          rw [← hc] at hcv
          rw [← hcv] at hqc
          have hev : ∀ p, p = escN (s.data.toList.drop k) → escV (s.data.toList.drop k) = (match p with | some p => (p.1.toNat, p.2) | none => (0, 0)) := fun p hp => by rw [hp]; rfl
          cases hes : escN (s.data.toList.drop k) with
          | none =>
            rw [hes] at hqc
            have hev2 := hev _ hes.symm
            have hesc := HES.out wr (by simp; omega)
            rw [hev2] at hesc
            have HESC := Lib.hid hesc
            have HR := Lib.hid hqc
            clear hesc hev hev2 hes hqc hcv h39 h92 hc
            go_wp2_with fail
            refine HESC.out.mono ?_
            rintro e w2 ⟨rfl, hk2⟩
            have hf2 := blkk HFB.out hk2
            have HFB := Lib.hid hf2
            have HKW := Lib.hid (HKW.out.trans hk2 (by simp))
            obtain ⟨c0, c1, f0, f1, -⟩ := cells2b hf2
            clear hf2 hk2
            go_wp2_with fail
            have hb9 : ((w2.setCell ⟨w.heap.size, 0, none⟩ (.int .i64 100)).setCell ⟨w.heap.size, 1, none⟩ (.int .i64 (k : Nat))).heap[w.heap.size]? = some (.cells #[.int .i64 100, (.int .i64 (k : Nat))] 129 (0, 0)) := by rw [heap_setCell_at (heap_setCell_at HFB.out _)]; rfl
            refine bodyPost_ret (results_ttc (ty := 129) rfl _ _ w.heap.size _ _ _ _ rfl hb9 Tryz.underlying129 rfl fault_size) rfl ?_
            have hk9 : Keep [] w ((w2.setCell ⟨w.heap.size, 0, none⟩ (.int .i64 100)).setCell ⟨w.heap.size, 1, none⟩ (.int .i64 (k : Nat))) := (HKW.out.setCell (p := ⟨w.heap.size, 0, none⟩) (.inr (Nat.le_refl _)) _).setCell (p := ⟨w.heap.size, 1, none⟩) (.inr (Nat.le_refl _)) _
            refine ⟨?_, hk9⟩
            rw [← HR.out]
            rfl
          | some p =>
            obtain ⟨x, n⟩ := p
            rw [hes] at hqc
            simp only at hqc
            have hps := escN_pos hes
            have hev2 := hev _ hes.symm
            simp only at hev2
            have hesc := HES.out wr (by simp; omega)
            rw [hev2] at hesc
            have HESC := Lib.hid hesc
            rw [List.drop_drop] at hqc
            have HR := Lib.hid hqc
            have hn0 : ((n : Int) == 0) = false := beq_eq_false_iff_ne.2 (by omega)
            have hkn : IntKind.i64.wrap ((k : Int) + (n : Int)) = ((k + n : Nat) : Int) := (IntWalk.i64_in _ (by rw [List.length_drop, HSL.out] at hps; omega)).trans (by omega)
            have hkn2 : k + n ≤ s.size := by rw [List.length_drop, HSL.out] at hps; omega
            have hn2 := hps.1
            clear hesc hev hev2 hes hqc hcv h39 h92 hc hps
            go_wp2_with fail
            refine HESC.out.mono ?_
            rintro e w2 ⟨rfl, hk2⟩
            have hf2 := blkk HFB.out hk2
            have HFB := Lib.hid hf2
            have hby := b_byte (HB.out.keep hk2 (by simp)) x (by omega)
            have HBY := Lib.hid hby
            have HKW := Lib.hid (HKW.out.trans hk2 (by simp))
            clear hf2 hk2 c0 c1 f0 f1 hby
            go_wp2_with fail
            refine HBY.out.mono ?_
            rintro e w3 hp3
            obtain rfl := hp3.1
            have hqi := QuoI.byte (R := R) (k := k + n) HF.out HKW.out HFB.out hp3 HR.out (by omega)
            have HQI := Lib.hid hqi
            clear hp3 hqi
            go_wp2_with fail
            go_roundw
            case rel => exact ⟨k + n, by omega, hkn2, by go_num, HQI.out⟩
            case measure => simp [intOf]; omega
        · rw [if_neg h92] at hqc
          have e2 : ((s[k].toNat : Int) == 92) = false := beq_eq_false_iff_ne.2 (by rw [← hc]; omega)
          by_cases h3 : c.toNat < 32 ∨ 126 < c.toNat
          · rw [if_pos h3] at hqc
            have HR := Lib.hid hqc
            by_cases h32 : c.toNat < 32
            · have e3 : (s[k].toNat : Int) < 32 := by rw [← hc]; omega
              clear hqc h39 h92 hc h3
              go_wp2_with fail
              have hb9 : ((wr.setCell ⟨w.heap.size, 0, none⟩ (.int .i64 100)).setCell ⟨w.heap.size, 1, none⟩ (.int .i64 (k : Nat))).heap[w.heap.size]? = some (.cells #[.int .i64 100, (.int .i64 (k : Nat))] 129 (0, 0)) := by rw [heap_setCell_at (heap_setCell_at HFB.out _)]; rfl
              refine bodyPost_ret (results_ttc (ty := 129) rfl _ _ w.heap.size _ _ _ _ rfl hb9 Tryz.underlying129 rfl fault_size) rfl ?_
              have hk9 : Keep [] w ((wr.setCell ⟨w.heap.size, 0, none⟩ (.int .i64 100)).setCell ⟨w.heap.size, 1, none⟩ (.int .i64 (k : Nat))) := (HKW.out.setCell (p := ⟨w.heap.size, 0, none⟩) (.inr (Nat.le_refl _)) _).setCell (p := ⟨w.heap.size, 1, none⟩) (.inr (Nat.le_refl _)) _
              refine ⟨?_, hk9⟩
              rw [← HR.out]
              rfl
            · have e3 : ¬ (s[k].toNat : Int) < 32 := by rw [← hc]; omega
              have e4 : (126 : Int) < (s[k].toNat : Int) := by rw [← hc]; omega
              clear hqc h39 h92 hc h3
              go_wp2_with fail
              have hb9 : ((wr.setCell ⟨w.heap.size, 0, none⟩ (.int .i64 100)).setCell ⟨w.heap.size, 1, none⟩ (.int .i64 (k : Nat))).heap[w.heap.size]? = some (.cells #[.int .i64 100, (.int .i64 (k : Nat))] 129 (0, 0)) := by rw [heap_setCell_at (heap_setCell_at HFB.out _)]; rfl
              refine bodyPost_ret (results_ttc (ty := 129) rfl _ _ w.heap.size _ _ _ _ rfl hb9 Tryz.underlying129 rfl fault_size) rfl ?_
              have hk9 : Keep [] w ((wr.setCell ⟨w.heap.size, 0, none⟩ (.int .i64 100)).setCell ⟨w.heap.size, 1, none⟩ (.int .i64 (k : Nat))) := (HKW.out.setCell (p := ⟨w.heap.size, 0, none⟩) (.inr (Nat.le_refl _)) _).setCell (p := ⟨w.heap.size, 1, none⟩) (.inr (Nat.le_refl _)) _
              refine ⟨?_, hk9⟩
              rw [← HR.out]
              rfl
          · rw [if_neg h3] at hqc
            have e3 : ¬ (s[k].toNat : Int) < 32 := by rw [← hc]; omega
            have e4 : ¬ (126 : Int) < (s[k].toNat : Int) := by rw [← hc]; omega
            have HR := Lib.hid hqc
            have hby := b_byte HB.out c (by omega)
            rw [hc] at hby
            have HBY := Lib.hid hby
            clear hqc h39 h92 h3 hby hc c0 c1 f0 f1
            go_wp2_with fail
            refine HBY.out.mono ?_
            rintro e w3 hp3
            obtain rfl := hp3.1
            have hqi := QuoI.byte (R := R) (k := k + 1) HF.out HKW.out HFB.out hp3 (by rw [← HCC.out]; exact HR.out) (by omega)
            have HQI := Lib.hid hqi
            clear hp3 hqi
            go_wp2_with fail
            go_roundw
            case rel => exact ⟨k + 1, by omega, by omega, by go_num, HQI.out⟩
            case measure => simp [intOf]; omega
    · obtain rfl : k = s.size := by omega
      have hqc := HQ.out
      rw [List.drop_eq_nil_of_le (by simp), quoL_nil] at hqc
      have HR := Lib.hid hqc
      have i1 : ¬ (s.size : Int) < (s.size : Int) := by omega
      clear hqc
      go_wp2_with fail
      have hb9 : ((wr.setCell ⟨w.heap.size, 0, none⟩ (.int .i64 100)).setCell ⟨w.heap.size, 1, none⟩ (.int .i64 0)).heap[w.heap.size]? = some (.cells #[.int .i64 100, (.int .i64 0)] 129 (0, 0)) := by rw [heap_setCell_at (heap_setCell_at HFB.out _)]; rfl
      refine bodyPost_ret (results_ttc (ty := 129) rfl _ _ w.heap.size _ _ _ _ rfl hb9 Tryz.underlying129 rfl fault_size) rfl ?_
      have hk9 : Keep [] w ((wr.setCell ⟨w.heap.size, 0, none⟩ (.int .i64 100)).setCell ⟨w.heap.size, 1, none⟩ (.int .i64 0)) := (HKW.out.setCell (p := ⟨w.heap.size, 0, none⟩) (.inr (Nat.le_refl _)) _).setCell (p := ⟨w.heap.size, 1, none⟩) (.inr (Nat.le_refl _)) _
      refine ⟨?_, hk9⟩
      rw [← HR.out]
      rfl
end Go.Proofs.YtdmmhfbafinkpaaGreatDoor
