/- A part of the proof (Mn24), joined by squeeze2.py. -/
import Derived.Test.YtimpadpeibgmoaaGreatYd13
import Derived.StillTailTactics
set_option maxHeartbeats 8000000
set_option maxRecDepth 100000
namespace Go.Proofs.YtimpadpeibgmoaaGreat
open Go.RowKit Go.Emb Go.Emb.Ext
theorem cells5 {w : World} {q : Nat} {a b c d e : Value} {t : TypeId} (h : w.heap[q]? = some (.cells #[a, b, c, d, e] t (0, 0))) :
  w.cell? ⟨q, 0, none⟩ = some a ∧ w.cell? ⟨q, 1, none⟩ = some b ∧ w.cell? ⟨q, 2, none⟩ = some c ∧ w.cell? ⟨q, 3, none⟩ = some d ∧ w.cell? ⟨q, 4, none⟩ = some e := by
 refine ⟨?_, ?_, ?_, ?_, ?_⟩ <;> simp [World.cell?, h]
def roomI (n : Int) : Int := if n < 64 ∨ 4096 < n then 0 else n - 15
theorem p_room (n : Int) (w : World) : Calls Tryz.prog 58 #[.int .i64 n] w fun e w' => e = .returned (.int .i64 (roomI n)) ∧ w = w' := by
 unfold roomI
 by_cases h1 : n < 64
 ·go_enter Tryz.func58, Tryz.ntmps58
  go_wp2_with fail
  go_ret
  exact ⟨rfl, rfl⟩
 ·by_cases h2 : 4096 < n
  ·go_enter Tryz.func58, Tryz.ntmps58
   go_wp2_with fail
   go_ret
   exact ⟨rfl, rfl⟩
  ·go_enter Tryz.func58, Tryz.ntmps58
   go_wp2_with fail
   go_ret
   exact ⟨rfl, rfl⟩
def badX (n : Int) (x : Int × Int) : Bool := decide (x.1 < 2) || decide (x.2 < 1) || decide (n ≤ x.1) || decide (n - x.1 < x.2)
theorem p_bad (n : Int) (x : Int × Int) (B : Nat) (w : World) (hc : w.cell? ⟨B, 0, none⟩ = some (.int .i64 n)) (hn : 1 ≤ n) (hn2 : n ≤ 16384) :
  Calls Tryz.prog 106 #[aggE x, .pointer (some ⟨B, 0, none⟩)] w fun e w' => e = .returned (.bool (badX n x)) ∧ Keep [] w w' := by
 obtain ⟨f, m⟩ := x
 unfold badX aggE
 simp only
 have hlt := World.block_lt_of_cell? _ _ hc
 have hc2 : (w.alloc (.cells #[.int .i64 f, .int .i64 m] 34)).cell? ⟨B, 0, none⟩ = some (.int .i64 n) := by rw [World.cell?_alloc_lt _ _ _ hlt]; exact hc
 have hk : Keep [] w (w.alloc (.cells #[.int .i64 f, .int .i64 m] 34)) := (Keep.refl [] w).alloc _
 have HK := hyd hk
 clear hc hk hlt
 by_cases h1 : f < 2
 ·go_enter Tryz.func106, Tryz.ntmps106
  go_wp2_with fail
  go_ret
  exact ⟨by simp [h1], HK.o⟩
 ·by_cases h2 : m < 1
  ·go_enter Tryz.func106, Tryz.ntmps106
   go_wp2_with fail
   go_ret
   exact ⟨by simp [h1, h2], HK.o⟩
  ·by_cases h3 : n ≤ f
   ·go_enter Tryz.func106, Tryz.ntmps106
    go_wp2_with fail
    go_ret
    exact ⟨by simp [h1, h2, h3], HK.o⟩
   ·have hw : IntKind.i64.wrap (n - f) = n - f := IntWalk.i64_in _ (by omega)
    by_cases h4 : n - f < m
    ·go_enter Tryz.func106, Tryz.ntmps106
     go_wp2_with fail
     go_ret
     exact ⟨by simp [h1, h2, h3, h4], HK.o⟩
    ·go_enter Tryz.func106, Tryz.ntmps106
     go_wp2_with fail
     go_ret
     exact ⟨by simp [h1, h2, h3, h4], HK.o⟩
def okPl (rm : Int) : Int → List Plc → Prop
 | _, [] => True
 | last, p :: ps => (last < p.pid ∧ 1 ≤ p.len ∧ countE p.pieces = needE p.len rm) ∧ okPl rm p.pid ps
def OkM (blocks size : Int) (area : Int × Int) (ps : List PlV) : Prop :=
 roomI size ≠ 0 ∧ 1 ≤ blocks ∧ blocks ≤ 16384 ∧ (∀ x ∈ allL area ps, badX blocks x = false) ∧ (∀ x ∈ allL area ps, right x = true) ∧ Disj (allL area ps) ∧ okPl (roomI size) 0 (ps.map (·.p))
def CheckP (w : World) (blocks size : Int) (area : Int × Int) (ps : List PlV) (e : Ending) (w' : World) : Prop :=
 ∃ r : Int, e = .returned (.int .i64 r) ∧ ((r = 0 ∧ OkM blocks size area ps) ∨ (r = 2 ∧ ¬ OkM blocks size area ps)) ∧ Keep [] w w'
theorem p_check {w : World} {m : MnV} {blocks size : Int} (h : RdM w.heap.size w m) (hsz : (allL m.area m.places).length ≤ 1000000) (hs1 : -9223372036854775808 ≤ size) (hs2 : size ≤ 9223372036854775807) :
  Calls Tryz.prog 67 #[.int .i64 blocks, .int .i64 size, aggM m] w (CheckP w blocks size m.area m.places) := by
 have hrv : ∃ ra rc, m.rv = .slice ra m.rest.length rc := by obtain ⟨-, -, ⟨⟨o, ⟨-, a, c, h, -⟩, -⟩, -⟩, -⟩ := h; exact ⟨a, c, h⟩
 have hpv : ∃ pa pc, m.pv = .slice pa m.places.length pc ∧ m.places.length ≤ pc ∧ pc ≤ 9223372036854775807 := by obtain ⟨-, -, -, ⟨⟨o, ⟨-, a, c, h, h1, h2, -⟩, -⟩, -⟩⟩ := h; unfold maxLen at h2; exact ⟨a, c, h, h1, by omega⟩
 obtain ⟨ra, rc, hrv⟩ := hrv
 obtain ⟨pa, pc, hpv, hpc1, hpc2⟩ := hpv
 have hk1 : Keep [] w ((w.alloc (.cells #[.int .i64 blocks] 3)).alloc (.cells #[.string m.s, .int .i64 m.area.1, .int .i64 m.area.2, m.rv, m.pv] 38)) := ((Keep.refl [] w).alloc _).alloc _
 have hb0 := lit_alloc (heap_new w (.cells #[.int .i64 blocks] 3)) (.cells #[.string m.s, .int .i64 m.area.1, .int .i64 m.area.2, m.rv, m.pv] 38)
 have hb1 := heap_new (w.alloc (.cells #[.int .i64 blocks] 3)) (.cells #[.string m.s, .int .i64 m.area.1, .int .i64 m.area.2, m.rv, m.pv] 38)
 rw [size_alloc] at hb1
 have hm1 := h.next hk1
 have hall := p_all hm1 hsz
 have hroom := p_room size ((w.alloc (.cells #[.int .i64 blocks] 3)).alloc (.cells #[.string m.s, .int .i64 m.area.1, .int .i64 m.area.2, m.rv, m.pv] 38))
 have hrb : roomI size ≤ 4081 := by unfold roomI; split <;> omega
 unfold aggM at hall ⊢
 rw [hrv, hpv] at hall hk1 hb0 hb1 hroom hm1 ⊢
 have HA := hyd hall
 have HK1 := hyd hk1
 have HRM := hyd hroom
 have HB0 := hyd hb0
 have HB1 := hyd hb1
 have HM1 := hyd hm1
 clear hall hk1 h hroom hb0 hb1 hm1
 have hcb : ((w.alloc (.cells #[.int .i64 blocks] 3)).alloc (.cells #[.string m.s, .int .i64 m.area.1, .int .i64 m.area.2, .slice ra m.rest.length rc, .slice pa m.places.length pc] 38)).cell? ⟨w.heap.size, 0, none⟩ = some (.int .i64 blocks) := by simp [World.cell?, HB0.o]
 obtain ⟨rm, hrm⟩ : ∃ r, r = roomI size := ⟨_, rfl⟩
 rw [← hrm] at HRM hrb
 have HRR := hyd hrm
 clear hrm
 by_cases hg : rm = 0 ∨ blocks < 1 ∨ 16384 < blocks
 ·have hno : ¬ OkM blocks size m.area m.places := fun h => by
   obtain ⟨h1, h2, h3, -⟩ := h
   rw [← HRR.o] at h1
   rcases hg with h | h | h
   ·exact h1 h
   ·omega
   ·omega
  have HNO := hyd hno
  clear hno
  by_cases g1 : rm = 0
  ·subst g1
   go_enter Tryz.func67, Tryz.ntmps67
   go_wp2_with fail
   refine HRM.o.mono ?_
   rintro e w2 ⟨rfl, rfl⟩
   go_wp2_with fail
   go_ret
   exact ⟨2, rfl, .inr ⟨rfl, HNO.o⟩, HK1.o⟩
  ·have g1' : (rm == 0) = false := by simp [g1]
   by_cases g2 : blocks < 1
   ·go_enter Tryz.func67, Tryz.ntmps67
    go_wp2_with fail
    refine HRM.o.mono ?_
    rintro e w2 ⟨rfl, rfl⟩
    go_wp2_with fail
    go_ret
    exact ⟨2, rfl, .inr ⟨rfl, HNO.o⟩, HK1.o⟩
   ·have g3 : 16384 < blocks := by omega
    go_enter Tryz.func67, Tryz.ntmps67
    go_wp2_with fail
    refine HRM.o.mono ?_
    rintro e w2 ⟨rfl, rfl⟩
    go_wp2_with fail
    go_ret
    exact ⟨2, rfl, .inr ⟨rfl, HNO.o⟩, HK1.o⟩
 ·have g1 : rm ≠ 0 := fun h => hg (.inl h)
  have g1' : (rm == 0) = false := by simp [g1]
  have g2 : ¬ blocks < 1 := by omega
  have g3 : ¬ 16384 < blocks := by omega
  have hbl1 : 1 ≤ blocks := by omega
  have hbl2 : blocks ≤ 16384 := by omega
  clear hg
  go_enter Tryz.func67, Tryz.ntmps67
  go_wp2_with fail
  refine HRM.o.mono ?_
  rintro e w2 ⟨rfl, rfl⟩
  have hbx : ∀ W, Keep [] ((w.alloc (.cells #[.int .i64 blocks] 3)).alloc (.cells #[.string m.s, .int .i64 m.area.1, .int .i64 m.area.2, .slice ra m.rest.length rc, .slice pa m.places.length pc] 38)) W → W.cell? ⟨w.heap.size, 0, none⟩ = some (.int .i64 blocks) ∧ W.heap[w.heap.size + 1]? = some (.cells #[.string m.s, .int .i64 m.area.1, .int .i64 m.area.2, .slice ra m.rest.length rc, .slice pa m.places.length pc] 38) := fun W hW => ⟨by simp [World.cell?, blk_keep HB0.o hW (by simp)], blk_keep HB1.o hW (by simp)⟩
  have HBX := hyd hbx
  obtain ⟨m0, m1, m2, m3, m4⟩ : ((w.alloc (.cells #[.int .i64 blocks] 3)).alloc (.cells #[.string m.s, .int .i64 m.area.1, .int .i64 m.area.2, .slice ra m.rest.length rc, .slice pa m.places.length pc] 38)).cell? ⟨w.heap.size + 1, 0, none⟩ = some (.string m.s) ∧ ((w.alloc (.cells #[.int .i64 blocks] 3)).alloc (.cells #[.string m.s, .int .i64 m.area.1, .int .i64 m.area.2, .slice ra m.rest.length rc, .slice pa m.places.length pc] 38)).cell? ⟨w.heap.size + 1, 1, none⟩ = some (.int .i64 m.area.1) ∧ ((w.alloc (.cells #[.int .i64 blocks] 3)).alloc (.cells #[.string m.s, .int .i64 m.area.1, .int .i64 m.area.2, .slice ra m.rest.length rc, .slice pa m.places.length pc] 38)).cell? ⟨w.heap.size + 1, 2, none⟩ = some (.int .i64 m.area.2) ∧ ((w.alloc (.cells #[.int .i64 blocks] 3)).alloc (.cells #[.string m.s, .int .i64 m.area.1, .int .i64 m.area.2, .slice ra m.rest.length rc, .slice pa m.places.length pc] 38)).cell? ⟨w.heap.size + 1, 3, none⟩ = some (.slice ra m.rest.length rc) ∧ ((w.alloc (.cells #[.int .i64 blocks] 3)).alloc (.cells #[.string m.s, .int .i64 m.area.1, .int .i64 m.area.2, .slice ra m.rest.length rc, .slice pa m.places.length pc] 38)).cell? ⟨w.heap.size + 1, 4, none⟩ = some (.slice pa m.places.length pc) := cells5 HB1.o
  clear hbx HB0 HB1 HRM
  go_wp2_with fail
  generalize (w.alloc (.cells #[.int .i64 blocks] 3)).alloc (.cells #[.string m.s, .int .i64 m.area.1, .int .i64 m.area.2, .slice ra m.rest.length rc, .slice pa m.places.length pc] 38) = w1 at *
  refine HA.o.mono ?_
  rintro e w2 ⟨v, o, rfl, hr, ho, hk2⟩
  clear m0 m1 m2 m3 m4 hcb HA
  obtain ⟨o', hrd, ho'⟩ := hr.rd
  have eg : ∀ args w, (callFunc 106 args).run Tryz.prog w = .ok (.enter 106 args) w := enters_of Tryz.func106 (by kernel_rfl) rfl
  have hcf := containsFunc_any hrd (by omega) (fun b hb => hr.lt b (ho' b hb)) 106 #[.pointer (some ⟨w.heap.size, 0, none⟩)] (badX blocks) eg (fun x W hW => p_bad blocks x w.heap.size W (HBX.o W (hk2.trans hW (by simp))).1 hbl1 hbl2)
  have HCF := hyd hcf
  have HR := hyd (And.intro hrd (fun b hb => hr.lt b (ho' b hb) : ∀ b, o' = some b → b < w2.heap.size))
  have HK2 := hyd hk2
  obtain ⟨va, vc, hv⟩ := hr.slice
  subst hv
  clear hr ho hk2 hrd ho' hcf eg
  go_wp2_with fail
  refine HCF.o.mono ?_
  rintro e w3 ⟨rfl, hk3⟩
  have HK3 := hyd hk3
  have hR3 := HR.o.1.keep hk3 (by simp)
  have hj := join_any hR3 hsz (fun b hb => Nat.lt_of_lt_of_le (HR.o.2 b hb) hk3.size)
  have HJ := hyd hj
  clear hk3 hR3 hj HCF
  cases hany : (allL m.area m.places).any (badX blocks) with
  | true =>
   have hno : ¬ OkM blocks size m.area m.places := fun h => by
    obtain ⟨-, -, -, h4, -⟩ := h
    obtain ⟨x, hx, hb⟩ := List.any_eq_true.1 hany
    rw [h4 x hx] at hb; cases hb
   have HNO := hyd hno
   clear hno
   go_wp2_with fail
   go_ret
   exact ⟨2, rfl, .inr ⟨rfl, HNO.o⟩, (HK1.o.trans HK2.o (by simp)).trans HK3.o (by simp)⟩
  | false =>
   have HANY := hyd hany
   clear hany
   go_wp2_with fail
   refine HJ.o.mono ?_
   rintro e w4 ⟨v4, o4, out, err, rfl, hjr, hr4, ho4, hk4⟩
   have HK4 := hyd (((HK1.o.trans HK2.o (by simp)).trans HK3.o (by simp)).trans hk4 (by simp))
   have hbx4 := (HBX.o w4 ((HK2.o.trans HK3.o (by simp)).trans hk4 (by simp))).2
   have hM4 := HM1.o.next ((HK2.o.trans HK3.o (by simp)).trans hk4 (by simp))
   have HJR := hyd hjr
   clear hjr hr4 ho4 hk4 HJ HM1 HBX HK2 HK3
   by_cases h0 : err = 0
   ·have hjo : (∀ x ∈ allL m.area m.places, right x = true) ∧ Disj (allL m.area m.places) := by
     rcases HJR.o with ⟨h, -⟩ | ⟨h, -⟩ | ⟨-, h1, h2, -⟩
     ·omega
     ·omega
     ·exact ⟨h1, h2.disj⟩
    subst h0
    have HJO := hyd hjo
    have m4 : w4.cell? ⟨w.heap.size + 1, 4, none⟩ = some (.slice pa m.places.length pc) := by simp [World.cell?, hbx4]
    have hokp : okPl rm 0 (m.places.map (·.p)) → OkM blocks size m.area m.places := fun hp => ⟨by rw [← HRR.o]; exact g1, hbl1, hbl2, fun x hx => by
      have := HANY.o
      rw [List.any_eq_false] at this
      simpa using this x hx, HJO.o.1, HJO.o.2, by rw [← HRR.o]; exact hp⟩
    have hokn : OkM blocks size m.area m.places → okPl rm 0 (m.places.map (·.p)) := fun hp => by rw [HRR.o]; exact hp.2.2.2.2.2.2
    have HOK := hyd (Iff.intro hokp hokn)
    have HPL := hyd hM4.2.2.2
    clear hjo HJR hokp hokn hM4 hbx4
    go_wp2_with fail
    clear m4
    go_loopw [11, 41] (fun l i wr => ∃ (k : Nat) (last : Int), k ≤ m.places.length ∧ i = .int .i64 (k : Int) ∧ l = .int .i64 last ∧ (okPl rm 0 (m.places.map (·.p)) ↔ okPl rm last ((m.places.drop k).map (·.p))) ∧ Keep [] w4 wr) (fun _ i _ => m.places.length - (intOf i).toNat)
    case atStart => exact ⟨0, 0, Nat.zero_le _, rfl, rfl, by simp, Keep.refl _ _⟩
    case round =>
     obtain ⟨k, last, hk, rfl, rfl, hiff, hkw⟩ := hrel
     have HF := hyd hiff
     have HK := hyd hkw
     clear hiff hkw
     by_cases hlt : k < m.places.length
     ·have hpl2 := HPL.o.keep HK.o (by simp)
      rw [hpv] at hpl2
      obtain ⟨pb, poff, rfl, hpb, q0, q1, q2⟩ := hpl2.at hlt
      have hpx := hpl2.2.1 _ (List.getElem_mem hlt)
      clear hpl2
      obtain ⟨x, hx⟩ : ∃ x, x = m.places[k] := ⟨_, rfl⟩
      rw [← hx] at q0 q1 q2 hpx
      obtain ⟨hx1, hx2, hx3⟩ := hpx
      obtain ⟨xa, xc, hxv, hxc1, hxc2⟩ := hx3.slice
      rw [hxv] at q2 hx3
      have hdr : okPl rm last ((m.places.drop k).map (·.p)) ↔ (last < x.p.pid ∧ 1 ≤ x.p.len ∧ countE x.p.pieces = needE x.p.len rm) ∧ okPl rm x.p.pid ((m.places.drop (k + 1)).map (·.p)) := by
       rw [List.drop_eq_getElem_cons hlt, ← hx]; rfl
      have hpl : x.p.pieces.length ≤ 1000000 := by
       have h1 : x.p.pieces.length ≤ (m.places.flatMap (·.p.pieces)).length := by
        have hmem : x ∈ m.places := hx ▸ List.getElem_mem hlt
        obtain ⟨s, t, hst⟩ := List.append_of_mem hmem
        rw [hst]
        simp
        omega
       unfold allL at hsz
       rw [List.length_cons] at hsz
       omega
      unfold maxLen at hxc2
      obtain ⟨⟨xo, hxr, hxo⟩, -, -⟩ := hx3
      have HXR := hyd (And.intro hxr hxo)
      have HDR := hyd (HF.o.trans hdr)
      have i0' : (0 : Int) ≤ (k : Int) := by omega
      have i1' : (k : Int) < (m.places.length : Int) := by omega
      have hx2' := hx2.2
      clear hxr hxo hdr hx HF hxv
      by_cases c1 : x.p.pid ≤ last
      ·have hno : ¬ OkM blocks size m.area m.places := fun h => by
        have := (HDR.o.1 (HOK.o.2 h)).1.1
        omega
       have HNO := hyd hno
       clear hno
       go_wp2_with fail
       have HB5 := hyd (heap_new wr (.cells #[.int .i64 x.p.pid, .int .i64 x.p.len, .slice xa x.p.pieces.length xc] 48))
       have HK5 := hyd ((Keep.refl [] wr).alloc (.cells #[.int .i64 x.p.pid, .int .i64 x.p.len, .slice xa x.p.pieces.length xc] 48))
       generalize wr.alloc (.cells #[.int .i64 x.p.pid, .int .i64 x.p.len, .slice xa x.p.pieces.length xc] 48) = w5 at *
       clear q0 q1 q2
       refine wp_region_held_drew (S := fun w' => Keep [] wr w' ∧ w'.heap[wr.heap.size]? = some (.cells #[.int .i64 x.p.pid, .int .i64 x.p.len, .slice xa x.p.pieces.length xc] 48)) (by kernel_rfl) ⟨HK5.o.drew, HB5.o⟩ (fun hHeld => ?_)
       refine tkL 0 ?vQA0 rfl ?runQA0 hHeld ?_
       case runQA0 => (intro w9 hS9; obtain ⟨c0, c1, c2, -⟩ := cells3 hS9.2; go_simp; try exact rfl)
       try simp only [Act.put, lA, lZ, lS]
       refine tkL 1 ?vQA1 rfl ?runQA1 hHeld ?_
       case runQA1 => (intro w9 hS9; obtain ⟨c0, c1, c2, -⟩ := cells3 hS9.2; go_simp; try exact rfl)
       try simp only [Act.put, lA, lZ, lS]
       refine tkL 2 ?vQA2 rfl ?runQA2 hHeld ?_
       case runQA2 => (intro w9 hS9; obtain ⟨c0, c1, c2, -⟩ := cells3 hS9.2; go_simp; try exact rfl)
       try simp only [Act.put, lA, lZ, lS]
       refine tkL 3 (.bool true) rfl ?runQA3 hHeld ?_
       case runQA3 => (intro w9 hS9; obtain ⟨c0, c1, c2, -⟩ := cells3 hS9.2; go_simp; first | done | exact rfl | (simp [*]; done) | (simp; omega))
       try simp only [Act.put, lA, lZ, lS]
       refine tkL 4 ?vQA4 rfl ?runQA4 hHeld ?_
       case runQA4 => (intro w9 hS9; obtain ⟨c0, c1, c2, -⟩ := cells3 hS9.2; go_simp; try exact rfl)
       try simp only [Act.put, lA, lZ, lS]
       refine skL 5 rfl hHeld ?_
       try simp only [Act.put, lA, lZ, lS]
       refine skL 6 rfl hHeld ?_
       try simp only [Act.put, lA, lZ, lS]
       refine skL 7 rfl hHeld ?_
       try simp only [Act.put, lA, lZ, lS]
       refine tkL 8 ?vQA8 rfl ?runQA8 hHeld ?_
       case runQA8 => (intro w9 hS9; obtain ⟨c0, c1, c2, -⟩ := cells3 hS9.2; go_simp; try exact rfl)
       try simp only [Act.put, lA, lZ, lS]
       refine tkL 9 ?vQA9 rfl ?runQA9 hHeld ?_
       case runQA9 => (intro w9 hS9; obtain ⟨c0, c1, c2, -⟩ := cells3 hS9.2; go_simp; try exact rfl)
       try simp only [Act.put, lA, lZ, lS]
       refine skL 10 rfl hHeld ?_
       try simp only [Act.put, lA, lZ, lS]
       refine skL 11 rfl hHeld ?_
       try simp only [Act.put, lA, lZ, lS]
       refine skL 12 rfl hHeld ?_
       try simp only [Act.put, lA, lZ, lS]
       refine skL 13 rfl hHeld ?_
       try simp only [Act.put, lA, lZ, lS]
       refine skL 14 rfl hHeld ?_
       try simp only [Act.put, lA, lZ, lS]
       refine skL 15 rfl hHeld ?_
       try simp only [Act.put, lA, lZ, lS]
       refine skL 16 rfl hHeld ?_
       try simp only [Act.put, lA, lZ, lS]
       refine skL 17 rfl hHeld ?_
       try simp only [Act.put, lA, lZ, lS]
       refine tkL 18 ?vQA18 rfl ?runQA18 hHeld ?_
       case runQA18 => (intro w9 hS9; obtain ⟨c0, c1, c2, -⟩ := cells3 hS9.2; go_simp; try exact rfl)
       try simp only [Act.put, lA, lZ, lS]
       refine wpAnyH_done (by kernel_rfl) ?_ _
       clear hHeld
       go_wp2_with fail
       go_ret
       exact ⟨2, rfl, .inr ⟨rfl, HNO.o⟩, (HK4.o.trans HK.o (by simp)).trans HK5.o.drew (by simp)⟩
      ·by_cases c2 : x.p.len < 1
       ·have hno : ¬ OkM blocks size m.area m.places := fun h => by
         have := (HDR.o.1 (HOK.o.2 h)).1.2.1
         omega
        have HNO := hyd hno
        clear hno
        go_wp2_with fail
        have HB5 := hyd (heap_new wr (.cells #[.int .i64 x.p.pid, .int .i64 x.p.len, .slice xa x.p.pieces.length xc] 48))
        have HK5 := hyd ((Keep.refl [] wr).alloc (.cells #[.int .i64 x.p.pid, .int .i64 x.p.len, .slice xa x.p.pieces.length xc] 48))
        generalize wr.alloc (.cells #[.int .i64 x.p.pid, .int .i64 x.p.len, .slice xa x.p.pieces.length xc] 48) = w5 at *
        clear q0 q1 q2
        refine wp_region_held_drew (S := fun w' => Keep [] wr w' ∧ w'.heap[wr.heap.size]? = some (.cells #[.int .i64 x.p.pid, .int .i64 x.p.len, .slice xa x.p.pieces.length xc] 48)) (by kernel_rfl) ⟨HK5.o.drew, HB5.o⟩ (fun hHeld => ?_)
        refine tkL 0 ?vQB0 rfl ?runQB0 hHeld ?_
        case runQB0 => (intro w9 hS9; obtain ⟨c0, c1, c2, -⟩ := cells3 hS9.2; go_simp; try exact rfl)
        try simp only [Act.put, lA, lZ, lS]
        refine tkL 1 ?vQB1 rfl ?runQB1 hHeld ?_
        case runQB1 => (intro w9 hS9; obtain ⟨c0, c1, c2, -⟩ := cells3 hS9.2; go_simp; try exact rfl)
        try simp only [Act.put, lA, lZ, lS]
        refine tkL 2 ?vQB2 rfl ?runQB2 hHeld ?_
        case runQB2 => (intro w9 hS9; obtain ⟨c0, c1, c2, -⟩ := cells3 hS9.2; go_simp; try exact rfl)
        try simp only [Act.put, lA, lZ, lS]
        refine tkL 3 (.bool false) rfl ?runQB3 hHeld ?_
        case runQB3 => (intro w9 hS9; obtain ⟨c0, c1, c2, -⟩ := cells3 hS9.2; go_simp; first | done | exact rfl | (simp [*]; done) | (simp; omega))
        try simp only [Act.put, lA, lZ, lS]
        refine tkL 4 ?vQB4 rfl ?runQB4 hHeld ?_
        case runQB4 => (intro w9 hS9; obtain ⟨c0, c1, c2, -⟩ := cells3 hS9.2; go_simp; try exact rfl)
        try simp only [Act.put, lA, lZ, lS]
        refine tkL 5 ?vQB5 rfl ?runQB5 hHeld ?_
        case runQB5 => (intro w9 hS9; obtain ⟨c0, c1, c2, -⟩ := cells3 hS9.2; go_simp; try exact rfl)
        try simp only [Act.put, lA, lZ, lS]
        refine tkL 6 ?vQB6 rfl ?runQB6 hHeld ?_
        case runQB6 => (intro w9 hS9; obtain ⟨c0, c1, c2, -⟩ := cells3 hS9.2; go_simp; try exact rfl)
        try simp only [Act.put, lA, lZ, lS]
        refine tkL 7 (.bool true) rfl ?runQB7 hHeld ?_
        case runQB7 => (intro w9 hS9; obtain ⟨c0, c1, c2, -⟩ := cells3 hS9.2; go_simp; first | done | exact rfl | (simp [*]; done) | (simp; omega))
        try simp only [Act.put, lA, lZ, lS]
        refine tkL 8 ?vQB8 rfl ?runQB8 hHeld ?_
        case runQB8 => (intro w9 hS9; obtain ⟨c0, c1, c2, -⟩ := cells3 hS9.2; go_simp; try exact rfl)
        try simp only [Act.put, lA, lZ, lS]
        refine tkL 9 ?vQB9 rfl ?runQB9 hHeld ?_
        case runQB9 => (intro w9 hS9; obtain ⟨c0, c1, c2, -⟩ := cells3 hS9.2; go_simp; try exact rfl)
        try simp only [Act.put, lA, lZ, lS]
        refine skL 10 rfl hHeld ?_
        try simp only [Act.put, lA, lZ, lS]
        refine skL 11 rfl hHeld ?_
        try simp only [Act.put, lA, lZ, lS]
        refine skL 12 rfl hHeld ?_
        try simp only [Act.put, lA, lZ, lS]
        refine skL 13 rfl hHeld ?_
        try simp only [Act.put, lA, lZ, lS]
        refine skL 14 rfl hHeld ?_
        try simp only [Act.put, lA, lZ, lS]
        refine skL 15 rfl hHeld ?_
        try simp only [Act.put, lA, lZ, lS]
        refine skL 16 rfl hHeld ?_
        try simp only [Act.put, lA, lZ, lS]
        refine skL 17 rfl hHeld ?_
        try simp only [Act.put, lA, lZ, lS]
        refine tkL 18 ?vQB18 rfl ?runQB18 hHeld ?_
        case runQB18 => (intro w9 hS9; obtain ⟨c0, c1, c2, -⟩ := cells3 hS9.2; go_simp; try exact rfl)
        try simp only [Act.put, lA, lZ, lS]
        refine wpAnyH_done (by kernel_rfl) ?_ _
        clear hHeld
        go_wp2_with fail
        go_ret
        exact ⟨2, rfl, .inr ⟨rfl, HNO.o⟩, (HK4.o.trans HK.o (by simp)).trans HK5.o.drew (by simp)⟩
       ·go_wp2_with fail
        have HB5 := hyd (heap_new wr (.cells #[.int .i64 x.p.pid, .int .i64 x.p.len, .slice xa x.p.pieces.length xc] 48))
        have HK5 := hyd ((Keep.refl [] wr).alloc (.cells #[.int .i64 x.p.pid, .int .i64 x.p.len, .slice xa x.p.pieces.length xc] 48))
        generalize wr.alloc (.cells #[.int .i64 x.p.pid, .int .i64 x.p.len, .slice xa x.p.pieces.length xc] 48) = w5 at *
        have HX5 := hyd (HXR.o.1.keep HK5.o.drew (by simp))
        have hcnt := fun W (hW : Keep [] wr W) => count_any (HXR.o.1.keep hW (by simp)) (by omega) (fun b hb => by have h1 := HXR.o.2 b hb; have h2 := HK.o.size; have h3 := hW.size; omega)
        have hneed := fun W => need_any x.p.len rm W hx2' (by omega)
        have HCN := hyd hcnt
        have HND := hyd hneed
        clear hcnt hneed q0 q1 q2
        refine wp_region_held_drew (S := fun w' => Keep [] wr w' ∧ w'.heap[wr.heap.size]? = some (.cells #[.int .i64 x.p.pid, .int .i64 x.p.len, .slice xa x.p.pieces.length xc] 48)) (by kernel_rfl) ⟨HK5.o.drew, HB5.o⟩ (fun hHeld => ?_)
        refine tkL 0 ?vK0 rfl ?runK0 hHeld ?_
        case runK0 => (intro w9 hS9; obtain ⟨c0, c1, c2, -⟩ := cells3 hS9.2; go_simp; try exact rfl)
        try simp only [Act.put, lA, lZ, lS]
        refine tkL 1 ?vK1 rfl ?runK1 hHeld ?_
        case runK1 => (intro w9 hS9; obtain ⟨c0, c1, c2, -⟩ := cells3 hS9.2; go_simp; try exact rfl)
        try simp only [Act.put, lA, lZ, lS]
        refine tkL 2 ?vK2 rfl ?runK2 hHeld ?_
        case runK2 => (intro w9 hS9; obtain ⟨c0, c1, c2, -⟩ := cells3 hS9.2; go_simp; try exact rfl)
        try simp only [Act.put, lA, lZ, lS]
        refine tkL 3 (.bool false) rfl ?runK3 hHeld ?_
        case runK3 => (intro w9 hS9; obtain ⟨c0, c1, c2, -⟩ := cells3 hS9.2; go_simp; first | done | exact rfl | (simp [*]; done) | (simp; omega))
        try simp only [Act.put, lA, lZ, lS]
        refine tkL 4 ?vK4 rfl ?runK4 hHeld ?_
        case runK4 => (intro w9 hS9; obtain ⟨c0, c1, c2, -⟩ := cells3 hS9.2; go_simp; try exact rfl)
        try simp only [Act.put, lA, lZ, lS]
        refine tkL 5 ?vK5 rfl ?runK5 hHeld ?_
        case runK5 => (intro w9 hS9; obtain ⟨c0, c1, c2, -⟩ := cells3 hS9.2; go_simp; try exact rfl)
        try simp only [Act.put, lA, lZ, lS]
        refine tkL 6 ?vK6 rfl ?runK6 hHeld ?_
        case runK6 => (intro w9 hS9; obtain ⟨c0, c1, c2, -⟩ := cells3 hS9.2; go_simp; try exact rfl)
        try simp only [Act.put, lA, lZ, lS]
        refine tkL 7 (.bool false) rfl ?runK7 hHeld ?_
        case runK7 => (intro w9 hS9; obtain ⟨c0, c1, c2, -⟩ := cells3 hS9.2; go_simp; first | done | exact rfl | (simp [*]; done) | (simp; omega))
        try simp only [Act.put, lA, lZ, lS]
        refine tkL 8 ?vK8 rfl ?runK8 hHeld ?_
        case runK8 => (intro w9 hS9; obtain ⟨c0, c1, c2, -⟩ := cells3 hS9.2; go_simp; try exact rfl)
        try simp only [Act.put, lA, lZ, lS]
        refine tkL 9 ?vK9 rfl ?runK9 hHeld ?_
        case runK9 => (intro w9 hS9; obtain ⟨c0, c1, c2, -⟩ := cells3 hS9.2; go_simp; try exact rfl)
        try simp only [Act.put, lA, lZ, lS]
        refine tkL 10 ?vK10 rfl ?runK10 hHeld ?_
        case runK10 => (intro w9 hS9; obtain ⟨c0, c1, c2, -⟩ := cells3 hS9.2; go_simp; try exact rfl)
        try simp only [Act.put, lA, lZ, lS]
        refine tkL 11 ?vK11 rfl ?runK11 hHeld ?_
        case runK11 => (intro w9 hS9; obtain ⟨c0, c1, c2, -⟩ := cells3 hS9.2; go_simp; try exact rfl)
        try simp only [Act.put, lA, lZ, lS]
        refine tkL 13 ?vK13 rfl ?runK13 hHeld ?_
        case runK13 => (intro w9 hS9; obtain ⟨c0, c1, c2, -⟩ := cells3 hS9.2; go_simp; try exact rfl)
        try simp only [Act.put, lA, lZ, lS]
        refine tkL 14 ?vK14 rfl ?runK14 hHeld ?_
        case runK14 => (intro w9 hS9; obtain ⟨c0, c1, c2, -⟩ := cells3 hS9.2; go_simp; try exact rfl)
        try simp only [Act.put, lA, lZ, lS]
        refine tkL 15 ?vK15 rfl ?runK15 hHeld ?_
        case runK15 => (intro w9 hS9; obtain ⟨c0, c1, c2, -⟩ := cells3 hS9.2; go_simp; try exact rfl)
        try simp only [Act.put, lA, lZ, lS]
        have HS0 : Hid (Keep [] wr w5.drew ∧ w5.drew.heap[wr.heap.size]? = some (.cells #[.int .i64 x.p.pid, .int .i64 x.p.len, .slice xa x.p.pieces.length xc] 48)) := hyd hHeld
        clear hHeld HX5 HB5 HK5
        generalize w5.drew = w6 at *
        refine rdH 12 rfl (fun K hK => ?_)
        go_simp
        refine (HCN.o _ HS0.o.1).mono ?_
        rintro e w7 ⟨rfl, hk7⟩
        have HS7 := hyd (And.intro (HS0.o.1.trans hk7 (by simp)) (blk_keep HS0.o.2 hk7 (by simp)))
        clear hk7 HS0
        go_wp2_with fail
        refine hK.out _ _ HS7.o (fun hHeld => ?_)
        clear hK K
        try simp only [Act.put, lA, lZ, lS]
        refine rdH 16 rfl (fun K hK => ?_)
        go_simp
        refine (HND.o _).mono ?_
        rintro e w8 ⟨rfl, rfl⟩
        go_wp2_with fail
        refine hK.out _ _ HS7.o (fun hHeld => ?_)
        clear hK K
        try simp only [Act.put, lA, lZ, lS]
        refine tkL 17 ?vK17 rfl ?runK17 hHeld ?_
        case runK17 => (intro w9 hS9; obtain ⟨c0, c1, c2, -⟩ := cells3 hS9.2; go_simp; try exact rfl)
        try simp only [Act.put, lA, lZ, lS]
        refine tkL 18 ?vK18 rfl ?runK18 hHeld ?_
        case runK18 => (intro w9 hS9; obtain ⟨c0, c1, c2, -⟩ := cells3 hS9.2; go_simp; try exact rfl)
        try simp only [Act.put, lA, lZ, lS]
        refine wpAnyH_done (by kernel_rfl) ?_ _
        obtain ⟨c0, c1, c2, -⟩ := cells3 HS7.o.2
        clear hHeld
        by_cases c3 : countE x.p.pieces = needE x.p.len rm
        ·have hcb : (countE x.p.pieces != needE x.p.len rm) = false := by simp [c3]
         have hnx : okPl rm 0 (m.places.map (·.p)) ↔ okPl rm x.p.pid ((m.places.drop (k + 1)).map (·.p)) := HDR.o.trans ⟨fun h => h.2, fun h => ⟨⟨by omega, by omega, c3⟩, h⟩⟩
         have HNX := hyd hnx
         clear hnx
         go_wp2_with fail
         go_roundw
         case rel => exact ⟨k + 1, x.p.pid, by omega, by go_num, rfl, HNX.o, HK.o.trans HS7.o.1 (by simp)⟩
         case measure => simp [intOf]; omega
        ·have hcb : (countE x.p.pieces != needE x.p.len rm) = true := by simp [c3]
         have hno : ¬ OkM blocks size m.area m.places := fun h => c3 (HDR.o.1 (HOK.o.2 h)).1.2.2
         have HNO := hyd hno
         clear hno
         go_wp2_with fail
         go_ret
         exact ⟨2, rfl, .inr ⟨rfl, HNO.o⟩, (HK4.o.trans HK.o (by simp)).trans HS7.o.1 (by simp)⟩
     ·obtain rfl : k = m.places.length := by omega
      have hyes : OkM blocks size m.area m.places := HOK.o.1 (HF.o.2 (by simp [okPl]))
      have HY := hyd hyes
      clear hyes
      go_wp2_with fail
      go_ret
      exact ⟨0, rfl, .inl ⟨rfl, HY.o⟩, HK4.o.trans HK.o (by simp)⟩
   ·have hne : (err != 0) = true := by simp [h0]
    have hno : ¬ OkM blocks size m.area m.places := fun h => by
     obtain ⟨-, -, -, -, h5, h6, -⟩ := h
     rcases HJR.o with ⟨-, -, y, hy, hb⟩ | ⟨-, -, -, hb⟩ | ⟨hb, -⟩
     ·rw [h5 y hy] at hb; cases hb
     ·exact hb h6
     ·exact h0 hb
    have HNO := hyd hno
    clear hno
    go_wp2_with fail
    go_ret
    exact ⟨2, rfl, .inr ⟨rfl, HNO.o⟩, HK4.o⟩
end Go.Proofs.YtimpadpeibgmoaaGreat
