/- (of XExt, by exs.py, for the super seat) Extents: contracts of the small functions. -/
import Derived.Test.YtdeghoigpcbmcaaSu5
import Derived.Test.YtdeghoigpcbmcaaExtP
import Derived.Deep.RegionHeld3
namespace Go.Emb
theorem Keep.cellA {w W : World} {ob : Obj} (hk : Keep [] (w.alloc ob) W) {p : Addr} {v : Value} (hc : w.cell? p = some v) : W.cell? p = some v :=
  (((Keep.refl [] w).alloc ob).trans hk (by simp)).cellOf hc
end Go.Emb
namespace Go.Proofs.Ytdeghoigpcbmcaa
open Go.RowKit Go.Emb Go.Lib Go.Emb.Ext

def encE (x : E) : List Value := [.int .i64 x.1, .int .i64 x.2]
def aggE (x : E) : Value := .agg #[.int .i64 x.1, .int .i64 x.2]
/-- a slice of extents that is read -/
def RdE (w : World) (v : Value) (l : List E) (o : Option Nat) : Prop := Rd w 2 v l.length (l.flatMap encE) o
set_option maxRecDepth 100000 in
theorem RdE.keep {F : List Nat} {w w' : World} {v : Value} {l : List E} {o : Option Nat} (h : RdE w v l o) (hk : Keep F w w') (hn : ∀ b, o = some b → b ∉ F) : RdE w' v l o := Rd.keep h hk hn

set_option maxRecDepth 100000 in
theorem flatE (l : List E) (k : Nat) (h : k < l.length) : (l.flatMap encE)[k * 2]? = some (.int .i64 l[k].1) ∧ (l.flatMap encE)[k * 2 + 1]? = some (.int .i64 l[k].2) := by
  induction l generalizing k with
  | nil => simp at h
  | cons x l ih =>
    cases k with
    | zero => simp [encE]
    | succ k =>
      have := ih k (by simpa using h)
      rw [List.flatMap_cons]
      have e : (encE x).length = 2 := rfl
      rw [List.getElem?_append_right (by rw [e]; omega), List.getElem?_append_right (by rw [e]; omega), e, show (k + 1) * 2 - 2 = k * 2 by omega, show (k + 1) * 2 + 1 - 2 = k * 2 + 1 by omega]
      simpa using this

set_option maxRecDepth 100000 in
/-- the cells of the one at k -/
theorem RdE.at {w : World} {a : Option Addr} {c n : Nat} {l : List E} {o : Option Nat} (h : RdE w (.slice a n c) l o) {k : Nat} (hk : k < l.length) :
    ∃ b off, a = some ⟨b, off, none⟩ ∧ o = some b ∧ w.cell? ⟨b, off + k * 2, none⟩ = some (.int .i64 l[k].1) ∧ w.cell? ⟨b, off + k * 2 + 1, none⟩ = some (.int .i64 l[k].2) := by
  obtain ⟨hl, a', c', hv, _, _, h3⟩ := h
  cases hv
  rcases h3 with ⟨h3, _⟩ | ⟨b, off, rfl, rfl, h3⟩
  · omega
  · obtain ⟨e1, e2⟩ := flatE l k hk
    refine ⟨b, off, rfl, rfl, ?_, ?_⟩
    · rw [h3 (k * 2) (by omega), e1]
    · rw [Nat.add_assoc, h3 (k * 2 + 1) (by omega), e2]

end Go.Proofs.Ytdeghoigpcbmcaa