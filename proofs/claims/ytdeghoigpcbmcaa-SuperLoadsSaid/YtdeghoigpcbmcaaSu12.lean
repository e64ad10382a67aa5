/- Super: the disk: what a write does to the bytes (clear). -/
import Derived.Test.YtdeghoigpcbmcaaSu11
import Derived.Lib.SliceRun
namespace Go.Proofs.Ytdeghoigpcbmcaa
open Go.RowKit Go.Emb

theorem clear_b {w : World} {g off n cap : Nat} {bs : List UInt8} {ty : TypeId} (hb : BB w g bs) (hfit : off + n ≤ bs.length) (h0 : 0 < n) :
    ∃ w', (Builtin.clear_ #[38] ty #[.slice (some ⟨g, off, none⟩) n cap]).run Try.prog w = .ok (.tuple #[]) w' ∧ BB w' g (bs.take off ++ List.replicate n 0 ++ bs.drop (off + n)) ∧ Keep [g] w w' := by
  obtain ⟨i0, hi, hz0, hz1, hz2⟩ := u8_ok
  have hzv : ∀ w, (zeroValue 5).run Try.prog w = .ok (Value.int .u8 0) w := fun w => by simp [zeroValue, typeInfo, hi, hz0]
  have hzc : (Builtin.zeroCells (Value.int .u8 0).cells n).toList = List.replicate n (Value.int .u8 0) := by
    have e : (Value.int IntKind.u8 0).cells = #[Value.int .u8 0] := rfl
    rw [e]
    simp [Builtin.zeroCells]
    apply List.ext_getElem
    · simp
    · intro i h1 h2
      simp [Nat.mod_one]
  have hst := run_storeCells_at Try.prog g off 5 (List.replicate n (Value.int .u8 0)) 0 _ w hb (by simp [Lib.byteCells]; omega) (fun v hv => by rw [(List.mem_replicate.1 hv).2]; rfl)
  obtain ⟨n', rfl⟩ : ∃ n', n = n' + 1 := ⟨n - 1, by omega⟩
  simp only [Nat.add_zero, List.length_replicate] at hst
  refine ⟨w.setRow g ((Lib.byteCells bs).toArray.toList.take off ++ List.replicate (n' + 1) (Value.int .u8 0) ++ (Lib.byteCells bs).toArray.toList.drop (off + (n' + 1))).toArray, ?_, ?_, ⟨rfl, rfl, rfl, by simp [World.setRow], fun k _ hk => setRow_other w g k _ (by simpa using hk)⟩⟩
  · simp only [Builtin.clear_, Sem.run_bind, run_underlying Try.underlying38, Result.andThen_ok, hzv, hzc, hst]
    simp [run_underlying Try.underlying38, hzv, hzc, hst]
  · unfold BB
    rw [setRow_heap w g _ _ 5 _ hb]
    simp [Lib.byteCells, List.map_take, List.map_drop]
theorem clear_0 (w : World) (a : Option Addr) (cap : Nat) (ty : TypeId) : (Builtin.clear_ #[38] ty #[.slice a 0 cap]).run Try.prog w = .ok (.tuple #[]) w := by
  cases a <;> simp [Builtin.clear_, run_underlying Try.underlying38]
/-- what a write makes of the bytes -/
def putB (d : DS) (k : Nat) (p : List UInt8) : List UInt8 := d.L.take (k * d.sz) ++ p ++ List.replicate (d.sz - p.length) 0 ++ d.L.drop (k * d.sz + d.sz)
theorem putB_len {d : DS} (h : d.ok) {k : Nat} (hk : k < d.n) {p : List UInt8} (hp : p.length ≤ d.sz) : (putB d k p).length = d.n * d.sz := by
  have h1 := blk_le h hk
  have h2 := h.2.2.2.2.1
  unfold putB
  simp only [List.length_append, List.length_take, List.length_drop, List.length_replicate]
  omega
theorem putB_full {d : DS} (h : d.ok) {k : Nat} (hk : k < d.n) {p : List UInt8} (hp : p.length = d.sz) : d.L.take (k * d.sz) ++ p ++ d.L.drop (k * d.sz + p.length) = putB d k p := by
  unfold putB
  rw [hp, Nat.sub_self]
  simp
theorem putB_short {d : DS} (h : d.ok) {k : Nat} (hk : k < d.n) {p : List UInt8} (hp : p.length < d.sz) :
    ((d.L.take (k * d.sz) ++ p ++ d.L.drop (k * d.sz + p.length)).take (k * d.sz + p.length) ++ List.replicate (d.sz - p.length) 0 ++ (d.L.take (k * d.sz) ++ p ++ d.L.drop (k * d.sz + p.length)).drop (k * d.sz + p.length + (d.sz - p.length))) = putB d k p := by
  have h1 := blk_le h hk
  have h2 := h.2.2.2.2.1
  have hl : (d.L.take (k * d.sz) ++ p).length = k * d.sz + p.length := by rw [List.length_append, List.length_take]; omega
  unfold putB
  rw [List.take_left' hl, List.drop_append, hl, List.drop_of_length_le (by omega), List.nil_append, List.drop_drop]
  congr 2
  omega
def writeD (d : DS) (k : Int) (p : List UInt8) : Int × DS :=
  if ¬ (0 ≤ k ∧ k < d.n) then (2, d)
  else if d.sz < p.length then (1, d)
  else if d.off = true then (20, d)
  else if d.left = 0 then (20, { d with off := true })
  else (0, { d with left := if 0 < d.left then d.left - 1 else d.left, L := putB d k.toNat p })
theorem one_src {P : Program} {tx e' : TypeId} (hk : P.underlying tx = some (.slice e')) (w : World) (x : Value) (hx : x.oneCell' = true) (t : TypeId) : Src P 1 tx (.slice (some ⟨w.heap.size, 0, none⟩) 1 1) 1 [x] (w.alloc (.cells #[x] t)) :=
  Src.ofSlice _ hk _ 1 1 [x] rfl (fun j u hu => by
    cases j with
    | zero => simp at hu; subst hu; simp [Addr.add]
    | succ j => simp at hu) (by simpa using hx)
theorem int_info : (Try.prog.info? 3).map (fun i => (i.zero, i.size, i.bytes)) = some (some (.int .i64 0), 1, 8) := by kernel_rfl
end Go.Proofs.Ytdeghoigpcbmcaa
