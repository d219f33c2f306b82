/- An argument that is a slice of bytes. -/
import Derived.Test.YtdkgficmodcolaaOften
namespace Go.Proofs.Ytdkgficmodcolaa
open Go.RowKit
def IsRow (k : IntKind) (w : World) (a : Option Addr) (len cap : Nat) (zs : List Int) : Prop :=
  (a = none ∧ len = 0 ∧ cap = 0 ∧ zs = []) ∨
  ∃ x, a = some x ∧ len ≤ cap ∧ cap ≤ maxLen ∧ zs.length = cap ∧ (∀ i, i < zs.length → w.cell? (x.add i) = some (.int k (zs.getD i 0))) ∧ ∀ n ∈ zs, (Lit.int k n).wf = true
theorem bounds_u8 {n : Int} (h : (Lit.int .u8 n).wf = true) : 0 ≤ n ∧ n ≤ 255 := by
  simp [Lit.wf, IntKind.min, IntKind.max, IntKind.signed, IntKind.bits] at h; omega
theorem bounds_u16 {n : Int} (h : (Lit.int .u16 n).wf = true) : 0 ≤ n ∧ n ≤ 65535 := by
  simp [Lit.wf, IntKind.min, IntKind.max, IntKind.signed, IntKind.bits] at h; omega
theorem row_reads {w : World} {A : Option Addr} {len cap : Nat} {zs : List Int} (h : IsRow .u8 w A len cap zs) :
    ∃ bs : List Int, bs.length = len ∧ len ≤ cap ∧ cap ≤ maxLen ∧ AreBytes bs ∧ Reads w w.heap.size 1 A len (bytesV bs) := by
  rcases h with ⟨rfl, rfl, rfl, rfl⟩ | ⟨x, rfl, h1, h2, h3, h4, h5⟩
  · exact ⟨[], rfl, Nat.le_refl _, by unfold maxLen; omega, (fun x hx => by cases hx), ⟨rfl, fun h => absurd h (by omega)⟩⟩
  · have hl : (zs.take len).length = len := by rw [List.length_take]; omega
    refine ⟨zs.take len, hl, h1, h2, fun x hx => bounds_u8 (h5 x (List.mem_of_mem_take hx)), ⟨by rw [bytesV, List.length_map, hl]; omega, fun hn => ⟨x, rfl, ?_, fun j u hu => ?_⟩⟩⟩
    · have := World.block_lt_of_cell? w _ (h4 0 (by omega))
      rwa [block_of_add] at this
    · rw [bytesV, List.getElem?_map] at hu
      obtain ⟨y, hy, rfl⟩ := Option.map_eq_some_iff.1 hu
      have hj : j < (zs.take len).length := (List.getElem?_eq_some_iff.1 hy).1
      rw [hl] at hj
      rw [List.getElem?_take, if_pos hj] at hy
      rw [h4 j (by omega), List.getD_eq_getElem?_getD, hy]; rfl

end Go.Proofs.Ytdkgficmodcolaa
