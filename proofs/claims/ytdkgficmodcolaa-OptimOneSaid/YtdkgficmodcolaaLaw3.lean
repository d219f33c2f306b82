/- Check and Codes of a table that is known; numbers and their weights. -/
import Derived.Test.YtdkgficmodcolaaKnown
import Derived.Test.YtdkgficmodcolaaIsRow
namespace Go.Proofs.Ytdkgficmodcolaa
open Go.RowKit

theorem weights_at {l : List Int} (h : Tame l) {i : Nat} (hi : i < 256) : (weightsS l).getD i 0 = l.getD i 0 ∧ 0 ≤ l.getD i 0 ∧ l.getD i 0 ≤ 1048576 := by
  have hb : 0 ≤ l.getD i 0 ∧ l.getD i 0 ≤ 1048576 := by
    by_cases hl : i < l.length
    · have : l.getD i 0 ∈ l := by rw [List.getD_eq_getElem?_getD, List.getElem?_eq_getElem hl]; exact List.getElem_mem hl
      exact h _ this
    · rw [List.getD_eq_getElem?_getD, List.getElem?_eq_none (by omega)]; simp
  refine ⟨?_, hb⟩
  rw [weightsS_at _ _ hi]
  unfold clipW; omega
theorem own_list {w : World} {base : Nat} {v : Value} {l : List Int} (h : w.ownsRow base 3 1 v l.length (intV l)) (ht : Tame l) (hl : l.length ≤ 300) : ∃ A c, v = .slice A l.length c ∧ ListAt w l A l.length := by
  obtain ⟨A, c, rfl, hr⟩ := own_form h
  exact ⟨A, c, rfl, ⟨rfl, ht.wf, hr, by omega⟩⟩
theorem check_walk (ws : List Int) (cn ys : List Nat) (A : Option Addr) (c : Nat) (W : World) (ht : TabAtW W ws cn ys A) :
    Calls Try.prog 13 #[.agg (tabCells (natsI cn) (.slice A ys.length c))] W fun e w' => e = .returned (.bool true) ∧ Below W.heap.size W w' := by
  obtain ⟨R, hok⟩ := ht.ex
  have := (callsIn_wide (n := 3)).1 (hcheck_in 3 (by omega) (natsI cn) (valsI ys) A ys.length c W (by rw [natsI_len]; exact hok.len) (natsI_wf hok.small) valsI_len (valsI_bytes hok) ht.rd (by have := hok.n256; omega))
  rwa [hok.check] at this
theorem codes_walk (ws : List Int) (cn ys : List Nat) (A : Option Addr) (c : Nat) (W : World) (ht : TabAtW W ws cn ys A) :
    Calls Try.prog 14 #[.agg (tabCells (natsI cn) (.slice A ys.length c))] W fun e w' => e = .returned (.agg (codeC (codesF (natsI cn) (valsI ys)))) ∧ Below W.heap.size W w' := by
  obtain ⟨R, hok⟩ := ht.ex
  exact (callsIn_wide (n := 4)).1 (hcodes_in 4 (by omega) (natsI cn) (valsI ys) A ys.length c W (by rw [natsI_len]; exact hok.len) (natsI_wf hok.small) valsI_len (valsI_bytes hok) ht.rd (by have := hok.n256; omega))
/-- a table's cells: what a walk asks of them -/
structure Cells (cells : Array Value) : Prop where
  sz : (Try.prog.info? 30).map (·.size) = some cells.size
  one : cells.all (·.oneCell') = true
  as0 : (tabCells (List.replicate 16 0) (.slice none 0 0)).size = cells.size
theorem cells_of {cn : List Nat} (h : cn.length = 16) (A : Option Addr) (n c : Nat) : Cells (tabCells (natsI cn) (.slice A n c)) :=
  ⟨size30 _ _ (by rw [natsI_len]; exact h), tabCells_one _ _ rfl, by rw [tabCells_size _ _ (by simp), tabCells_size _ _ (by rw [natsI_len]; exact h)]⟩
end Go.Proofs.Ytdkgficmodcolaa
