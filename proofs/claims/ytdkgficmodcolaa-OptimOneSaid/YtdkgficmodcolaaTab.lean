/- Tables: what Check says, what Codes lays: in plain lists; no function of the program. -/
import Derived.Test.YtdkgficmodcolaaBytes
namespace Go.Proofs.Ytdkgficmodcolaa
open Go.RowKit

/-- a table's seventeen cells -/
def tabCells (ct : List Int) (v : Value) : Array Value := (ct.map (Value.int .i64) ++ [v]).toArray
theorem tabCells_size (ct : List Int) (v : Value) (h : ct.length = 16) : (tabCells ct v).size = 17 := by simp [tabCells, h]
theorem tabCells_at (ct : List Int) (v : Value) (i : Nat) (hi : i < ct.length) : (tabCells ct v)[i]? = some (.int .i64 (ct.getD i 0)) := by
  simp only [tabCells, List.getElem?_toArray]
  rw [List.getElem?_append_left (by simpa using hi), List.getElem?_map, List.getElem?_eq_getElem hi, List.getD_eq_getElem?_getD, List.getElem?_eq_getElem hi]; rfl
theorem tabCells_last (ct : List Int) (v : Value) (h : ct.length = 16) : (tabCells ct v)[16]? = some v := by
  simp only [tabCells, List.getElem?_toArray]
  rw [List.getElem?_append_right (by simp [h])]; simp [h]

/-- the reference's first loop, from some length on: none: it says no -/
def rcheck1 : List Int → Nat → Int → Int → Option Int
  | [], _, n, _ => some n
  | c :: t, i, n, code => if c < 0 ∨ 255 < c then none else if 0 < c ∧ 2 ^ (i + 1) - 1 < 2 * code + c then none else rcheck1 t (i + 1) (n + c) (2 * code + c)
def checkEnd (vs : List Int) : Option Int → Bool
  | none => false
  | some n => decide (n = vs.length) && decide (n ≤ 256) && decide vs.Nodup
def checkS (ct : List Int) (vs : List Int) : Bool := checkEnd vs (rcheck1 ct 0 0 0)
end Go.Proofs.Ytdkgficmodcolaa
