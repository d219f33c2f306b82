/- Bytes, and small facts of powers. -/
import Derived.Test.YtdkgficmodcolaaProg
import Derived.Test.YtdkgficmodcolaaWords
import Derived.WalkKit
import Derived.BigQuiet
import Derived.Outline
import Derived.Lib.Hide
import Derived.KernelRfl
namespace Go.Proofs.Ytdkgficmodcolaa
open Go.RowKit

def bytesV (bs : List Int) : List Value := bs.map (Value.int .u8)
def AreBytes (bs : List Int) : Prop := ∀ x ∈ bs, 0 ≤ x ∧ x ≤ 255
theorem getD_bd {bs : List Int} (hb : AreBytes bs) (i : Nat) : 0 ≤ bs.getD i 0 ∧ bs.getD i 0 ≤ 255 := by
  rw [List.getD_eq_getElem?_getD]
  cases h : bs[i]? with
  | none => simp
  | some x => exact hb x (List.mem_of_getElem? h)
theorem pow_le_int (a b : Nat) (h : a ≤ b) : (2 : Int) ^ a ≤ 2 ^ b := by
  have := Nat.pow_le_pow_right (n := 2) (by omega) h
  exact_mod_cast this
theorem pow_pos_int (a : Nat) : (1 : Int) ≤ 2 ^ a := by
  have := Nat.one_le_two_pow (n := a)
  exact_mod_cast this
end Go.Proofs.Ytdkgficmodcolaa
