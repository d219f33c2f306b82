/- What a block reads as: in plain lists. -/
import Derived.Test.YtbjcjddaaegheaaCode
namespace Go.Proofs.Ytbjcjddaaegheaa
open Go.RowKit

def intsC (z : List Int) : Array Value := (z.map (Value.int .i64)).toArray
theorem intsC_size (z : List Int) : (intsC z).size = z.length := by simp [intsC]
theorem intsC_at (z : List Int) (i : Nat) (h : i < z.length) : (intsC z)[i]? = some (.int .i64 (z.getD i 0)) := by
  simp only [intsC, List.getElem?_toArray, List.getElem?_map, List.getElem?_eq_getElem h, List.getD_eq_getElem?_getD]; rfl
theorem intsC_set (z : List Int) (i : Nat) (x : Int) : (intsC z).setIfInBounds i (.int .i64 x) = intsC (z.set i x) := by
  simp [intsC, List.map_set]
theorem intsC_one (z : List Int) : (intsC z).all (·.oneCell') = true := all_one_of fun i v h => by
  simp only [intsC, List.getElem?_toArray, List.getElem?_map] at h
  obtain ⟨x, _, rfl⟩ := Option.map_eq_some_iff.1 h
  rfl
theorem size33 (z : List Int) (h : z.length = 64) : (Try.prog.info? 33).map (·.size) = some (intsC z).size := by rw [intsC_size, h]; kernel_rfl
theorem zero33 : ∀ w, (zeroValue 33).run Try.prog w = .ok (.agg (intsC (List.replicate 64 0))) w := fun w => by kernel_rfl

/-- the numbers from the place k on -/
def acS (bs : List Int) (fa : Nat → Nat × Nat) : Nat → Nat → Int → List Int → Option (List Int × Int)
  | 0, _, at_, z => some (z, at_)
  | n + 1, k, at_, z =>
    if k < 64 then
      match codeS bs at_ fa with
      | none => none
      | some v =>
        if v = 0 then some (z, at_ + (fa v).1)
        else if 64 ≤ k + v / 16 then none
        else if v = 240 then (if k + v / 16 + 1 < 64 then acS bs fa n (k + v / 16 + 1) (at_ + (fa v).1) z else none)
        else if v % 16 = 0 ∨ 10 < v % 16 then none
        else match peekR bs (at_ + (fa v).1) (v % 16 : Nat) with
          | none => none
          | some x => acS bs fa n (k + v / 16 + 1) (at_ + (fa v).1 + (v % 16 : Nat)) (z.set (k + v / 16) (backS x (v % 16 : Nat)))
    else some (z, at_)
def dcS (bs : List Int) (at_ last : Int) (fd : Nat → Nat × Nat) : Option (Int × Int) :=
  match codeS bs at_ fd with
  | none => none
  | some s =>
    if 11 < s then none
    else match peekR bs (at_ + (fd s).1) s with
      | none => none
      | some x => if wrap64 (backS x s + last) < -1024 ∨ 1023 < wrap64 (backS x s + last) then none else some (wrap64 (backS x s + last), at_ + (fd s).1 + s)
def readS (bs : List Int) (at_ last : Int) (fd fa : Nat → Nat × Nat) : Option (List Int × Int) :=
  match dcS bs at_ last fd with
  | none => none
  | some (d, a) => acS bs fa 64 1 a ((List.replicate 64 0).set 0 d)
theorem codeS_at {bs : List Int} {at_ : Int} {f : Nat → Nat × Nat} {v : Nat} (h : codeS bs at_ f = some v) : v < 256 ∧ 0 ≤ at_ ∧ at_ + (f v).1 ≤ 8 * bs.length := by
  obtain ⟨h1, h2, _⟩ := codeS_some h
  obtain ⟨_, h3⟩ := hitB_pos h2
  obtain ⟨_, _, _, _, b0, b1⟩ := peekR_bd h3
  exact ⟨h1, b0, b1⟩
end Go.Proofs.Ytbjcjddaaegheaa
