/- The codes of a table: in plain lists; the array that holds them. -/
import Derived.Test.YtdkgficmodcolaaHCheck
import Derived.Test.YtdkgficmodcolaaArr
namespace Go.Proofs.Ytdkgficmodcolaa
open Go.RowKit

/-- at each value, the length and the number of its code -/
def codeOf (vs : List Int) (pre : List (Nat × Nat × Nat)) : Nat → Nat × Nat :=
  pre.foldl (fun f x v => if vs.getD x.1 0 = (v : Int) then (x.2.1, x.2.2) else f v) (fun _ => (0, 0))
theorem codeOf_snoc (vs : List Int) (pre : List (Nat × Nat × Nat)) (x : Nat × Nat × Nat) (v : Nat) :
    codeOf vs (pre ++ [x]) v = if vs.getD x.1 0 = (v : Int) then (x.2.1, x.2.2) else codeOf vs pre v := by
  simp [codeOf, List.foldl_append]
def codeL (f : Nat → Nat × Nat) : List Value := (List.range 512).map fun i => .int .i64 (if i % 2 = 0 then (f (i / 2)).1 else (f (i / 2)).2 : Nat)
def codeC (f : Nat → Nat × Nat) : Array Value := (codeL f).toArray
theorem codeC_size (f : Nat → Nat × Nat) : (codeC f).size = 512 := by simp [codeC, codeL]
theorem codeL_length (f : Nat → Nat × Nat) : (codeL f).length = 512 := by simp [codeL]
theorem codeC_get (f : Nat → Nat × Nat) (i : Nat) (h : i < 512) : (codeC f)[i]? = some (.int .i64 (if i % 2 = 0 then (f (i / 2)).1 else (f (i / 2)).2 : Nat)) := by
  simp only [codeC, codeL, List.getElem?_toArray, List.getElem?_map, List.getElem?_range h, Option.map_some]
theorem codeC_n (f : Nat → Nat × Nat) (v : Nat) (h : v < 256) : (codeC f)[v * 2]? = some (.int .i64 (f v).1) := by
  rw [codeC_get f _ (by omega), if_pos (by omega), show v * 2 / 2 = v by omega]
theorem codeC_v (f : Nat → Nat × Nat) (v : Nat) (h : v < 256) : (codeC f)[v * 2 + 1]? = some (.int .i64 (f v).2) := by
  rw [codeC_get f _ (by omega), if_neg (by omega), show (v * 2 + 1) / 2 = v by omega]
theorem codeC_zero : codeC (fun _ => (0, 0)) = Array.replicate 512 (.int .i64 0) := by
  apply Array.ext_getElem?
  intro i
  rw [Array.getElem?_replicate]
  by_cases hi : i < 512
  · rw [codeC_get _ i hi, if_pos hi]; simp
  · rw [Array.getElem?_eq_none (by rw [codeC_size]; omega), if_neg hi]
theorem codeC_one (f : Nat → Nat × Nat) : (codeC f).all (·.oneCell') = true := all_one_of fun i v h => by
  by_cases hi : i < 512
  · rw [codeC_get f i hi] at h; obtain rfl := Option.some.inj h; rfl
  · rw [Array.getElem?_eq_none (by rw [codeC_size]; omega)] at h; cases h
theorem size38 (f : Nat → Nat × Nat) : (Try.prog.info? 38).map (·.size) = some (codeC f).size := by rw [codeC_size]; kernel_rfl
theorem codeC_congr {f g : Nat → Nat × Nat} (h : ∀ v, v < 256 → f v = g v) : codeC f = codeC g := by
  apply Array.ext_getElem?
  intro i
  by_cases hi : i < 512
  · rw [codeC_get _ i hi, codeC_get _ i hi, h _ (by omega)]
  · rw [Array.getElem?_eq_none (by rw [codeC_size]; omega), Array.getElem?_eq_none (by rw [codeC_size]; omega)]
theorem codeC_snoc (vs : List Int) (pre : List (Nat × Nat × Nat)) (x : Nat × Nat × Nat) (v : Nat) (h : v < 256) (hv : vs.getD x.1 0 = (v : Int)) :
    ((codeC (codeOf vs pre)).setIfInBounds (v * 2) (.int .i64 x.2.1)).setIfInBounds (v * 2 + 1) (.int .i64 x.2.2) = codeC (codeOf vs (pre ++ [x])) := by
  apply Array.ext_getElem?
  intro i
  rw [Array.getElem?_setIfInBounds, Array.getElem?_setIfInBounds]
  by_cases hi : i < 512
  · rw [codeC_get (codeOf vs (pre ++ [x])) i hi, codeC_get _ i hi, codeOf_snoc, hv]
    simp only [Array.size_setIfInBounds, codeC_size]
    by_cases h1 : v * 2 + 1 = i
    · subst h1
      have e1 : (v * 2 + 1) / 2 = v := by omega
      have e2 : ¬ (v * 2 + 1) % 2 = 0 := by omega
      simp [e1]; omega
    · by_cases h2 : v * 2 = i
      · subst h2
        have e1 : (v * 2) / 2 = v := by omega
        have e2 : (v * 2) % 2 = 0 := by omega
        simp [e1, e2]; omega
      · have e1 : ¬ ((v : Int) = ((i / 2 : Nat) : Int)) := by omega
        rw [if_neg h1, if_neg h2, if_neg e1]
  · rw [Array.getElem?_eq_none (by rw [codeC_size]; omega), Array.getElem?_eq_none (by rw [codeC_size]; omega), if_neg (by omega), if_neg (by omega)]

/-- Codes of a table -/
def codesF (ct vs : List Int) : Nat → Nat × Nat :=
  if checkS ct vs = true then codeOf vs (laidC (ct.map Int.toNat) 0 0 0) else fun _ => (0, 0)
theorem codesF_no (ct vs : List Int) (h : checkS ct vs = false) : codesF ct vs = fun _ => (0, 0) := by unfold codesF; rw [if_neg (by simp [h])]
theorem natsI_toNat (cn : List Nat) : (natsI cn).map Int.toNat = cn := by
  induction cn with
  | nil => rfl
  | cons n t ih => rw [natsI_cons, List.map_cons, ih]; simp
theorem codesF_yes (cn : List Nat) (vs : List Int) (h : checkS (natsI cn) vs = true) : codesF (natsI cn) vs = codeOf vs (laidC cn 0 0 0) := by
  unfold codesF; rw [if_pos h, natsI_toNat]
theorem zero38 : ∀ w, (zeroValue 38).run Try.prog w = .ok (.agg (Array.replicate 512 (.int .i64 0))) w := fun w => by kernel_rfl
end Go.Proofs.Ytdkgficmodcolaa
