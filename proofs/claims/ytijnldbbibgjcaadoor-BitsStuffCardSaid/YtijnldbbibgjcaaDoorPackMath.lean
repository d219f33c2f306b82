/- Bits as bytes: plain facts on lists, no program. -/
import Derived.Test.YtijnldbbibgjcaaDoorEach
namespace Go.Proofs.YtijnldbbibgjcaaDoor
open Go.RowKit

def byteVal (f : Nat → Bool) : Int := 128 * bI (f 0) + 64 * bI (f 1) + 32 * bI (f 2) + 16 * bI (f 3) + 8 * bI (f 4) + 4 * bI (f 5) + 2 * bI (f 6) + bI (f 7)
def padded (bs : List Bool) (m : Nat) : List Int := (List.range m).map fun j => byteVal fun k => bs.getD (8 * j + k) true
def packB (bs : List Bool) : List Int := padded bs ((bs.length + 7) / 8)

theorem byteVal_bd (f : Nat → Bool) : 0 ≤ byteVal f ∧ byteVal f ≤ 255 := by
  have h := fun k => bI_bd (f k)
  have h0 := h 0; have h1 := h 1; have h2 := h 2; have h3 := h 3; have h4 := h 4; have h5 := h 5; have h6 := h 6; have h7 := h 7
  unfold byteVal; omega
theorem padded_length (bs : List Bool) (m : Nat) : (padded bs m).length = m := by simp [padded]
theorem padded_bytes (bs : List Bool) (m : Nat) : AreBytes (padded bs m) := by
  intro x hx
  obtain ⟨j, _, rfl⟩ := List.mem_map.1 hx
  exact byteVal_bd _
theorem padded_at (bs : List Bool) (m j : Nat) (h : j < m) : (padded bs m).getD j 0 = byteVal fun k => bs.getD (8 * j + k) true := by
  rw [List.getD_eq_getElem?_getD]; simp [padded, h]
theorem byteVal_bit (f : Nat → Bool) (k : Nat) (h : k < 8) : byteVal f / 2 ^ (7 - k) % 2 = bI (f k) := by
  have h0 := bI_bd (f 0); have h1 := bI_bd (f 1); have h2 := bI_bd (f 2); have h3 := bI_bd (f 3); have h4 := bI_bd (f 4); have h5 := bI_bd (f 5); have h6 := bI_bd (f 6); have h7 := bI_bd (f 7)
  unfold byteVal
  match k, h with
  | 0, _ => simp only [Nat.sub_zero, Int.reducePow]; omega
  | 1, _ => simp only [Nat.reduceSub, Int.reducePow]; omega
  | 2, _ => simp only [Nat.reduceSub, Int.reducePow]; omega
  | 3, _ => simp only [Nat.reduceSub, Int.reducePow]; omega
  | 4, _ => simp only [Nat.reduceSub, Int.reducePow]; omega
  | 5, _ => simp only [Nat.reduceSub, Int.reducePow]; omega
  | 6, _ => simp only [Nat.reduceSub, Int.reducePow]; omega
  | 7, _ => simp only [Nat.sub_self, Int.pow_zero]; omega
theorem bitAt_padded (bs : List Bool) (m i : Nat) (h : i < 8 * m) : bitAt (padded bs m) i = bI (bs.getD i true) := by
  unfold bitAt
  rw [padded_at _ _ _ (by omega), byteVal_bit _ _ (by omega)]
  have : 8 * (i / 8) + i % 8 = i := by omega
  rw [this]
theorem byteVal_turn (f : Nat → Bool) (x : Bool) (r : Nat) (h : r < 8) (hf : f r = true) : byteVal (fun k => if k = r then x else f k) = byteVal f - (1 - bI x) * 2 ^ (7 - r) := by
  have ht : bI (f r) = 1 := by rw [hf]; rfl
  unfold byteVal
  match r, h with
  | 0, _ => simp only [if_true, if_false, Nat.sub_zero, Int.reducePow, show (1 : Nat) ≠ 0 from by decide, show (2 : Nat) ≠ 0 from by decide, show (3 : Nat) ≠ 0 from by decide, show (4 : Nat) ≠ 0 from by decide, show (5 : Nat) ≠ 0 from by decide, show (6 : Nat) ≠ 0 from by decide, show (7 : Nat) ≠ 0 from by decide]; omega
  | 1, _ => simp; omega
  | 2, _ => simp; omega
  | 3, _ => simp; omega
  | 4, _ => simp; omega
  | 5, _ => simp; omega
  | 6, _ => simp; omega
  | 7, _ => simp; omega
theorem getD_snoc (bs : List Bool) (x : Bool) (i : Nat) : (bs ++ [x]).getD i true = if i = bs.length then x else bs.getD i true := by
  rw [List.getD_eq_getElem?_getD, List.getD_eq_getElem?_getD]
  rcases Nat.lt_trichotomy i bs.length with h | h | h
  · rw [List.getElem?_append_left h, if_neg (by omega)]
  · subst h; simp
  · rw [if_neg (by omega), List.getElem?_eq_none (by simp; omega), List.getElem?_eq_none (by omega)]
theorem padded_snoc (bs : List Bool) (x : Bool) : padded (bs ++ [x]) (bs.length / 8 + 1) =
    (padded bs (bs.length / 8 + 1)).set (bs.length / 8) ((padded bs (bs.length / 8 + 1)).getD (bs.length / 8) 0 - (1 - bI x) * 2 ^ (7 - bs.length % 8)) := by
  apply List.ext_getElem
  · simp [padded_length]
  · intro j h1 h2
    rw [padded_length] at h1
    rw [List.getElem_set]
    have e1 : (padded (bs ++ [x]) (bs.length / 8 + 1))[j] = byteVal fun k => (bs ++ [x]).getD (8 * j + k) true := by simp [padded]
    rw [e1]
    by_cases hj : bs.length / 8 = j
    · rw [if_pos hj, padded_at _ _ _ (by omega), hj]
      rw [← byteVal_turn _ x (bs.length % 8) (by omega) (by rw [List.getD_eq_getElem?_getD, List.getElem?_eq_none (by omega)]; rfl)]
      congr 1
      funext k
      rw [getD_snoc]
      by_cases hk : k = bs.length % 8
      · rw [if_pos (by omega), if_pos hk]
      · by_cases hk8 : 8 * j + k = bs.length
        · exfalso; omega
        · rw [if_neg hk8, if_neg hk]
    · rw [if_neg hj]
      have e2 : (padded bs (bs.length / 8 + 1))[j]'(by rw [padded_length]; omega) = byteVal fun k => bs.getD (8 * j + k) true := by simp [padded]
      rw [e2]
      unfold byteVal
      simp only [getD_snoc]
      rw [if_neg (by omega), if_neg (by omega), if_neg (by omega), if_neg (by omega), if_neg (by omega), if_neg (by omega), if_neg (by omega), if_neg (by omega)]
theorem packB_snoc (bs : List Bool) (x : Bool) : packB (bs ++ [x]) = padded (bs ++ [x]) (bs.length / 8 + 1) := by
  unfold packB
  rw [List.length_append, List.length_singleton]
  congr 1; omega
theorem padded_full (bs : List Bool) (h : bs.length % 8 = 0) : padded bs (bs.length / 8 + 1) = packB bs ++ [255] := by
  unfold packB
  have e : (bs.length + 7) / 8 = bs.length / 8 := by omega
  rw [e]
  unfold padded
  rw [List.range_succ, List.map_append]
  congr 1
  simp only [List.map_cons, List.map_nil]
  congr 1
  have hk : ∀ k, bs.getD (8 * (bs.length / 8) + k) true = true := fun k => by
    rw [List.getD_eq_getElem?_getD, List.getElem?_eq_none (by omega)]; rfl
  unfold byteVal
  simp only [hk]; rfl
theorem padded_part (bs : List Bool) (h : bs.length % 8 ≠ 0) : padded bs (bs.length / 8 + 1) = packB bs := by
  unfold packB
  congr 1; omega
theorem xor_turn : ∀ (a : Fin 256) (r : Fin 8), a.val / 2 ^ r.val % 2 = 1 → a.val ^^^ 2 ^ r.val = a.val - 2 ^ r.val := by decide +kernel
theorem packB_length (bs : List Bool) : (packB bs).length = (bs.length + 7) / 8 := padded_length _ _
end Go.Proofs.YtijnldbbibgjcaaDoor
