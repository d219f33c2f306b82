/- Ranges swapped, rotated, merged: of lists alone. -/
import Derived.Test.YtdkgficmodcolaaSort2
namespace Go.Proofs.Ytdkgficmodcolaa
open Go.RowKit

theorem swapR_perm (xs : List Nat) (a b : Nat) : ∀ n, a + n ≤ xs.length → b + n ≤ xs.length → (swapR xs a b n).Perm xs
  | 0, _, _ => List.Perm.refl _
  | n + 1, h1, h2 => (swapL_perm _ _ _ (by rw [swapR_length]; omega) (by rw [swapR_length]; omega)).trans (swapR_perm xs a b n (by omega) (by omega))
theorem swapR_getD (xs : List Nat) (a b : Nat) : ∀ n, a + n ≤ b → b + n ≤ xs.length → ∀ k, (swapR xs a b n).getD k 0 = if a ≤ k ∧ k < a + n then xs.getD (k - a + b) 0 else if b ≤ k ∧ k < b + n then xs.getD (k - b + a) 0 else xs.getD k 0
  | 0, _, _, k => by rw [if_neg (by omega), if_neg (by omega)]; rfl
  | n + 1, h1, h2, k => by
    have ih := swapR_getD xs a b n (by omega) (by omega)
    rw [swapR, swapL_getD _ _ _ _ (by rw [swapR_length]; omega) (by rw [swapR_length]; omega) (by omega), ih, ih, ih]
    by_cases e1 : k = b + n
    · subst e1
      rw [if_pos rfl, if_neg (by omega), if_neg (by omega), if_neg (by omega), if_pos (by omega)]
      congr 1; omega
    · rw [if_neg e1]
      by_cases e2 : k = a + n
      · subst e2
        rw [if_pos rfl, if_neg (by omega), if_neg (by omega), if_pos (by omega)]
        congr 1; omega
      · rw [if_neg e2]
        by_cases e3 : a ≤ k ∧ k < a + n
        · rw [if_pos e3, if_pos (by omega)]
        · by_cases e4 : b ≤ k ∧ k < b + n
          · rw [if_neg e3, if_pos e4, if_neg (by omega), if_pos (by omega)]
          · rw [if_neg e3, if_neg e4, if_neg (by omega), if_neg (by omega)]
/-- what is to lie at k when [a, m) and [m, b) are exchanged -/
def rotT (xs : List Nat) (a m b k : Nat) : Nat := if k < a + (b - m) then xs.getD (k + (m - a)) 0 else xs.getD (k - (b - m)) 0
structure RotI (xs ys : List Nat) (a m b i j : Nat) : Prop where
  i0 : 0 < i
  j0 : 0 < j
  ia : a + i ≤ m
  jb : m + j ≤ b
  bl : b ≤ xs.length
  len : ys.length = xs.length
  perm : ys.Perm xs
  out : ∀ k, k < a ∨ b ≤ k → ys.getD k 0 = xs.getD k 0
  lo : ∀ k, a ≤ k → k < m - i → ys.getD k 0 = rotT xs a m b k
  hi : ∀ k, m + j ≤ k → k < b → ys.getD k 0 = rotT xs a m b k
  r1 : ∀ k, m - i ≤ k → k < m - i + j → rotT xs a m b k = ys.getD (k + i) 0
  r2 : ∀ k, m - i + j ≤ k → k < m + j → rotT xs a m b k = ys.getD (k - j) 0
theorem RotI.start (xs : List Nat) (a m b : Nat) (h1 : a < m) (h2 : m < b) (h3 : b ≤ xs.length) : RotI xs xs a m b (m - a) (b - m) :=
  ⟨by omega, by omega, by omega, by omega, h3, rfl, List.Perm.refl _, fun _ _ => rfl, fun k _ _ => by omega, fun k _ _ => by omega,
    fun k h4 h5 => by unfold rotT; rw [if_pos (by omega)], fun k h4 h5 => by unfold rotT; rw [if_neg (by omega)]⟩
theorem RotI.left {xs ys : List Nat} {a m b i j : Nat} (h : RotI xs ys a m b i j) (hij : j < i) : RotI xs (swapR ys (m - i) m j) a m b (i - j) j := by
  have h1 := h.ia
  have h2 := h.jb
  have h3 := h.bl
  have h4 := h.len
  have h5 := h.j0
  have hs := swapR_getD ys (m - i) m j (by omega) (by omega)
  refine ⟨by omega, h5, by omega, h2, h3, by rw [swapR_length]; exact h4, (swapR_perm ys _ _ _ (by omega) (by omega)).trans h.perm, fun k hk => ?_, fun k k1 k2 => ?_, fun k k1 k2 => ?_, fun k k1 k2 => ?_, fun k k1 k2 => ?_⟩
  · rw [hs, if_neg (by omega), if_neg (by omega)]; exact h.out k hk
  · rw [hs]
    by_cases e : m - i ≤ k
    · rw [if_pos (by omega), h.r1 k e (by omega)]
      congr 1; omega
    · rw [if_neg (by omega), if_neg (by omega)]; exact h.lo k k1 (by omega)
  · rw [hs, if_neg (by omega), if_neg (by omega)]; exact h.hi k k1 k2
  · rw [hs, if_neg (by omega), if_pos (by omega), h.r2 k (by omega) (by omega)]
    congr 1; omega
  · rw [hs, if_neg (by omega), if_neg (by omega), h.r2 k (by omega) (by omega)]
theorem RotI.right {xs ys : List Nat} {a m b i j : Nat} (h : RotI xs ys a m b i j) (hij : i < j) : RotI xs (swapR ys (m - i) (m + j - i) i) a m b i (j - i) := by
  have h1 := h.ia
  have h2 := h.jb
  have h3 := h.bl
  have h4 := h.len
  have h5 := h.i0
  have hs := swapR_getD ys (m - i) (m + j - i) i (by omega) (by omega)
  refine ⟨h5, by omega, h1, by omega, h3, by rw [swapR_length]; exact h4, (swapR_perm ys _ _ _ (by omega) (by omega)).trans h.perm, fun k hk => ?_, fun k k1 k2 => ?_, fun k k1 k2 => ?_, fun k k1 k2 => ?_, fun k k1 k2 => ?_⟩
  · rw [hs, if_neg (by omega), if_neg (by omega)]; exact h.out k hk
  · rw [hs, if_neg (by omega), if_neg (by omega)]; exact h.lo k k1 k2
  · rw [hs, if_neg (by omega)]
    by_cases e : k < m + j
    · rw [if_pos (by omega), h.r2 k (by omega) e]
      congr 1; omega
    · rw [if_neg (by omega)]; exact h.hi k (by omega) k2
  · rw [hs, if_neg (by omega), if_neg (by omega), h.r1 k k1 (by omega)]
  · rw [hs, if_pos (by omega), h.r1 k (by omega) (by omega)]
    congr 1; omega
/-- what a rotation makes -/
structure RotS (xs ys : List Nat) (a m b : Nat) : Prop where
  len : ys.length = xs.length
  perm : ys.Perm xs
  out : ∀ k, k < a ∨ b ≤ k → ys.getD k 0 = xs.getD k 0
  at_ : ∀ k, a ≤ k → k < b → ys.getD k 0 = rotT xs a m b k
theorem RotI.done {xs ys : List Nat} {a m b i : Nat} (h : RotI xs ys a m b i i) : RotS xs (swapR ys (m - i) m i) a m b := by
  have h1 := h.ia
  have h2 := h.jb
  have h3 := h.bl
  have h4 := h.len
  have hs := swapR_getD ys (m - i) m i (by omega) (by omega)
  refine ⟨by rw [swapR_length]; exact h4, (swapR_perm ys _ _ _ (by omega) (by omega)).trans h.perm, fun k hk => ?_, fun k k1 k2 => ?_⟩
  · rw [hs, if_neg (by omega), if_neg (by omega)]; exact h.out k hk
  · rw [hs]
    by_cases e1 : m - i ≤ k ∧ k < m - i + i
    · rw [if_pos e1, h.r1 k e1.1 (by omega)]
      congr 1; omega
    · rw [if_neg e1]
      by_cases e2 : m ≤ k ∧ k < m + i
      · rw [if_pos e2, h.r2 k (by omega) (by omega)]
        congr 1; omega
      · rw [if_neg e2]
        by_cases e3 : k < m
        · exact h.lo k k1 (by omega)
        · exact h.hi k (by omega) k2
end Go.Proofs.Ytdkgficmodcolaa
