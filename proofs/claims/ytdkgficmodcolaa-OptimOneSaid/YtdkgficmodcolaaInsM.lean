/- Sorting by insertion, merging: what lies where, of lists alone. -/
import Derived.Test.YtdkgficmodcolaaRotate
namespace Go.Proofs.Ytdkgficmodcolaa
open Go.RowKit

/-- ys has in [a, b) what xs has there, and is xs elsewhere -/
structure Inn (xs ys : List Nat) (a b : Nat) : Prop where
  len : ys.length = xs.length
  perm : ys.Perm xs
  out : ∀ k, k < a ∨ b ≤ k → ys.getD k 0 = xs.getD k 0
  inn : ∀ k, a ≤ k → k < b → ∃ k', a ≤ k' ∧ k' < b ∧ ys.getD k 0 = xs.getD k' 0
theorem Inn.refl (xs : List Nat) (a b : Nat) : Inn xs xs a b := ⟨rfl, List.Perm.refl _, fun _ _ => rfl, fun k h1 h2 => ⟨k, h1, h2, rfl⟩⟩
theorem Inn.trans {xs ys zs : List Nat} {a b : Nat} (h1 : Inn xs ys a b) (h2 : Inn ys zs a b) : Inn xs zs a b :=
  ⟨h2.len.trans h1.len, h2.perm.trans h1.perm, fun k hk => (h2.out k hk).trans (h1.out k hk), fun k k1 k2 => by
    obtain ⟨k', e1, e2, e3⟩ := h2.inn k k1 k2
    obtain ⟨k'', f1, f2, f3⟩ := h1.inn k' e1 e2
    exact ⟨k'', f1, f2, e3.trans f3⟩⟩
theorem Inn.wide {xs ys : List Nat} {a b a' b' : Nat} (h : Inn xs ys a b) (ha : a' ≤ a) (hb : b ≤ b') : Inn xs ys a' b' :=
  ⟨h.len, h.perm, fun k hk => h.out k (by omega), fun k k1 k2 => by
    by_cases e : a ≤ k ∧ k < b
    · obtain ⟨k', f1, f2, f3⟩ := h.inn k e.1 e.2
      exact ⟨k', by omega, by omega, f3⟩
    · exact ⟨k, k1, k2, h.out k (by omega)⟩⟩
theorem Inn.swap (xs : List Nat) {a b i j : Nat} (hi : a ≤ i ∧ i < b) (hj : a ≤ j ∧ j < b) (hb : b ≤ xs.length) (hij : i ≠ j) : Inn xs (swapL xs i j) a b := by
  have hs := swapL_getD xs i j
  refine ⟨swapL_length _ _ _, swapL_perm _ _ _ (by omega) (by omega), fun k hk => ?_, fun k k1 k2 => ?_⟩
  · rw [hs k (by omega) (by omega) hij, if_neg (by omega), if_neg (by omega)]
  · rw [hs k (by omega) (by omega) hij]
    by_cases e1 : k = j
    · rw [if_pos e1]; exact ⟨i, hi.1, hi.2, rfl⟩
    · rw [if_neg e1]
      by_cases e2 : k = i
      · rw [if_pos e2]; exact ⟨j, hj.1, hj.2, rfl⟩
      · rw [if_neg e2]; exact ⟨k, k1, k2, rfl⟩
/-- sorted by f in [a, b) -/
def Srt (f : Nat → Int) (xs : List Nat) (a b : Nat) : Prop := ∀ i j, a ≤ i → i ≤ j → j < b → f (xs.getD i 0) ≤ f (xs.getD j 0)
theorem Srt.one (f : Nat → Int) (xs : List Nat) (a b : Nat) (h : b ≤ a + 1) : Srt f xs a b := fun i j h1 h2 h3 => by
  obtain rfl : i = j := by omega
  exact Int.le_refl _
theorem Srt.sub {f : Nat → Int} {xs : List Nat} {a b a' b' : Nat} (h : Srt f xs a b) (ha : a ≤ a') (hb : b' ≤ b) : Srt f xs a' b' := fun i j h1 h2 h3 => h i j (by omega) h2 (by omega)
theorem Srt.congr {f : Nat → Int} {xs ys : List Nat} {a b : Nat} (h : Srt f xs a b) (he : ∀ k, a ≤ k → k < b → ys.getD k 0 = xs.getD k 0) : Srt f ys a b := fun i j h1 h2 h3 => by
  rw [he i h1 (by omega), he j (by omega) h3]; exact h i j h1 h2 h3
/-- one is being inserted: it lies at j -/
structure InsI (f : Nat → Int) (zs : List Nat) (a i j : Nat) : Prop where
  rest : ∀ p q, a ≤ p → p ≤ q → q ≤ i → p ≠ j → q ≠ j → f (zs.getD p 0) ≤ f (zs.getD q 0)
  up : ∀ q, j < q → q ≤ i → f (zs.getD j 0) ≤ f (zs.getD q 0)
theorem InsI.start {f : Nat → Int} {ys : List Nat} {a i : Nat} (h : Srt f ys a i) : InsI f ys a i i :=
  ⟨fun p q h1 h2 h3 h4 h5 => h p q h1 h2 (by omega), fun q h1 h2 => by omega⟩
theorem InsI.step {f : Nat → Int} {zs : List Nat} {a i j : Nat} (h : InsI f zs a i j) (ha : a < j) (hji : j ≤ i) (hi : i < zs.length) (hl : f (zs.getD j 0) < f (zs.getD (j - 1) 0)) : InsI f (swapL zs j (j - 1)) a i (j - 1) := by
  have hs := fun k => swapL_getD zs j (j - 1) k (by omega) (by omega) (by omega)
  refine ⟨fun p q h1 h2 h3 h4 h5 => ?_, fun q h1 h2 => ?_⟩
  · rw [hs p, hs q, if_neg h4, if_neg h5]
    by_cases e1 : p = j
    · rw [if_pos e1]
      by_cases e2 : q = j
      · rw [if_pos e2]; exact Int.le_refl _
      · rw [if_neg e2]; exact h.rest (j - 1) q (by omega) (by omega) h3 (by omega) (by omega)
    · rw [if_neg e1]
      by_cases e2 : q = j
      · rw [if_pos e2]; exact h.rest p (j - 1) h1 (by omega) (by omega) e1 (by omega)
      · rw [if_neg e2]; exact h.rest p q h1 h2 h3 e1 e2
  · rw [hs (j - 1), hs q, if_pos rfl, if_neg (by omega)]
    by_cases e2 : q = j
    · rw [if_pos e2]; omega
    · rw [if_neg e2]; exact h.up q (by omega) h2
theorem InsI.done {f : Nat → Int} {zs : List Nat} {a i j : Nat} (h : InsI f zs a i j) (hl : j = a ∨ f (zs.getD (j - 1) 0) ≤ f (zs.getD j 0)) : Srt f zs a (i + 1) := fun p q h1 h2 h3 => by
  by_cases e1 : p = j
  · by_cases e2 : q = j
    · rw [e1, e2]; exact Int.le_refl _
    · rw [e1]; exact h.up q (by omega) (by omega)
  · by_cases e2 : q = j
    · rw [e2]
      rcases hl with hl | hl
      · omega
      · by_cases e3 : j - 1 = p
        · rw [← e3]; exact hl
        · exact Int.le_trans (h.rest p (j - 1) h1 (by omega) (by omega) e1 (by omega)) hl
    · exact h.rest p q h1 h2 (by omega) e1 e2
theorem cmpS_lt (a b : Int) : cmpS a b < 0 ↔ a < b := by
  unfold cmpS
  split
  · simp; assumption
  · split
    · simp; omega
    · simp; omega
end Go.Proofs.Ytdkgficmodcolaa
