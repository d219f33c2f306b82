/- The laid codes and the reference's first loop: in plain lists. -/
import Derived.Test.YtdkgficmodcolaaLaid
namespace Go.Proofs.Ytdkgficmodcolaa
open Go.RowKit

theorem lev_mem {i n a b : Nat} {e : Nat × Nat × Nat} (h : e ∈ lev i n a b) : a ≤ e.1 ∧ e.1 < a + n ∧ e.2.1 = i + 1 ∧ b ≤ e.2.2 ∧ e.2.2 < b + n := by
  induction n generalizing a b with
  | zero => cases h
  | succ n ih =>
    rcases List.mem_cons.1 h with rfl | h
    · simp
    · have := ih h; omega
theorem lev_last (i n a b : Nat) : (a + n, i + 1, b + n) ∈ lev i (n + 1) a b := by
  induction n generalizing a b with
  | zero => simp [lev]
  | succ n ih =>
    have := ih (a + 1) (b + 1)
    rw [lev]
    refine List.mem_cons_of_mem _ ?_
    rwa [show a + 1 + n = a + (n + 1) by omega, show b + 1 + n = b + (n + 1) by omega] at this
theorem lev_at (i n a b : Nat) : (lev i n a b).map (·.1) = List.range' a n := by
  induction n generalizing a b with
  | zero => rfl
  | succ n ih => simp [lev, ih, List.range'_succ]
theorem laidC_at (cn : List Nat) (i a b : Nat) : (laidC cn i a b).map (·.1) = List.range' a cn.sum := by
  induction cn generalizing i a b with
  | nil => rfl
  | cons n t ih =>
    rw [laidC, List.map_append, lev_at, ih, List.sum_cons, List.range'_append_1]
theorem laidC_length (cn : List Nat) (i a b : Nat) : (laidC cn i a b).length = cn.sum := by
  have := congrArg List.length (laidC_at cn i a b)
  simpa using this
theorem laidC_mem {cn : List Nat} {i a b : Nat} {e : Nat × Nat × Nat} (h : e ∈ laidC cn i a b) : i + 1 ≤ e.2.1 ∧ e.2.1 ≤ i + cn.length ∧ a ≤ e.1 ∧ e.1 < a + cn.sum := by
  induction cn generalizing i a b with
  | nil => cases h
  | cons n t ih =>
    rw [laidC] at h
    rw [List.length_cons, List.sum_cons]
    rcases List.mem_append.1 h with h | h
    · have := lev_mem h; omega
    · have := ih h; omega
theorem natsI_cons (n : Nat) (t : List Nat) : natsI (n :: t) = (n : Int) :: natsI t := rfl

theorem rcheck1_nat (cn : List Nat) (hb : ∀ x ∈ cn, x ≤ 255) (i a : Nat) (n : Int) (b : Nat) :
    rcheck1 (natsI cn) i n b = if (∀ e ∈ laidC cn i a b, e.2.2 + 1 < 2 ^ e.2.1) then some (n + cn.sum) else none := by
  induction cn generalizing i a n b with
  | nil => simp [natsI, rcheck1, laidC]
  | cons c t ih =>
    have hc := hb c List.mem_cons_self
    rw [natsI_cons, rcheck1, if_neg (by omega)]
    have hp : (2 : Int) ^ (i + 1) = ((2 ^ (i + 1) : Nat) : Int) := by simp
    by_cases hf : 0 < (c : Int) ∧ (2 : Int) ^ (i + 1) - 1 < 2 * (b : Int) + c
    · rw [if_pos hf, if_neg]
      intro hall
      obtain ⟨k, rfl⟩ : ∃ k, c = k + 1 := ⟨c - 1, by omega⟩
      have := hall (a + k, i + 1, 2 * b + k) (by rw [laidC]; exact List.mem_append_left _ (lev_last i k a (2 * b)))
      simp only at this
      rw [hp] at hf
      omega
    · rw [if_neg hf]
      have e : (2 * (b : Int) + (c : Int)) = ((2 * b + c : Nat) : Int) := by simp
      rw [e, ih (fun x hx => hb x (List.mem_cons_of_mem _ hx)) (i + 1) (a + c)]
      have hiff : (∀ e ∈ laidC (c :: t) i a b, e.2.2 + 1 < 2 ^ e.2.1) ↔ (∀ e ∈ laidC t (i + 1) (a + c) (2 * b + c), e.2.2 + 1 < 2 ^ e.2.1) := by
        constructor
        · intro h e he
          exact h e (by rw [laidC]; exact List.mem_append_right _ he)
        · intro h e he
          rw [laidC] at he
          rcases List.mem_append.1 he with he | he
          · obtain ⟨_, h2, h3, h4, h5⟩ := lev_mem he
            rw [h3]
            rw [hp] at hf
            omega
          · exact h e he
      rw [List.sum_cons]
      by_cases hq : ∀ e ∈ laidC t (i + 1) (a + c) (2 * b + c), e.2.2 + 1 < 2 ^ e.2.1
      · rw [if_pos hq, if_pos (hiff.2 hq)]; congr 1; simp; omega
      · rw [if_neg hq, if_neg (fun h => hq (hiff.1 h))]
theorem rcheck1_bad (ct : List Int) (h : ¬ ∀ x ∈ ct, 0 ≤ x ∧ x ≤ 255) (i : Nat) (n b : Int) : rcheck1 ct i n b = none := by
  induction ct generalizing i n b with
  | nil => exact absurd (fun x hx => by cases hx) h
  | cons c t ih =>
    rw [rcheck1]
    by_cases hc : c < 0 ∨ 255 < c
    · rw [if_pos hc]
    · rw [if_neg hc]
      split
      · rfl
      · refine ih (fun hall => h fun x hx => ?_) _ _ _
        rcases List.mem_cons.1 hx with rfl | hx
        · omega
        · exact hall x hx
theorem natsI_of {ct : List Int} (h : ∀ x ∈ ct, 0 ≤ x ∧ x ≤ 255) : ∃ cn : List Nat, ct = natsI cn ∧ cn.length = ct.length ∧ ∀ x ∈ cn, x ≤ 255 := by
  refine ⟨ct.map Int.toNat, ?_, by simp, ?_⟩
  · unfold natsI
    rw [List.map_map]
    conv => lhs; rw [← List.map_id ct]
    refine List.map_congr_left fun x hx => ?_
    have := h x hx
    simp [Int.toNat_of_nonneg this.1]
  · intro x hx
    obtain ⟨y, hy, rfl⟩ := List.mem_map.1 hx
    have := h y hy; omega
/-- what Check says, of counts that are small -/
theorem checkS_nat (cn : List Nat) (vs : List Int) (hb : ∀ x ∈ cn, x ≤ 255) :
    checkS (natsI cn) vs = decide (cn.sum = vs.length ∧ cn.sum ≤ 256 ∧ vs.Nodup ∧ ∀ e ∈ laidC cn 0 0 0, e.2.2 + 1 < 2 ^ e.2.1) := by
  unfold checkS
  have := rcheck1_nat cn hb 0 0 0 0
  rw [show ((0 : Nat) : Int) = 0 by rfl] at this
  rw [this]
  by_cases hq : ∀ e ∈ laidC cn 0 0 0, e.2.2 + 1 < 2 ^ e.2.1
  · rw [if_pos hq]
    simp only [checkEnd]
    rw [Bool.eq_iff_iff]
    simp only [Bool.and_eq_true, decide_eq_true_eq]
    constructor
    · rintro ⟨⟨h1, h2⟩, h3⟩; exact ⟨by omega, by omega, h3, hq⟩
    · rintro ⟨h1, h2, h3, _⟩; exact ⟨⟨by omega, by omega⟩, h3⟩
  · rw [if_neg hq]
    simp only [checkEnd]
    symm
    rw [decide_eq_false_iff_not]
    rintro ⟨_, _, _, h⟩
    exact hq h
theorem checkS_bad (ct vs : List Int) (h : ¬ ∀ x ∈ ct, 0 ≤ x ∧ x ≤ 255) : checkS ct vs = false := by
  unfold checkS; rw [rcheck1_bad ct h]; rfl
end Go.Proofs.Ytdkgficmodcolaa
