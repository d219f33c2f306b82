/- The reference's way to a block, in plain terms: it comes to the same. -/
import Derived.Test.YtbjcjddaaegheaaRCode
namespace Go.Proofs.Ytbjcjddaaegheaa
open Go.RowKit

/-- behind the first number: place, right or wrong, the number -/
def dcR (bs : List Int) (at_ last : Int) (fd : Nat → Nat × Nat) : Int × Bool × Int :=
  let q := rcodeS bs at_ true fd
  let s := rnumS bs q.1 (q.2.1 && decide (q.2.2 ≤ 11)) (min q.2.2 11)
  (s.1, (s.2.1 && decide (-1024 ≤ wrap64 (s.2.2 + last))) && decide (wrap64 (s.2.2 + last) ≤ 1023), wrap64 (s.2.2 + last))
theorem rnumS_off (bs : List Int) (at_ n : Int) : (rnumS bs at_ false n).2.1 = false := by
  unfold rnumS rtakeS
  cases peekR bs at_ n <;> simp
theorem dcR_eq (bs : List Int) (at_ last : Int) (fd : Nat → Nat × Nat) :
    dcS bs at_ last fd = if (dcR bs at_ last fd).2.1 = true then some ((dcR bs at_ last fd).2.2, (dcR bs at_ last fd).1) else none := by
  unfold dcS dcR rcodeS
  cases hc : codeS bs at_ fd with
  | none =>
    simp only [Bool.false_and]
    rw [rnumS_off]; simp
  | some s =>
    simp only
    by_cases h11 : 11 < s
    · have h1 : decide ((s : Int) ≤ 11) = false := by simp; omega
      rw [if_pos h11, h1]
      simp only [Bool.and_false]
      rw [rnumS_off]; simp
    · have h1 : decide ((s : Int) ≤ 11) = true := by simp; omega
      have h2 : min (s : Int) 11 = (s : Int) := by omega
      rw [if_neg h11, h1, h2]
      unfold rnumS rtakeS
      cases hp : peekR bs (at_ + ((fd s).1 : Int)) (s : Int) with
      | none => simp
      | some x =>
        simp only [Bool.and_self, if_true, Bool.true_and]
        by_cases hr : wrap64 (backS x s + last) < -1024 ∨ 1023 < wrap64 (backS x s + last)
        · rw [if_pos hr, if_neg]
          simp; omega
        · rw [if_neg hr, if_pos]
          simp; omega
theorem readR_eq (bs : List Int) (at_ last : Int) (fd fa : Nat → Nat × Nat) :
    readS bs at_ last fd fa = if (dcR bs at_ last fd).2.1 = true then acS bs fa 64 1 (dcR bs at_ last fd).1 ((List.replicate 64 0).set 0 (dcR bs at_ last fd).2.2) else none := by
  unfold readS
  rw [dcR_eq]
  by_cases h : (dcR bs at_ last fd).2.1 = true
  · simp [h]
  · simp [h]
theorem peekR_at {bs : List Int} {at_ n x : Int} (h : peekR bs at_ n = some x) : 0 ≤ at_ ∧ 0 ≤ n ∧ at_ + n ≤ 8 * bs.length := by
  obtain ⟨_, _, h1, h2, h3, h4⟩ := peekR_bd h; exact ⟨h3, h1, h4⟩
theorem rcodeS_bd (bs : List Int) (at_ : Int) (ok : Bool) (f : Nat → Nat × Nat) (L : Int) (hL : 8 * (bs.length : Int) ≤ L) (a0 : -9223372036854775808 ≤ at_) (a1 : at_ ≤ 9223372036854775807) (hL2 : L ≤ 9223372036854775807) :
    -9223372036854775808 ≤ (rcodeS bs at_ ok f).1 ∧ (rcodeS bs at_ ok f).1 ≤ 9223372036854775807 ∧ 0 ≤ (rcodeS bs at_ ok f).2.2 ∧ (rcodeS bs at_ ok f).2.2 < 256 := by
  unfold rcodeS
  cases hc : codeS bs at_ f with
  | none => simp; omega
  | some v => obtain ⟨h1, h2, h3⟩ := codeS_at hc; simp; omega
theorem rnumS_bd (bs : List Int) (at_ : Int) (ok : Bool) (n : Int) (L : Int) (hL : 8 * (bs.length : Int) ≤ L) (a0 : -9223372036854775808 ≤ at_) (a1 : at_ ≤ 9223372036854775807) (hL2 : L ≤ 9223372036854775807) (n0 : 0 ≤ n) (n1 : n ≤ 31) :
    -9223372036854775808 ≤ (rnumS bs at_ ok n).1 ∧ (rnumS bs at_ ok n).1 ≤ 9223372036854775807 ∧ -2147483648 ≤ (rnumS bs at_ ok n).2.2 ∧ (rnumS bs at_ ok n).2.2 ≤ 2147483648 := by
  obtain ⟨N, rfl⟩ := Int.eq_ofNat_of_zero_le n0
  unfold rnumS
  have hb : ∀ x : Int, 0 ≤ x → x < 2 ^ N → -2147483648 ≤ backS x (N : Int) ∧ backS x (N : Int) ≤ 2147483648 := fun x x0 x1 => by
    have p := pow_le_int N 31 (by omega)
    have p2 := pow_pos_int N
    unfold backS
    simp only [Int.toNat_natCast]
    split
    · omega
    · split <;> omega
  unfold rtakeS
  cases hp : peekR bs at_ (N : Int) with
  | none =>
    have := hb 0 (by omega) (by have := pow_pos_int N; omega)
    exact ⟨a0, a1, this.1, this.2⟩
  | some x =>
    obtain ⟨h1, h2, h3⟩ := peekR_at hp
    obtain ⟨x0, x1, _⟩ := peekR_bd hp
    have := hb x x0 x1
    cases ok
    · simp only [Bool.false_eq_true, if_false]; exact ⟨a0, a1, this.1, this.2⟩
    · simp only [if_true]; exact ⟨by omega, by omega, this.1, this.2⟩
end Go.Proofs.Ytbjcjddaaegheaa
