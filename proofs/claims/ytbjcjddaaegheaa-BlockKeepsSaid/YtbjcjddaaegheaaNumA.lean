/- Contracts of package num's functions. Conditions: the arguments are int64s. -/
import Derived.Test.YtbjcjddaaegheaaNum
import Derived.IntWalk
namespace Go.Proofs.Ytbjcjddaaegheaa
open Go.RowKit

theorem ret_int {k : IntKind} {a b : Int} (h : a = b) : Ending.returned (.int k a) = .returned (.int k b) := by rw [h]

def amountS (n : Int) : Int := n.natAbs
def sizeS (n : Int) : Int := Lib.bitLen n.natAbs
def lowS (n : Int) : Int := if (2147483648 : Int) < n.natAbs then 0 else if n < 0 then n + 2 ^ (sizeS n).toNat - 1 else n
def backS (v s : Int) : Int := if s < 0 ∨ 31 < s ∨ v < 0 ∨ 2 ^ s.toNat ≤ v then 0 else if 2 * v < 2 ^ s.toNat then v - 2 ^ s.toNat + 1 else v

theorem amount_any (n : Int) (w : World) (h0 : -9223372036854775808 ≤ n) (h1 : n ≤ 9223372036854775807) :
    Calls Try.prog 36 #[.int .i64 n] w fun e w' => e = .returned (.int .u64 (amountS n)) ∧ w = w' := by
  rcases Int.lt_or_le n 0 with h | h
  · go_enter Try.func36, Try.ntmps36
    go_wp2
    go_ret
    refine ⟨ret_int ?_, rfl⟩
    show IntKind.u64.wrap (wrap64 (-n)) = _
    unfold wrap64 amountS
    rw [IntKind.wrap_u64]
    omega
  · go_enter Try.func36, Try.ntmps36
    go_wp2
    go_ret
    refine ⟨ret_int ?_, rfl⟩
    unfold amountS
    omega

theorem size_any (n : Int) (w : World) (h0 : -9223372036854775808 ≤ n) (h1 : n ≤ 9223372036854775807) :
    Calls Try.prog 23 #[.int .i64 n] w fun e w' => e = .returned (.int .i64 (sizeS n)) ∧ w = w' := by
  go_enter Try.func23, Try.ntmps23
  go_wp2_with (first | (go_at_call 36; refine (amount_any _ _ h0 h1).mono ?_; rintro e w' ⟨rfl, rfl⟩) | (go_at_call 35; refine (len64_any _ _ (by unfold amountS; omega) (by unfold amountS; omega)).mono ?_; rintro e w' ⟨rfl, rfl⟩))
  go_ret
  exact ⟨ret_int (by unfold sizeS amountS; simp), rfl⟩

theorem sizeS_nonneg (n : Int) : 0 ≤ sizeS n := by unfold sizeS; omega
theorem sizeS_le (n : Int) (k : Nat) (hk : k ≤ 64) (h : n.natAbs < 2 ^ k) : sizeS n ≤ k := by
  unfold sizeS; have := Lib.bitLen_le n.natAbs k hk h; omega

theorem wrap64_id (n : Int) (h0 : -9223372036854775808 ≤ n) (h1 : n ≤ 9223372036854775807) : wrap64 n = n := by unfold wrap64; omega
theorem pow_le_int (a b : Nat) (h : a ≤ b) : (2 : Int) ^ a ≤ 2 ^ b := by
  have := Nat.pow_le_pow_right (n := 2) (by omega) h
  exact_mod_cast this
theorem pow_pos_int (a : Nat) : (1 : Int) ≤ 2 ^ a := by
  have := Nat.one_le_two_pow (n := a)
  exact_mod_cast this

theorem low_any (n : Int) (w : World) (h0 : -9223372036854775808 ≤ n) (h1 : n ≤ 9223372036854775807) :
    Calls Try.prog 37 #[.int .i64 n] w fun e w' => e = .returned (.int .i64 (lowS n)) ∧ w = w' := by
  unfold lowS
  by_cases a : (2147483648 : Int) < n.natAbs
  · rw [if_pos a]
    have a' : 2147483648 < amountS n := a
    go_enter Try.func37, Try.ntmps37
    go_wp2_with (go_at_call 36; refine (amount_any _ _ h0 h1).mono ?_; rintro e w' ⟨rfl, rfl⟩)
    go_ret
    exact ⟨rfl, rfl⟩
  · rw [if_neg a]
    have a' : ¬ 2147483648 < amountS n := a
    by_cases b : n < 0
    · rw [if_pos b]
      have s0 := sizeS_nonneg n
      have s1 := sizeS_le n 32 (by omega) (by omega)
      have p0 := pow_le_int (sizeS n).toNat 32 (by omega)
      have p1 := pow_pos_int (sizeS n).toNat
      go_enter Try.func37, Try.ntmps37
      go_wp2_with (first | (go_at_call 36; refine (amount_any _ _ h0 h1).mono ?_; rintro e w' ⟨rfl, rfl⟩) | (go_at_call 23; refine (size_any _ _ h0 h1).mono ?_; rintro e w' ⟨rfl, rfl⟩))
      go_ret
      exact ⟨ret_int (by first | rfl | (simp; done)), rfl⟩
    · rw [if_neg b]
      go_enter Try.func37, Try.ntmps37
      go_wp2_with (go_at_call 36; refine (amount_any _ _ h0 h1).mono ?_; rintro e w' ⟨rfl, rfl⟩)
      go_ret
      exact ⟨rfl, rfl⟩

theorem back_any (v s : Int) (w : World) (h0 : -9223372036854775808 ≤ v) (h1 : v ≤ 9223372036854775807) (k0 : -9223372036854775808 ≤ s) (k1 : s ≤ 9223372036854775807) :
    Calls Try.prog 48 #[.int .i64 v, .int .i64 s] w fun e w' => e = .returned (.int .i64 (backS v s)) ∧ w = w' := by
  unfold backS
  by_cases a : s < 0
  · rw [if_pos (by omega)]
    go_enter Try.func48, Try.ntmps48
    go_wp2
    go_ret
    exact ⟨rfl, rfl⟩
  by_cases b : 31 < s
  · rw [if_pos (by omega)]
    go_enter Try.func48, Try.ntmps48
    go_wp2
    go_ret
    exact ⟨rfl, rfl⟩
  by_cases c : v < 0
  · rw [if_pos (by omega)]
    go_enter Try.func48, Try.ntmps48
    go_wp2
    go_ret
    exact ⟨rfl, rfl⟩
  have p0 := pow_le_int s.toNat 31 (by omega)
  have p1 := pow_pos_int s.toNat
  by_cases e : 2 ^ s.toNat ≤ v
  · rw [if_pos (by omega)]
    go_enter Try.func48, Try.ntmps48
    go_wp2
    go_ret
    exact ⟨rfl, rfl⟩
  rw [if_neg (by omega)]
  by_cases f : 2 * v < 2 ^ s.toNat
  · rw [if_pos f]
    go_enter Try.func48, Try.ntmps48
    go_wp2
    go_ret
    exact ⟨rfl, rfl⟩
  · rw [if_neg f]
    go_enter Try.func48, Try.ntmps48
    go_wp2
    go_ret
    exact ⟨rfl, rfl⟩
end Go.Proofs.Ytbjcjddaaegheaa
