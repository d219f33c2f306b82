/- Contracts of package num's functions. Conditions: the arguments are int64s. -/
import Derived.Test.YthgbjccjneedgaaNum
import Derived.IntWalk
namespace Go.Proofs.Ythgbjccjneedgaa
open Go.RowKit

theorem ret_int {k : IntKind} {a b : Int} (h : a = b) : Ending.returned (.int k a) = .returned (.int k b) := by rw [h]

def amountS (n : Int) : Int := n.natAbs
def sizeS (n : Int) : Int := Lib.bitLen n.natAbs
def clipS (n lo hi : Int) : Int := if n < lo then lo else if hi < n then hi else n
def ceilS (n d : Int) : Int := if n < 0 ∨ 1099511627776 < n ∨ d < 1 ∨ 1099511627776 < d then 0 else (n + d - 1) / d
def roundS (n d : Int) : Int :=
  if 4611686018427387904 < n ∨ n < -4611686018427387904 ∨ d < 1 ∨ 1152921504606846976 < d then 0 else if n < 0 then -((-n + d / 2) / d) else (n + d / 2) / d
def lowS (n : Int) : Int := if (2147483648 : Int) < n.natAbs then 0 else if n < 0 then n + 2 ^ (sizeS n).toNat - 1 else n
def backS (v s : Int) : Int := if s < 0 ∨ 31 < s ∨ v < 0 ∨ 2 ^ s.toNat ≤ v then 0 else if 2 * v < 2 ^ s.toNat then v - 2 ^ s.toNat + 1 else v

theorem amount_any (n : Int) (w : World) (h0 : -9223372036854775808 ≤ n) (h1 : n ≤ 9223372036854775807) :
    Calls Try.prog 25 #[.int .i64 n] w fun e w' => e = .returned (.int .u64 (amountS n)) ∧ w = w' := by
  rcases Int.lt_or_le n 0 with h | h
  · go_enter Try.func25, Try.ntmps25
    go_wp2
    go_ret
    refine ⟨ret_int ?_, rfl⟩
    show IntKind.u64.wrap (wrap64 (-n)) = _
    unfold wrap64 amountS
    rw [IntKind.wrap_u64]
    omega
  · go_enter Try.func25, Try.ntmps25
    go_wp2
    go_ret
    refine ⟨ret_int ?_, rfl⟩
    unfold amountS
    omega

theorem size_any (n : Int) (w : World) (h0 : -9223372036854775808 ≤ n) (h1 : n ≤ 9223372036854775807) :
    Calls Try.prog 18 #[.int .i64 n] w fun e w' => e = .returned (.int .i64 (sizeS n)) ∧ w = w' := by
  go_enter Try.func18, Try.ntmps18
  go_wp2_with (first | (go_at_call 25; refine (amount_any _ _ h0 h1).mono ?_; rintro e w' ⟨rfl, rfl⟩) | (go_at_call 24; refine (len64_any _ _ (by unfold amountS; omega) (by unfold amountS; omega)).mono ?_; rintro e w' ⟨rfl, rfl⟩))
  go_ret
  exact ⟨ret_int (by unfold sizeS amountS; simp), rfl⟩

theorem clip_any (n lo hi : Int) (w : World) :
    Calls Try.prog 12 #[.int .i64 n, .int .i64 lo, .int .i64 hi] w fun e w' => e = .returned (.int .i64 (clipS n lo hi)) ∧ w = w' := by
  unfold clipS
  by_cases h : n < lo
  · rw [if_pos h]
    go_enter Try.func12, Try.ntmps12
    go_wp2
    go_ret
    exact ⟨rfl, rfl⟩
  · rw [if_neg h]
    by_cases h2 : hi < n
    · rw [if_pos h2]
      go_enter Try.func12, Try.ntmps12
      go_wp2
      go_ret
      exact ⟨rfl, rfl⟩
    · rw [if_neg h2]
      go_enter Try.func12, Try.ntmps12
      go_wp2
      go_ret
      exact ⟨rfl, rfl⟩

theorem ceil_any (n d : Int) (w : World) (h0 : -9223372036854775808 ≤ n) (h1 : n ≤ 9223372036854775807) (k0 : -9223372036854775808 ≤ d) (k1 : d ≤ 9223372036854775807) :
    Calls Try.prog 14 #[.int .i64 n, .int .i64 d] w fun e w' => e = .returned (.int .i64 (ceilS n d)) ∧ w = w' := by
  unfold ceilS
  by_cases a : n < 0
  · rw [if_pos (by omega)]
    go_enter Try.func14, Try.ntmps14
    go_wp2
    go_ret
    exact ⟨rfl, rfl⟩
  by_cases b : 1099511627776 < n
  · rw [if_pos (by omega)]
    go_enter Try.func14, Try.ntmps14
    go_wp2
    go_ret
    exact ⟨rfl, rfl⟩
  by_cases c : d < 1
  · rw [if_pos (by omega)]
    go_enter Try.func14, Try.ntmps14
    go_wp2
    go_ret
    exact ⟨rfl, rfl⟩
  by_cases e : 1099511627776 < d
  · rw [if_pos (by omega)]
    go_enter Try.func14, Try.ntmps14
    go_wp2
    go_ret
    exact ⟨rfl, rfl⟩
  rw [if_neg (by omega)]
  go_enter Try.func14, Try.ntmps14
  go_wp2
  go_ret
  exact ⟨rfl, rfl⟩

theorem round_any (n d : Int) (w : World) (h0 : -9223372036854775808 ≤ n) (h1 : n ≤ 9223372036854775807) (k0 : -9223372036854775808 ≤ d) (k1 : d ≤ 9223372036854775807) :
    Calls Try.prog 16 #[.int .i64 n, .int .i64 d] w fun e w' => e = .returned (.int .i64 (roundS n d)) ∧ w = w' := by
  unfold roundS
  by_cases a : 4611686018427387904 < n
  · rw [if_pos (by omega)]
    go_enter Try.func16, Try.ntmps16
    go_wp2
    go_ret
    exact ⟨rfl, rfl⟩
  by_cases b : n < -4611686018427387904
  · rw [if_pos (by omega)]
    go_enter Try.func16, Try.ntmps16
    go_wp2
    go_ret
    exact ⟨rfl, rfl⟩
  by_cases c : d < 1
  · rw [if_pos (by omega)]
    go_enter Try.func16, Try.ntmps16
    go_wp2
    go_ret
    exact ⟨rfl, rfl⟩
  by_cases e : 1152921504606846976 < d
  · rw [if_pos (by omega)]
    go_enter Try.func16, Try.ntmps16
    go_wp2
    go_ret
    exact ⟨rfl, rfl⟩
  rw [if_neg (by omega)]
  have e1 : (0 : Int) ≤ d / 2 := by omega
  have e2 : d / 2 ≤ 1152921504606846976 := by omega
  by_cases f : n < 0
  · rw [if_pos f]
    have f1 : 0 ≤ (-n + d / 2) / d := Int.ediv_nonneg (by omega) (by omega)
    have f2 : (-n + d / 2) / d ≤ -n + d / 2 := Int.ediv_le_self _ (by omega)
    go_enter Try.func16, Try.ntmps16
    go_wp2
    go_ret
    exact ⟨rfl, rfl⟩
  · rw [if_neg f]
    go_enter Try.func16, Try.ntmps16
    go_wp2
    go_ret
    exact ⟨rfl, rfl⟩

theorem sizeS_nonneg (n : Int) : 0 ≤ sizeS n := by unfold sizeS; omega
theorem sizeS_le (n : Int) (k : Nat) (hk : k ≤ 64) (h : n.natAbs < 2 ^ k) : sizeS n ≤ k := by
  unfold sizeS; have := Lib.bitLen_le n.natAbs k hk h; omega

theorem wrap64_id (n : Int) (h0 : -9223372036854775808 ≤ n) (h1 : n ≤ 9223372036854775807) : wrap64 n = n := by unfold wrap64; omega
theorem pow_le_int (a b : Nat) (h : a ≤ b) : (2 : Int) ^ a ≤ 2 ^ b := by
  have := Nat.pow_le_pow_right (n := 2) (by omega) h
  exact_mod_cast this
theorem pow_pos_int (a : Nat) : (1 : Int) ≤ 2 ^ a := by
  have := Nat.one_le_two_pow (n := a)
  exact_mod_cast this

theorem low_any (n : Int) (w : World) (h0 : -9223372036854775808 ≤ n) (h1 : n ≤ 9223372036854775807) :
    Calls Try.prog 20 #[.int .i64 n] w fun e w' => e = .returned (.int .i64 (lowS n)) ∧ w = w' := by
  unfold lowS
  by_cases a : (2147483648 : Int) < n.natAbs
  · rw [if_pos a]
    have a' : 2147483648 < amountS n := a
    go_enter Try.func20, Try.ntmps20
    go_wp2_with (go_at_call 25; refine (amount_any _ _ h0 h1).mono ?_; rintro e w' ⟨rfl, rfl⟩)
    go_ret
    exact ⟨rfl, rfl⟩
  · rw [if_neg a]
    have a' : ¬ 2147483648 < amountS n := a
    by_cases b : n < 0
    · rw [if_pos b]
      have s0 := sizeS_nonneg n
      have s1 := sizeS_le n 32 (by omega) (by omega)
      have p0 := pow_le_int (sizeS n).toNat 32 (by omega)
      have p1 := pow_pos_int (sizeS n).toNat
      go_enter Try.func20, Try.ntmps20
      go_wp2_with (first | (go_at_call 25; refine (amount_any _ _ h0 h1).mono ?_; rintro e w' ⟨rfl, rfl⟩) | (go_at_call 18; refine (size_any _ _ h0 h1).mono ?_; rintro e w' ⟨rfl, rfl⟩))
      go_ret
      exact ⟨ret_int (by first | rfl | (simp; done)), rfl⟩
    · rw [if_neg b]
      go_enter Try.func20, Try.ntmps20
      go_wp2_with (go_at_call 25; refine (amount_any _ _ h0 h1).mono ?_; rintro e w' ⟨rfl, rfl⟩)
      go_ret
      exact ⟨rfl, rfl⟩

theorem back_any (v s : Int) (w : World) (h0 : -9223372036854775808 ≤ v) (h1 : v ≤ 9223372036854775807) (k0 : -9223372036854775808 ≤ s) (k1 : s ≤ 9223372036854775807) :
    Calls Try.prog 22 #[.int .i64 v, .int .i64 s] w fun e w' => e = .returned (.int .i64 (backS v s)) ∧ w = w' := by
  unfold backS
  by_cases a : s < 0
  · rw [if_pos (by omega)]
    go_enter Try.func22, Try.ntmps22
    go_wp2
    go_ret
    exact ⟨rfl, rfl⟩
  by_cases b : 31 < s
  · rw [if_pos (by omega)]
    go_enter Try.func22, Try.ntmps22
    go_wp2
    go_ret
    exact ⟨rfl, rfl⟩
  by_cases c : v < 0
  · rw [if_pos (by omega)]
    go_enter Try.func22, Try.ntmps22
    go_wp2
    go_ret
    exact ⟨rfl, rfl⟩
  have p0 := pow_le_int s.toNat 31 (by omega)
  have p1 := pow_pos_int s.toNat
  by_cases e : 2 ^ s.toNat ≤ v
  · rw [if_pos (by omega)]
    go_enter Try.func22, Try.ntmps22
    go_wp2
    go_ret
    exact ⟨rfl, rfl⟩
  rw [if_neg (by omega)]
  by_cases f : 2 * v < 2 ^ s.toNat
  · rw [if_pos f]
    go_enter Try.func22, Try.ntmps22
    go_wp2
    go_ret
    exact ⟨rfl, rfl⟩
  · rw [if_neg f]
    go_enter Try.func22, Try.ntmps22
    go_wp2
    go_ret
    exact ⟨rfl, rfl⟩
end Go.Proofs.Ythgbjccjneedgaa
