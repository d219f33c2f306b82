/- Contracts of the reference's functions of chapter 01: they return what the plain functions tell. Conditions: the arguments are int64s. -/
import Derived.Test.YtbjcjddaaegheaaNum
import Derived.IntWalk
namespace Go.Proofs.Ytbjcjddaaegheaa
open Go.RowKit

theorem ret_int {k : IntKind} {a b : Int} (h : a = b) : Ending.returned (.int k a) = .returned (.int k b) := by rw [h]

def amountS (n : Int) : Int := n.natAbs
def sizeS (n : Int) : Int := Lib.bitLen n.natAbs
def lowS (n : Int) : Int := if (2147483648 : Int) < n.natAbs then 0 else if n < 0 then n + 2 ^ (sizeS n).toNat - 1 else n
def backS (v s : Int) : Int := if s < 0 ∨ 31 < s ∨ v < 0 ∨ 2 ^ s.toNat ≤ v then 0 else if 2 * v < 2 ^ s.toNat then v - 2 ^ s.toNat + 1 else v

theorem amount_any (n : Int) (w : World) (h0 : -9223372036854775808 ≤ n) (h1 : n ≤ 9223372036854775807) :
    Calls Try.prog 36 #[.int .i64 n] w fun e w' => e = .returned (.int .u64 (amountS n)) ∧ w = w' := by
  rcases Int.lt_or_le n 0 with h | h
  · go_enter Try.func36, Try.ntmps36
    go_wp2
    go_ret
    refine ⟨ret_int ?_, rfl⟩
    show IntKind.u64.wrap (wrap64 (-n)) = _
    unfold wrap64 amountS
    rw [IntKind.wrap_u64]
    omega
  · go_enter Try.func36, Try.ntmps36
    go_wp2
    go_ret
    refine ⟨ret_int ?_, rfl⟩
    unfold amountS
    omega

theorem size_any (n : Int) (w : World) (h0 : -9223372036854775808 ≤ n) (h1 : n ≤ 9223372036854775807) :
    Calls Try.prog 23 #[.int .i64 n] w fun e w' => e = .returned (.int .i64 (sizeS n)) ∧ w = w' := by
  go_enter Try.func23, Try.ntmps23
  go_wp2_with (first | (go_at_call 36; refine (amount_any _ _ h0 h1).mono ?_; rintro e w' ⟨rfl, rfl⟩) | (go_at_call 35; refine (len64_any _ _ (by unfold amountS; omega) (by unfold amountS; omega)).mono ?_; rintro e w' ⟨rfl, rfl⟩))
  go_ret
  exact ⟨ret_int (by unfold sizeS amountS; simp), rfl⟩

theorem sizeS_nonneg (n : Int) : 0 ≤ sizeS n := by unfold sizeS; omega
theorem sizeS_le (n : Int) (k : Nat) (hk : k ≤ 64) (h : n.natAbs < 2 ^ k) : sizeS n ≤ k := by
  unfold sizeS; have := Lib.bitLen_le n.natAbs k hk h; omega

theorem wrap64_id (n : Int) (h0 : -9223372036854775808 ≤ n) (h1 : n ≤ 9223372036854775807) : wrap64 n = n := by unfold wrap64; omega
theorem pow_le_int (a b : Nat) (h : a ≤ b) : (2 : Int) ^ a ≤ 2 ^ b := by
  have := Nat.pow_le_pow_right (n := 2) (by omega) h
  exact_mod_cast this
theorem pow_pos_int (a : Nat) : (1 : Int) ≤ 2 ^ a := by
  have := Nat.one_le_two_pow (n := a)
  exact_mod_cast this

theorem low_any (n : Int) (w : World) (h0 : -9223372036854775808 ≤ n) (h1 : n ≤ 9223372036854775807) :
    Calls Try.prog 37 #[.int .i64 n] w fun e w' => e = .returned (.int .i64 (lowS n)) ∧ w = w' := by
  unfold lowS
  by_cases a : (2147483648 : Int) < n.natAbs
  · rw [if_pos a]
    have a' : 2147483648 < amountS n := a
    go_enter Try.func37, Try.ntmps37
    go_wp2_with (go_at_call 36; refine (amount_any _ _ h0 h1).mono ?_; rintro e w' ⟨rfl, rfl⟩)
    go_ret
    exact ⟨rfl, rfl⟩
  · rw [if_neg a]
    have a' : ¬ 2147483648 < amountS n := a
    by_cases b : n < 0
    · rw [if_pos b]
      have s0 := sizeS_nonneg n
      have s1 := sizeS_le n 32 (by omega) (by omega)
      have p0 := pow_le_int (sizeS n).toNat 32 (by omega)
      have p1 := pow_pos_int (sizeS n).toNat
      go_enter Try.func37, Try.ntmps37
      go_wp2_with (first | (go_at_call 36; refine (amount_any _ _ h0 h1).mono ?_; rintro e w' ⟨rfl, rfl⟩) | (go_at_call 23; refine (size_any _ _ h0 h1).mono ?_; rintro e w' ⟨rfl, rfl⟩))
      go_ret
      exact ⟨ret_int (by first | rfl | (simp; done)), rfl⟩
    · rw [if_neg b]
      go_enter Try.func37, Try.ntmps37
      go_wp2_with (go_at_call 36; refine (amount_any _ _ h0 h1).mono ?_; rintro e w' ⟨rfl, rfl⟩)
      go_ret
      exact ⟨rfl, rfl⟩

theorem back_any (v s : Int) (w : World) (h0 : -9223372036854775808 ≤ v) (h1 : v ≤ 9223372036854775807) (k0 : -9223372036854775808 ≤ s) (k1 : s ≤ 9223372036854775807) :
    Calls Try.prog 48 #[.int .i64 v, .int .i64 s] w fun e w' => e = .returned (.int .i64 (backS v s)) ∧ w = w' := by
  unfold backS
  by_cases a : s < 0
  · rw [if_pos (by omega)]
    go_enter Try.func48, Try.ntmps48
    go_wp2
    go_ret
    exact ⟨rfl, rfl⟩
  by_cases b : 31 < s
  · rw [if_pos (by omega)]
    go_enter Try.func48, Try.ntmps48
    go_wp2
    go_ret
    exact ⟨rfl, rfl⟩
  by_cases c : v < 0
  · rw [if_pos (by omega)]
    go_enter Try.func48, Try.ntmps48
    go_wp2
    go_ret
    exact ⟨rfl, rfl⟩
  have p0 := pow_le_int s.toNat 31 (by omega)
  have p1 := pow_pos_int s.toNat
  by_cases e : 2 ^ s.toNat ≤ v
  · rw [if_pos (by omega)]
    go_enter Try.func48, Try.ntmps48
    go_wp2
    go_ret
    exact ⟨rfl, rfl⟩
  rw [if_neg (by omega)]
  by_cases f : 2 * v < 2 ^ s.toNat
  · rw [if_pos f]
    go_enter Try.func48, Try.ntmps48
    go_wp2
    go_ret
    exact ⟨rfl, rfl⟩
  · rw [if_neg f]
    go_enter Try.func48, Try.ntmps48
    go_wp2
    go_ret
    exact ⟨rfl, rfl⟩
end Go.Proofs.Ytbjcjddaaegheaa
namespace Go.Proofs.Ytbjcjddaaegheaa
open Go.RowKit

theorem sizeS_zero : sizeS 0 = 0 := by decide
theorem sizeS_half (n : Int) (h : 0 < n) (h1 : n ≤ 9223372036854775807) : sizeS n = 1 + sizeS (n / 2) := by
  unfold sizeS
  have e := Lib.bitLen_half n.natAbs (by omega) (by omega)
  have e2 : (n / 2).natAbs = n.natAbs / 2 := by omega
  rw [e2]; omega

theorem rsize_any (n : Int) (w : World) (h0 : -9223372036854775808 ≤ n) (h1 : n ≤ 9223372036854775807) :
    Calls Try.prog 31 #[.int .i64 n] w fun e w' => e = .returned (.int .i64 (sizeS n)) ∧ w = w' := by
  by_cases a : n = -9223372036854775808
  · subst a
    go_enter Try.func31, Try.ntmps31
    go_wp2
    go_ret
    exact ⟨ret_int (by decide), rfl⟩
  have ha : (n == -9223372036854775808) = false := by simpa using a
  obtain ⟨m, hm⟩ : ∃ m : Int, m = n.natAbs := ⟨_, rfl⟩
  have hS : sizeS n = sizeS m := by unfold sizeS; rw [hm, Int.natAbs_natCast]
  have hm0 : 0 ≤ m := by omega
  have hm1 : m ≤ 9223372036854775807 := by omega
  have hSm := sizeS_le m 63 (by omega) (by omega)
  rw [hS]
  by_cases b : n < 0
  · obtain rfl : n = -m := by omega
    clear hm hS
    go_enter Try.func31, Try.ntmps31
    go_wp2
    go_loop [0, 3] (fun x k => ∃ y j : Int, x = .int .i64 y ∧ k = .int .i64 j ∧ 0 ≤ y ∧ y ≤ 9223372036854775807 ∧ 0 ≤ j ∧ j + sizeS y = sizeS m) (fun x _ => (intOf x).toNat)
    case atStart => exact ⟨m, 0, by simp, rfl, hm0, hm1, by omega, by omega⟩
    case round =>
      obtain ⟨y, j, rfl, rfl, hy0, hy1, hj, hrel⟩ := hrel
      by_cases hy : 0 < y
      · have hh := sizeS_half y hy hy1
        have hn := sizeS_nonneg (y / 2)
        have H := Lib.hid hh
        have hrel' : j + 1 + sizeS (y / 2) = sizeS m := by omega
        have HR := Lib.hid hrel'
        have hj2 : j ≤ 63 := by omega
        clear hh hrel hrel' 
        go_wp2
        go_round
        case rel => exact ⟨y / 2, j + 1, rfl, rfl, by omega, by omega, by omega, HR.out⟩
        case measure => simp [intOf]; omega
      · obtain rfl : y = 0 := by omega
        rw [sizeS_zero] at hrel
        have HR := Lib.hid hrel
        clear hrel
        go_wp2
        go_ret
        exact ⟨ret_int (by have := HR.out; omega), rfl⟩
  · obtain rfl : n = m := by omega
    clear hm hS
    go_enter Try.func31, Try.ntmps31
    go_wp2
    go_loop [0, 3] (fun x k => ∃ y j : Int, x = .int .i64 y ∧ k = .int .i64 j ∧ 0 ≤ y ∧ y ≤ 9223372036854775807 ∧ 0 ≤ j ∧ j + sizeS y = sizeS n) (fun x _ => (intOf x).toNat)
    case atStart => exact ⟨n, 0, by simp, rfl, hm0, hm1, by omega, by omega⟩
    case round =>
      obtain ⟨y, j, rfl, rfl, hy0, hy1, hj, hrel⟩ := hrel
      by_cases hy : 0 < y
      · have hh := sizeS_half y hy hy1
        have hn := sizeS_nonneg (y / 2)
        have H := Lib.hid hh
        have hrel' : j + 1 + sizeS (y / 2) = sizeS n := by omega
        have HR := Lib.hid hrel'
        have hj2 : j ≤ 63 := by omega
        clear hh hrel hrel' 
        go_wp2
        go_round
        case rel => exact ⟨y / 2, j + 1, rfl, rfl, by omega, by omega, by omega, HR.out⟩
        case measure => simp [intOf]; omega
      · obtain rfl : y = 0 := by omega
        rw [sizeS_zero] at hrel
        have HR := Lib.hid hrel
        clear hrel
        go_wp2
        go_ret
        exact ⟨ret_int (by have := HR.out; omega), rfl⟩

theorem pow_succ_nat (k : Nat) : (2 : Int) ^ (k + 1) = 2 * 2 ^ k := by rw [Int.pow_succ]; omega

theorem rlow_any (n : Int) (w : World) (h0 : -9223372036854775808 ≤ n) (h1 : n ≤ 9223372036854775807) :
    Calls Try.prog 42 #[.int .i64 n] w fun e w' => e = .returned (.int .i64 (lowS n)) ∧ w = w' := by
  unfold lowS
  by_cases a : 2147483648 < n
  · rw [if_pos (by omega)]
    go_enter Try.func42, Try.ntmps42
    go_wp2_with fail
    go_ret
    exact ⟨rfl, rfl⟩
  by_cases b : n < -2147483648
  · rw [if_pos (by omega)]
    go_enter Try.func42, Try.ntmps42
    go_wp2_with fail
    go_ret
    exact ⟨rfl, rfl⟩
  rw [if_neg (by omega)]
  by_cases c : n < 0
  · rw [if_pos c]
    have s0 := sizeS_nonneg n
    have s1 := sizeS_le n 32 (by omega) (by omega)
    obtain ⟨m, hm⟩ : ∃ m : Nat, m = (sizeS n).toNat := ⟨_, rfl⟩
    have hm2 : m ≤ 32 := by omega
    rw [← hm]
    have hsm : sizeS n = m := by omega
    have HM := Lib.hid hsm
    have hsz : ∀ w, Calls Try.prog 31 #[.int .i64 n] w fun e w' => e = .returned (.int .i64 m) ∧ w = w' := fun w => by rw [← HM.out]; exact rsize_any n w h0 h1
    have HS := Lib.hid hsz
    clear hm hsm hsz
    go_enter Try.func42, Try.ntmps42
    go_wp2_with fail
    go_loop [3, 4] (fun p i => ∃ k : Nat, k ≤ m ∧ i = .int .i64 k ∧ p = .int .i64 (2 ^ k)) (fun _ i => m - (intOf i).toNat)
    case atStart => exact ⟨0, by omega, rfl, rfl⟩
    case round =>
      obtain ⟨k, hk, rfl, rfl⟩ := hrel
      have p0 := pow_le_int k 32 (by omega)
      have p1 := pow_pos_int k
      by_cases hlt : k < m
      · have p2 := pow_le_int (k + 1) 32 (by omega)
        have hp := pow_succ_nat k
        have HP := Lib.hid hp
        clear hp
        go_wp2_with (go_at_call 31; refine (HS.out _).mono ?_; rintro e w' ⟨rfl, rfl⟩)
        go_round
        case rel => exact ⟨k + 1, by omega, by go_num, by rw [HP.out]⟩
        case measure => simp [intOf]; omega
      · obtain rfl : k = m := by omega
        go_wp2_with (go_at_call 31; refine (HS.out _).mono ?_; rintro e w' ⟨rfl, rfl⟩)
        go_ret
        exact ⟨rfl, rfl⟩
  · rw [if_neg c]
    go_enter Try.func42, Try.ntmps42
    go_wp2_with fail
    go_ret
    exact ⟨rfl, rfl⟩

theorem rback_any (v s : Int) (w : World) (h0 : -9223372036854775808 ≤ v) (h1 : v ≤ 9223372036854775807) (k0 : -9223372036854775808 ≤ s) (k1 : s ≤ 9223372036854775807) :
    Calls Try.prog 45 #[.int .i64 v, .int .i64 s] w fun e w' => e = .returned (.int .i64 (backS v s)) ∧ w = w' := by
  obtain ⟨m, hm⟩ : ∃ m : Nat, m = (min s 31).toNat := ⟨_, rfl⟩
  have hm1 : m ≤ 31 := by omega
  have p0 := pow_le_int m 31 (by omega)
  have p1 := pow_pos_int m
  go_enter Try.func45, Try.ntmps45
  go_wp2
  go_loop [5, 6] (fun p i => ∃ k : Nat, k ≤ m ∧ i = .int .i64 k ∧ p = .int .i64 (2 ^ k)) (fun _ i => m - (intOf i).toNat)
  case atStart => exact ⟨0, by omega, rfl, rfl⟩
  case round =>
    obtain ⟨k, hk, rfl, rfl⟩ := hrel
    by_cases hlt : k < m
    · have q0 := pow_le_int k 31 (by omega)
      have q1 := pow_pos_int k
      have p2 := pow_le_int (k + 1) 31 (by omega)
      have hp := pow_succ_nat k
      have HP := Lib.hid hp
      have t1 : (k : Int) < s := by omega
      have t2 : (k : Int) < 31 := by omega
      have HM := Lib.hid hm
      clear hp hm
      go_wp2
      go_round
      case rel => exact ⟨k + 1, by omega, by go_num, by rw [HP.out]⟩
      case measure => simp [intOf]; omega
    · obtain rfl : k = m := by omega
      have hx : ¬ ((k : Int) < s ∧ (k : Int) < 31) := by omega
      by_cases a : s < 0
      · clear hm
        go_wp2
        go_ret
        exact ⟨ret_int (by unfold backS; rw [if_pos (by omega)]), rfl⟩
      by_cases b : 31 < s
      · obtain rfl : k = 31 := by omega
        clear hm
        go_wp2
        go_ret
        exact ⟨ret_int (by unfold backS; rw [if_pos (by omega)]), rfl⟩
      obtain rfl : s = k := by omega
      by_cases c : v < 0
      · clear hm
        go_wp2
        go_ret
        exact ⟨ret_int (by unfold backS; rw [if_pos (by omega)]), rfl⟩
      by_cases e : 2 ^ k ≤ v
      · clear hm
        go_wp2
        go_ret
        exact ⟨ret_int (by unfold backS; rw [if_pos (by rw [Int.toNat_natCast]; omega)]), rfl⟩
      by_cases f : 2 * v < 2 ^ k
      · clear hm
        go_wp2
        go_ret
        exact ⟨ret_int (by unfold backS; rw [if_neg (by rw [Int.toNat_natCast]; omega), if_pos (by rw [Int.toNat_natCast]; omega), Int.toNat_natCast]), rfl⟩
      · clear hm
        go_wp2
        go_ret
        exact ⟨ret_int (by unfold backS; rw [if_neg (by rw [Int.toNat_natCast]; omega), if_neg (by rw [Int.toNat_natCast]; omega)]), rfl⟩
end Go.Proofs.Ytbjcjddaaegheaa
