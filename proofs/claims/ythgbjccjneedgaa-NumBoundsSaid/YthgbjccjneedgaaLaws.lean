/- The laws of chapter 01 as calls: each returns true and leaves the world as it was. Conditions: the arguments are of their kinds. -/
import Derived.Test.YthgbjccjneedgaaKnown
namespace Go.Proofs.Ythgbjccjneedgaa
open Go.RowKit
theorem bounds_i64 {n : Int} (h : (Lit.int .i64 n).wf = true) : -9223372036854775808 ≤ n ∧ n ≤ 9223372036854775807 := by
  simp only [Lit.wf, IntKind.min, IntKind.max, IntKind.signed, IntKind.bits, Bool.and_eq_true, decide_eq_true_eq, if_true] at h; omega
theorem bounds_u8 {n : Int} (h : (Lit.int .u8 n).wf = true) : 0 ≤ n ∧ n ≤ 255 := by
  simp [Lit.wf, IntKind.min, IntKind.max, IntKind.signed, IntKind.bits] at h; omega
theorem bounds_u16 {n : Int} (h : (Lit.int .u16 n).wf = true) : 0 ≤ n ∧ n ≤ 65535 := by
  simp [Lit.wf, IntKind.min, IntKind.max, IntKind.signed, IntKind.bits] at h; omega
theorem bounds_i32 {n : Int} (h : (Lit.int .i32 n).wf = true) : -2147483648 ≤ n ∧ n ≤ 2147483647 := by
  simp [Lit.wf, IntKind.min, IntKind.max, IntKind.signed, IntKind.bits] at h; omega
theorem bounds_u32 {n : Int} (h : (Lit.int .u32 n).wf = true) : 0 ≤ n ∧ n ≤ 4294967295 := by
  simp [Lit.wf, IntKind.min, IntKind.max, IntKind.signed, IntKind.bits] at h; omega
theorem shr_bd (n : Int) (j : Nat) (h0 : -9223372036854775808 ≤ n) (h1 : n ≤ 9223372036854775807) : -9223372036854775808 ≤ n / 2 ^ j ∧ n / 2 ^ j ≤ 9223372036854775807 := by
  have p := pow_pos_int j
  constructor
  · rcases Int.lt_or_le n 0 with h | h
    · have := Int.le_ediv_of_mul_le (a := n) (b := n) (c := 2 ^ j) (by omega) (by
        have : n * 2 ^ j ≤ n * 1 := Int.mul_le_mul_of_nonpos_left (by omega) (by omega)
        omega)
      omega
    · have := Int.ediv_nonneg (a := n) (b := 2 ^ j) h (by omega)
      omega
  · rcases Int.lt_or_le n 0 with h | h
    · have := Int.ediv_neg_of_neg_of_pos (a := n) (b := 2 ^ j) h (by omega)
      omega
    · have := Int.ediv_le_self (a := n) (2 ^ j) h
      omega

theorem clips_walk (n lo hi d k : Int) (w : World) (hn : (Lit.int .i64 n).wf = true) (hl : (Lit.int .i64 lo).wf = true) (hh : (Lit.int .i64 hi).wf = true) (hd : (Lit.int .i64 d).wf = true) (hk : (Lit.int .u8 k).wf = true) :
    Calls Try.prog 3 #[.int .i64 n, .int .i64 lo, .int .i64 hi, .int .i64 d, .int .u8 k] w fun e w' => e = .returned (.bool true) ∧ w = w' := by
  obtain ⟨n0, n1⟩ := bounds_i64 hn
  obtain ⟨l0, l1⟩ := bounds_i64 hl
  obtain ⟨h0, h1⟩ := bounds_i64 hh
  obtain ⟨d0, d1⟩ := bounds_i64 hd
  obtain ⟨k0, k1⟩ := bounds_u8 hk
  clear hn hl hh hd hk
  obtain ⟨m0, m1⟩ := shr_bd n (k % 64).toNat n0 n1
  obtain ⟨e0, e1⟩ := shr_bd d (k % 60).toNat d0 d1
  go_enter Try.func3, Try.ntmps3
  go_wp2_with fail
  refine (known_any _).mono ?_
  rintro e w' ⟨rfl, rfl⟩
  go_wp2_with fail
  refine (clip_any _ _ _ _).mono ?_
  rintro e w' ⟨rfl, rfl⟩
  go_wp2_with fail
  refine (rclip_any _ _ _ _).mono ?_
  rintro e w' ⟨rfl, rfl⟩
  go_wp2_with fail
  refine (ceil_any _ _ _ n0 n1 d0 d1).mono ?_
  rintro e w' ⟨rfl, rfl⟩
  go_wp2_with fail
  refine (rceil_any _ _ _ n0 n1 d0 d1).mono ?_
  rintro e w' ⟨rfl, rfl⟩
  go_wp2_with fail
  refine (ceil_any _ _ _ m0 m1 e0 e1).mono ?_
  rintro e w' ⟨rfl, rfl⟩
  go_wp2_with fail
  refine (rceil_any _ _ _ m0 m1 e0 e1).mono ?_
  rintro e w' ⟨rfl, rfl⟩
  go_wp2_with fail
  refine (round_any _ _ _ n0 n1 d0 d1).mono ?_
  rintro e w' ⟨rfl, rfl⟩
  go_wp2_with fail
  refine (rround_any _ _ _ n0 n1 d0 d1).mono ?_
  rintro e w' ⟨rfl, rfl⟩
  go_wp2_with fail
  refine (round_any _ _ _ m0 m1 e0 e1).mono ?_
  rintro e w' ⟨rfl, rfl⟩
  go_wp2_with fail
  refine (rround_any _ _ _ m0 m1 e0 e1).mono ?_
  rintro e w' ⟨rfl, rfl⟩
  go_wp2_with fail
  go_ret
  exact ⟨by simp, rfl⟩

theorem sizes_walk (n v s k : Int) (w : World) (hn : (Lit.int .i64 n).wf = true) (hv : (Lit.int .i64 v).wf = true) (hs : (Lit.int .i64 s).wf = true) (hk : (Lit.int .u8 k).wf = true) :
    Calls Try.prog 4 #[.int .i64 n, .int .i64 v, .int .i64 s, .int .u8 k] w fun e w' => e = .returned (.bool true) ∧ w = w' := by
  obtain ⟨n0, n1⟩ := bounds_i64 hn
  obtain ⟨v0, v1⟩ := bounds_i64 hv
  obtain ⟨s0, s1⟩ := bounds_i64 hs
  obtain ⟨k0, k1⟩ := bounds_u8 hk
  clear hn hv hs hk
  obtain ⟨m0, m1⟩ := shr_bd n (k % 64).toNat n0 n1
  obtain ⟨e0, e1⟩ := shr_bd v (k % 64).toNat v0 v1
  go_enter Try.func4, Try.ntmps4
  go_wp2_with fail
  refine (known_any _).mono ?_
  rintro e w' ⟨rfl, rfl⟩
  go_wp2_with fail
  refine (size_any _ _ n0 n1).mono ?_
  rintro e w' ⟨rfl, rfl⟩
  go_wp2_with fail
  refine (rsize_any _ _ n0 n1).mono ?_
  rintro e w' ⟨rfl, rfl⟩
  go_wp2_with fail
  refine (size_any _ _ m0 m1).mono ?_
  rintro e w' ⟨rfl, rfl⟩
  go_wp2_with fail
  refine (rsize_any _ _ m0 m1).mono ?_
  rintro e w' ⟨rfl, rfl⟩
  go_wp2_with fail
  refine (low_any _ _ n0 n1).mono ?_
  rintro e w' ⟨rfl, rfl⟩
  go_wp2_with fail
  refine (rlow_any _ _ n0 n1).mono ?_
  rintro e w' ⟨rfl, rfl⟩
  go_wp2_with fail
  refine (low_any _ _ m0 m1).mono ?_
  rintro e w' ⟨rfl, rfl⟩
  go_wp2_with fail
  refine (rlow_any _ _ m0 m1).mono ?_
  rintro e w' ⟨rfl, rfl⟩
  go_wp2_with fail
  refine (back_any _ _ _ v0 v1 s0 s1).mono ?_
  rintro e w' ⟨rfl, rfl⟩
  go_wp2_with fail
  refine (rback_any _ _ _ v0 v1 s0 s1).mono ?_
  rintro e w' ⟨rfl, rfl⟩
  go_wp2_with fail
  refine (back_any _ _ _ e0 e1 (by omega) (by omega)).mono ?_
  rintro e w' ⟨rfl, rfl⟩
  go_wp2_with fail
  refine (rback_any _ _ _ e0 e1 (by omega) (by omega)).mono ?_
  rintro e w' ⟨rfl, rfl⟩
  go_wp2_with fail
  go_ret
  exact ⟨by simp, rfl⟩

theorem bounds_walk (n a b : Int) (w : World) (ha : (Lit.int .i32 a).wf = true) (hb : (Lit.int .i32 b).wf = true) :
    Calls Try.prog 8 #[.int .i64 n, .int .i32 a, .int .i32 b] w fun e w' => e = .returned (.bool true) ∧ w = w' := by
  obtain ⟨a0, a1⟩ := bounds_i32 ha
  obtain ⟨b0, b1⟩ := bounds_i32 hb
  clear ha hb
  have hm : min a b ≤ max a b := by omega
  have m0 : -2147483648 ≤ min a b := by omega
  have m1 : max a b ≤ 2147483647 := by omega
  by_cases p : n < min a b
  · have c1 : clipS n (min a b) (max a b) = min a b := by unfold clipS; rw [if_pos p]
    have c2 : clipS (min a b) (min a b) (max a b) = min a b := by unfold clipS; rw [if_neg (by omega), if_neg (by omega)]
    have C1 := Lib.hid c1
    have C2 := Lib.hid c2
    clear c1 c2
    go_enter Try.func8, Try.ntmps8
    go_wp2_with fail
    refine (ret_eq (clip_any _ _ _ _) C1.out).mono ?_
    rintro e w' ⟨rfl, rfl⟩
    go_wp2_with fail
    refine (known_any _).mono ?_
    rintro e w' ⟨rfl, rfl⟩
    go_wp2_with fail
    refine (ret_eq (clip_any _ _ _ _) C2.out).mono ?_
    rintro e w' ⟨rfl, rfl⟩
    go_wp2_with fail
    go_ret
    exact ⟨by simp, rfl⟩
  by_cases q : max a b < n
  · have c1 : clipS n (min a b) (max a b) = max a b := by unfold clipS; rw [if_neg p, if_pos q]
    have c2 : clipS (max a b) (min a b) (max a b) = max a b := by unfold clipS; rw [if_neg (by omega), if_neg (by omega)]
    have C1 := Lib.hid c1
    have C2 := Lib.hid c2
    clear c1 c2
    go_enter Try.func8, Try.ntmps8
    go_wp2_with fail
    refine (ret_eq (clip_any _ _ _ _) C1.out).mono ?_
    rintro e w' ⟨rfl, rfl⟩
    go_wp2_with fail
    refine (known_any _).mono ?_
    rintro e w' ⟨rfl, rfl⟩
    go_wp2_with fail
    refine (ret_eq (clip_any _ _ _ _) C2.out).mono ?_
    rintro e w' ⟨rfl, rfl⟩
    go_wp2_with fail
    go_ret
    exact ⟨by simp, rfl⟩
  have c1 : clipS n (min a b) (max a b) = n := by unfold clipS; rw [if_neg p, if_neg q]
  have C1 := Lib.hid c1
  clear c1
  go_enter Try.func8, Try.ntmps8
  go_wp2_with fail
  refine (ret_eq (clip_any _ _ _ _) C1.out).mono ?_
  rintro e w' ⟨rfl, rfl⟩
  go_wp2_with fail
  refine (known_any _).mono ?_
  rintro e w' ⟨rfl, rfl⟩
  go_wp2_with fail
  refine (ret_eq (clip_any _ _ _ _) C1.out).mono ?_
  rintro e w' ⟨rfl, rfl⟩
  go_wp2_with fail
  go_ret
  exact ⟨by simp, rfl⟩

theorem bitLen_tells : ∀ (b x : Nat), x ≤ b → x < 2 ^ 64 → x < 2 ^ Lib.bitLen x ∧ (0 < x → 2 ^ Lib.bitLen x ≤ 2 * x)
  | 0, x, hb, _ => by
    obtain rfl : x = 0 := by omega
    exact ⟨by decide, fun h => by omega⟩
  | b + 1, x, hb, h64 => by
    by_cases h0 : x = 0
    · subst h0
      exact ⟨by decide, fun h => by omega⟩
    · have e := Lib.bitLen_half x h0 h64
      obtain ⟨r1, r2⟩ := bitLen_tells b (x / 2) (by omega) (by omega)
      rw [e, Nat.add_comm, Nat.pow_succ]
      refine ⟨by omega, fun _ => ?_⟩
      by_cases h1 : x / 2 = 0
      · rw [h1]
        have : Lib.bitLen 0 = 0 := by decide
        rw [this]; omega
      · have := r2 (by omega)
        omega

theorem size_tells (n : Int) (h : n.natAbs < 2 ^ 64) : (n.natAbs : Int) < 2 ^ (sizeS n).toNat ∧ (n ≠ 0 → (2 : Int) ^ (sizeS n).toNat ≤ 2 * n.natAbs) := by
  obtain ⟨a, b⟩ := bitLen_tells n.natAbs n.natAbs (by omega) h
  have e : (sizeS n).toNat = Lib.bitLen n.natAbs := by unfold sizeS; omega
  rw [e]
  refine ⟨by exact_mod_cast a, fun h0 => ?_⟩
  have := b (by omega)
  exact_mod_cast this

theorem low_eq (n : Int) (h : n.natAbs ≤ 2147483648) : lowS n = if n < 0 then n + 2 ^ (sizeS n).toNat - 1 else n := by
  unfold lowS; rw [if_neg (by omega)]

theorem back_eq (v s : Int) (h0 : 0 ≤ s) (h1 : s ≤ 31) (v0 : 0 ≤ v) (v1 : v < 2 ^ s.toNat) : backS v s = if 2 * v < 2 ^ s.toNat then v - 2 ^ s.toNat + 1 else v := by
  unfold backS; rw [if_neg (by omega)]

theorem low_bd (n : Int) (h : n.natAbs < 2147483648) : 0 ≤ lowS n ∧ lowS n < 2 ^ (sizeS n).toNat := by
  rw [low_eq n (by omega)]
  obtain ⟨a, b⟩ := size_tells n (by omega)
  split <;> omega

theorem back_low (n : Int) (h : n.natAbs < 2147483648) : backS (lowS n) (sizeS n) = n := by
  obtain ⟨a, b⟩ := size_tells n (by omega)
  obtain ⟨c, d⟩ := low_bd n h
  rw [back_eq _ _ (sizeS_nonneg n) (by have := sizeS_le n 31 (by omega) (by omega); omega) c d, low_eq n (by omega)]
  by_cases h0 : n = 0
  · subst h0; simp [sizeS_zero]
  · have := b h0
    by_cases hn : n < 0
    · rw [if_pos hn, if_pos (by omega)]; omega
    · rw [if_neg hn, if_neg (by omega)]

theorem back_inj (n x : Int) (h : n.natAbs < 2147483648) (x0 : 0 ≤ x) (x1 : x < 2 ^ (sizeS n).toNat) : backS x (sizeS n) = n ↔ x = lowS n := by
  obtain ⟨a, b⟩ := size_tells n (by omega)
  obtain ⟨c, d⟩ := low_bd n h
  constructor
  · intro e
    rw [back_eq _ _ (sizeS_nonneg n) (by have := sizeS_le n 31 (by omega) (by omega); omega) x0 x1] at e
    rw [low_eq n (by omega)]
    by_cases hx : 2 * x < 2 ^ (sizeS n).toNat
    · rw [if_pos hx] at e
      by_cases hn : n < 0
      · rw [if_pos hn]; omega
      · rw [if_neg hn]
        have h0 : n = 0 := by omega
        subst h0
        rw [sizeS_zero] at *
        simp at *
        omega
    · rw [if_neg hx] at e
      by_cases hn : n < 0
      · omega
      · rw [if_neg hn]; omega
  · rintro rfl
    exact back_low n h

theorem back_walk (n w : Int) (W : World) (hn : (Lit.int .i32 n).wf = true) (hw : (Lit.int .u16 w).wf = true) :
    Calls Try.prog 5 #[.int .i32 n, .int .u16 w] W fun e w' => e = .returned (.bool true) ∧ W = w' := by
  obtain ⟨n0, n1⟩ := bounds_i32 hn
  obtain ⟨w0, w1⟩ := bounds_u16 hw
  clear hn hw
  by_cases h : n = -2147483648
  · subst h
    go_enter Try.func5, Try.ntmps5
    go_wp2_with fail
    refine (known_any _).mono ?_
    rintro e w' ⟨rfl, rfl⟩
    go_wp2_with fail
    go_ret
    exact ⟨rfl, rfl⟩
  have hne : (n == -2147483648) = false := by simpa using h
  have ha : n.natAbs < 2147483648 := by omega
  obtain ⟨l0, l1⟩ := low_bd n ha
  have s0 := sizeS_nonneg n
  have s1 := sizeS_le n 31 (by omega) (by omega)
  have bl := Lib.hid (back_low n ha)
  have p0 := pow_le_int (sizeS n).toNat 31 (by omega)
  have p1 := pow_pos_int (sizeS n).toNat
  have q0 := pow_le_int (min (sizeS n) 16).toNat 16 (by omega)
  have q1 := pow_pos_int (min (sizeS n) 16).toNat
  have q2 := pow_le_int (min (sizeS n) 16).toNat (sizeS n).toNat (by omega)
  have x0 : 0 ≤ w % 2 ^ (min (sizeS n) 16).toNat := Int.emod_nonneg _ (by omega)
  have x1 : w % 2 ^ (min (sizeS n) 16).toNat < 2 ^ (min (sizeS n) 16).toNat := Int.emod_lt_of_pos _ (by omega)
  have inj := back_inj n (w % 2 ^ (min (sizeS n) 16).toNat) ha x0 (by omega)
  have fin : ((backS (w % 2 ^ (min (sizeS n) 16).toNat) (sizeS n) == n) == (w % 2 ^ (min (sizeS n) 16).toNat == lowS n)) = true := by
    by_cases hx : w % 2 ^ (min (sizeS n) 16).toNat = lowS n
    · have := inj.2 hx; simp [hx, bl.out]
    · have : ¬ backS (w % 2 ^ (min (sizeS n) 16).toNat) (sizeS n) = n := fun e => hx (inj.1 e)
      rw [beq_eq_false_iff_ne.2 hx, beq_eq_false_iff_ne.2 this]; rfl
  have Fin := Lib.hid fin
  clear inj fin
  go_enter Try.func5, Try.ntmps5
  go_wp2_with fail
  refine (size_any _ _ (by omega) (by omega)).mono ?_
  rintro e w' ⟨rfl, rfl⟩
  go_wp2_with fail
  refine (low_any _ _ (by omega) (by omega)).mono ?_
  rintro e w' ⟨rfl, rfl⟩
  go_wp2_with fail
  refine (ret_eq (back_any _ _ _ (by omega) (by omega) (by omega) (by omega)) bl.out).mono ?_
  rintro e w' ⟨rfl, rfl⟩
  go_wp2_with fail
  refine (known_any _).mono ?_
  rintro e w' ⟨rfl, rfl⟩
  go_wp2_with fail
  refine (back_any _ _ _ (by omega) (by omega) (by omega) (by omega)).mono ?_
  rintro e w' ⟨rfl, rfl⟩
  go_wp2_with fail
  go_ret
  exact ⟨congrArg (fun b => Ending.returned (.bool b)) Fin.out, rfl⟩

theorem round_tells (a m : Int) (ha : 0 ≤ a) (hm : 1 ≤ m) : 0 ≤ (a + m / 2) / m ∧ (a + m / 2) / m ≤ a + m / 2 ∧ (a + m / 2) / m * m ≤ a + m / 2 ∧ a + m / 2 < (a + m / 2) / m * m + m := by
  have e := Int.mul_ediv_add_emod (a + m / 2) m
  have m0 := Int.emod_nonneg (a + m / 2) (by omega : m ≠ 0)
  have m1 := Int.emod_lt_of_pos (a + m / 2) (by omega : 0 < m)
  have e2 : (a + m / 2) / m * m = m * ((a + m / 2) / m) := Int.mul_comm _ _
  exact ⟨Int.ediv_nonneg (by omega) (by omega), Int.ediv_le_self _ (by omega), by omega, by omega⟩

theorem round_mul (a m : Int) (hm : 1 ≤ m) : (a * m + m / 2) / m = a := by
  rw [Int.add_comm, Int.add_mul_ediv_right _ _ (by omega), Int.ediv_eq_zero_of_lt (by omega) (by omega)]; omega

theorem rounds_facts (n m : Int) (n0 : -2147483648 ≤ n) (n1 : n ≤ 2147483647) (hm : 1 ≤ m) (hm1 : m ≤ 65536) :
    (-140737488355328 ≤ n * m ∧ n * m ≤ 140737488355328) ∧ -2147516416 ≤ roundS n m ∧ roundS n m ≤ 2147516416 ∧ 2 * (n - roundS n m * m) ≤ m ∧ -(2 * (n - roundS n m * m)) ≤ m ∧ roundS (-n) m = -roundS n m ∧ roundS (n * m) m = n := by
  have b0 : -2147483648 * 65536 ≤ n * m ∧ n * m ≤ 2147483648 * 65536 := by
    rcases Int.lt_or_le n 0 with h | h
    · have h1 : (-n) * m ≤ 2147483648 * 65536 := Int.mul_le_mul (by omega) hm1 (by omega) (by omega)
      have h2 : 0 ≤ (-n) * m := Int.mul_nonneg (by omega) (by omega)
      rw [Int.neg_mul] at h1 h2
      omega
    · have h1 : n * m ≤ 2147483648 * 65536 := Int.mul_le_mul (by omega) hm1 (by omega) (by omega)
      have h2 : 0 ≤ n * m := Int.mul_nonneg h (by omega)
      omega
  refine ⟨b0, ?_⟩
  rcases Int.lt_trichotomy n 0 with h | h | h
  · obtain ⟨t1, t2, t3, t4⟩ := round_tells (-n) m (by omega) hm
    have e1 : roundS n m = -((-n + m / 2) / m) := by unfold roundS; rw [if_neg (by omega), if_pos h]
    have e2 : roundS (-n) m = (-n + m / 2) / m := by unfold roundS; rw [if_neg (by omega), if_neg (by omega)]
    have hmn : (-n) * m = -(n * m) := Int.neg_mul _ _
    have e3 : roundS (n * m) m = n := by
      have h1 : 1 * 1 ≤ (-n) * m := Int.mul_le_mul (by omega) hm (by omega) (by omega)
      unfold roundS; rw [if_neg (by omega), if_pos (by omega), ← hmn, round_mul _ _ hm]; omega
    rw [e1, e2, e3, Int.neg_mul]
    omega
  · subst h
    obtain ⟨t1, t2, t3, t4⟩ := round_tells 0 m (by omega) hm
    have e0 : (0 + m / 2) / m = 0 := Int.ediv_eq_zero_of_lt (by omega) (by omega)
    have e1 : roundS 0 m = 0 := by unfold roundS; rw [if_neg (by omega), if_neg (by omega), e0]
    simp [e1]
    omega
  · obtain ⟨t1, t2, t3, t4⟩ := round_tells n m (by omega) hm
    have e1 : roundS n m = (n + m / 2) / m := by unfold roundS; rw [if_neg (by omega), if_neg (by omega)]
    have e2 : roundS (-n) m = -((n + m / 2) / m) := by unfold roundS; rw [if_neg (by omega), if_pos (by omega), Int.neg_neg]
    have e3 : roundS (n * m) m = n := by
      have h1 : 0 ≤ n * m := Int.mul_nonneg (by omega) (by omega)
      unfold roundS; rw [if_neg (by omega), if_neg (by omega), round_mul _ _ hm]
    rw [e1, e2, e3]
    omega

theorem rounds_walk (n d : Int) (W : World) (hn : (Lit.int .i32 n).wf = true) (hd : (Lit.int .u16 d).wf = true) :
    Calls Try.prog 6 #[.int .i32 n, .int .u16 d] W fun e w' => e = .returned (.bool true) ∧ W = w' := by
  obtain ⟨n0, n1⟩ := bounds_i32 hn
  obtain ⟨d0, d1⟩ := bounds_u16 hd
  clear hn hd
  obtain ⟨⟨b0, b1⟩, r0, r1, r2, r3, r4, r5⟩ := rounds_facts n (d + 1) n0 n1 (by omega) (by omega)
  have R4 := Lib.hid r4
  have R5 := Lib.hid r5
  clear r4 r5
  go_enter Try.func6, Try.ntmps6
  go_wp2_with fail
  refine (round_any _ _ _ (by omega) (by omega) (by omega) (by omega)).mono ?_
  rintro e w' ⟨rfl, rfl⟩
  generalize roundS n (d + 1) = k at *
  go_wp2_with fail
  refine (known_any _).mono ?_
  rintro e w' ⟨rfl, rfl⟩
  go_wp2_with fail
  refine (ret_eq (round_any _ _ _ (by omega) (by omega) (by omega) (by omega)) R4.out).mono ?_
  rintro e w' ⟨rfl, rfl⟩
  go_wp2_with fail
  refine (ret_eq (round_any _ _ _ (by omega) (by omega) (by omega) (by omega)) R5.out).mono ?_
  rintro e w' ⟨rfl, rfl⟩
  go_wp2_with fail
  go_ret
  exact ⟨by simp, rfl⟩

theorem ceils_facts (n m : Int) (n0 : 0 ≤ n) (n1 : n ≤ 4294967295) (hm : 1 ≤ m) (hm1 : m ≤ 65536) :
    0 ≤ ceilS n m ∧ ceilS n m ≤ 4294967295 ∧ n ≤ ceilS n m * m ∧ ceilS n m * m < n + m ∧ (ceilS n m = 0 → n = 0) := by
  have e1 : ceilS n m = (n + m - 1) / m := by unfold ceilS; rw [if_neg (by omega)]
  rw [e1]
  have e := Int.mul_ediv_add_emod (n + m - 1) m
  have m0 := Int.emod_nonneg (n + m - 1) (by omega : m ≠ 0)
  have m1 := Int.emod_lt_of_pos (n + m - 1) (by omega : 0 < m)
  have e2 : (n + m - 1) / m * m = m * ((n + m - 1) / m) := Int.mul_comm _ _
  have q0 : 0 ≤ (n + m - 1) / m := Int.ediv_nonneg (by omega) (by omega)
  have q1 : (n + m - 1) / m ≤ n := by
    rw [div_up n m hm]
    have a := Int.ediv_le_self (a := n) m n0
    have b := Int.ediv_mul_le n (b := m) (by omega)
    split
    · rename_i h
      rcases Int.lt_or_le (n / m) n with h1 | h1
      · omega
      · have h2 : n / m = n := by omega
        rw [h2] at h b
        have h3 : n * 1 ≤ n * m := Int.mul_le_mul_of_nonneg_left hm n0
        omega
    · omega
  refine ⟨q0, by omega, by omega, by omega, fun h => ?_⟩
  rw [h, Int.mul_zero] at e
  omega

theorem ceils_walk (n d : Int) (W : World) (hn : (Lit.int .u32 n).wf = true) (hd : (Lit.int .u16 d).wf = true) :
    Calls Try.prog 7 #[.int .u32 n, .int .u16 d] W fun e w' => e = .returned (.bool true) ∧ W = w' := by
  obtain ⟨n0, n1⟩ := bounds_u32 hn
  obtain ⟨d0, d1⟩ := bounds_u16 hd
  clear hn hd
  obtain ⟨r0, r1, r2, r3, r4⟩ := ceils_facts n (d + 1) n0 n1 (by omega) (by omega)
  have em : (ceilS n (d + 1) - 1) * (d + 1) = ceilS n (d + 1) * (d + 1) - (d + 1) := by rw [Int.sub_mul]; omega
  have r5 : (ceilS n (d + 1) - 1) * (d + 1) < n := by omega
  have r6 : -65536 ≤ (ceilS n (d + 1) - 1) * (d + 1) := by omega
  have r7 : ceilS n (d + 1) * (d + 1) ≤ 4295032832 := by omega
  clear em
  by_cases hz : ceilS n (d + 1) = 0
  · obtain rfl : n = 0 := r4 hz
    have HZ := Lib.hid hz
    clear r0 r1 r2 r3 r4 r5 r6 r7 hz
    go_enter Try.func7, Try.ntmps7
    go_wp2_with fail
    refine (ret_eq (ceil_any _ _ _ (by omega) (by omega) (by omega) (by omega)) HZ.out).mono ?_
    rintro e w' ⟨rfl, rfl⟩
    go_wp2_with fail
    refine (known_any _).mono ?_
    rintro e w' ⟨rfl, rfl⟩
    go_wp2_with fail
    go_ret
    exact ⟨by simp, rfl⟩
  · have hz' : (ceilS n (d + 1) == 0) = false := by simpa using hz
    clear r4 hz
    go_enter Try.func7, Try.ntmps7
    go_wp2_with fail
    refine (ceil_any _ _ _ (by omega) (by omega) (by omega) (by omega)).mono ?_
    rintro e w' ⟨rfl, rfl⟩
    generalize ceilS n (d + 1) = k at *
    go_wp2_with fail
    refine (known_any _).mono ?_
    rintro e w' ⟨rfl, rfl⟩
    go_wp2_with fail
    go_ret
    exact ⟨by simp, rfl⟩

theorem size_mono (x y : Int) (h0 : 0 ≤ x) (h : x ≤ y) (h1 : y < 9223372036854775808) : sizeS x ≤ sizeS y := by
  obtain ⟨a, _⟩ := size_tells y (by omega)
  have s1 := sizeS_le y 64 (by omega) (by omega)
  have s0 := sizeS_nonneg y
  have a' : y.natAbs < 2 ^ (sizeS y).toNat := by exact_mod_cast a
  have := sizeS_le x (sizeS y).toNat (by omega) (by omega)
  omega
theorem size_neg (x : Int) : sizeS (-x) = sizeS x := by unfold sizeS; rw [Int.natAbs_neg]
theorem size_twice (y : Int) (h0 : 0 ≤ y) (h1 : y < 4611686018427387904) : sizeS (2 * y) = sizeS y + min y 1 := by
  by_cases h : y = 0
  · subst h; decide
  · rw [sizeS_half (2 * y) (by omega) (by omega)]
    have : 2 * y / 2 = y := by omega
    rw [this]; omega

theorem order_walk (a b : Int) (W : World) (ha : (Lit.int .u32 a).wf = true) (hb : (Lit.int .u32 b).wf = true) :
    Calls Try.prog 9 #[.int .u32 a, .int .u32 b] W fun e w' => e = .returned (.bool true) ∧ W = w' := by
  obtain ⟨a0, a1⟩ := bounds_u32 ha
  obtain ⟨b0, b1⟩ := bounds_u32 hb
  clear ha hb
  have hx0 : 0 ≤ min a b % 2147483648 := by omega
  have hx1 : min a b % 2147483648 < 2147483648 := by omega
  have hy0 : min a b % 2147483648 ≤ max (max a b % 2147483648) (min a b % 2147483648) := by omega
  have hy1 : max (max a b % 2147483648) (min a b % 2147483648) < 2147483648 := by omega
  have M := size_mono _ _ hx0 hy0 (by omega)
  have N1 := Lib.hid (size_neg (min a b % 2147483648))
  have T := Lib.hid (size_twice _ (by omega : 0 ≤ max (max a b % 2147483648) (min a b % 2147483648)) (by omega))
  have L := Lib.hid (low_eq (min a b % 2147483648) (by omega))
  have s0 := sizeS_nonneg (max (max a b % 2147483648) (min a b % 2147483648))
  have s1 := sizeS_le (max (max a b % 2147483648) (min a b % 2147483648)) 31 (by omega) (by omega)
  go_enter Try.func9, Try.ntmps9
  go_wp2_with fail
  refine (known_any _).mono ?_
  rintro e w' ⟨rfl, rfl⟩
  go_wp2_with fail
  refine (size_any _ _ (by omega) (by omega)).mono ?_
  rintro e w' ⟨rfl, rfl⟩
  go_wp2_with fail
  refine (size_any _ _ (by omega) (by omega)).mono ?_
  rintro e w' ⟨rfl, rfl⟩
  go_wp2_with fail
  refine (ret_eq (size_any _ _ (by omega) (by omega)) N1.out).mono ?_
  rintro e w' ⟨rfl, rfl⟩
  go_wp2_with fail
  refine (size_any _ _ (by omega) (by omega)).mono ?_
  rintro e w' ⟨rfl, rfl⟩
  go_wp2_with fail
  refine (ret_eq (size_any _ _ (by omega) (by omega)) T.out).mono ?_
  rintro e w' ⟨rfl, rfl⟩
  go_wp2_with fail
  refine (size_any _ _ (by omega) (by omega)).mono ?_
  rintro e w' ⟨rfl, rfl⟩
  go_wp2_with fail
  refine (ret_eq (low_any _ _ (by omega) (by omega)) (L.out.trans (if_neg (by omega)))).mono ?_
  rintro e w' ⟨rfl, rfl⟩
  go_wp2_with fail
  go_ret
  exact ⟨by simp, rfl⟩

theorem edges_walk (k : Int) (W : World) (hk : (Lit.int .u8 k).wf = true) :
    Calls Try.prog 10 #[.int .u8 k] W fun e w' => e = .returned (.bool true) ∧ W = w' := by
  obtain ⟨k0, k1⟩ := bounds_u8 hk
  clear hk
  have s0 : 0 ≤ k % 32 := by omega
  have s1 : k % 32 ≤ 31 := by omega
  have p0 := pow_le_int (k % 32).toNat 31 (by omega)
  have p1 := pow_pos_int (k % 32).toNat
  have f1 : backS 0 (k % 32) = 1 - 2 ^ (k % 32).toNat := by rw [back_eq _ _ s0 s1 (by omega) (by omega), if_pos (by omega)]; omega
  have f2 : backS (2 ^ (k % 32).toNat - 1) (k % 32) = 2 ^ (k % 32).toNat - 1 := by
    rw [back_eq _ _ s0 s1 (by omega) (by omega)]
    split <;> omega
  have f3 : backS (2 ^ (k % 32).toNat) (k % 32) = 0 := by unfold backS; rw [if_pos (by omega)]
  have f4 : backS (-1) (k % 32) = 0 := by unfold backS; rw [if_pos (by omega)]
  have f5 : backS 1 (32 + k % 32) = 0 := by unfold backS; rw [if_pos (by omega)]
  have f6 : backS 0 (-1 - k % 32) = 0 := by unfold backS; rw [if_pos (by omega)]
  have F1 := Lib.hid f1
  have F2 := Lib.hid f2
  have F3 := Lib.hid f3
  have F4 := Lib.hid f4
  have F5 := Lib.hid f5
  have F6 := Lib.hid f6
  clear f1 f2 f3 f4 f5 f6
  go_enter Try.func10, Try.ntmps10
  go_wp2_with fail
  refine (known_any _).mono ?_
  rintro e w' ⟨rfl, rfl⟩
  go_wp2_with fail
  refine (ret_eq (back_any _ _ _ (by omega) (by omega) (by omega) (by omega)) F1.out).mono ?_
  rintro e w' ⟨rfl, rfl⟩
  go_wp2_with fail
  refine (ret_eq (back_any _ _ _ (by omega) (by omega) (by omega) (by omega)) F2.out).mono ?_
  rintro e w' ⟨rfl, rfl⟩
  go_wp2_with fail
  refine (ret_eq (back_any _ _ _ (by omega) (by omega) (by omega) (by omega)) F3.out).mono ?_
  rintro e w' ⟨rfl, rfl⟩
  go_wp2_with fail
  refine (ret_eq (back_any _ _ _ (by omega) (by omega) (by omega) (by omega)) F4.out).mono ?_
  rintro e w' ⟨rfl, rfl⟩
  go_wp2_with fail
  refine (ret_eq (back_any _ _ _ (by omega) (by omega) (by omega) (by omega)) F5.out).mono ?_
  rintro e w' ⟨rfl, rfl⟩
  go_wp2_with fail
  refine (ret_eq (back_any _ _ _ (by omega) (by omega) (by omega) (by omega)) F6.out).mono ?_
  rintro e w' ⟨rfl, rfl⟩
  go_wp2_with fail
  go_ret
  exact ⟨by simp, rfl⟩
end Go.Proofs.Ythgbjccjneedgaa
