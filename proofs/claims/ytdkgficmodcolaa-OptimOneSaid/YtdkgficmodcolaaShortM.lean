/- Sums over a list by a weight of each place; what shorten keeps. -/
import Derived.Test.YtdkgficmodcolaaSizesF
namespace Go.Proofs.Ytdkgficmodcolaa

/-- a sum over a list, each place by its weight -/
def lin (g : Nat → Int) : List Int → Int
  | [] => 0
  | x :: t => x * g 0 + lin (fun i => g (i + 1)) t
theorem lin_set (x : Int) : ∀ (n : List Int) (g : Nat → Int) (j : Nat), j < n.length → lin g (n.set j x) = lin g n + (x - n.getD j 0) * g j
  | [], _, _, h => by simp at h
  | y :: t, g, 0, _ => by simp only [List.set_cons_zero, lin, List.getD_cons_zero, Int.sub_mul]; omega
  | y :: t, g, j + 1, h => by
    have := lin_set x t (fun i => g (i + 1)) j (by simpa using h)
    simp only [List.set_cons_succ, lin, List.getD_cons_succ, this]; omega
theorem lin_le : ∀ (n : List Int) (g g' : Nat → Int), (∀ k, n.getD k 0 * g k ≤ n.getD k 0 * g' k) → lin g n ≤ lin g' n
  | [], _, _, _ => Int.le_refl _
  | y :: t, g, g', h => by
    have h0 := h 0
    have h1 := lin_le t (fun i => g (i + 1)) (fun i => g' (i + 1)) fun k => by simpa using h (k + 1)
    simp only [List.getD_cons_zero] at h0
    simp only [lin]; omega
theorem lin_mul (c : Int) : ∀ (n : List Int) (g : Nat → Int), lin (fun k => c * g k) n = c * lin g n
  | [], _ => by simp [lin]
  | y :: t, g => by
    have := lin_mul c t (fun i => g (i + 1))
    simp only [lin]
    rw [this, Int.mul_add, Int.mul_left_comm]
theorem lin_nonneg (n : List Int) (g : Nat → Int) (h : ∀ k, 0 ≤ n.getD k 0 * g k) : 0 ≤ lin g n := by
  have := lin_le n (fun _ => 0) g (fun k => by simpa using h k)
  have e := lin_mul 0 n g
  simp only [Int.zero_mul] at e
  rw [e] at this; exact this
theorem lin_one (n : List Int) (g : Nat → Int) (h : ∀ k, 0 ≤ n.getD k 0 * g k) (j : Nat) : n.getD j 0 * g j ≤ lin g n := by
  by_cases hj : j < n.length
  · have h1 := lin_set 0 n g j hj
    have h2 := lin_nonneg (n.set j 0) g fun k => by
      rw [List.getD_eq_getElem?_getD, List.getElem?_set]
      by_cases e : j = k
      · rw [if_pos e]; split <;> simp
      · rw [if_neg e, ← List.getD_eq_getElem?_getD]; exact h k
    rw [Int.sub_mul] at h1
    omega
  · rw [List.getD_eq_getElem?_getD, List.getElem?_eq_none (by omega)]
    simpa using lin_nonneg n g h
theorem lin_dvd (D : Int) : ∀ (n : List Int) (g : Nat → Int), (∀ k, D ∣ n.getD k 0 * g k) → D ∣ lin g n
  | [], _, _ => by simp [lin]
  | y :: t, g, h => by
    have h0 := h 0
    have h1 := lin_dvd D t (fun i => g (i + 1)) fun k => by simpa using h (k + 1)
    simp only [List.getD_cons_zero] at h0
    simp only [lin]
    exact Int.dvd_add h0 h1
theorem getD_set (n : List Int) (j k : Nat) (x : Int) (hj : j < n.length) : (n.set j x).getD k 0 = if k = j then x else n.getD k 0 := by
  rw [List.getD_eq_getElem?_getD, List.getElem?_set]
  by_cases e : j = k
  · subst e; rw [if_pos rfl, if_pos hj, if_pos rfl]; rfl
  · rw [if_neg e, if_neg (fun h => e h.symm), ← List.getD_eq_getElem?_getD]
def kg (k : Nat) : Int := if k = 0 then 0 else 2 ^ (257 - k)
def tg (k : Nat) : Int := if k = 0 then 0 else 1
theorem kg_pos {k : Nat} (h : 1 ≤ k) : kg k = 2 ^ (257 - k) := if_neg (by omega)
theorem tg_pos {k : Nat} (h : 1 ≤ k) : tg k = 1 := if_neg (by omega)
theorem kg_nn (k : Nat) : 0 ≤ kg k := by unfold kg; split; · decide
                                         · exact Int.le_of_lt (Int.pow_pos (by decide))
theorem tg_nn (k : Nat) : 0 ≤ tg k := by unfold tg; split <;> decide
theorem kg_double {k : Nat} (h1 : 1 ≤ k) (h2 : k ≤ 256) : kg k = 2 * kg (k + 1) := by
  rw [kg_pos h1, kg_pos (by omega), Int.mul_comm, ← Int.pow_succ]
  congr 1; omega
/-- what is put in -/
structure ShP (n0 : List Int) : Prop where
  len : n0.length = 258
  nn : ∀ k, 0 ≤ n0.getD k 0
  z0 : n0.getD 0 0 = 0
  kr : (∃ k, 0 < n0.getD k 0) → lin kg n0 = 2 ^ 257
  tot : lin tg n0 ≤ 257
/-- what is kept, with nothing behind i -/
structure ShI (n0 n : List Int) (i : Nat) : Prop where
  len : n.length = 258
  nn : ∀ k, 0 ≤ n.getD k 0
  z0 : n.getD 0 0 = 0
  kr : lin kg n = lin kg n0
  tot : lin tg n = lin tg n0
  top : ∀ k, i < k → n.getD k 0 = 0
  same : (∀ k, 16 < k → n0.getD k 0 = 0) → n = n0
theorem ShI.start {n0 : List Int} (h : ShP n0) : ShI n0 n0 257 :=
  ⟨h.len, h.nn, h.z0, rfl, rfl, fun k hk => by rw [List.getD_eq_getElem?_getD, List.getElem?_eq_none (by rw [h.len]; omega)]; rfl, fun _ => rfl⟩
section
variable {n0 n : List Int} {i : Nat}
theorem ShI.kn (h : ShI n0 n i) (k : Nat) : 0 ≤ n.getD k 0 * kg k := Int.mul_nonneg (h.nn k) (kg_nn k)
theorem ShI.tn (h : ShI n0 n i) (k : Nat) : 0 ≤ n.getD k 0 * tg k := Int.mul_nonneg (h.nn k) (tg_nn k)
theorem ShI.bd (h : ShI n0 n i) (hp : ShP n0) (k : Nat) : n.getD k 0 ≤ 257 := by
  by_cases hk : k = 0
  · subst hk; rw [h.z0]; decide
  · have := lin_one n tg h.tn k
    rw [tg_pos (by omega), Int.mul_one, h.tot] at this
    have := hp.tot
    omega
/-- something is there: the sum is whole -/
theorem ShI.full (h : ShI n0 n i) (hp : ShP n0) (hi : 0 < n.getD i 0) (hi1 : 1 ≤ i) : lin kg n = 2 ^ 257 := by
  rw [h.kr]
  refine hp.kr ?_
  apply Classical.byContradiction
  intro hno
  have hz : ∀ k, n0.getD k 0 = 0 := fun k => by
    have := hp.nn k
    have : ¬ 0 < n0.getD k 0 := fun e => hno ⟨k, e⟩
    omega
  have h1 := lin_one n tg h.tn i
  rw [tg_pos hi1, Int.mul_one, h.tot] at h1
  have h2 := lin_le n0 tg (fun _ => 0) fun k => by rw [hz k]; simp
  have e := lin_mul 0 n0 tg
  simp only [Int.zero_mul] at e
  rw [e] at h2
  omega
/-- some shorter one is there -/
theorem ShI.there (h : ShI n0 n i) (hp : ShP n0) (h16 : 16 < i) (hi2 : i ≤ 257) (hi : 0 < n.getD i 0) : ∃ j, 1 ≤ j ∧ j ≤ i - 2 ∧ 0 < n.getD j 0 := by
  apply Classical.byContradiction
  intro hno
  have hz : ∀ k, k ≤ i - 2 → n.getD k 0 = 0 := fun k hk => by
    by_cases hk0 : k = 0
    · subst hk0; exact h.z0
    · have := h.nn k
      have : ¬ 0 < n.getD k 0 := fun e => hno ⟨k, by omega, hk, e⟩
      omega
  have h1 := lin_le n kg (fun k => 2 ^ (258 - i) * tg k) fun k => by
    by_cases hk : k ≤ i - 2
    · rw [hz k hk]; simp
    · refine Int.mul_le_mul_of_nonneg_left ?_ (h.nn k)
      rw [kg_pos (by omega), tg_pos (by omega), Int.mul_one]
      exact_mod_cast Nat.pow_le_pow_right (by decide : 0 < 2) (by omega : 257 - k ≤ 258 - i)
  rw [lin_mul, h.full hp hi (by omega), h.tot] at h1
  have h2 : (2 : Int) ^ (258 - i) * lin tg n0 ≤ 2 ^ (258 - i) * 257 := Int.mul_le_mul_of_nonneg_left hp.tot (Int.le_of_lt (Int.pow_pos (by decide)))
  have h3 : (2 : Int) ^ 257 = 2 ^ (258 - i) * 2 ^ (i - 1) := by rw [← Int.pow_add]; congr 1; omega
  rw [h3] at h1
  have h4 : (2 : Int) ^ (i - 1) ≤ 257 := Int.le_of_mul_le_mul_left (Int.le_trans h1 h2) (Int.pow_pos (by decide))
  have h5 : (2 : Int) ^ 16 ≤ 2 ^ (i - 1) := by exact_mod_cast Nat.pow_le_pow_right (by decide : 0 < 2) (by omega : 16 ≤ i - 1)
  have : (2 : Int) ^ 16 = 65536 := by decide
  omega
/-- they come in pairs -/
theorem ShI.even (h : ShI n0 n i) (hp : ShP n0) (h16 : 16 < i) (hi2 : i ≤ 257) (hi : 0 < n.getD i 0) : 2 ≤ n.getD i 0 := by
  have hlt : i < n.length := by rw [h.len]; omega
  have h1 := lin_set 0 n kg i hlt
  have hd : (2 : Int) ^ (258 - i) ∣ lin kg (n.set i 0) := lin_dvd _ _ _ fun k => by
    rw [getD_set _ _ _ _ hlt]
    by_cases e : k = i
    · rw [if_pos e]; simp
    · rw [if_neg e]
      by_cases hk : i < k
      · rw [h.top k hk]; simp
      · by_cases hk0 : k = 0
        · subst hk0; rw [h.z0]; simp
        · rw [kg_pos (by omega)]
          refine Int.dvd_mul_of_dvd_right ?_
          refine ⟨2 ^ (i - 1 - k), ?_⟩
          rw [← Int.pow_add]; congr 1; omega
  rw [h.full hp hi (by omega), kg_pos (by omega)] at h1
  obtain ⟨c, hc⟩ := hd
  rw [hc] at h1
  have e1 : (2 : Int) ^ 257 = 2 ^ (257 - i) * 2 ^ i := by rw [← Int.pow_add]; congr 1; omega
  have e2 : (2 : Int) ^ (258 - i) = 2 ^ (257 - i) * 2 := by rw [← Int.pow_succ]; congr 1; omega
  have e3 : (2 : Int) ^ i = 2 * 2 ^ (i - 1) := by rw [Int.mul_comm, ← Int.pow_succ]; congr 1; omega
  rw [e1, e2, Int.mul_assoc, Int.mul_comm (0 - n.getD i 0), ← Int.mul_add] at h1
  have h2 := Int.eq_of_mul_eq_mul_left (Int.ne_of_gt (Int.pow_pos (by decide : (0 : Int) < 2))) h1
  omega
/-- a pair is taken off, one of them in place of the shorter -/
theorem ShI.step (h : ShI n0 n i) (hp : ShP n0) (h16 : 16 < i) (hi2 : i ≤ 257) (hi : 0 < n.getD i 0) {j : Nat} (hj1 : 1 ≤ j) (hj2 : j ≤ i - 2) (hj : 0 < n.getD j 0)
    {a b : List Int} (ha : a = n.set (i - 1) (n.getD (i - 1) 0 + 1)) (hb : b = a.set (j + 1) (a.getD (j + 1) 0 + 2)) :
    ShI n0 ((b.set j (b.getD j 0 - 1)).set i ((b.set j (b.getD j 0 - 1)).getD i 0 - 2)) i := by
  have hl := h.len
  have e2 := h.even hp h16 hi2 hi
  have la : a.length = 258 := by rw [ha, List.length_set, hl]
  have lb : b.length = 258 := by rw [hb, List.length_set, la]
  obtain ⟨c, hc⟩ : ∃ c, c = b.set j (b.getD j 0 - 1) := ⟨_, rfl⟩
  have lc : c.length = 258 := by rw [hc, List.length_set, lb]
  rw [← hc]
  have ga : ∀ k, a.getD k 0 = if k = i - 1 then n.getD (i - 1) 0 + 1 else n.getD k 0 := fun k => by rw [ha, getD_set _ _ _ _ (by omega)]
  have gb : ∀ k, b.getD k 0 = if k = j + 1 then a.getD (j + 1) 0 + 2 else a.getD k 0 := fun k => by rw [hb, getD_set _ _ _ _ (by omega)]
  have gc : ∀ k, c.getD k 0 = if k = j then b.getD j 0 - 1 else b.getD k 0 := fun k => by rw [hc, getD_set _ _ _ _ (by omega)]
  have bj : b.getD j 0 = n.getD j 0 := by rw [gb, if_neg (by omega), ga, if_neg (by omega)]
  have ci : c.getD i 0 = n.getD i 0 := by rw [gc, if_neg (by omega), gb, if_neg (by omega), ga, if_neg (by omega)]
  have hlin : ∀ g : Nat → Int, lin g (c.set i (c.getD i 0 - 2)) = lin g n + g (i - 1) + 2 * g (j + 1) - g j - 2 * g i := fun g => by
    rw [lin_set _ _ _ _ (by omega), hc, lin_set _ _ _ _ (by omega), hb, lin_set _ _ _ _ (by omega), ha, lin_set _ _ _ _ (by omega)]
    simp only [Int.sub_mul, Int.add_mul]
    omega
  refine ⟨by rw [List.length_set, lc], fun k => ?_, ?_, ?_, ?_, fun k hk => ?_, fun hs => ?_⟩
  · rw [getD_set _ _ _ _ (by omega)]
    by_cases e : k = i
    · rw [if_pos e, ci]; omega
    · rw [if_neg e, gc]
      by_cases e : k = j
      · rw [if_pos e, bj]; omega
      · rw [if_neg e, gb]
        have aux : ∀ k, 0 ≤ a.getD k 0 := fun k => by
          rw [ga]
          have := h.nn (i - 1)
          have := h.nn k
          split <;> omega
        have := aux (j + 1)
        have := aux k
        split <;> omega
  · rw [getD_set _ _ _ _ (by omega), if_neg (by omega), gc, if_neg (by omega), gb, if_neg (by omega), ga, if_neg (by omega)]; exact h.z0
  · rw [hlin, ← h.kr]
    have k1 := kg_double (k := i - 1) (by omega) (by omega)
    have k2 := kg_double (k := j) (by omega) (by omega)
    rw [show i - 1 + 1 = i by omega] at k1
    omega
  · rw [hlin, ← h.tot, tg_pos (by omega), tg_pos (by omega), tg_pos (by omega), tg_pos (by omega)]; omega
  · rw [getD_set _ _ _ _ (by omega), if_neg (by omega), gc, if_neg (by omega), gb, if_neg (by omega), ga, if_neg (by omega)]; exact h.top k hk
  · exfalso
    have := h.same hs
    rw [this] at hi
    rw [hs i h16] at hi
    omega
theorem ShI.down (h : ShI n0 n i) (hi : ¬ 0 < n.getD i 0) : ShI n0 n (i - 1) :=
  ⟨h.len, h.nn, h.z0, h.kr, h.tot, fun k hk => by
    by_cases e : k = i
    · subst e; have := h.nn k; omega
    · exact h.top k (by omega), h.same⟩
end
end Go.Proofs.Ytdkgficmodcolaa
