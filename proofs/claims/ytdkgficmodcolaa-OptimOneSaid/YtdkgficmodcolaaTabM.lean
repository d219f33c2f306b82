/- The table of some sizes may be; its codes; how long each: in plain lists. -/
import Derived.Test.YtdkgficmodcolaaBest
import Derived.Test.YtdkgficmodcolaaCost
namespace Go.Proofs.Ytdkgficmodcolaa

theorem sm_shift (f : Nat → Int) : ∀ n, sm f (n + 1) = f 0 + sm (fun i => f (i + 1)) n
  | 0 => by simp [sm]
  | n + 1 => by rw [sm, sm_shift f n, sm]; omega
theorem lin_sm : ∀ (n : List Int) (g : Nat → Int) (m : Nat), n.length ≤ m → lin g n = sm (fun i => n.getD i 0 * g i) m
  | [], g, m, _ => by rw [sm_zero (fun i _ => by simp)]; rfl
  | x :: t, g, 0, h => by simp at h
  | x :: t, g, m + 1, h => by
    rw [sm_shift, lin, lin_sm t (fun i => g (i + 1)) m (by simpa using h)]
    simp
theorem sm_more (f : Nat → Int) (m : Nat) : ∀ k, (∀ i, m ≤ i → i < m + k → f i = 0) → sm f (m + k) = sm f m
  | 0, _ => rfl
  | k + 1, h => by rw [← Nat.add_assoc, sm, sm_more f m k fun i h1 h2 => h i h1 (by omega), h (m + k) (by omega) (by omega), Int.add_zero]
theorem sm_point {f f' : Nat → Int} {u : Nat} {c : Int} (hc : 0 ≤ c) (hu : f' u ≤ f u + c) : ∀ n, (∀ v, v < n → v ≠ u → f' v = f v) → sm f' n ≤ sm f n + (if u < n then c else 0)
  | 0, _ => by simp [sm]
  | n + 1, h => by
    have ih := sm_point (n := n) hc hu fun v hv hne => h v (by omega) hne
    simp only [sm]
    by_cases e : n = u
    · subst e
      rw [if_neg (by omega)] at ih
      rw [if_pos (by omega)]; omega
    · have := h n (by omega) e
      by_cases h1 : u < n
      · rw [if_pos h1] at ih
        rw [if_pos (by omega)]; omega
      · rw [if_neg h1] at ih
        rw [if_neg (by omega)]; omega
theorem lin_rest (c : List Int) (g : Nat → Int) {j : Nat} (hj : j < c.length) : lin g c = c.getD j 0 * g j + lin g (c.set j 0) := by
  rw [lin_set _ _ _ _ hj, Int.sub_mul]; omega
theorem lin_tot_zero {c : List Int} (hn : ∀ k, 0 ≤ c.getD k 0) (h : lin (fun _ => 1) c ≤ 0) (g : Nat → Int) : lin g c = 0 := by
  have hz : ∀ k, c.getD k 0 = 0 := fun k => by
    have h1 := lin_one c (fun _ => 1) (fun k => by rw [Int.mul_one]; exact hn k) k
    have := hn k
    simp only [Int.mul_one] at h1
    omega
  rw [lin_sm c g c.length (Nat.le_refl _)]
  exact sm_zero fun i _ => by rw [hz i, Int.zero_mul]
/-- the first 16 sizes of what shorten leaves -/
def c16 (n : List Int) : List Int := (n.drop 1).take 16
theorem c16_at {n : List Int} {i : Nat} (h : i < 16) : (c16 n).getD i 0 = n.getD (i + 1) 0 := by
  unfold c16
  rw [List.getD_eq_getElem?_getD, List.getElem?_take_of_lt h, List.getElem?_drop, ← List.getD_eq_getElem?_getD, Nat.add_comm]
theorem c16_len {n : List Int} (h : n.length = 258) : (c16 n).length = 16 := by
  unfold c16
  rw [List.length_take, List.length_drop, h]; rfl
theorem lin_c16 {n : List Int} (hl : n.length = 258) (h0 : n.getD 0 0 = 0) (ht : ∀ k, 16 < k → n.getD k 0 = 0) (g : Nat → Int) : lin g n = lin (fun i => g (i + 1)) (c16 n) := by
  rw [lin_sm n g 258 (by omega), lin_sm (c16 n) _ 16 (by rw [c16_len hl]; omega)]
  have := sm_more (fun i => n.getD i 0 * g i) 17 241 fun i h1 _ => by rw [ht i (by omega), Int.zero_mul]
  rw [show 258 = 17 + 241 from rfl, this, sm_shift, h0, Int.zero_mul, Int.zero_add]
  exact sm_congr fun i hi => by rw [c16_at hi]
/-- the counts: not below 0, whole, at most 257 in all; none, or the sum is one -/
structure Cnt (c : List Int) : Prop where
  len : c.length = 16
  nn : ∀ k, 0 ≤ c.getD k 0
  kr : (∃ k, 0 < c.getD k 0) → lin (fun i => 2 ^ (15 - i)) c = 65536
  tot : lin (fun _ => 1) c ≤ 257
theorem pow_split {i : Nat} (h : i < 16) : (2 : Int) ^ (256 - i) = 2 ^ 241 * 2 ^ (15 - i) := by rw [← Int.pow_add]; congr 1; omega
theorem cnt_of {n0 n : List Int} (hp : ShP n0) (h : ShI n0 n 16) : Cnt (c16 n) := by
  have hpos : ∀ k, 0 < (c16 n).getD k 0 → 0 < n.getD (k + 1) 0 ∧ k < 16 := fun k hk => by
    by_cases e : k < 16
    · rw [c16_at e] at hk; exact ⟨hk, e⟩
    · rw [List.getD_eq_getElem?_getD, List.getElem?_eq_none (by rw [c16_len h.len]; omega)] at hk
      simp at hk
  refine ⟨c16_len h.len, fun k => ?_, fun hex => ?_, ?_⟩
  · by_cases e : k < 16
    · rw [c16_at e]; exact h.nn _
    · rw [List.getD_eq_getElem?_getD, List.getElem?_eq_none (by rw [c16_len h.len]; omega)]; simp
  · obtain ⟨k, hk⟩ := hex
    obtain ⟨hk1, hk2⟩ := hpos k hk
    have hkr : lin kg n = 2 ^ 257 := by
      rw [h.kr]
      refine hp.kr (Classical.byContradiction fun hno => ?_)
      have hz : ∀ k, n0.getD k 0 = 0 := fun k => by
        have := hp.nn k
        have : ¬ 0 < n0.getD k 0 := fun e => hno ⟨k, e⟩
        omega
      have h1 := lin_one n tg h.tn (k + 1)
      rw [tg_pos (by omega), Int.mul_one, h.tot, lin_sm n0 tg 258 (by rw [hp.len]; omega), sm_zero fun i _ => by rw [hz i, Int.zero_mul]] at h1
      omega
    rw [lin_c16 h.len h.z0 h.top, lin_sm _ _ 16 (by rw [c16_len h.len]; omega), sm_congr (g := fun i => 2 ^ 241 * ((c16 n).getD i 0 * 2 ^ (15 - i))) (fun i hi => by
      rw [kg_pos (by omega), show 257 - (i + 1) = 256 - i by omega, pow_split hi, Int.mul_left_comm]), sm_mul] at hkr
    rw [lin_sm _ _ 16 (by rw [c16_len h.len]; omega)]
    have e : (2 : Int) ^ 257 = 2 ^ 241 * 65536 := by
      have : (2 : Int) ^ 257 = 2 ^ 241 * 2 ^ 16 := by rw [← Int.pow_add]
      rw [this]; rfl
    rw [e] at hkr
    exact Int.eq_of_mul_eq_mul_left (Int.ne_of_gt (Int.pow_pos (by decide))) hkr
  · have := hp.tot
    rw [← h.tot, lin_c16 h.len h.z0 h.top] at this
    refine Int.le_trans (Int.le_of_eq ?_) this
    rw [lin_sm _ _ 16 (by rw [c16_len h.len]; omega), lin_sm _ _ 16 (by rw [c16_len h.len]; omega)]
    exact sm_congr fun i _ => by rw [tg_pos (by omega)]
/-- where one less stands -/
theorem decA_cases (c : List Int) : ∀ k, ((∀ i, i < k → ¬ 0 < c.getD i 0) ∧ decA c k = c) ∨ ∃ t, t < k ∧ 0 < c.getD t 0 ∧ (∀ i, t < i → i < k → ¬ 0 < c.getD i 0) ∧ decA c k = c.set t (c.getD t 0 - 1)
  | 0 => .inl ⟨fun i hi => by omega, rfl⟩
  | k + 1 => by
    by_cases h : 0 < c.getD k 0
    · exact .inr ⟨k, by omega, h, fun i h1 h2 => by omega, by rw [decA, if_pos h]⟩
    · have e : decA c (k + 1) = decA c k := by rw [decA, if_neg h]
      rw [e]
      rcases decA_cases c k with ⟨h1, h2⟩ | ⟨t, h1, h2, h3, h4⟩
      · refine .inl ⟨fun i hi => ?_, h2⟩
        by_cases e : i = k
        · subst e; exact h
        · exact h1 i (by omega)
      · refine .inr ⟨t, by omega, h2, fun i h5 h6 => ?_, h4⟩
        by_cases e : i = k
        · subst e; exact h
        · exact h3 i h5 (by omega)
theorem two_tops : ∀ t, t < 16 → (257 : Int) * 2 ^ (15 - t) ≠ 65536 := by decide
theorem two_pair : ∀ t, t < 16 → ∀ i, i < t → (256 : Int) * 2 ^ (15 - i) + 1 * 2 ^ (15 - t) ≠ 65536 := by decide
/-- no count is above 255 -/
theorem Cnt.small {c : List Int} (h : Cnt c) (i : Nat) : 0 ≤ (decA c 16).getD i 0 ∧ (decA c 16).getD i 0 ≤ 255 := by
  have hg1 : ∀ k, 0 ≤ c.getD k 0 * 1 := fun k => by rw [Int.mul_one]; exact h.nn k
  have hbig : ∀ k, 0 ≤ c.getD k 0 ∧ c.getD k 0 ≤ 257 := fun k => ⟨h.nn k, by
    have := lin_one c (fun _ => 1) hg1 k
    have := h.tot
    simp only [Int.mul_one] at *
    omega⟩
  by_cases hi : i < 16
  rotate_left
  · rw [List.getD_eq_getElem?_getD, List.getElem?_eq_none (by rw [decA_len, h.len]; omega)]; simp
  rcases decA_cases c 16 with ⟨h1, h2⟩ | ⟨t, t1, t2, t3, t4⟩
  · rw [h2]
    have := h1 i hi
    have := h.nn i
    omega
  · rw [t4, getD_set _ _ _ _ (by rw [h.len]; exact t1)]
    have hkr := h.kr ⟨t, t2⟩
    have htot := h.tot
    have r1 := lin_rest c (fun i => 2 ^ (15 - i)) (j := t) (by rw [h.len]; exact t1)
    have r2 := lin_rest c (fun _ => 1) (j := t) (by rw [h.len]; exact t1)
    have nn1 : ∀ k, 0 ≤ (c.set t 0).getD k 0 := fun k => by
      rw [getD_set _ _ _ _ (by rw [h.len]; exact t1)]
      have := h.nn k
      split <;> omega
    by_cases e : i = t
    · rw [if_pos e]
      have := hbig t
      refine ⟨by omega, ?_⟩
      apply Classical.byContradiction
      intro hno
      have e257 : c.getD t 0 = 257 := by omega
      rw [e257] at r1 r2
      rw [lin_tot_zero nn1 (by omega)] at r1
      exact two_tops t t1 (by omega)
    · rw [if_neg e]
      refine ⟨h.nn i, ?_⟩
      apply Classical.byContradiction
      intro hno
      have hit : i < t := by
        apply Nat.lt_of_not_le
        intro hti
        have := t3 i (by omega) hi
        omega
      have gi : (c.set t 0).getD i 0 = c.getD i 0 := by rw [getD_set _ _ _ _ (by rw [h.len]; exact t1), if_neg e]
      have r3 := lin_rest (c.set t 0) (fun i => 2 ^ (15 - i)) (j := i) (by rw [List.length_set, h.len]; exact hi)
      have r4 := lin_rest (c.set t 0) (fun _ => 1) (j := i) (by rw [List.length_set, h.len]; exact hi)
      rw [gi] at r3 r4
      have nn2 : ∀ k, 0 ≤ ((c.set t 0).set i 0).getD k 0 := fun k => by
        rw [getD_set _ _ _ _ (by rw [List.length_set, h.len]; exact hi)]
        have := nn1 k
        split <;> omega
      have z := lin_nonneg ((c.set t 0).set i 0) (fun _ => 1) fun k => by rw [Int.mul_one]; exact nn2 k
      have ei : c.getD i 0 = 256 := by omega
      have et : c.getD t 0 = 1 := by omega
      rw [ei] at r3 r4
      rw [et] at r1 r2
      rw [lin_tot_zero nn2 (by omega)] at r3
      exact two_pair t t1 i hit (by omega)
end Go.Proofs.Ytdkgficmodcolaa
