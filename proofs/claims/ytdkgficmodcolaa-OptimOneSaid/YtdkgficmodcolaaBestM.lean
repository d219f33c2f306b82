/- The table of some sizes: how many of each; one of the longest less; the values that come: in plain lists. -/
import Derived.Test.YtdkgficmodcolaaShort
namespace Go.Proofs.Ytdkgficmodcolaa

/-- how many values have each size, but for 0 -/
def histS (R : List Int) : List Int := (bump (List.replicate 258 0) R).set 0 0
/-- one less of the longest, below k -/
def decA (c : List Int) : Nat → List Int
  | 0 => c
  | k + 1 => if 0 < c.getD k 0 then c.set k (c.getD k 0 - 1) else decA c k
theorem decA_len (c : List Int) : ∀ k, (decA c k).length = c.length
  | 0 => rfl
  | k + 1 => by
    unfold decA
    split
    · simp
    · exact decA_len c k
/-- the values that come, below k -/
def comes (R : List Int) (k : Nat) : List Nat := (List.range k).filter fun v => decide (0 < R.getD v 0)
theorem comes_yes {R : List Int} {k : Nat} (h : 0 < R.getD k 0) : comes R (k + 1) = comes R k ++ [k] := by
  unfold comes
  rw [List.range_succ, List.filter_append]
  have e : [k].filter (fun v => decide (0 < R.getD v 0)) = [k] := by rw [List.filter_cons, if_pos (by simpa using h)]; rfl
  rw [e]
theorem comes_no {R : List Int} {k : Nat} (h : ¬ 0 < R.getD k 0) : comes R (k + 1) = comes R k := by
  unfold comes
  rw [List.range_succ, List.filter_append]
  have e : [k].filter (fun v => decide (0 < R.getD v 0)) = [] := by rw [List.filter_cons, if_neg (by simpa using h)]; rfl
  rw [e, List.append_nil]
theorem comes_mem {R : List Int} {k v : Nat} : v ∈ comes R k ↔ v < k ∧ 0 < R.getD v 0 := by
  unfold comes
  rw [List.mem_filter, List.mem_range]; simp
theorem comes_len (R : List Int) (k : Nat) : (comes R k).length ≤ k := by
  unfold comes
  have := List.length_filter_le (fun v => decide (0 < R.getD v 0)) (List.range k)
  simpa using this
theorem lin_rep (m : Nat) : ∀ g : Nat → Int, lin g (List.replicate m 0) = 0 := by
  induction m with
  | zero => intro g; rfl
  | succ m ih => intro g; rw [List.replicate_succ, lin, ih]; simp
theorem lin_bump (g : Nat → Int) : ∀ (vs out : List Int), (∀ v ∈ vs, v.toNat < out.length) → lin g (bump out vs) = lin g out + (vs.map fun v => g v.toNat).sum
  | [], out, _ => by simp [bump]
  | v :: t, out, h => by
    have e : bump out (v :: t) = bump (out.set v.toNat (out.getD v.toNat 0 + 1)) t := rfl
    rw [e, lin_bump g t _ (fun u hu => by rw [List.length_set]; exact h u (by simp [hu])), lin_set _ _ _ _ (h v (by simp)), List.map_cons, List.sum_cons]
    have : out.getD v.toNat 0 + 1 - out.getD v.toNat 0 = 1 := by omega
    rw [this, Int.one_mul]; omega
theorem sum_sm (f : Int → Int) (R : List Int) : ∀ k, k ≤ R.length → ((R.take k).map f).sum = sm (fun i => f (R.getD i 0)) k
  | 0, _ => by simp [sm]
  | k + 1, h => by
    rw [List.take_succ_eq_append_getElem (by omega), List.map_append, List.sum_append, sum_sm f R k (by omega), sm]
    have : R.getD k 0 = R[k] := by rw [List.getD_eq_getElem?_getD, List.getElem?_eq_getElem (by omega)]; rfl
    rw [this]; simp
/-- a sum over the sizes, by how many of each -/
theorem lin_hist {R : List Int} (hl : R.length = 257) (hb : ∀ i, 0 ≤ R.getD i 0 ∧ R.getD i 0 ≤ 256) (g : Nat → Int) (hg : g 0 = 0) : lin g (histS R) = sm (fun i => g (R.getD i 0).toNat) 257 := by
  unfold histS
  have hlen : (bump (List.replicate 258 0) R).length = 258 := by rw [bump_len, List.length_replicate]
  rw [lin_set _ _ _ _ (by omega), hg, Int.mul_zero, Int.add_zero, lin_bump, lin_rep, Int.zero_add]
  · have := sum_sm (fun v => g v.toNat) R 257 (by omega)
    rw [List.take_of_length_le (by omega)] at this
    exact this
  · intro v hv
    obtain ⟨i, hi, rfl⟩ := List.getElem_of_mem hv
    have := hb i
    rw [List.getD_eq_getElem?_getD, List.getElem?_eq_getElem hi] at this
    simp only [Option.getD_some] at this
    rw [List.length_replicate]; omega
theorem hist_len (R : List Int) : (histS R).length = 258 := by unfold histS; rw [List.length_set, bump_len, List.length_replicate]
theorem hist_zero (R : List Int) : (histS R).getD 0 0 = 0 := by
  unfold histS
  rw [getD_set _ _ _ _ (by rw [bump_len, List.length_replicate]; omega), if_pos rfl]
theorem hist_nn {R : List Int} (k : Nat) : 0 ≤ (histS R).getD k 0 := by
  unfold histS
  have hz : ∀ i : Nat, (List.replicate 258 (0 : Int)).getD i 0 = 0 := fun i => by
    rw [List.getD_eq_getElem?_getD, List.getElem?_replicate]; split <;> rfl
  have := (bump_bd R (List.replicate 258 0) 0 (fun i => by rw [hz]; simp) (by decide) k).1
  rw [getD_set _ _ _ _ (by rw [bump_len, List.length_replicate]; omega)]
  split <;> omega
/-- how many have a size, one by one -/
theorem hist_at {R : List Int} (hl : R.length = 257) (hb : ∀ i, 0 ≤ R.getD i 0 ∧ R.getD i 0 ≤ 256) {k : Nat} (hk : 1 ≤ k) (hk2 : k < 258) : (histS R).getD k 0 = sm (fun i => if (R.getD i 0).toNat = k then 1 else 0) 257 := by
  have h1 := lin_hist hl hb (fun j => if j = k then 1 else 0) (if_neg (by omega))
  have h2 : lin (fun j => if j = k then 1 else 0) ((histS R).set k 0) = 0 := by
    have hz : ∀ j : Nat, ((histS R).set k 0).getD j 0 * (if j = k then (1 : Int) else 0) = 0 := fun j => by
      by_cases e : j = k
      · subst e; rw [getD_set _ _ _ _ (by rw [hist_len]; exact hk2), if_pos rfl]; simp
      · rw [if_neg e]; simp
    have a1 := lin_le ((histS R).set k 0) (fun j => if j = k then (1 : Int) else 0) (fun _ => 0) fun j => by rw [hz j]; simp
    have a2 := lin_nonneg ((histS R).set k 0) (fun j => if j = k then (1 : Int) else 0) fun j => by rw [hz j]; simp
    have a3 := lin_mul 0 ((histS R).set k 0) (fun _ => 0)
    simp only [Int.zero_mul] at a3
    omega
  rw [lin_set _ _ _ _ (by rw [hist_len]; exact hk2), h1] at h2
  simp only [if_true] at h2
  omega
theorem sm_add (f g : Nat → Int) : ∀ n, sm (fun i => f i + g i) n = sm f n + sm g n
  | 0 => rfl
  | n + 1 => by simp only [sm, sm_add f g n]; omega
theorem sm_mul (c : Int) (f : Nat → Int) : ∀ n, sm (fun i => c * f i) n = c * sm f n
  | 0 => by simp [sm]
  | n + 1 => by simp only [sm, sm_mul c f n, Int.mul_add]
theorem two_pow_succ (n : Nat) : (2 : Int) ^ (n + 1) = 2 * 2 ^ n := by rw [Int.pow_succ, Int.mul_comm]
theorem hist_shp {ws R : List Int} (h : SizesOk ws R) : ShP (histS R) := by
  refine ⟨hist_len R, hist_nn, hist_zero R, fun hex => ?_, ?_⟩
  · obtain ⟨k, hk⟩ := hex
    rw [lin_hist h.len h.nn kg (if_pos rfl), sm]
    by_cases hall : ∀ i, i < 256 → ¬ 0 < ws.getD i 0
    · exfalso
      have h1 := lin_hist h.len h.nn tg (if_pos rfl)
      rw [sm_zero (fun i hi => ?_)] at h1
      · have h2 := lin_one (histS R) tg (fun j => Int.mul_nonneg (hist_nn j) (tg_nn j)) k
        have : k ≠ 0 := fun e => by rw [e, hist_zero] at hk; exact absurd hk (by decide)
        rw [tg_pos (by omega)] at h2
        omega
      · by_cases e : i = 256
        · subst e; rw [h.none_ hall]; rfl
        · rw [h.zero i (by omega) (hall i (by omega))]; rfl
    · obtain ⟨v, hv, hv2⟩ : ∃ v, v < 256 ∧ 0 < ws.getD v 0 := Classical.byContradiction fun hno => hall fun i hi hpos => hno ⟨i, hi, hpos⟩
      have hl := (h.pos v hv hv2).2
      have hkr := h.krf
      have e1 : ∀ r : Int, 1 ≤ r → r ≤ 256 → kg r.toNat = 2 * 2 ^ (256 - r.toNat) := fun r r1 r2 => by
        rw [kg_pos (by omega), show 257 - r.toNat = (256 - r.toNat) + 1 by omega, two_pow_succ]
      rw [e1 _ hl (h.nn 256).2, sm_congr (g := fun i => 2 * (if 0 < ws.getD i 0 then 2 ^ (256 - (R.getD i 0).toNat) else 0)), sm_mul]
      · have : (2 : Int) ^ 257 = 2 * 2 ^ 256 := two_pow_succ 256
        rw [this, ← hkr, Int.mul_add]
        exact Int.add_comm _ _
      · intro i hi
        by_cases hw : 0 < ws.getD i 0
        · rw [if_pos hw, e1 _ (h.pos i hi hw).1 (h.nn i).2]
        · rw [if_neg hw, h.zero i hi hw]; rfl
  · rw [lin_hist h.len h.nn tg (if_pos rfl)]
    have := sm_le (f := fun i => tg (R.getD i 0).toNat) (g := fun _ => 1) (n := 257) fun i _ => by unfold tg; split <;> decide
    have e : sm (fun _ => 1) 257 = 257 := by decide +kernel
    omega
end Go.Proofs.Ytdkgficmodcolaa
